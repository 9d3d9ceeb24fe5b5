import Derived.Test.YtmakjfeepmiggaaGreatZ30
import Derived.Test.YtmakjfeepmiggaaGreatZ13
import Derived.Test.YtmakjfeepmiggaaGreatZ22
import Derived.Test.YtmakjfeepmiggaaGreatZ4
import Derived.Deep.RegionHeld2
namespace Go.Proofs.YtmakjfeepmiggaaGreat
open Go.RowKit Go.Maps TagPure
set_option linter.unusedVariables false
structure WyOk (x : WY) : Prop where
  bits : 1 ≤ x.bits ∧ x.bits ≤ 12
  win : WIn (tsize x.bits).toNat x.l
  ahead : Ahead x.l
  at_ : x.over = false → x.at_ < x.l.length
  way : x.over = false → x.way = []
  wayl : x.way.length ≤ 10000
  made : x.made = true
theorem WyOk.len {x : WY} (h : WyOk x) : x.l.length ≤ 4096 := by
  have h1 := h.win.len
  have h2 := tsize_bdW x.bits
  omega
theorem WyOk.wf {x : WY} (h : WyOk x) : ∀ b ∈ bks x.l, (0 ≤ b ∧ b < tsize x.bits) ∧ (Lit.int .i64 b).wf = true := by
  intro b hb
  have h1 := h.win.rng b hb
  have h2 := tsize_bdW x.bits
  refine ⟨by omega, ?_⟩
  simp only [Lit.wf, IntKind.min, IntKind.max, IntKind.bits, IntKind.signed]; simp; omega
def frW (v : Int) : Int := freeFrom v 0 4
def otW (bits v b : Int) (s : Nat) : Int := oth b (tg v s) bits
def WY.next (x : WY) (v : Int) : WY :=
  if frW v = -1 then { x with l := wexp x.most (otW x.bits v) (nd x.l x.at_).1 x.at_ x.l, at_ := x.at_ + 1, over := decide (x.at_ + 1 = (wexp x.most (otW x.bits v) (nd x.l x.at_).1 x.at_ x.l).length) }
  else { x with way := wway x.l x.at_ (frW v), over := true }
def wyA (x : WY) : Int := tagsA x.bits (nd x.l x.at_).1
def wfirsts (cap : Int) (o : Int → Nat → Int) (b : Int) (k : Nat) (l : List Nd) (n : Nat) : List Nd := (List.range n).foldl (fun l s => wadd cap (o b s) ((k : Int), ((s : Nat) : Int)) l) l
theorem wfirsts_four (cap : Int) (o : Int → Nat → Int) (b : Int) (k : Nat) (l : List Nd) : wfirsts cap o b k l 4 = wexp cap o b k l := rfl
theorem wfirsts_succ (cap : Int) (o : Int → Nat → Int) (b : Int) (k : Nat) (l : List Nd) (n : Nat) : wfirsts cap o b k l (n + 1) = wadd cap (o b n) ((k : Int), ((n : Nat) : Int)) (wfirsts cap o b k l n) := by
  unfold wfirsts; rw [List.range_succ, List.foldl_append]; rfl
theorem wfirsts_len (cap : Int) (o : Int → Nat → Int) (b : Int) (k : Nat) (l : List Nd) (n : Nat) : (wfirsts cap o b k l n).length ≤ l.length + n := by
  induction n with
  | zero => exact Nat.le_refl _
  | succ n ih =>
    rw [wfirsts_succ]
    unfold wadd
    split
    · rw [List.length_append, List.length_singleton]; omega
    · omega
theorem wadd_node (cap b : Int) (f : Int × Int) (l : List Nd) (h : (l.length : Int) < cap) : wadd cap b f l = nodeL b f l := by
  unfold wadd nodeL
  by_cases hb : b ∈ bks l
  · rw [if_neg (fun c => c.2 hb), if_pos hb]
  · rw [if_pos ⟨h, hb⟩, if_neg hb]
theorem free_casesW (x : Int) : freeFrom x 0 4 = -1 ∨ ∃ n : Nat, n < 4 ∧ freeFrom x 0 4 = n ∧ tg x n = 0 := by
  simp only [freeFrom]
  repeat' split
  · exact .inr ⟨0, by omega, rfl, by assumption⟩
  · exact .inr ⟨1, by omega, rfl, by assumption⟩
  · exact .inr ⟨2, by omega, rfl, by assumption⟩
  · exact .inr ⟨3, by omega, rfl, by assumption⟩
  · exact .inl rfl
theorem full_tags (v : Int) (h0 : 0 ≤ v) (h : frW v = -1) : ∀ i, i < 4 → 1 ≤ tg v i ∧ tg v i ≤ 255 := by
  intro i hi
  have hb : 0 ≤ tg v i ∧ tg v i < 256 := by unfold tg; omega
  have key : ∀ n k, freeFrom v k n = -1 → ∀ i, k ≤ i → i < k + n → tg v i ≠ 0 := by
    intro n
    induction n with
    | zero => intro k _ i h1 h2; omega
    | succ n ih =>
      intro k hk i h1 h2
      unfold freeFrom at hk
      split at hk
      · exact absurd hk (by omega)
      · rename_i hne
        by_cases e : i = k
        · rw [e]; exact hne
        · exact ih (k + 1) hk i (by omega) (by omega)
  have := key 4 0 h i (by omega) (by omega)
  omega
theorem xor_ltW (x y : Int) (n : Nat) (hn : n ≤ 12) (hx : 0 ≤ x ∧ x < ((2 ^ n : Nat) : Int)) (hy : 0 ≤ y ∧ y < ((2 ^ n : Nat) : Int)) : 0 ≤ bits .xor .i64 x y ∧ bits .xor .i64 x y < ((2 ^ n : Nat) : Int) := by
  have hp : (2 : Nat) ^ n ≤ 2 ^ 12 := Nat.pow_le_pow_right (by decide) hn
  obtain ⟨a, rfl⟩ := Int.eq_ofNat_of_zero_le hx.1
  obtain ⟨b, rfl⟩ := Int.eq_ofNat_of_zero_le hy.1
  have ha : a < 2 ^ n := by exact_mod_cast hx.2
  have hb : b < 2 ^ n := by exact_mod_cast hy.2
  have key : (BitVec.ofInt 64 (a : Int) ^^^ BitVec.ofInt 64 (b : Int)).toNat = a ^^^ b := by
    rw [BitVec.toNat_xor, BitVec.toNat_ofInt, BitVec.toNat_ofInt]
    congr 1 <;> omega
  have hlt := Nat.xor_lt_two_pow ha hb
  have e : bits .xor .i64 (a : Int) (b : Int) = IntKind.i64.wrap (((BitVec.ofInt 64 (a : Int) ^^^ BitVec.ofInt 64 (b : Int)).toNat : Nat) : Int) := rfl
  rw [e, key, IntKind.wrap_i64]
  omega
theorem tsize_powW {b : Int} (hb : 1 ≤ b ∧ b ≤ 12) : tsize b = ((2 ^ b.toNat : Nat) : Int) := by
  rw [tsize_in hb]
  rcases twelve hb with rfl | rfl | rfl | rfl | rfl | rfl | rfl | rfl | rfl | rfl | rfl | rfl <;> rfl
theorem mask_i64W (x : Int) (m k : Nat) (hm : m = 2 ^ k - 1) (hk : k ≤ 62) (h0 : 0 ≤ x) (h1 : x < 9223372036854775808) : bits .and .i64 x (m : Int) = x % ((2 ^ k : Nat) : Int) := by
  have hp : (2 : Nat) ^ k ≤ 2 ^ 62 := Nat.pow_le_pow_right (by decide) hk
  have hp0 : 0 < (2 : Nat) ^ k := Nat.two_pow_pos k
  have hmm : (BitVec.ofInt 64 (m : Int)).toNat = 2 ^ k - 1 := by
    rw [BitVec.toNat_ofInt]; omega
  have key : (BitVec.ofInt 64 x &&& BitVec.ofInt 64 (m : Int)).toNat = (x % ((2 ^ 64 : Nat) : Int)).toNat % 2 ^ k := by
    rw [BitVec.toNat_and, BitVec.toNat_ofInt, hmm, Nat.and_two_pow_sub_one_eq_mod]
  show IntKind.i64.wrap ((BitVec.ofInt 64 x &&& BitVec.ofInt 64 (m : Int)).toNat : Nat) = _
  rw [key, IntKind.wrap_i64]
  obtain ⟨n, rfl⟩ := Int.eq_ofNat_of_zero_le h0
  have e : ((n : Int) % ((2 ^ 64 : Nat) : Int)).toNat = n := by omega
  rw [e]
  have hlt := Nat.mod_lt n hp0
  rw [← Int.natCast_emod]
  omega
theorem mask_modW (m b : Int) (hm : 0 ≤ m) (hm2 : m < 9223372036854775808) (hb : 1 ≤ b ∧ b ≤ 12) : bits .and .i64 m (tsize b - 1) = m % tsize b := by
  rw [tsize_in hb]
  rcases twelve hb with rfl | rfl | rfl | rfl | rfl | rfl | rfl | rfl | rfl | rfl | rfl | rfl
  all_goals (first
    | exact mask_i64W m 1 1 rfl (by decide) hm hm2 | exact mask_i64W m 3 2 rfl (by decide) hm hm2 | exact mask_i64W m 7 3 rfl (by decide) hm hm2 | exact mask_i64W m 15 4 rfl (by decide) hm hm2 | exact mask_i64W m 31 5 rfl (by decide) hm hm2 | exact mask_i64W m 63 6 rfl (by decide) hm hm2 | exact mask_i64W m 127 7 rfl (by decide) hm hm2 | exact mask_i64W m 255 8 rfl (by decide) hm hm2 | exact mask_i64W m 511 9 rfl (by decide) hm hm2 | exact mask_i64W m 1023 10 rfl (by decide) hm hm2 | exact mask_i64W m 2047 11 rfl (by decide) hm hm2 | exact mask_i64W m 4095 12 rfl (by decide) hm hm2)
theorem oth_bdW (k t b : Int) (hb : 1 ≤ b ∧ b ≤ 12) (hk : 0 ≤ k ∧ k < tsize b) (ht : 1 ≤ t ∧ t ≤ 255) : 0 ≤ oth k t b ∧ oth k t b < tsize b := by
  unfold oth
  rw [mask_modW _ _ (by omega) (by omega) hb]
  have hp := tsize_pos hb
  have h1 := Int.emod_nonneg (t * 1540483477) (b := tsize b) (by omega)
  have h2 := Int.emod_lt_of_pos (t * 1540483477) (show 0 < tsize b by omega)
  rw [tsize_powW hb] at hk h1 h2 ⊢
  exact xor_ltW _ _ _ (by omega) hk ⟨h1, h2⟩
abbrev TLd (xb wb cb : Nat) (bits : Int) (W : World) : Prop := W.cell? ⟨wb, 0, none⟩ = some (.pointer (some ⟨cb, 0, none⟩)) ∧ W.cell? ⟨xb, 0, none⟩ = some (.int .i64 bits)
structure WB2 (w0 w : World) (B : WB) (V : WV) (s : CS) (xb m : Nat) (x : WY) : Prop where
  ws : WS w0 w B V s
  way : WayAt w w0.heap.size xb x
  bes : Besd w B V m
section
variable {w0 w w' : World} {B : WB} {V : WV} {s s' : CS} {xb m : Nat} {x : WY}
theorem WB2.below (h : WB2 w0 w B V s xb m x) (hm : x.mo = some m) (hb : Below w.heap.size w w') : WB2 w0 w' B V s xb m x := by
  obtain ⟨es, cl, hmb⟩ := (h.way.mp m hm).2.blk
  have h2 := (h.ws.more hmb h.bes.ne).keep hb
  exact ⟨h.ws.keep hb, h.way.below hb, (h2.fmk (m, es, cl) (by simp)).2, h.bes.fm⟩
theorem WB2.load (h : WB2 w0 w B V s xb m x) (hm : x.mo = some m) (hr : s.room) (a : Int) (ha : (Lit.int .u64 a).wf = true) :
    Calls Tryz.prog 62 #[.pointer (some ⟨B.cb, 0, none⟩), .int .u64 a] w fun e w' => e = .returned (.int .u64 (s.val a)) ∧ WB2 w0 w' B V (s.acc 1 a (s.val a)) xb m x ∧ Fr wTy true w w' := by
  obtain ⟨V2, g1, g2⟩ := way_world h.ws h.way hm h.bes
  refine (g1.load hr a ha).mono fun e w2 hh => ?_
  obtain ⟨h1, h2, h3⟩ := hh
  obtain ⟨k1, k2, k3⟩ := g2 w2 _ h2 h3
  exact ⟨h1, ⟨k1, k2, k3⟩, h3⟩
end
theorem way_cellset {w : World} {lo xb : Nat} {x y : WY} (h : WayAt w lo xb x) (o : Nat) (u : Value) (ho : o ≠ 5) (hy : y.bits = x.bits ∧ y.l = x.l ∧ y.way = x.way ∧ y.kb = x.kb ∧ y.mo = x.mo ∧ y.made = x.made) (hc : ∀ vb vw, (x.cells vb vw).setIfInBounds o u = y.cells vb vw) :
    WayAt (w.setCell ⟨xb, o, none⟩ u) lo xb y ∧ Keeps (· = xb) w (w.setCell ⟨xb, o, none⟩ u) := by
  obtain ⟨h0, ⟨vb, vw, h1, h2, h3, h4⟩, h5, h6, h7⟩ := h
  obtain ⟨e1, e2, e3, e4, e5, e6⟩ := hy
  have sk := setCell_keeps w xb o u
  have g := setCell_same h1 o u
  rw [hc] at g
  refine ⟨⟨h0, ⟨vb, vw, g, ?_, ?_, by rw [e4]; exact h4⟩, ?_, ?_, ?_⟩, sk⟩
  · rw [e2]; exact own_keepsS h2 sk fun k hk c => by
      obtain ⟨cur, hc2⟩ := own_blk h2 hk
      exact cells_ne hc2 h1 (by decide) c
  · rw [e1, e3]; exact own_keepsS h3 sk fun k hk c => by
      obtain ⟨cur, hc2⟩ := own_blk h3 hk
      exact cells_ne hc2 h1 (by decide) c
  · intro m' hm'
    rw [e5] at hm'
    rw [e2]
    refine ⟨(h5 m' hm').1, keeps_mp (h5 m' hm').2 sk fun c => ?_⟩
    obtain ⟨es, cl, hmb⟩ := (h5 m' hm').2.blk
    exact map_ne_cells hmb h1 c
  · rw [e6, e5]; exact h6
  · intro e
    rw [e3] at e
    have := h7 e
    rw [hcell h1] at this
    rw [hcell g]
    exact this
theorem way_seti {w : World} {lo xb : Nat} {x : WY} (h : WayAt w lo xb x) (n : Nat) : WayAt (w.setCell ⟨xb, 4, none⟩ (.int .i64 n)) lo xb { x with at_ := n } ∧ Keeps (· = xb) w (w.setCell ⟨xb, 4, none⟩ (.int .i64 n)) :=
  way_cellset h 4 _ (by decide) ⟨rfl, rfl, rfl, rfl, rfl, rfl⟩ fun _ _ => rfl
theorem way_seto {w : World} {lo xb : Nat} {x : WY} (h : WayAt w lo xb x) (o : Bool) : WayAt (w.setCell ⟨xb, 6, none⟩ (.bool o)) lo xb { x with over := o } ∧ Keeps (· = xb) w (w.setCell ⟨xb, 6, none⟩ (.bool o)) :=
  way_cellset h 6 _ (by decide) ⟨rfl, rfl, rfl, rfl, rfl, rfl⟩ fun _ _ => rfl
theorem WB2.set {w0 w w' : World} {B : WB} {V : WV} {s : CS} {xb m : Nat} {x y : WY} (h : WB2 w0 w B V s xb m x) (hm : x.mo = some m) (hk : Keeps (· = xb) w w') (hy : WayAt w' w0.heap.size xb y) : WB2 w0 w' B V s xb m y := by
  obtain ⟨g1, g2⟩ := way_node h.ws h.way hm h.bes (hk.mono fun k _ e => .inl e)
  exact ⟨g1, hy, g2⟩
theorem w64_smW {x : Int} (h : -4611686018427387904 ≤ x ∧ x ≤ 4611686018427387904) : wrap64 x = x := IntWalk.wrap64_in _ (by omega)
abbrev TLw (xb : Nat) (bits : Int) (at_ : Nat) (W : World) : Prop := W.cell? ⟨xb, 0, none⟩ = some (.int .i64 bits) ∧ W.cell? ⟨xb, 4, none⟩ = some (.int .i64 at_)
theorem WB2.node {w0 w : World} {B : WB} {V : WV} {s : CS} {xb m : Nat} {x : WY} (h : WB2 w0 w B V s xb m x) (hm : x.mo = some m) (hl : x.l.length ≤ 100000) (b f1 f2 : Int) (hb : (Lit.int .i64 b).wf = true) :
    Calls Tryz.prog 50 #[.pointer (some ⟨xb, 0, none⟩), .int .i64 b, .agg #[.int .i64 f1, .int .i64 f2]] w fun e w' => e = .returned (.tuple #[]) ∧ ∃ kb, WB2 w0 w' B V s xb m { x with l := nodeL b (f1, f2) x.l, kb := kb } ∧ Fy xb x.kb w w' ∧ (kb = x.kb ∨ w.heap.size ≤ kb) ∧ TLw xb x.bits x.at_ w' := by
  refine (node_any h.way h.ws.below.size hm hl b hb (f1, f2)).mono ?_
  intro e w' hh
  obtain ⟨hh1, kb, h1, h2, h3⟩ := hh
  obtain ⟨g1, g2⟩ := way_node h.ws h.way hm h.bes h2
  obtain ⟨es, cl, hmb⟩ := (h.way.mp m hm).2.blk
  refine ⟨hh1, kb, ⟨g1, h1, g2⟩, keeps_fy h2 hmb, h3, ?_⟩
  obtain ⟨va, vc, hz, -⟩ := h1.ex
  exact ⟨hcell hz 0, hcell hz 4⟩
set_option maxRecDepth 10000 in
set_option maxHeartbeats 4000000 in
theorem wstep_any {w0 w : World} {B : WB} {V : WV} {s : CS} {xb m : Nat} {x : WY} (h : WS w0 w B V s) (hr : s.room) (hx : WayAt w w0.heap.size xb x) (hm : x.mo = some m) (hb : Besd w B V m) (hk : WyOk x) (hov : x.over = false) :
    Calls Tryz.prog 15 #[.pointer (some ⟨xb, 0, none⟩), .pointer (some ⟨B.wb, 0, none⟩)] w fun e w' => ∃ kb, e = .returned (.bool (x.next (s.val (wyA x))).over) ∧ WS w0 w' B V (s.acc 1 (wyA x) (s.val (wyA x))) ∧ WayAt w' w0.heap.size xb { x.next (s.val (wyA x)) with kb := kb } ∧ Besd w' B V m ∧ Fy xb x.kb w w' ∧ (kb = x.kb ∨ w.heap.size ≤ kb) := by
  have hov0 := wover hx
  rw [hk.made, hov] at hov0
  have hat := hk.at_ hov
  obtain ⟨b, hbb⟩ : ∃ b, b = (nd x.l x.at_).1 := ⟨_, rfl⟩
  have hbm := hk.wf _ (nd_mem hat)
  rw [← hbb] at hbm
  obtain ⟨h0, ⟨vb, vw, h1, h2, h3, h4⟩, h5, h6, h7⟩ := id hx
  obtain ⟨g, cap, hvs, hgc, -⟩ := row1_at h2 x.at_ hat _ (intV_at x.l x.at_ hat)
  rw [← hbb] at hgc
  obtain ⟨c0, c1, c2, c3, c4, c5, c6, c7⟩ := wy_cells h1
  rw [hvs] at c2
  have i0 : (0 : Int) ≤ x.at_ := by omega
  have i1 : (x.at_ : Int) < x.l.length := by omega
  obtain ⟨v, hv⟩ : ∃ v, v = s.val (wyA x) := ⟨_, rfl⟩
  have hvb := wf_bd (h.own.wf (wyA x))
  rw [← hv] at hvb
  have hAw : (Lit.int .u64 (wyA x)).wf = true := tagsA_wf _ _
  have hA : wyA x = tagsA x.bits b := by unfold wyA; rw [hbb]
  have WBx := Lib.hid (WB2.mk h hx hb)
  have HK := Lib.hid hk; have HR := Lib.hid hr; have HM := Lib.hid hm; have HV := Lib.hid hv; have HVB := Lib.hid hvb; have HAW := Lib.hid hAw; have HA := Lib.hid hA; have HBB := Lib.hid hbb; have HBM := Lib.hid hbm; have HAT := Lib.hid hat; have HOV := Lib.hid hov; have HVS := Lib.hid hvs
  rw [← hv]
  clear h hr hx hm hb hk hov h0 h1 h2 h3 h4 h5 h6 h7 hv hvb hAw hA hbb hbm hat hvs
  go_enter Tryz.func15, Tryz.ntmps15
  go_upto_region 2 with (go_at_call 53; refine hov0.mono ?_; intro e w2 hh; obtain ⟨hh1, hh2⟩ := hh; subst hh1; obtain rfl := hh2.symm; clear hov0)
  have y2 := fun st : ExtW w => st.cell c2
  have y4 := fun st : ExtW w => st.cell c4
  have yg := fun st : ExtW w => st.cell hgc
  clear c0 c1 c2 c3 c4 c5 c6 c7 hgc
  refine wp_region_ext (by kernel_rfl) (by kernel_rfl) ?_
  repeat (go_big_quiet_step (fail))
  refine wpQuiet_nil ?_
  rintro W ⟨⟨W2, hW⟩, rfl⟩
  clear y2 y4 yg i0 i1
  have WB3 := Lib.hid (WBx.out.below HM.out hW)
  have F3 := Lib.hid (below_fy hW xb x.kb)
  have BS3 := Lib.hid hW.size
  clear hW
  go_upto_region 3 with (fail)
  obtain ⟨vb3, vw3, hz3, -⟩ := WB3.out.way.ex
  have hs1 : TLd xb B.wb B.cb x.bits W.drew := ⟨WB3.out.ws.c0, hcell hz3 0⟩
  have hTG := fun W => tags_any x.bits b W
  rw [← HA.out] at hTG
  clear hz3
  go_region_held2 (fun W => TLd xb B.wb B.cb x.bits W) (assumption) (first
    | (go_at_call 42; refine (hTG _).mono ?_; intro e w4 hh; obtain ⟨hh1, b4⟩ := hh; subst hh1; have b4' := (Below.refl W.heap.size W).drew.trans b4; have WB4 := Lib.hid (WB3.out.below HM.out b4'); have F4 := Lib.hid (F3.out.trans (below_fy b4' xb x.kb) (.inl rfl)); have s4 : TLd xb B.wb B.cb x.bits w4 := (by { obtain ⟨va, vc, hz, -⟩ := WB4.out.way.ex; exact ⟨WB4.out.ws.c0, hcell hz 0⟩ }); have hld := WB4.out.load HM.out HR.out (wyA x) HAW.out; rw [← HV.out] at hld; clear b4 b4' hs1 WB3 F3)
    | (go_at_call 62; refine hld.mono ?_; intro e w5 hh; obtain ⟨hh1, h5, f5⟩ := hh; subst hh1; have WB5 := Lib.hid h5; have F5 := Lib.hid (F4.out.trans (fr_fy f5 xb x.kb) (.inl rfl)); have s5 : TLd xb B.wb B.cb x.bits w5 := (by { obtain ⟨va, vc, hz, -⟩ := WB5.out.way.ex; exact ⟨WB5.out.ws.c0, hcell hz 0⟩ }); clear h5 f5 hld s4 WB4 F4))
  have hfree := fun W => free_any v W HVB.out.1 HVB.out.2
  have BS5 : Hid (w.heap.size ≤ w5.heap.size) := F5.out.size
  obtain ⟨fv, hfv⟩ : ∃ fv, fv = frW v := ⟨_, rfl⟩
  have hfw : fv = freeFrom v 0 4 := hfv
  rw [← hfw] at hfree
  have HFV := Lib.hid hfv
  have hcases := free_casesW v
  rw [← hfw] at hcases
  clear s5 hfv hfw BS3 hTG
  by_cases hf : fv = -1
  · -- no slot is free
    have hne : (fv != -1) = false := by rw [hf]; rfl
    have HF := Lib.hid hf
    have hfull : ∀ i, i < 4 → 1 ≤ tg v i ∧ tg v i ≤ 255 := full_tags v HVB.out.1 (by rw [← HF.out, HFV.out])
    have HFULL := Lib.hid hfull
    clear hf hcases hfull
    go_wp2_with (go_at_call 63; refine (hfree _).mono ?_; intro e w6 hh; obtain ⟨hh1, b6⟩ := hh; subst hh1; have WB6 := Lib.hid (WB5.out.below HM.out b6); have F6 := Lib.hid (F5.out.trans (below_fy b6 xb x.kb) (.inl rfl)); clear b6 hfree WB5 F5)
    have HO4 : Hid (∀ i, i < 4 → (0 ≤ otW x.bits v b i ∧ otW x.bits v b i < tsize x.bits) ∧ (Lit.int .i64 (otW x.bits v b i)).wf = true) := fun i hi => by
      have h1 := oth_bdW b (tg v i) x.bits HK.out.bits HBM.out.1 (HFULL.out i hi)
      refine ⟨h1, ?_⟩
      have h2 := tsize_bdW x.bits
      rw [show otW x.bits v b i = oth b (tg v i) x.bits from rfl]; simp only [Lit.wf, IntKind.min, IntKind.max, IntKind.bits, IntKind.signed]; simp
      omega
    go_loopw [49] (fun i wr => ∃ (k kb : Nat), k ≤ 4 ∧ i = .int .i64 k ∧ WB2 w0 wr B V (s.acc 1 (wyA x) v) xb m { x with l := wfirsts x.most (otW x.bits v) b x.at_ x.l k, kb := kb } ∧ Fy xb x.kb w wr ∧ (kb = x.kb ∨ w.heap.size ≤ kb)) (fun i _ => 4 - (intOf i).toNat)
    case atStart => exact ⟨0, x.kb, by omega, rfl, WB6.out, F6.out, .inl rfl⟩
    case round =>
      clear WB6 F6
      obtain ⟨k, kb, hk4, rfl, hwb, hfy, hkb⟩ := hrel
      obtain ⟨lk, hlk⟩ : ∃ lk, lk = wfirsts x.most (otW x.bits v) b x.at_ x.l k := ⟨_, rfl⟩
      rw [← hlk] at hwb
      have hll := wfirsts_len x.most (otW x.bits v) b x.at_ x.l k
      rw [← hlk] at hll
      have hl4 := HK.out.len
      obtain ⟨h0, ⟨vb, vw, h1, h2, h3, h4⟩, -⟩ := id hwb.way
      obtain ⟨ab, cb, hvb2, hcb⟩ := own_sl3 h2
      obtain ⟨c0, c1, c2, c3, c4, c5, c6, c7⟩ := wy_cells h1
      rw [hvb2] at c2
      simp only at c0 c1 c2 c3 c4 c5 c6 c7
      have HLK := Lib.hid hlk; have HWB := Lib.hid hwb; have HFY := Lib.hid hfy; have HKB := Lib.hid hkb; have HLL := Lib.hid (show lk.length ≤ 4200 by omega); have H1 := Lib.hid h1; have HVB2 := Lib.hid hvb2
      clear hlk hwb hfy hkb hll hl4 h0 h1 h2 h3 h4 hvb2 c3 c5 c6 c7
      by_cases hlt : k < 4
      · have hlt' : (k : Int) < 4 := by omega
        have HLT := Lib.hid hlt
        obtain ⟨q, hq⟩ : ∃ q, q = decide ((lk.length : Int) < x.most) := ⟨_, rfl⟩
        clear hk4 hlt
        have y1 := fun st : ExtW wr => st.cell c1
        have y2 := fun st : ExtW wr => st.cell c2
        have htg : tagOf v k = tg v k := by unfold tagOf; rw [if_pos (by omega), Int.toNat_natCast]
        have hTG7 := fun W => tag_any v k W HVB.out.1 HVB.out.2
        rw [htg] at hTG7
        have hOT := other_fn b (tg v k) x.bits HK.out.bits HBM.out.1 (HFULL.out k HLT.out)
        have HTG7 := Lib.hid hTG7; have HOT := Lib.hid hOT
        clear htg hTG7 hOT
        have HQ := Lib.hid hq
        have hqd : decide ((lk.length : Int) < x.most) = q := hq.symm
        clear hq
        cases q
        · have hw : wfirsts x.most (otW x.bits v) b x.at_ x.l (k + 1) = wfirsts x.most (otW x.bits v) b x.at_ x.l k := by
            rw [wfirsts_succ]
            unfold wadd
            rw [if_neg]
            intro c
            have := HQ.out
            rw [HLK.out] at this
            exact absurd c.1 (of_decide_eq_false this.symm)
          have HW := Lib.hid hw
          clear hw
          go_upto_region 11 with (fail)
          refine wp_region_ext (by kernel_rfl) (by kernel_rfl) ?_
          repeat (go_big_quiet_step (fail))
          refine wpQuiet_nil ?_
          rintro W ⟨⟨W2, hW⟩, rfl⟩
          clear y1 y2 c0 c1 c2 c4
          have WB7 := Lib.hid (HWB.out.below HM.out hW)
          have F7 := Lib.hid (HFY.out.trans (below_fy hW xb x.kb) (.inl rfl))
          have BW7 := Lib.hid hW.size
          clear hW
          go_wp2_with (fail)
          go_roundw
          case measure => simp [intOf]; have := HLT.out; omega
          case rel =>
            refine ⟨k + 1, kb, by have := HLT.out; omega, by push_cast; rfl, ?_, F7.out, HKB.out⟩
            rw [HW.out, ← HLK.out]
            exact WB7.out
        · have hnl : nodeL (otW x.bits v b k) ((x.at_ : Int), (k : Int)) lk = wfirsts x.most (otW x.bits v) b x.at_ x.l (k + 1) := by
            rw [wfirsts_succ, ← HLK.out, wadd_node]
            exact of_decide_eq_true HQ.out.symm
          have HNL := Lib.hid hnl
          clear hnl
          go_upto_region 11 with (fail)
          refine wp_region_ext (by kernel_rfl) (by kernel_rfl) ?_
          repeat (go_big_quiet_step (fail))
          refine wpQuiet_nil ?_
          rintro W ⟨⟨W2, hW⟩, rfl⟩
          clear y1 y2 c0 c1 c2 c4
          have WB7 := Lib.hid (HWB.out.below HM.out hW)
          have F7 := Lib.hid (HFY.out.trans (below_fy hW xb x.kb) (.inl rfl))
          have BW7 := Lib.hid hW.size
          clear hW
          have hs7 : TLw xb x.bits x.at_ W.drew := (by { obtain ⟨va, vc, hz, -⟩ := WB7.out.way.ex; exact ⟨hcell hz 0, hcell hz 4⟩ })
          go_upto_region 12 with (fail)
          have hTG7 := HTG7.out; have hOT := HOT.out
          have hl8 : lk.length ≤ 100000 := by have := HLL.out; omega
          have hb8 : (Lit.int .i64 (oth b (tg v k) x.bits)).wf = true := (HO4.out k HLT.out).2
          go_region_held2 (fun W => TLw xb x.bits x.at_ W) (assumption) (first
            | (go_at_call 66; refine (hTG7 _).mono ?_; intro e w8 hh; obtain ⟨hh1, b8⟩ := hh; subst hh1; have b8' := (Below.refl W.heap.size W).drew.trans b8; have WB8 := Lib.hid (WB7.out.below HM.out b8'); have F8 := Lib.hid (F7.out.trans (below_fy b8' xb x.kb) (.inl rfl)); have s8 : TLw xb x.bits x.at_ w8 := (by { obtain ⟨va, vc, hz, -⟩ := WB8.out.way.ex; exact ⟨hcell hz 0, hcell hz 4⟩ }); clear b8 b8' hs7 WB7 F7)
            | (go_at_call 65; refine (hOT _).mono ?_; intro e w9 hh; obtain ⟨hh1, hh2⟩ := hh; subst hh1; obtain rfl := hh2.symm)
            | (go_at_call 50; refine (WB2.node WB8.out HM.out hl8 _ _ _ hb8).mono ?_; intro e w9 hh; obtain ⟨hh1, kb2, h9, f9, hkb2, s9⟩ := hh; subst hh1))
          go_wp2_with (fail)
          go_roundw
          case measure => simp [intOf]; have := HLT.out; omega
          case rel =>
            refine ⟨k + 1, kb2, by have := HLT.out; omega, by push_cast; rfl, ?_, ?_, ?_⟩
            · rw [← HNL.out]
              exact h9
            · exact F8.out.trans f9 HKB.out
            · have h1 := F8.out.size
              rcases hkb2 with e | e
              · rw [e]; exact HKB.out
              · exact .inr (Nat.le_trans h1 e)
      · have hk4e : k = 4 := by omega
        subst hk4e
        have HAT1 : Hid (x.at_ < 5000) := by have := HAT.out; have := HK.out.len; show x.at_ < 5000; omega
        have hat1 : wrap64 ((x.at_ : Int) + 1) = ((x.at_ + 1 : Nat) : Int) := by
          have := HAT1.out
          rw [w64_smW (by omega)]; push_cast; rfl
        obtain ⟨a1, ha1⟩ : ∃ a1, a1 = x.at_ + 1 := ⟨_, rfl⟩
        rw [← ha1] at hat1
        have HA1 := Lib.hid ha1
        obtain ⟨g1, g2⟩ := way_seti HWB.out.way a1
        have WB14 := Lib.hid (HWB.out.set HM.out g2 g1)
        have F14 := Lib.hid (HFY.out.trans (keep1_fy (c := x.kb) g2) (.inl rfl))
        have gf := hfrz H1.out 4
        have z14 := setCell_same H1.out 4 (.int .i64 a1)
        have d4 : (wr.setCell ⟨xb, 4, none⟩ (.int .i64 a1)).cell? ⟨xb, 4, none⟩ = some (.int .i64 a1) := hcell z14 4
        have d2 : (wr.setCell ⟨xb, 4, none⟩ (.int .i64 a1)).cell? ⟨xb, 2, none⟩ = some (.slice ab lk.length cb) := by
          have hv : vb = .slice ab lk.length cb := HVB2.out
          rw [← hv]
          exact hcell z14 2
        have Z14 := Lib.hid z14
        clear g1 g2 ha1 z14 hk4
        go_upto_region 15 with (fail)
        obtain ⟨w14, hw14⟩ : ∃ w14, w14 = wr.setCell ⟨xb, 4, none⟩ (.int .i64 a1) := ⟨_, rfl⟩
        rw [← hw14] at d4 d2 ⊢
        have WB15 := WB14.out; have F15 := F14.out; have Z15 := Z14.out
        rw [← hw14] at WB15 F15 Z15
        have WB16 := Lib.hid WB15; have F16 := Lib.hid F15; have Z16 := Lib.hid Z15
        have ZE := Lib.hid hw14
        clear WB14 F14 Z14 WB15 F15 Z15 gf hw14 c0 c1 c2 c4
        have y4 := fun st : ExtW w14 => st.cell d4
        have y2 := fun st : ExtW w14 => st.cell d2
        refine wp_region_ext_tail 13 (by kernel_rfl) (by kernel_rfl) ?_
        simp only [List.take_succ_cons, List.take_zero, List.drop_succ_cons, List.drop_zero]
        repeat (go_big_quiet_step (fail))
        refine wpQuiet_nil ?_
        rintro W ⟨⟨W2, hW⟩, rfl⟩
        clear y2 y4 d2 d4
        have g1 := (hW.block _ (Array.getElem?_eq_some_iff.1 Z16.out).1).trans Z16.out
        have gf := hfrz g1 6
        have g6 : W.cell? ⟨xb, 6, none⟩ = some (.bool x.over) := hcell g1 6
        have WB17 := WB16.out.below HM.out hW
        have F17 := F16.out.trans (below_fy hW xb x.kb) (.inl rfl)
        obtain ⟨q, hq⟩ : ∃ q, q = ((a1 : Int) == (lk.length : Int)) := ⟨_, rfl⟩
        have HQ := Lib.hid hq
        obtain ⟨s1, s2⟩ := way_seto WB17.way q
        have WB18 := WB17.set HM.out s2 s1
        have F18 := Lib.hid (F17.trans (keep1_fy (c := x.kb) s2) (.inl rfl))
        have hov1 := wover s1
        simp only at hov1
        rw [HK.out.made] at hov1
        have WB19 := Lib.hid WB18
        have BW2 := Lib.hid hW
        clear g1 s1 s2 WB17 WB18 F17 hW
        go_upto_region 16 with (fail)
        rw [← hq]
        clear hq
        go_wp2_with (go_at_call 53; refine hov1.mono ?_; intro e w2 hh; obtain ⟨hh1, hh2⟩ := hh; subst hh1; obtain rfl := hh2.symm; clear hov1)
        go_ret
        have hq2 : decide (x.at_ + 1 = lk.length) = q := by
          rw [HQ.out, HA1.out]
          by_cases e : x.at_ + 1 = lk.length
          · rw [decide_eq_true e, e]; simp
          · rw [decide_eq_false e]; symm; rw [beq_eq_false_iff_ne]; omega
        have hnx : x.next v = { x with l := lk, at_ := a1, over := q } := by
          unfold WY.next
          rw [if_pos (by rw [← HFV.out]; exact HF.out), ← HBB.out, ← wfirsts_four, ← HLK.out, hq2, ← HA1.out]
        refine ⟨kb, ?_⟩
        rw [hnx]
        exact ⟨by cases q <;> rfl, WB19.out.ws, WB19.out.way, WB19.out.bes, F18.out, HKB.out⟩
  · -- a slot is free
    obtain ⟨n, hn4, hfn, htn⟩ := hcases.resolve_left hf
    have hne : (fv != -1) = true := bne_iff_ne.2 hf
    have HF := Lib.hid hf; have HFN := Lib.hid hfn
    clear hf hcases hfn hn4 htn
    go_upto_region 6 with (go_at_call 63; refine (hfree _).mono ?_; intro e w6 hh; obtain ⟨hh1, b6⟩ := hh; subst hh1; have WB6 := Lib.hid (WB5.out.below HM.out b6); have F6 := Lib.hid (F5.out.trans (below_fy b6 xb x.kb) (.inl rfl)); clear b6 hfree WB5 F5)
    have hfd := found_any (s := fv) WB6.out.way WB6.out.ws.below.size HM.out (by have := HK.out.len; omega) HK.out.ahead HK.out.win.nodup (fun b hb => (HK.out.wf b hb).2) HAT.out (HK.out.way HOV.out)
    obtain ⟨vb, vw, z6, -⟩ := WB6.out.way.ex
    have c4 : w6.cell? ⟨xb, 4, none⟩ = some (.int .i64 x.at_) := hcell z6 4
    clear z6
    go_wp2_with (go_at_call 64; refine hfd.mono ?_; intro e w7 hh; obtain ⟨hh1, h7, k7⟩ := hh; subst hh1; have WB7 := Lib.hid (WB6.out.set HM.out k7 h7); have F7 := Lib.hid (F6.out.trans (keep1_fy (c := x.kb) k7) (.inl rfl)); clear h7 k7 hfd WB6 F6)
    go_ret
    have hnx : x.next v = { x with way := wway x.l x.at_ fv, over := true } := by
      unfold WY.next
      rw [if_neg (by rw [← HFV.out]; exact HF.out), ← HFV.out]
    refine ⟨x.kb, ?_⟩
    rw [hnx]
    exact ⟨rfl, WB7.out.ws, WB7.out.way, WB7.out.bes, F7.out, .inl rfl⟩
end Go.Proofs.YtmakjfeepmiggaaGreat
namespace Go.Proofs.YtmakjfeepmiggaaGreat
open Go.RowKit TagPure
set_option linter.unusedVariables false
end Go.Proofs.YtmakjfeepmiggaaGreat
namespace Go.Proofs.YtmakjfeepmiggaaGreat
open Go.RowKit TagPure
set_option linter.unusedVariables false
theorem rfree_anyF (x : Int) (w : World) (h0 : 0 ≤ x) (h1 : x < 18446744073709551616) :
    Calls Tryz.prog 57 #[.int .u64 x] w fun e w' => e = .returned (.int .i64 (freeFrom x 0 4)) ∧ w = w' := by
  go_enter Tryz.func57, Tryz.ntmps57
  go_wp2
  go_loop [3] (fun i => ∃ k : Nat, k ≤ 4 ∧ i = .int .i64 k ∧ freeFrom x 0 4 = freeFrom x k (4 - k)) (fun i => 4 - (intOf i).toNat)
  case atStart => exact ⟨0, by omega, rfl, rfl⟩
  case round =>
    obtain ⟨k, hk, rfl, hf⟩ := hrel
    have HF := Lib.hid hf
    clear hf
    by_cases hlt : k < 4
    · obtain ⟨m, hm⟩ : ∃ m, 4 - k = m + 1 := ⟨4 - k - 1, by omega⟩
      by_cases hz : tg x k = 0
      · have hz' : (tg x k == 0) = true := by simp [hz]
        have HC : Hid (freeFrom x 0 4 = k) := by show _ = _; rw [HF.out, hm]; simp [freeFrom, hz]
        clear hz hm
        go_wp2_with (go_at_call 60; refine (rtag_in x k _ h0 h1 hlt).mono ?_; rintro e w' ⟨rfl, rfl⟩)
        go_ret
        exact ⟨ret_i64 HC.out.symm, rfl⟩
      · have hz' : (tg x k == 0) = false := by simp [hz]
        have HC : Hid (freeFrom x 0 4 = freeFrom x (k + 1) (4 - (k + 1))) := by show _ = _; rw [HF.out, hm, show 4 - (k + 1) = m from by omega]; simp [freeFrom, hz]
        clear hz hm
        go_wp2_with (go_at_call 60; refine (rtag_in x k _ h0 h1 hlt).mono ?_; rintro e w' ⟨rfl, rfl⟩)
        go_round
        case rel => exact ⟨k + 1, by omega, by go_num, HC.out⟩
        case measure => simp [intOf]; omega
    · obtain rfl : k = 4 := by omega
      go_wp2
      go_ret
      exact ⟨ret_i64 (by rw [HF.out]; rfl), rfl⟩
end Go.Proofs.YtmakjfeepmiggaaGreat