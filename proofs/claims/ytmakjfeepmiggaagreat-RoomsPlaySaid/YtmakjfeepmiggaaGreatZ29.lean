import Derived.Test.YtmakjfeepmiggaaGreatZ15
import Derived.Test.YtmakjfeepmiggaaGreatZ17
import Derived.Deep.RegionHeld2
namespace Go.Proofs.YtmakjfeepmiggaaGreat
set_option linter.unusedVariables false
theorem least {P : Nat → Prop} [DecidablePred P] (q : Nat) (h : ∃ i, i < q ∧ P i) : ∃ j, j < q ∧ P j ∧ ∀ i, i < j → ¬ P i := by
  induction q with
  | zero => obtain ⟨i, hi, _⟩ := h; omega
  | succ q ih =>
    by_cases h2 : ∃ i, i < q ∧ P i
    · obtain ⟨j, h3, h4, h5⟩ := ih h2; exact ⟨j, by omega, h4, h5⟩
    · obtain ⟨i, hi, hp⟩ := h
      have : i = q := by
        apply Classical.byContradiction
        intro c; exact h2 ⟨i, by omega, hp⟩
      subst this
      exact ⟨i, by omega, hp, fun k hk c => h2 ⟨k, hk, c⟩⟩
structure Leads (o : Int → Nat → Int) (fr : Int → Int) (a b : Int) (W : List (Int × Int)) : Prop where
  first : ∀ x, W[0]? = some x → x.1 = a ∨ x.1 = b
  next : ∀ t x y, W[t]? = some x → W[t + 1]? = some y → ¬ 0 ≤ fr x.1 ∧ ∃ s : Nat, s < 4 ∧ x.2 = (s : Int) ∧ o x.1 s = y.1
  last : ∀ x, W[W.length - 1]? = some x → x.2 = fr x.1 ∧ 0 ≤ fr x.1
  unlike : (W.map (·.1)).Nodup
def wfirst (a b : Int) : List Nd := if b = a then [(a, -1, -1)] else [(a, -1, -1), (b, -1, -1)]
theorem wfirst_sh {N : Nat} (o : Int → Nat → Int) (fr : Int → Int) {a b : Int} (ha : 0 ≤ a ∧ a < N) (hb : 0 ≤ b ∧ b < N) : WSh N o fr a b 0 (wfirst a b) := by
  unfold wfirst
  by_cases h : b = a
  · rw [if_pos h]
    subst h
    refine ⟨⟨by simp [bks], fun x hx => ?_⟩, fun i hi => .inl ?_, fun i hi _ => ?_, ⟨by simp [bks], by simp [bks]⟩, fun i hi c => ?_, fun i hi => by omega, fun i hi => by omega, Nat.zero_le _⟩
    · simp [bks] at hx; subst hx; exact hb
    · obtain rfl : i = 0 := by simpa using hi
      rfl
    · obtain rfl : i = 0 := by simpa using hi
      exact .inl rfl
    · obtain rfl : i = 0 := by simpa using hi
      exact absurd rfl c
  · rw [if_neg h]
    have two : ∀ i, i < ([(a, -1, -1), (b, -1, -1)] : List Nd).length → i = 0 ∨ i = 1 := fun i hi => by simp at hi; omega
    refine ⟨⟨by simp [bks]; exact fun c => h c.symm, fun x hx => ?_⟩, fun i hi => .inl ?_, fun i hi _ => ?_, ⟨by simp [bks], by simp [bks]⟩, fun i hi c => ?_, fun i hi => by omega, fun i hi => by omega, Nat.zero_le _⟩
    · simp [bks] at hx; rcases hx with rfl | rfl; exact ha; exact hb
    · rcases two i hi with rfl | rfl <;> rfl
    · rcases two i hi with rfl | rfl
      · exact .inl rfl
      · exact .inr rfl
    · rcases two i hi with rfl | rfl <;> exact absurd rfl c
end Go.Proofs.YtmakjfeepmiggaaGreat
namespace Go.Proofs.YtmakjfeepmiggaaGreat
open Go.RowKit Go.Maps
set_option linter.unusedVariables false
def fmsr (v : Value) (w : World) : Nat := match v with
  | .pointer (some a) => match w.cell? a with
    | some (.int .i64 i) => (i + 1).toNat
    | _ => 0
  | _ => 0
def OnWay (l : List Nd) (P wy : List (Int × Int)) (i s : Int) : Prop := (i = -1 ∧ P = wy) ∨ ∃ ii n : Nat, i = ii ∧ ii < l.length ∧ ii < n ∧ P = wy ++ wpath l n ii s
theorem wpath_len (l : List Nd) : ∀ n i s, (wpath l n i s).length ≤ n := by
  intro n
  induction n with
  | zero => intro i s; exact Nat.le_refl _
  | succ n ih =>
    intro i s
    show (_ :: _).length ≤ _
    rw [List.length_cons]
    split
    · simp
    · have := ih (nd l i).2.1.toNat (nd l i).2.2; omega
theorem intV_at (l : List Nd) (i : Nat) (hi : i < l.length) : (intV (bks l))[i]? = some (.int .i64 (nd l i).1) := by
  unfold intV bks nd
  rw [List.getElem?_map, List.getElem?_map, List.getElem?_eq_getElem hi, List.getD_eq_getElem?_getD, List.getElem?_eq_getElem hi]; rfl
theorem row1_at {w : World} {base e : Nat} {v : Value} {n : Nat} {xs : List Value} (h : w.ownsRow base e 1 v n xs) (i : Nat) (hi : i < n) (u : Value) (hu : xs[i]? = some u) : ∃ g cap, v = .slice (some ⟨g, 0, none⟩) n cap ∧ w.cell? ⟨g, i, none⟩ = some u ∧ ∃ cur, w.heap[g]? = some (.cells cur e (0, 0)) := by
  obtain ⟨h1, ⟨rfl, h0⟩ | ⟨g, cap, cur, rfl, hb, hg, hn, hm, hs, ht⟩⟩ := h
  · omega
  · refine ⟨g, cap, rfl, ?_, cur, hg⟩
    rw [hcell hg]
    rw [← ht, List.getElem?_take, if_pos (by omega)] at hu
    simpa using hu
theorem setk_of {w : World} {q T : Nat} {cs : Array Value} (h : w.heap[q]? = some (.cells cs T (0, 0))) (o : Nat) (v : Value) : Keeps (fun k => k = q) w (w.setCell ⟨q, o, none⟩ v) := setCell_keeps w q o v
theorem fnd_step {w W w4 : World} {lo xb fb g2 cap2 n cw : Nat} {aw : Option Addr} {x : WY} {wy : List (Int × Int)} {b s' ii : Int} (hx : WayAt W lo xb { x with way := wy }) (hc : W.cell? ⟨xb, 5, none⟩ = some (.slice aw n cw)) (hn : n = wy.length) (hnw : ∀ k, (Value.slice aw n cw).ownBlock = some k → w.heap.size ≤ k) (hk : Keeps (fun k => k = xb) w W)
    (hfb : W.heap[fb]? = some (.cells #[.int .i64 ii, .int .i64 s'] 139 (0, 0))) (hown : w4.ownsRow lo 71 3 (.slice (some ⟨g2, 0, none⟩) (n + 1) cap2) (n + 1) (flatS x.bits wy ++ [.int .i64 x.bits, .int .i64 b, .int .i64 s']))
    (hgr : ((W.drew).alloc (.cells #[.int .i64 x.bits, .int .i64 b, .int .i64 s'] 71)).grownBy w4 (Value.slice aw n cw).ownBlock) (hat : (Value.slice aw n cw).ownBlock = some g2 ∨ g2 = W.heap.size + 1) :
    WayAt (w4.setCell ⟨xb, 5, none⟩ (.slice (some ⟨g2, 0, none⟩) (n + 1) cap2)) lo xb { x with way := wy ++ [(b, s')] } ∧ Keeps (fun k => k = xb) w (w4.setCell ⟨xb, 5, none⟩ (.slice (some ⟨g2, 0, none⟩) (n + 1) cap2)) ∧ (w4.setCell ⟨xb, 5, none⟩ (.slice (some ⟨g2, 0, none⟩) (n + 1) cap2)).heap[fb]? = some (.cells #[.int .i64 ii, .int .i64 s'] 139 (0, 0)) ∧
      ∃ vw, (w4.setCell ⟨xb, 5, none⟩ (.slice (some ⟨g2, 0, none⟩) (n + 1) cap2)).cell? ⟨xb, 5, none⟩ = some vw ∧ ∀ k, vw.ownBlock = some k → w.heap.size ≤ k := by
  obtain ⟨h0, ⟨vb, vw, h1, h2, h3, h4⟩, h5, h6, h7⟩ := hx
  obtain rfl : vw = .slice aw n cw := by rw [hcell h1] at hc; exact Option.some.inj hc
  have hb1 : Below W.heap.size W ((W.drew).alloc (.cells #[.int .i64 x.bits, .int .i64 b, .int .i64 s'] 71)) := ((Below.refl _ _).drew).alloc (Nat.le_refl _) _
  have hkk := grown_keeps hgr
  have hwb : ∀ k, (Value.slice aw n cw).ownBlock = some k → k ≠ xb ∧ (∀ m', x.mo = some m' → k ≠ m') ∧ vb.ownBlock ≠ some k ∧ k ≠ fb := fun k hk => by
    obtain ⟨cur, hc⟩ := own_blk h3 hk
    refine ⟨cells_ne hc h1 (by decide), fun m' hm' => ?_, fun e => ?_, cells_ne hc hfb (by decide)⟩
    · obtain ⟨es, cl, hmb⟩ := (h5 m' hm').2.blk
      exact (map_ne_cells hmb hc).symm
    · obtain ⟨cur2, hc2⟩ := own_blk h2 e
      exact cells_ne hc hc2 (by decide) rfl
  have hvb : ∀ k, vb.ownBlock = some k → k ≠ xb := fun k hk => by
    obtain ⟨cur, hc⟩ := own_blk h2 hk
    exact cells_ne hc h1 (by decide)
  have hmx : ∀ m', x.mo = some m' → m' ≠ xb := fun m' hm' => by
    obtain ⟨es, cl, hmb⟩ := (h5 m' hm').2.blk
    exact map_ne_cells hmb h1
  have hlx := (Array.getElem?_eq_some_iff.1 h1).1
  have hlf := (Array.getElem?_eq_some_iff.1 hfb).1
  have hfx : fb ≠ xb := cells_ne hfb h1 (by decide)
  have hx4 := (hkk.block xb (Nat.lt_of_lt_of_le hlx hb1.size) (fun c => (hwb xb c).1 rfl)).trans ((hb1.block _ hlx).trans h1)
  have hf4 := (hkk.block fb (Nat.lt_of_lt_of_le hlf hb1.size) (fun c => (hwb fb c).2.2.2 rfl)).trans ((hb1.block _ hlf).trans hfb)
  have hg2 : w.heap.size ≤ g2 ∧ g2 ≠ xb := by
    rcases hat with h | h
    · exact ⟨hnw g2 h, (hwb g2 h).1⟩
    · have := hk.size; exact ⟨by omega, by omega⟩
  have sk := setCell_keeps w4 xb 5 (.slice (some ⟨g2, 0, none⟩) (n + 1) cap2)
  have hx5 := setCell_same hx4 5 (.slice (some ⟨g2, 0, none⟩) (n + 1) cap2)
  have hB0 := below_fr hb1 (fun _ => false) false
  refine ⟨⟨h0, ⟨vb, .slice (some ⟨g2, 0, none⟩) (n + 1) cap2, hx5, own_keepsS (own_keepsS (own_fr h2 hB0 rfl) hkk fun k hk c => (hwb k c).2.2.1 hk) sk fun k hk c => hvb k hk c, ?_, h4⟩, fun m' hm' => ⟨(h5 m' hm').1, keeps_mp (keeps_mp ((h5 m' hm').2.below hb1) hkk fun c => (hwb m' c).2.1 m' hm' rfl) sk fun c => hmx m' hm' c⟩, h6, fun e => by simp at e⟩, ?_, ?_, .slice (some ⟨g2, 0, none⟩) (n + 1) cap2, by rw [hcell hx5]; rfl, fun k hk => by simp only [Value.ownBlock, Option.some.injEq] at hk; omega⟩
  · have e1 : (wy ++ [(b, s')]).length = n + 1 := by simp [hn]
    simp only [e1, flatS_snoc]
    exact own_keepsS hown sk fun k hk c => by simp only [Value.ownBlock, Option.some.injEq] at hk; omega
  · refine ⟨sk.os.trans (hkk.os.trans (hb1.os.trans hk.os)), sk.tape.trans (hkk.tape.trans (hb1.tape.trans hk.tape)), sk.output.trans (hkk.output.trans (hb1.output.trans hk.output)), Nat.le_trans hk.size (Nat.le_trans hb1.size (Nat.le_trans hkk.size sk.size)), fun j hj hne => ?_⟩
    have hj2 := Nat.lt_of_lt_of_le hj hk.size
    have hj3 := Nat.lt_of_lt_of_le hj2 hb1.size
    rw [sk.block j (Nat.lt_of_lt_of_le hj3 hkk.size) hne, hkk.block j hj3 (fun c => by have := hnw j c; omega), hb1.block j hj2, hk.block j hj hne]
  · rw [sk.block fb (Nat.lt_of_lt_of_le (Nat.lt_of_lt_of_le hlf hb1.size) hkk.size) hfx]; exact hf4
set_option maxRecDepth 10000 in
set_option maxHeartbeats 4000000 in
theorem found_any {w : World} {lo xb m k : Nat} {x : WY} {s : Int} (h : WayAt w lo xb x) (hlo : lo ≤ w.heap.size) (hm : x.mo = some m) (hl : x.l.length ≤ 10000) (hah : Ahead x.l) (hnd : (bks x.l).Nodup) (hbw : ∀ b ∈ bks x.l, (Lit.int .i64 b).wf = true) (hk : k < x.l.length) (hw : x.way = []) :
    Calls Tryz.prog 64 #[.pointer (some ⟨xb, 0, none⟩), .int .i64 k, .int .i64 s] w fun e w' => e = .returned (.tuple #[]) ∧ WayAt w' lo xb { x with way := wway x.l k s, over := true } ∧ Keeps (· = xb) w w' := by
  obtain ⟨P, hP⟩ : ∃ P, P = wpath x.l x.l.length k s := ⟨_, rfl⟩
  have hPl : P.length ≤ 10000 := by rw [hP]; exact Nat.le_trans (wpath_len _ _ _ _) hl
  have on0 : OnWay x.l P [] k s := .inr ⟨k, x.l.length, rfl, hk, hk, by rw [hP]; rfl⟩
  have hww : wway x.l k s = P.reverse := by rw [hP]; rfl
  obtain ⟨i0, hi0, hz0, hz1, hz2⟩ := info_parts info_spot3
  have HI := Lib.hid hi0; have HZ0 := Lib.hid hz0; have HZ1 := Lib.hid hz1; have HZ2 := Lib.hid hz2
  clear hi0 hz0 hz1 hz2
  have hwy0 : WayAt w lo xb { x with way := [] } := by rw [← hw]; exact h
  have HW0 := Lib.hid hwy0; have HLO := Lib.hid hlo; have HM := Lib.hid hm; have HL := Lib.hid hl; have HAH := Lib.hid hah; have HND := Lib.hid hnd; have HBW := Lib.hid hbw; have HP := Lib.hid hPl; have ON0 := Lib.hid on0; have HWW := Lib.hid hww
  clear h hlo hm hl hah hnd hbw hk hw hP hPl on0 hww hwy0
  have hb1 := below_alloc w (.cells #[.int .i64 k, .int .i64 s] 139)
  have hz1 := heap_alloc_new w (.cells #[.int .i64 k, .int .i64 s] 139)
  have HB1 := Lib.hid hb1; have HZ1' := Lib.hid hz1
  clear hb1 hz1
  go_enter Tryz.func64, Tryz.ntmps64
  go_wp2
  change Code.wp _ _ _ _ (w.alloc (.cells #[.int .i64 k, .int .i64 s] 139))
  go_loopw [6] (fun v wr => ∃ (i s' : Int) (fb : Nat) (wy : List (Int × Int)), v = .pointer (some ⟨fb, 0, none⟩) ∧ wr.heap[fb]? = some (.cells #[.int .i64 i, .int .i64 s'] 139 (0, 0)) ∧ w.heap.size ≤ fb ∧ OnWay x.l P wy i s' ∧ WayAt wr lo xb { x with way := wy } ∧ Keeps (· = xb) w wr ∧ ∃ vw, wr.cell? ⟨xb, 5, none⟩ = some vw ∧ ∀ k, vw.ownBlock = some k → w.heap.size ≤ k) (fun v wr => fmsr v wr)
  case atStart => exact ⟨k, s, _, [], rfl, HZ1'.out, Nat.le_refl _, ON0.out, HW0.out.below HB1.out, below_keeps HB1.out _, _, (HW0.out.below HB1.out).noWay rfl, fun k hk => by cases hk⟩
  case round =>
    clear HZ1' HB1 ON0 HW0
    obtain ⟨i, s', fb, wy, rfl, hfb, hfl, hon, hwa, hkp, vw, hc5, hnw⟩ := hrel
    have z0 := hcell hfb 0
    have z1 := hcell hfb 1
    obtain ⟨h0, ⟨vb, vw', h1, h2, h3, h4⟩, h5, h6, h7⟩ := hwa
    obtain rfl : vw' = vw := by rw [hcell h1] at hc5; exact Option.some.inj hc5
    have hwb : ∀ k, vw'.ownBlock = some k → k ≠ xb ∧ (∀ m', x.mo = some m' → k ≠ m') ∧ vb.ownBlock ≠ some k := fun k hk => by
      obtain ⟨cur, hc⟩ := own_blk h3 hk
      refine ⟨cells_ne hc h1 (by decide), fun m' hm' => ?_, fun e => ?_⟩
      · obtain ⟨es, cl, hmb⟩ := (h5 m' hm').2.blk
        exact (map_ne_cells hmb hc).symm
      · obtain ⟨cur2, hc2⟩ := own_blk h2 e
        exact cells_ne hc hc2 (by decide) rfl
    have hvb : ∀ k, vb.ownBlock = some k → k ≠ xb := fun k hk => by
      obtain ⟨cur, hc⟩ := own_blk h2 hk
      exact cells_ne hc h1 (by decide)
    have hmx : ∀ m', x.mo = some m' → m' ≠ xb := fun m' hm' => by
      obtain ⟨es, cl, hmb⟩ := (h5 m' hm').2.blk
      exact map_ne_cells hmb h1
    obtain ⟨c0, c1, c2, c3, c4, c5, c6, c7⟩ := wy_cells h1
    rcases hon with ⟨rfl, hPe⟩ | ⟨ii, n, rfl, hil, hin, hPe⟩
    · -- the end
      have hrv := srev_any h3 (by simp only; rw [← hPe]; have := HP.out; omega)
      have H1 := Lib.hid h1; have H2 := Lib.hid h2; have H4 := Lib.hid h4; have H5 := Lib.hid h5; have H6 := Lib.hid h6; have H7 := Lib.hid h7; have HWB := Lib.hid hwb; have HVB := Lib.hid hvb; have HMX := Lib.hid hmx; have HK := Lib.hid hkp; have HNW := Lib.hid hnw; have H0 := Lib.hid h0; have HPE := Lib.hid hPe; have HC5 := Lib.hid hc5
      clear h0 h1 h2 h3 h4 h5 h6 h7 hwb hvb hmx hkp hnw hPe hc5 hfb hfl
      go_upto_region 8 with (go_at_call 137; refine hrv.mono ?_; intro e w2 hh; obtain ⟨hh1, o2, k2⟩ := hh; subst hh1; have O2 := Lib.hid o2; have K2 := Lib.hid k2; clear o2 k2 hrv c0 c1 c2 c3 c4 c5 c6 c7)
      have hlt := (Array.getElem?_eq_some_iff.1 H1.out).1
      have g1 := (K2.out.block xb hlt (fun c => (HWB.out xb c).1 rfl)).trans H1.out
      have g6 := hcell g1 6
      have gf := hfrz g1 6
      have sk := setCell_keeps w2 xb 6 (.bool true)
      have fin : Hid (WayAt (w2.setCell ⟨xb, 6, none⟩ (.bool true)) lo xb { x with way := wway x.l k s, over := true } ∧ Keeps (· = xb) w (w2.setCell ⟨xb, 6, none⟩ (.bool true))) := by
        rw [HWW.out, HPE.out]
        refine ⟨⟨H0.out, ⟨vb, vw', setCell_same g1 6 _, own_keepsS (own_keepsS H2.out K2.out fun k hk c => (HWB.out k c).2.2 hk) sk fun k hk c => HVB.out k hk c, own_keepsS O2.out sk fun k hk c => (HWB.out k hk).1 c, H4.out⟩, fun m' hm' => ⟨(H5.out m' hm').1, keeps_mp (keeps_mp (H5.out m' hm').2 K2.out fun c => (HWB.out m' c).2.1 m' hm' rfl) sk fun c => HMX.out m' hm' c⟩, H6.out, fun e => ?_⟩, ?_⟩
        · have e2 : wy = [] := by simpa using e
          have := H7.out e2
          rw [hcell H1.out] at this
          rw [hcell (setCell_same g1 6 _)]
          exact this
        · refine ⟨sk.os.trans (K2.out.os.trans HK.out.os), sk.tape.trans (K2.out.tape.trans HK.out.tape), sk.output.trans (K2.out.output.trans HK.out.output), Nat.le_trans HK.out.size (Nat.le_trans K2.out.size sk.size), fun j hj hne => ?_⟩
          have hj2 := Nat.lt_of_lt_of_le hj HK.out.size
          rw [sk.block j (Nat.lt_of_lt_of_le hj2 K2.out.size) hne, K2.out.block j hj2 (fun c => by have := HNW.out j c; omega), HK.out.block j hj hne]
      clear g1 sk
      go_wp2
      go_end0
      exact ⟨rfl, fin.out.1, fin.out.2⟩
    · -- a spot more
      have hne : ((ii : Int) != -1) = true := bne_iff_ne.2 (by omega)
      have HZF := Lib.hid z0
      obtain ⟨g, cap, hvs, hgc, -⟩ := row1_at h2 ii hil _ (intV_at x.l ii hil)
      obtain ⟨b, hb⟩ : ∃ b, b = (nd x.l ii).1 := ⟨_, rfl⟩
      rw [← hb] at hgc
      have HBB := Lib.hid hb
      clear hb
      have i0' : (0 : Int) ≤ ii := by omega
      have i1 : (ii : Int) < x.l.length := by omega
      rw [hvs] at c2
      have y2 := fun st : ExtW wr => st.cell c2
      have yz := fun st : ExtW wr => st.cell z0
      have yg := fun st : ExtW wr => st.cell hgc
      go_upto_region 2 with (fail)
      refine wp_region_ext (by kernel_rfl) (by kernel_rfl) ?_
      repeat (go_big_quiet_step (fail))
      refine wpQuiet_nil ?_
      rintro W ⟨⟨W2, hW⟩, rfl⟩
      have hlt := (Array.getElem?_eq_some_iff.1 h1).1
      have hft := (Array.getElem?_eq_some_iff.1 hfb).1
      obtain ⟨aw, cw, hvw, hcw⟩ := own_sl3 h3
      have hlen : wy.length ≤ 10000 := by
        have := HP.out; have e := congrArg List.length hPe; rw [List.length_append] at e; omega
      have bD : Below wr.heap.size wr W.drew := hW.drew
      have g1 := (hW.block _ hlt).trans h1
      have gf := (hW.block _ hft).trans hfb
      have x5 : W.cell? ⟨xb, 5, none⟩ = some (.slice aw wy.length cw) := by rw [← hvw]; exact hcell g1 5
      have x0 : W.cell? ⟨xb, 0, none⟩ = some (.int .i64 x.bits) := hcell g1 0
      have f1 : W.cell? ⟨fb, 1, none⟩ = some (.int .i64 s') := hcell gf 1
      have al : ∀ (o : Obj) {q j : Nat} {u : Value}, W.cell? ⟨q, j, none⟩ = some u → (W.alloc o).cell? ⟨q, j, none⟩ = some u := fun o q j u hu => by rw [World.cell?_alloc_past _ _ _ (World.block_lt_of_cell? _ _ hu)]; exact hu
      have x5' := fun o => al o x5
      have x0' := fun o => al o x0
      have f1' := fun o => al o f1
      have HNW2 : Hid (((W.drew).alloc (.cells #[.int .i64 x.bits, .int .i64 b, .int .i64 s'] 71)).heap[W.heap.size]? = some (.cells #[.int .i64 x.bits, .int .i64 b, .int .i64 s'] 71 (0, 0))) := heap_alloc_new (W.drew) _
      have HWA2 : Hid (Below W.heap.size W ((W.drew).alloc (.cells #[.int .i64 x.bits, .int .i64 b, .int .i64 s'] 71))) := ((Below.refl _ _).drew).alloc (Nat.le_refl _) _
      have HWW2 : Hid (WayAt W lo xb { x with way := wy }) := WayAt.below ⟨h0, ⟨vb, vw', h1, h2, h3, h4⟩, h5, h6, h7⟩ hW
      have HC5 := Lib.hid x5
      have HKP2 : Hid (Keeps (fun k => k = xb) w W) := (hkp.trans (below_keeps hW (fun _ => False))).mono fun k _ c => by rcases c with c | c; exact c; exact absurd c id
      have O3 := Lib.hid (own_fr h3 (below_fr hW (fun _ => false) false) rfl)
      have H1 := Lib.hid g1; have HF := Lib.hid gf; have H2 := Lib.hid (own_fr h2 (below_fr hW (fun _ => false) false) rfl); have H4 := Lib.hid h4; have H5 := Lib.hid h5; have H6 := Lib.hid h6; have HWB := Lib.hid hwb; have HVB := Lib.hid hvb; have HMX := Lib.hid hmx; have HKP := Lib.hid (hkp.trans (below_keeps hW (fun _ => False))); have HNW := Lib.hid hnw; have H0 := Lib.hid h0; have HPE := Lib.hid hPe; have HVW := Lib.hid hvw; have HIL := Lib.hid hil; have HIN := Lib.hid hin; have HFL := Lib.hid hfl; have HLN := Lib.hid hlen; have HWR := Lib.hid (And.intro hkp.size hW); have HFT := Lib.hid (And.intro hlt hft)
      clear h0 h1 h2 h3 h4 h5 h6 h7 hwb hvb hmx hkp hnw hPe hc5 hfb c0 c1 c2 c3 c4 c5 c6 c7 y2 yz yg hgc z0 z1 hvw hil hin hfl hlen hW bD g1 gf hlt hft i0' i1 hne hvs
      go_wp2_with fail
      go_cut [39] (fun v39 wx => WayAt wx lo xb { x with way := wy ++ [(b, s')] } ∧ Keeps (fun k => k = xb) w wx ∧ wx.heap[fb]? = some (.cells #[.int .i64 ii, .int .i64 s'] 139 (0, 0)) ∧ ∃ vw, wx.cell? ⟨xb, 5, none⟩ = some vw ∧ ∀ k, vw.ownBlock = some k → w.heap.size ≤ k)
      case first =>
        go_region_law ((refine step_append_lies _ (by rfl) _ _ _ (by rfl) lo 71 i0 _ 3 24 Tryz.underlying54 HI.out HZ0.out HZ1.out HZ2.out rfl (by decide) (.slice aw wy.length cw) wy.length (flatS x.bits wy) (by rfl) (by rw [← HVW.out]; exact (O3.out.drew).alloc _) ⟨W.heap.size, 0, none⟩ 1 1 [.int .i64 x.bits, .int .i64 b, .int .i64 s'] (by rfl) (by rfl) (World.news_of_block (cs := #[.int .i64 x.bits, .int .i64 b, .int .i64 s']) (t := 71) (fr := (0, 0)) HNW2.out) (by simp [Value.oneCell']) (by omega) (by have := HLN.out; unfold maxLen; omega) (by have := HLN.out; omega) (by have := HLO.out; have := HWR.out.1; have := HWR.out.2.size; simp; omega) (W.heap.size + 1) (by simp) ?_; intro g2 cap2 w4 hown1 hgrow hat hlt4; have HOW := Lib.hid hown1; have HGR := Lib.hid hgrow; have HAT := Lib.hid hat; have hkk := grown_keeps hgrow; rw [← HVW.out] at hkk; have hq4 : w4.heap[xb]? = some (.cells (({ x with way := wy } : WY).cells vb vw') 135 (0, 0)) := (hkk.block xb (by have := HFT.out.1; have := HWR.out.2.size; simp; omega) (fun c => (HWB.out xb c).1 rfl)).trans ((HWA2.out.block _ (Array.getElem?_eq_some_iff.1 H1.out).1).trans H1.out); have t0 : w4.cell? ⟨xb, 5, none⟩ = some (.slice aw wy.length cw) := (by rw [← HVW.out]; exact hcell hq4 5); have t1 := hfrz hq4 5; have HQ4 := Lib.hid hq4; have HKK := Lib.hid hkk; clear hown1 hgrow hat hlt4 hq4 hkk))
        all_goals (try go_wp2_with fail)
        all_goals go_meet
        all_goals
          exact fnd_step HWW2.out HC5.out rfl (by rw [← HVW.out]; exact HNW.out) HKP2.out HF.out HOW.out HGR.out HAT.out
      case rest =>
        obtain ⟨ha, hka, hfa, vw2, hv2, hn2⟩ := hcut
        clear x5 x0 f1 x5' x0' f1' al
        obtain ⟨-, ⟨-, -, -, -, -, -⟩, hmp, -, -⟩ := id ha
        have hx1 := ha.ex
        obtain ⟨va, vc, hxa, -⟩ := hx1
        have c3 := hcell hxa 3
        have hmpm := (hmp m HM.out).2
        have hbk := backF_at HND.out HIL.out
        rw [← HBB.out] at hbk
        have hbwf := HBW.out b (by rw [HBB.out]; exact nd_mem HIL.out)
        have hlk := hmpm.look hbwf hbk
        unfold prV at hlk
        obtain ⟨fr, sl, hfs⟩ : ∃ fr sl, (nd x.l ii).2 = (fr, sl) := ⟨_, _, rfl⟩
        rw [hfs] at hlk
        simp only at hlk
        have c3' := c3.trans (show _ = some (Value.map (some m)) from by show some (Value.map x.mo) = _; rw [HM.out])
        have q0 := hcell hfa 0
        have q1 := hcell hfa 1
        have p0 := hfrz hfa 0
        have p1 := hfrz hfa 1
        have HA := Lib.hid ha; have HKA := Lib.hid hka; have HFA := Lib.hid hfa; have HV2 := Lib.hid hv2; have HN2 := Lib.hid hn2; have HFS := Lib.hid hfs; have HXA := Lib.hid hxa
        clear ha hka hfa hv2 hn2 hfs hxa c3 hmp hmpm hbk
        go_upto_region 5 with (fail)
        have y1 := setCell_same HFA.out 0 (.int .i64 fr)
        have y2 := setCell_same y1 1 (.int .i64 sl)
        have t1 := set_ty HFA.out 0 (.int .i64 fr)
        have t2 := set_ty y1 1 (.int .i64 sl)
        have ha6 := HA.out.fr (t1.trans t2) (fun T hT => by unfold yTy at hT; simp only [Bool.or_eq_true, beq_iff_eq] at hT; rcases hT with (rfl | rfl) | rfl <;> rfl)
        have hk6 := (HKA.out.trans (setk_of HFA.out 0 (.int .i64 fr))).trans (setk_of y1 1 (.int .i64 sl))
        have hx6 := (t1.trans t2).cells _ _ _ _ HXA.out rfl
        have hv6 := (hcell hx6 5).trans ((hcell HXA.out 5).symm.trans HV2.out)
        clear q0 q1 p0 p1 hlk c3' t1 t2 y1 hx6
        generalize (World.setCell _ ⟨fb, 0, none⟩ (.int .i64 fr)).setCell ⟨fb, 1, none⟩ (.int .i64 sl) = w6 at *
        have q0 := hcell y2 0
        have q1 := hcell y2 1
        have hb7 := below_alloc w6 (.cells #[.int .i64 fr, .int .i64 sl] 139)
        have hz7 := heap_alloc_new w6 (.cells #[.int .i64 fr, .int .i64 sl] 139)
        have HB7 := Lib.hid hb7; have HZ7 := Lib.hid hz7; have HA6 := Lib.hid ha6; have HK6 := Lib.hid hk6; have HV6 := Lib.hid hv6
        clear hb7 hz7 ha6 hk6 hv6 y2
        have hfrb := HAH.out ii HIL.out
        rw [HFS.out] at hfrb
        have hlast : OnWay x.l P (wy ++ [(b, s')]) fr sl := by
          have hpe := HPE.out
          obtain ⟨n', hn'⟩ : ∃ n', n = n' + 1 := ⟨n - 1, by have := HIN.out; omega⟩
          rw [hn'] at hpe
          have e : wpath x.l (n' + 1) ii s' = (b, s') :: (if fr = -1 then [] else wpath x.l n' fr.toNat sl) := by
            show ((nd x.l ii).1, s') :: (if (nd x.l ii).2.1 = -1 then [] else wpath x.l n' (nd x.l ii).2.1.toNat (nd x.l ii).2.2) = _
            rw [HFS.out, ← HBB.out]
          rw [e] at hpe
          by_cases hf1 : fr = -1
          · rw [if_pos hf1] at hpe
            exact .inl ⟨hf1, by rw [hpe]⟩
          · rw [if_neg hf1] at hpe
            simp only at hfrb
            have h2 : 0 ≤ fr ∧ fr < ii := by rcases hfrb with c | c; exact absurd c hf1; exact c
            exact .inr ⟨fr.toNat, n', by omega, by have := HIL.out; omega, by have := HIN.out; omega, by rw [hpe]; simp⟩
        have HON := Lib.hid hlast
        have HFR := Lib.hid hfrb
        clear hlast hfrb
        go_wp2_with fail
        go_roundw
        case rel =>
          refine ⟨fr, sl, w6.heap.size, wy ++ [(b, s')], rfl, HZ7.out, ?_, HON.out, HA6.out.below HB7.out, ?_, _, (HB7.out.cell (p := ⟨xb, 5, none⟩) (World.block_lt_of_cell? _ _ HV6.out)).trans HV6.out, HN2.out⟩
          · exact HK6.out.size
          · refine (HK6.out.trans (below_keeps HB7.out fun _ => False)).mono fun k hk c => ?_
            have := HFL.out
            rcases c with ((c | c) | c) | c
            · exact c
            · omega
            · omega
            · exact absurd c id
        case measure =>
          have e1 := hcell HZ7.out 0
          have e2 := HZF.out
          simp only [List.getElem?_toArray, List.getElem?_cons_zero] at e1 e2
          have := HFR.out
          simp only at this
          show fmsr (.pointer (some ⟨w6.heap.size, 0, none⟩)) _ < fmsr (.pointer (some ⟨fb, 0, none⟩)) _
          unfold fmsr
          simp only [e1, e2]
          omega
end Go.Proofs.YtmakjfeepmiggaaGreat