/-
  Are cells the document's, by all that they tell: they are, where both say the same.
-/
import Derived.Test.YtpceooniklpidaaCellsWords
import Derived.Test.YtpceooniklpidaaSameAny
namespace Go.Proofs.Ytpceooniklpidaa
open Go.RowKit Go.Maps
set_option linter.unusedVariables false

theorem words_own {w0 w : World} {b : Nat} {s : CS} (h : Own w0 w b s) (hn : s.n ≤ 1000000) : Calls Try.prog 96 #[.pointer (some ⟨b, 0, none⟩)] w fun e w' => ∃ a ws, e = .returned (.slice a ws.length ws.length) ∧ WordsOf w' w.heap.size s.val a ws ∧ Below w.heap.size w w' := by
  obtain ⟨⟨S, hS⟩, hB⟩ := h
  exact words_any w _ b s S hS hn
theorem last_ext {w0 w : World} {b : Nat} {s : CS} (h : Own w0 w b s) (st : ExtW w) : Calls Try.prog 35 #[.pointer (some ⟨b, 0, none⟩)] st.val fun e w' => e = .returned (.agg #[.int .u8 s.kind, .int .u64 s.addr, .int .u64 s.was, .int .u64 s.is]) ∧ Below st.val.heap.size st.val w' := by
  obtain ⟨⟨S, hS⟩, hB⟩ := h.keep st.below
  exact last_any _ _ b s S hS
theorem count_ext {w0 w : World} {b : Nat} {s : CS} (h : Own w0 w b s) (st : ExtW w) : Calls Try.prog 81 #[.pointer (some ⟨b, 0, none⟩)] st.val fun e w' => e = .returned (.int .i64 s.cnt) ∧ st.val = w' :=
  (count_own (h.keep st.below)).mono fun e w' ⟨he, hw⟩ => ⟨he, hw.symm⟩
theorem peek_ext {w0 w : World} {b : Nat} {s : CS} (h : Own w0 w b s) (a : Int) (ha : (Lit.int .u64 a).wf = true) (v : Int) (hv : s.val a = v) (st : ExtW w) : Calls Try.prog 15 #[.pointer (some ⟨b, 0, none⟩), .int .u64 a] st.val fun e w' => e = .returned (.int .u64 v) ∧ st.val = w' := by
  subst hv
  exact (peek_own (h.keep st.below) a ha).mono fun e w' ⟨he, hw⟩ => ⟨he, hw.symm⟩

theorem wfrom_next {wr W : World} {base g k : Nat} {cur : Array Value} {ws : List (Int × Int)} (hgb : base ≤ g) (hg : W.heap[g]? = some (.cells cur 116 (0, 0))) (hc : ∀ i, k ≤ i → (hi : i < ws.length) → cur[i * 2]? = some (.int .u64 (ws[i]).1) ∧ cur[i * 2 + 1]? = some (.int .u64 (ws[i]).2)) (u v : Value) :
    WFrom ((W.setCell ⟨g, k * 2, none⟩ u).setCell ⟨g, k * 2 + 1, none⟩ v) base (some ⟨g, 0, none⟩) ws (k + 1) := by
  refine .inr ⟨g, _, rfl, hgb, setCell_same (setCell_same hg _ _) _ _, fun i hi hl => ?_⟩
  obtain ⟨h1, h2⟩ := hc i (by omega) hl
  have n1 : k * 2 ≠ i * 2 := by omega
  have n2 : k * 2 + 1 ≠ i * 2 := by omega
  have n3 : k * 2 ≠ i * 2 + 1 := by omega
  have n4 : k * 2 + 1 ≠ i * 2 + 1 := by omega
  rw [Array.getElem?_setIfInBounds_ne n2, Array.getElem?_setIfInBounds_ne n1, Array.getElem?_setIfInBounds_ne n4, Array.getElem?_setIfInBounds_ne n3]
  exact ⟨h1, h2⟩
theorem wfrom_below {w w' : World} {base : Nat} {a : Option Addr} {ws : List (Int × Int)} {k : Nat} (h : WFrom w base a ws k) (hb : Below w.heap.size w w') : WFrom w' base a ws k := by
  rcases h with h | ⟨g, cur, ha, h1, h2, h3⟩
  · exact .inl h
  · exact .inr ⟨g, cur, ha, h1, (hb.block g (Array.getElem?_eq_some_iff.1 h2).1).trans h2, h3⟩

set_option maxRecDepth 10000 in
set_option maxHeartbeats 2000000 in
theorem same05_any {w0 w : World} {cb r : Nat} {s : CS} {x : RS} (h : Both w0 w cb r s x) (hn : s.n ≤ 1000000) :
    Calls Try.prog 50 #[.pointer (some ⟨cb, 0, none⟩), .pointer (some ⟨r, 0, none⟩)] w fun e w' => e = .returned (.bool true) ∧ Below w.heap.size w w' := by
  have hw := words_own h.own hn
  obtain ⟨lv, hR⟩ := h.ref
  obtain ⟨ad, cap, rfl, hm, hc⟩ := hR.form
  have ha := h.alike
  have hv := ha.val
  obtain ⟨l, cnt, kind, addr, was, is⟩ := x
  have e1 := ha.cnt; have e2 := ha.kind; have e3 := ha.addr; have e4 := ha.was; have e5 := ha.is
  simp only at e1 e2 e3 e4 e5 hv hm hc
  subst e1 e2 e3 e4 e5
  have hrl : r < w.heap.size := (Array.getElem?_eq_some_iff.1 hR.hdr).1
  have k0 : w.cell? ⟨r, 0, none⟩ = some (.slice ad l.length cap) := hR.cell 0
  have k1 : w.cell? ⟨r, 1, none⟩ = some (.int .i64 s.cnt) := hR.cell 1
  have k2 : w.cell? ⟨r, 2, none⟩ = some (.int .u8 s.kind) := hR.cell 2
  have k3 : w.cell? ⟨r, 3, none⟩ = some (.int .u64 s.addr) := hR.cell 3
  have k4 : w.cell? ⟨r, 4, none⟩ = some (.int .u64 s.was) := hR.cell 4
  have k5 : w.cell? ⟨r, 5, none⟩ = some (.int .u64 s.is) := hR.cell 5
  have hris := ha.ris
  have hnz := ha.nz
  have hO := h.own
  have hwf := hR.wf
  simp only at hris hnz hwf
  have HA := Lib.hid (And.intro hris (And.intro hnz hv)); have HO := Lib.hid hO; have HWF := Lib.hid hwf; have HC := Lib.hid hc
  have HK := Lib.hid (And.intro k0 (And.intro k1 (And.intro k2 (And.intro k3 (And.intro k4 k5)))))
  unfold maxLen at hm
  clear h ha hv hR hris hnz hO hwf hc k0 k1 k2 k3 k4 k5 hn
  go_enter Try.func50, Try.ntmps50
  go_wp2_with (go_at_call 96; refine hw.mono ?_; rintro e w1 ⟨a, ws, rfl, hW, hb⟩)
  obtain rfl : ws = l := ris_eq hW.ris HA.out.1 hW.nz HA.out.2.1 (fun a => by rw [hW.look, HA.out.2.2])
  have c : ∀ o v, w.cell? ⟨r, o, none⟩ = some v → ∀ st : ExtW w1, st.val.cell? ⟨r, o, none⟩ = some v := fun o v h st => st.cell ((hb.cell (p := ⟨r, o, none⟩) hrl).trans h)
  obtain ⟨k0, k1, k2, k3, k4, k5⟩ := HK.out
  have x0 := c _ _ k0; have x1 := c _ _ k1; have x2 := c _ _ k2; have x3 := c _ _ k3; have x4 := c _ _ k4; have x5 := c _ _ k5
  have hcount := fun st : ExtW w1 => count_ext (HO.out.keep hb) st
  have hlast := fun st : ExtW w1 => last_ext (HO.out.keep hb) st
  have HW := Lib.hid hW; have HB := Lib.hid hb
  clear c k0 k1 k2 k3 k4 k5 hW hb hw
  refine wp_region_ext (by kernel_rfl) (by kernel_rfl) ?_
  repeat (go_big_quiet_step (first
    | (go_at_call 81; with_reducible refine calls_ext_same (hcount _))
    | (go_at_call 35; with_reducible refine calls_ext (hlast _))))
  refine wpQuiet_nil ?_
  rintro W ⟨⟨W2, hW2⟩, rfl⟩
  clear x0 x1 x2 x3 x4 x5 hcount hlast
  have hF := wfrom_below HW.out.row hW2
  have hB2 : Below w.heap.size w W := HB.out.trans (hW2.mono HB.out.size)
  have HF := Lib.hid hF; have HB2 := Lib.hid hB2
  clear hF hB2 hW2
  go_wp2
  go_loopw [6] (fun i wr => ∃ k : Nat, k ≤ ws.length ∧ i = .int .i64 k ∧ WFrom wr w.heap.size a ws k ∧ Below w.heap.size w wr) (fun i _ => ws.length - (intOf i).toNat)
  case atStart => exact ⟨0, by omega, rfl, HF.out, HB2.out⟩
  case round =>
    obtain ⟨k, hk, rfl, hf, hbl⟩ := hrel
    by_cases hlt : k < ws.length
    · rcases hf with hf | ⟨g, cur, rfl, hgb, hg, hcur⟩
      · omega
      obtain ⟨gr, rfl, hrow⟩ := HC.out (by omega)
      obtain ⟨r0, r1⟩ := hrow k hlt
      obtain ⟨q0, q1⟩ := hcur k (Nat.le_refl _) hlt
      have hpk : s.val (ws[k]).1 = (ws[k]).2 := by rw [HA.out.2.2]; exact rlook_mem HA.out.1 (List.getElem_mem hlt)
      have hwfk := (HWF.out _ (List.getElem_mem hlt)).1
      have r0 := (hbl.cell (World.block_lt_of_cell? _ _ r0)).trans r0
      have r1 := (hbl.cell (World.block_lt_of_cell? _ _ r1)).trans r1
      have b0 := (hbl.cell (p := ⟨r, 0, none⟩) hrl).trans HK.out.1
      have p0 : wr.cell? ⟨g, k * 2, none⟩ = some (.int .u64 (ws[k]).1) := by simp [World.cell?, hg, q0]
      have p1 : wr.cell? ⟨g, k * 2 + 1, none⟩ = some (.int .u64 (ws[k]).2) := by simp [World.cell?, hg, q1]
      have hpeek := fun st : ExtW wr => peek_ext (HO.out.keep hbl) _ hwfk _ hpk st
      generalize ws[k] = p at *
      obtain ⟨pa, pv⟩ := p
      simp only at r0 r1 p0 p1 q0 q1 hpeek
      have HQ0 := Lib.hid q0; have HQ1 := Lib.hid q1
      have y0 := fun st : ExtW wr => st.cell r0
      have y1 := fun st : ExtW wr => st.cell r1
      have y2 := fun st : ExtW wr => st.cell b0
      have y3 := fun st : ExtW wr => st.cell p0
      have y4 := fun st : ExtW wr => st.cell p1
      have hlt' : (k : Int) < ws.length := by omega
      have HG := Lib.hid hg; have HCU := Lib.hid hcur; have HBL := Lib.hid hbl
      clear r0 r1 b0 p0 p1 q0 q1 hpk hwfk hrow hg hcur hbl
      go_wp2
      refine wp_region_ext (by kernel_rfl) (by kernel_rfl) ?_
      repeat (go_big_quiet_step ((go_at_call 15; with_reducible refine calls_ext_same (hpeek _))))
      refine wpQuiet_nil ?_
      rintro W3 ⟨⟨W4, hW4⟩, rfl⟩
      clear y0 y1 y2 y3 y4 hpeek
      have hg3 := (hW4.block g (Array.getElem?_eq_some_iff.1 HG.out).1).trans HG.out
      have f0 : ∀ o, W3.frozen? ⟨g, o, none⟩ = false := fun o => by simp [World.frozen?, hg3]
      have q0' : cur[k * 2]? = some (.int .u64 pa) := HQ0.out
      have q1' : cur[k * 2 + 1]? = some (.int .u64 pv) := HQ1.out
      have z0 : W3.cell? ⟨g, k * 2, none⟩ = some (.int .u64 pa) := by simp [World.cell?, hg3, q0']
      have z1 : W3.cell? ⟨g, k * 2 + 1, none⟩ = some (.int .u64 pv) := by simp [World.cell?, hg3, q1']
      clear q0' q1'
      have HN := Lib.hid (fun u v => wfrom_next (wr := wr) hgb hg3 HCU.out u v)
      have HB4 : Hid (Below w.heap.size w W3) := HBL.out.trans (hW4.mono HBL.out.size)
      clear hg3 hW4
      go_wp2
      go_roundw
      case rel => exact ⟨k + 1, by omega, by go_num, HN.out _ _, by
        have := keeps_below ((setCell_keeps W3 g (k * 2) (.int .u64 0)).again (setCell_keeps _ g (k * 2 + 1) (.int .u64 0))) HB4.out HB4.out.size (fun q e => by omega)
        exact this⟩
      case measure => simp [intOf]; omega
    · obtain rfl : k = ws.length := by omega
      have HB := Lib.hid hbl
      clear hf hbl
      go_wp2
      go_ret
      exact ⟨rfl, HB.out⟩
end Go.Proofs.Ytpceooniklpidaa
