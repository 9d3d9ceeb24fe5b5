/-
  Texts of this prover, merged: Grows, GrowDo, GrowLives, PathsTab, PathsRun, PathsLives, PathsDo, PathsMore.
-/
import Derived.Test.YtdabcnjjbfmkaaaQ1
import Derived.Test.YtdabcnjjbfmkaaaBegin0
import Derived.Test.YtdabcnjjbfmkaaaQ2
import Derived.Test.YtdabcnjjbfmkaaaOpen
import Derived.Test.YtdabcnjjbfmkaaaAddr
import Derived.Test.YtdabcnjjbfmkaaaRefNew
import Derived.Deep.RegionHeld2
/-
  Grows: what is not there, what is over, without a world; the document's; a step.
-/
namespace Go.Proofs.Ytdabcnjjbfmkaaa
open Go.RowKit Go.Maps
set_option linter.unusedVariables false

/-- Is a Grow, a Swap, of a word over at once? -/
def gdead (t : Int) : Bool := asNow t != 0 || asOld t == 12
def sdead (t : Int) : Bool := asNow t == 0
theorem asNow_nn (t : Int) : 0 ≤ asNow t := by unfold asNow; split <;> omega
end Go.Proofs.Ytdabcnjjbfmkaaa

/-
  Grows: a step in a world. (written by gengrow.py)
-/
namespace Go.Proofs.Ytdabcnjjbfmkaaa
open Go.RowKit Go.Maps
set_option linter.unusedVariables false

theorem ws_set4 {w0 w : World} {B : WB} {V : WV} {s : CS} {b o : Nat} {cs : Array Value} {T : TypeId} (h : WS w0 w B V s) (hb : w.heap[b]? = some (.cells cs T (0, 0))) (hT : wTy T = false) (hlo : w0.heap.size ≤ b) (v : Value) : WS w0 (w.setCell ⟨b, o, none⟩ v) B V s :=
  h.fr (set_ty hb o v) (fun X hX => by cases hXT : (X == T); rfl; rw [beq_iff_eq] at hXT; subst hXT; rw [hX] at hT; cases hT) (set_below h.below h.below.size hlo o v)
theorem wu_of_wf {v : Int} (h : 0 ≤ v ∧ v < 18446744073709551616) : (Lit.int .u64 v).wf = true := bd_wf h

end Go.Proofs.Ytdabcnjjbfmkaaa

/-
  Grows: layer 19's examples.
-/
namespace Go.Proofs.Ytdabcnjjbfmkaaa
open Go.RowKit Go.Maps
set_option linter.unusedVariables false

theorem world12v (b : Int) (hb : 1 ≤ b ∧ b ≤ 12) (w : World) : Calls Try.prog 23 #[.int .i64 b] w fun e w' => ∃ B, e = .returned (.pointer (some ⟨B.wb, 0, none⟩)) ∧ WS w w' B (v0 ⟨b, 8, 3, 1, 16⟩) (CS.init [(2, tword b 0)]) := by
  have hn1 : Calls Try.prog 40 #[.agg #[.int .i64 b, .int .i64 8, .int .i64 3, .int .i64 1, .int .i64 16]] w fun e w' => ∃ B : WB, e = .returned (.tuple #[.pointer (some ⟨B.wb, 0, none⟩), .int .i64 0]) ∧ WS w w' B (v0 ⟨b, 8, 3, 1, 16⟩) (CS.init [(2, tword b 0)]) :=
    (wnew_ok ⟨b, 8, 3, 1, 16⟩ (by simp [Conf.ok]; omega) w).mono fun e w' ⟨wb, cb, ib, nb, he, g1, g2, g3, g4, g5, g6, g7⟩ => ⟨⟨wb, cb, ib, nb⟩, he, ws_of (Below.refl _ w) g1 g2 g3 g4 g5 g6 g7⟩
  clear hb
  go_enter Try.func23, Try.ntmps23
  go_wp2_with (go_at_call 40; with_reducible refine hn1.mono ?_; rintro e w1 ⟨B, rfl, h1⟩)
  go_ret
  exact ⟨_, rfl, h1⟩
theorem WS.slow {w0 w : World} {B : WB} {V : WV} {s : CS} (h : WS w0 w B V s) : w0.heap.size ≤ w.heap.size := h.below.size
end Go.Proofs.Ytdabcnjjbfmkaaa

/-
  Layer 16's tables.
-/
namespace Go.Proofs.Ytdabcnjjbfmkaaa
open Go.RowKit Go.Maps TagPure
set_option linter.unusedVariables false

structure Tb where
  qb : Int
  ta : Option Addr
  tc : Nat
  tags : List Int
  qa : Int
  qbb : Int
  qm : Int
abbrev Tb.cells (t : Tb) : Array Value := #[.int .u8 t.qb, .slice t.ta t.tags.length t.tc, .int .u16 t.qa, .int .u16 t.qbb, .int .u16 t.qm]
def Tb.bits (t : Tb) : Int := 1 + t.qb % 5
def Tb.a (t : Tb) : Int := t.qa % tsize t.bits
def Tb.b (t : Tb) : Int := t.qbb % tsize t.bits
def Tb.tab (t : Tb) (k : Int) : Int := if k.toNat < t.tags.length then t.tags.getD k.toNat 0 else 16843009 * (1 + k)
structure TbRd (w : World) (t : Tb) : Prop where
  cell : ∀ i (hi : i < t.tags.length), ∃ b off, t.ta = some ⟨b, off, none⟩ ∧ w.cell? ⟨b, off + i, none⟩ = some (.int .u64 (t.tags[i]))
  wf : ∀ v ∈ t.tags, 0 ≤ v ∧ v < 18446744073709551616
  most : t.tags.length ≤ maxLen
  rb : 0 ≤ t.qb ∧ t.qb < 256
  ra : 0 ≤ t.qa ∧ t.qa < 65536
  rbb : 0 ≤ t.qbb ∧ t.qbb < 65536
  rm : 0 ≤ t.qm ∧ t.qm < 65536
theorem TbRd.bits {w : World} {t : Tb} (h : TbRd w t) : 1 ≤ t.bits ∧ t.bits ≤ 5 := by have := h.rb; unfold Tb.bits; omega
theorem TbRd.below {w w' : World} {t : Tb} (h : TbRd w t) (hb : Below w.heap.size w w') : TbRd w' t := by
  refine ⟨fun i hi => ?_, h.wf, h.most, h.rb, h.ra, h.rbb, h.rm⟩
  obtain ⟨b, off, h1, h2⟩ := h.cell i hi
  exact ⟨b, off, h1, by have := World.block_lt_of_cell? _ _ h2; unfold World.cell? at h2 ⊢; simp only at h2 ⊢; rw [hb.block b this]; exact h2⟩
theorem tsize5 {b : Int} (h : 1 ≤ b ∧ b ≤ 5) : 2 ≤ tsize b ∧ tsize b ≤ 32 := by
  have : b = 1 ∨ b = 2 ∨ b = 3 ∨ b = 4 ∨ b = 5 := by omega
  rcases this with rfl | rfl | rfl | rfl | rfl <;> decide
theorem TbRd.ab {w : World} {t : Tb} (h : TbRd w t) : (0 ≤ t.a ∧ t.a < tsize t.bits) ∧ 0 ≤ t.b ∧ t.b < tsize t.bits := by
  have h2 := tsize5 h.bits
  unfold Tb.a Tb.b
  exact ⟨⟨Int.emod_nonneg _ (by omega), Int.emod_lt_of_pos _ (by omega)⟩, Int.emod_nonneg _ (by omega), Int.emod_lt_of_pos _ (by omega)⟩
theorem u8_smT (x : Int) (h : 0 ≤ x ∧ x < 256) : IntKind.u8.wrap x = x := by rw [IntKind.wrap_u8]; omega
theorem w64_smT (x : Int) (h : -100000 ≤ x ∧ x < 100000) : wrap64 x = x := IntWalk.wrap64_in _ (by omega)
theorem tb_cells {W : World} {q : Nat} {t : Tb} (z : W.heap[q]? = some (.cells t.cells 90 (0, 0))) : W.cell? ⟨q, 0, none⟩ = some (.int .u8 t.qb) ∧ W.cell? ⟨q, 1, none⟩ = some (.slice t.ta t.tags.length t.tc) ∧ W.cell? ⟨q, 2, none⟩ = some (.int .u16 t.qa) ∧ W.cell? ⟨q, 3, none⟩ = some (.int .u16 t.qbb) ∧ W.cell? ⟨q, 4, none⟩ = some (.int .u16 t.qm) :=
  ⟨hcell z 0, hcell z 1, hcell z 2, hcell z 3, hcell z 4⟩
theorem tbits {w : World} (t : Tb) (hb : 0 ≤ t.qb ∧ t.qb < 256) : Calls Try.prog 38 #[.agg t.cells] w fun e w' => e = .returned (.int .i64 t.bits) ∧ Below w.heap.size w w' := by
  have hb1 := below_alloc w (.cells t.cells 90)
  obtain ⟨c0, c1, c2, c3, c4⟩ := tb_cells (heap_alloc_new w (.cells t.cells 90))
  have HB1 := Lib.hid hb1
  obtain ⟨m5, hm5⟩ : ∃ m5, m5 = t.qb % 5 := ⟨_, rfl⟩
  have x1 : t.qb.tmod 5 = m5 := by rw [Int.tmod_eq_emod_of_nonneg hb.1, hm5]
  have x2 := u8_smT m5 (by omega)
  have x3 := w64_smT m5 (by omega)
  have x4 : 1 + m5 = t.bits := by rw [hm5]; rfl
  have x5 : wrap64 t.bits = t.bits := w64_smT _ (by rw [← x4]; omega)
  clear hb1 hm5 hb
  generalize t.bits = B at *
  go_enter Try.func38, Try.ntmps38
  go_wp2
  go_ret
  refine ⟨?_, HB1.out⟩
  show Ending.returned (Value.int .i64 (wrap64 B)) = _
  rw [x5]
theorem shl_bits (b : Int) (hb : 1 ≤ b ∧ b ≤ 5) (w : World) : Sem.run Try.prog (Op.shift BinOp.shl IntKind.i64 1 IntKind.i64 b) w = Result.ok (.int .i64 (tsize b)) w := by
  have : b = 1 ∨ b = 2 ∨ b = 3 ∨ b = 4 ∨ b = 5 := by omega
  rcases this with rfl | rfl | rfl | rfl | rfl <;> rfl
set_option maxRecDepth 10000 in
theorem tends {w : World} (t : Tb) (h : TbRd w t) : Calls Try.prog 75 #[.agg t.cells] w fun e w' => e = .returned (.tuple #[.int .i64 t.a, .int .i64 t.b]) ∧ Below w.heap.size w w' := by
  have hb1 := below_alloc w (.cells t.cells 90)
  have z := heap_alloc_new w (.cells t.cells 90)
  obtain ⟨c0, c1, c2, c3, c4⟩ := tb_cells z
  have hbt := fun W => tbits (w := W) t h.rb
  have hsh := shl_bits t.bits h.bits
  have H := Lib.hid h; have Z := Lib.hid z; have HB1 := Lib.hid hb1
  clear h z hb1
  go_enter Try.func75, Try.ntmps75
  go_upto_region 2 with (go_at_call 38; refine (hbt _).mono ?_; intro e w2 hh; obtain ⟨hh1, b2⟩ := hh; subst hh1; have B2 := Lib.hid b2; clear b2)
  have Z2 := (B2.out.block _ (Array.getElem?_eq_some_iff.1 Z.out).1).trans Z.out
  have HB2 := Lib.hid (HB1.out.trans (B2.out.mono HB1.out.size))
  obtain ⟨d0, d1, d2, d3, d4⟩ := tb_cells Z2
  have y2 := fun st : ExtW w2 => st.cell d2
  have y3 := fun st : ExtW w2 => st.cell d3
  obtain ⟨n, hn⟩ : ∃ n, n = tsize t.bits := ⟨_, rfl⟩
  have hn2 := tsize5 H.out.bits
  have e1 : t.a = t.qa % n := by rw [hn]; rfl
  have e2 : t.b = t.qbb % n := by rw [hn]; rfl
  rw [← hn] at hn2 ⊢
  have ha := H.out.ra; have hb := H.out.rbb
  have x1 : wrap64 t.qa = t.qa := w64_smT _ (by omega)
  have x2 : wrap64 t.qbb = t.qbb := w64_smT _ (by omega)
  have x3 : t.qa.tmod n = t.a := by rw [e1, Int.tmod_eq_emod_of_nonneg ha.1]
  have x4 : t.qbb.tmod n = t.b := by rw [e2, Int.tmod_eq_emod_of_nonneg hb.1]
  have x5 : wrap64 t.a = t.a := w64_smT _ (by
    have h1 := Int.emod_nonneg t.qa (b := n) (by omega)
    have h2 := Int.emod_lt_of_pos t.qa (show 0 < n by omega)
    omega)
  have x6 : wrap64 t.b = t.b := w64_smT _ (by
    have h1 := Int.emod_nonneg t.qbb (b := n) (by omega)
    have h2 := Int.emod_lt_of_pos t.qbb (show 0 < n by omega)
    omega)
  have x7 : ¬ n = 0 := by omega
  have x8 : (n == 0) = false := beq_eq_false_iff_ne.2 x7
  clear c0 c1 c2 c3 c4 d0 d1 d2 d3 d4 hn2 e1 e2 ha hb hn
  refine wp_region_ext (by kernel_rfl) (by kernel_rfl) ?_
  repeat (go_big_quiet_step (fail))
  refine wpQuiet_nil ?_
  rintro W ⟨⟨W2, hW⟩, rfl⟩
  have HB3 := Lib.hid (HB2.out.trans (hW.mono HB2.out.size))
  clear y2 y3 hW
  go_wp2_with (fail)
  refine bodyPost_ret (v := .tuple #[.int .i64 t.a, .int .i64 t.b]) (by simp [results, Try.results75, go_sem]) rfl ⟨rfl, HB3.out⟩
/-! ## The world of a table. -/
theorem hasP_in {b u : Int} (hb : 1 ≤ b ∧ b ≤ 12) (hu : 0 ≤ u ∧ u < tsize b) : tagsA b u = 4096 + 8 * (tsize b + u) := by
  unfold tagsA
  rw [if_pos (by simp [hasP]; omega)]
abbrev TWt (wb cb q : Nat) (t : Tb) (W : World) : Prop := W.cell? ⟨wb, 0, none⟩ = some (.pointer (some ⟨cb, 0, none⟩)) ∧ W.cell? ⟨q, 0, none⟩ = some (.int .u8 t.qb) ∧ W.cell? ⟨q, 1, none⟩ = some (.slice t.ta t.tags.length t.tc) ∧ W.cell? ⟨q, 2, none⟩ = some (.int .u16 t.qa) ∧ W.cell? ⟨q, 3, none⟩ = some (.int .u16 t.qbb) ∧ W.cell? ⟨q, 4, none⟩ = some (.int .u16 t.qm)
theorem tab_wf {w : World} {t : Tb} (h : TbRd w t) {k : Int} (hk : 0 ≤ k ∧ k < 40) : 0 ≤ t.tab k ∧ t.tab k < 18446744073709551616 := by
  unfold Tb.tab
  split
  · rename_i hl
    rw [List.getD_eq_getElem?_getD, List.getElem?_eq_getElem hl]
    exact h.wf _ (List.getElem_mem hl)
  · omega
set_option maxRecDepth 10000 in
set_option maxHeartbeats 4000000 in
theorem tworld {w : World} (t : Tb) (h : TbRd w t) : Calls Try.prog 32 #[.agg t.cells] w fun e w' => ∃ B s w1, e = .returned (.pointer (some ⟨B.wb, 0, none⟩)) ∧ Below w.heap.size w w1 ∧ WS w1 w' B (v0 ⟨t.bits, 8, 3, 1, 16⟩) s ∧ TabOf t.bits t.tab s ∧ s.cnt ≤ 40 ∧ s.n ≤ 40 := by
  have hb1 := below_alloc w (.cells t.cells 90)
  have z := heap_alloc_new w (.cells t.cells 90)
  obtain ⟨c0, c1, c2, c3, c4⟩ := tb_cells z
  have hbt := fun W => tbits (w := W) t h.rb
  have hbb := h.bits
  have hWD := world12v t.bits (by omega)
  have hsz := fun W => size_any t.bits W
  have H := Lib.hid h; have Z := Lib.hid z; have HB1 := Lib.hid hb1; have HBT := Lib.hid hbt; have HSZ := Lib.hid hsz; have HBB := Lib.hid hbb
  clear h z hb1 hbb hsz
  go_enter Try.func32, Try.ntmps32
  go_upto_region 4 with (first
    | (go_at_call 38; refine (hbt _).mono ?_; intro e w2 hh; obtain ⟨hh1, b2⟩ := hh; subst hh1; have HB2 := Lib.hid (HB1.out.trans (b2.mono HB1.out.size)); have Z2 := Lib.hid ((b2.block _ (Array.getElem?_eq_some_iff.1 Z.out).1).trans Z.out); clear b2 hbt Z c0 c1 c2 c3 c4)
    | (go_at_call 23; with_reducible refine (hWD w2).mono ?_; intro e w3 hh; obtain ⟨B, hh1, h3⟩ := hh; subst hh1; have H3 := Lib.hid h3; have Z3 := Lib.hid ((h3.below.block _ (Array.getElem?_eq_some_iff.1 Z2.out).1).trans Z2.out); clear h3 hWD Z2))
  have hN := tsize5 HBB.out
  obtain ⟨N, hNN⟩ : ∃ N : Nat, N = (tsize t.bits).toNat := ⟨_, rfl⟩
  have hNe : tsize t.bits = (N : Int) := by omega
  have HNE := Lib.hid hNe
  have hsz : ∀ W, Calls Try.prog 72 #[.int .i64 t.bits] W fun e w' => e = .returned (.int .i64 (N : Int)) ∧ w' = W := fun W => by rw [← hNe]; exact HSZ.out W
  have HSZ2 := Lib.hid hsz
  have HN := Lib.hid (show N ≤ 32 by omega)
  have HQ2 := Lib.hid (Array.getElem?_eq_some_iff.1 Z3.out).1
  have HT3 := Lib.hid (H.out.below (HB2.out.trans (H3.out.below.mono HB2.out.size)))
  clear hNN hN hNe hsz HSZ
  go_wp2_with (fail)
  go_loopw [4, 5] (fun v4 v5 wr => ∃ (k : Nat) (s : CS), k ≤ N ∧ v4 = .int .i64 k ∧ WS w2 wr B (v0 ⟨t.bits, 8, 3, 1, 16⟩) s ∧ Fr wTy true w3 wr ∧ (∀ b : Nat, b < k → s.val (tagsA t.bits b) = t.tab b) ∧ s.cnt ≤ k ∧ s.n ≤ k + 1) (fun v4 _ _ => N - (intOf v4).toNat)
  case atStart => exact ⟨0, _, Nat.zero_le _, rfl, H3.out, below_fr (Below.refl _ _) _ _, fun b hb => by omega, by have := CS.init_n [(2, tword t.bits 0)]; rw [this.2.1]; simp, by have := CS.init_n [(2, tword t.bits 0)]; rw [this.1]; simp⟩
  case round =>
    obtain ⟨k, s, hk, rfl, h1, f1, h2, h3, h4⟩ := hrel
    have Z4 := f1.cells _ _ _ _ Z3.out rfl
    obtain ⟨c0, c1, c2, c3, c4⟩ := tb_cells Z4
    have HBW := Lib.hid (HB2.out.trans (h1.below.mono HB2.out.size))
    by_cases hlt : k < N
    · have hlt' : (k : Int) < N := by omega
      have HLT := Lib.hid hlt; have HH1 := Lib.hid h1; have HF1 := Lib.hid f1; have HH2 := Lib.hid h2; have HC := Lib.hid (And.intro h3 h4)
      have k32 : k < 32 := by have := HN.out; omega
      have x1 : (k : Int).tmod 255 = k := by rw [Int.tmod_eq_emod_of_nonneg (by omega)]; omega
      have x2 : wrap64 (k : Int) = k := w64_smT _ (by omega)
      have x3 : wrap64 (1 + (k : Int)) = 1 + k := w64_smT _ (by omega)
      have x4 : IntKind.u64.wrap (1 + (k : Int)) = 1 + k := by rw [IntKind.wrap_u64]; omega
      have x5 : IntKind.u64.wrap (16843009 * (1 + (k : Int))) = 16843009 * (1 + (k : Int)) := by rw [IntKind.wrap_u64]; omega
      have hbt := HBT.out; have hsz2 := HSZ2.out
      have K32 := Lib.hid k32
      clear k32 hlt h1 f1 h2 h3 h4 hk
      go_upto_region 8 with (first
        | (go_at_call 38; refine (hbt _).mono ?_; intro e w5 hh; obtain ⟨hh1, b5⟩ := hh; subst hh1; have B5 := Lib.hid b5; clear b5 hbt)
        | (go_at_call 72; refine (hsz2 _).mono ?_; intro e w6 hh; obtain ⟨hh1, hh2⟩ := hh; subst hh1; obtain rfl := hh2.symm; clear hsz2))
      have Z5 := Lib.hid ((B5.out.block _ (Array.getElem?_eq_some_iff.1 Z4).1).trans Z4)
      have H5 := Lib.hid (HH1.out.keep B5.out)
      have F5 := Lib.hid (HF1.out.trans (below_fr B5.out wTy true))
      have T5 := Lib.hid (H.out.below (HBW.out.trans (B5.out.mono HBW.out.size)))
      clear c0 c1 c2 c3 c4 Z4
      obtain ⟨d0, d1, d2, d3, d4⟩ := tb_cells Z5.out
      clear x1 x2 x3 x4 x5
      go_upto_if 27 with (fail)
      go_cut [5] (fun v5 wx => v5 = .int .u64 (t.tab k) ∧ wx = w5)
      case first =>
        by_cases hkl : k < t.tags.length
        · have hkl' : (k : Int) < t.tags.length := by omega
          have hk0 : (0 : Int) ≤ k := by omega
          have e : t.tab k = t.tags[k] := by
            unfold Tb.tab
            rw [Int.toNat_natCast, if_pos hkl, List.getD_eq_getElem?_getD, List.getElem?_eq_getElem hkl]; rfl
          obtain ⟨tb, tof, hta, htc⟩ := T5.out.cell k hkl
          rw [hta] at d1
          rw [← e] at htc
          go_wp2_with (fail)
          go_meet
          exact ⟨by rw [e], rfl⟩
        · have hkl' : ¬ (k : Int) < t.tags.length := by omega
          have e : t.tab k = 16843009 * (1 + (k : Int)) := by
            unfold Tb.tab
            rw [Int.toNat_natCast, if_neg hkl]
          go_wp2_with (fail)
          go_meet
          exact ⟨by rw [e], rfl⟩
      case rest =>
        obtain ⟨rfl, hwx⟩ := hcut
        obtain rfl := hwx.symm
        clear d0 d1 d2 d3 d4
        have hs1 : TWt B.wb B.cb w.heap.size t w5.drew := ⟨H5.out.c0, tb_cells Z5.out⟩
        have hbt := HBT.out
        have htg := fun W => tags_any t.bits (k : Int) W
        have hkt := tab_wf H.out (k := k) (by have := K32.out; omega)
        have hst : Hid (∀ W, Below w5.heap.size w5 W → Calls Try.prog 73 #[.pointer (some ⟨B.cb, 0, none⟩), .int .u64 (tagsA t.bits k), .int .u64 (t.tab k)] W fun e w' => e = .returned (.int .u64 (s.val (tagsA t.bits k))) ∧ WS w2 w' B (v0 ⟨t.bits, 8, 3, 1, 16⟩) (s.acc 2 (tagsA t.bits k) (t.tab k)) ∧ Fr wTy true W w') := fun W hW => (H5.out.keep hW).store (CS.room_of 100 (by have := HC.out; have := K32.out; omega) (by unfold lim; omega)) _ (tagsA_wf _ _) _ (by simp only [Lit.wf, IntKind.min, IntKind.max, IntKind.bits, IntKind.signed]; simp; omega)
        clear hkt
        go_upto_region 10 with (fail)
        go_region_held2 (fun W => TWt B.wb B.cb w.heap.size t W) (assumption) (first
          | (go_at_call 38; refine (hbt _).mono ?_; intro e w6 hh; obtain ⟨hh1, b6⟩ := hh; subst hh1; have b6' := (Below.refl w5.heap.size w5).drew.trans b6; have H6 := Lib.hid (H5.out.keep b6'); have F6 := Lib.hid (F5.out.trans (below_fr b6' wTy true)); have Z6 := Lib.hid ((b6'.block _ (Array.getElem?_eq_some_iff.1 Z5.out).1).trans Z5.out); have s6 : TWt B.wb B.cb w.heap.size t w6 := ⟨H6.out.c0, tb_cells Z6.out⟩; have B6 := Lib.hid b6'; clear b6 b6' hs1 hbt H5 F5)
          | (go_at_call 74; refine (htg _).mono ?_; intro e w7 hh; obtain ⟨hh1, b7⟩ := hh; subst hh1; have F7 := Lib.hid (F6.out.trans (below_fr b7 wTy true)); have Z7 := Lib.hid ((b7.block _ (Array.getElem?_eq_some_iff.1 Z6.out).1).trans Z6.out); have B7 := B6.out.trans (b7.mono B6.out.size); have s7 : TWt B.wb B.cb w.heap.size t w7 := ⟨(H6.out.keep b7).c0, tb_cells Z7.out⟩; have hst7 := hst.out w7 B7; clear b7 B7 B6 s6 H6 htg F6)
          | (go_at_call 73; refine hst7.mono ?_; intro e w8 hh; obtain ⟨hh1, h8, f8⟩ := hh; subst hh1; have H8 := Lib.hid h8; have F8 := Lib.hid (F7.out.trans f8); have s8 : TWt B.wb B.cb w.heap.size t w8 := ⟨h8.c0, tb_cells (f8.cells _ _ _ _ Z7.out rfl)⟩; clear h8 f8 s7 hst7))
        have k32 := K32.out
        go_wp2_with (fail)
        go_roundw
        case measure => have := HLT.out; simp [intOf]; omega
        case rel =>
          refine ⟨k + 1, _, HLT.out, by go_num, H8.out, F8.out, fun b hb => ?_, by show s.cnt + 1 ≤ _; have := HC.out; omega, by show s.n + 1 ≤ _; have := HC.out; omega⟩
          show upd s.val (tagsA t.bits k) (t.tab k) (tagsA t.bits b) = _
          have h12 : 1 ≤ t.bits ∧ t.bits ≤ 12 := by have := HBB.out; omega
          have hne := HNE.out
          have hl := HLT.out
          unfold upd
          rw [hasP_in h12 (by omega), hasP_in h12 (by omega)]
          by_cases e : b = k
          · subst e; rw [if_pos rfl]
          · rw [if_neg (by omega), ← hasP_in h12 (by omega)]
            exact HH2.out b (by omega)
    · have hke : k = N := by omega
      subst hke
      have hlt' : ¬ (k : Int) < k := by omega
      have hbt := HBT.out; have hsz2 := HSZ2.out
      have HH1 := Lib.hid h1; have HH2 := Lib.hid h2; have HC := Lib.hid (And.intro h3 h4)
      clear h1 f1 h2 h3 h4 hk hlt
      go_wp2_with (first
        | (go_at_call 38; refine (hbt _).mono ?_; intro e w5 hh; obtain ⟨hh1, b5⟩ := hh; subst hh1; have B5 := Lib.hid b5; clear b5 hbt)
        | (go_at_call 72; refine (hsz2 _).mono ?_; intro e w6 hh; obtain ⟨hh1, hh2⟩ := hh; subst hh1; obtain rfl := hh2.symm; clear hsz2))
      go_ret
      have h32 := HN.out
      have hC := HC.out
      refine ⟨B, s, w2, rfl, HB2.out, HH1.out.keep B5.out, fun b hb0 hb1 => ?_, by omega, by omega⟩
      rw [HNE.out] at hb1
      have := HH2.out b.toNat (by omega)
      rw [Int.toNat_of_nonneg hb0] at this
      exact this
/-! ## The argument. -/
theorem tb_u8 {x : Int} (h : (Lit.int .u8 x).wf = true) : 0 ≤ x ∧ x < 256 := by
  have hmin : IntKind.u8.min = 0 := rfl
  have hmax : IntKind.u8.max = 255 := rfl
  simp only [Lit.wf, hmin, hmax, Bool.and_eq_true, decide_eq_true_eq] at h
  omega
theorem tb_u16 {x : Int} (h : (Lit.int .u16 x).wf = true) : 0 ≤ x ∧ x < 65536 := by
  have hmin : IntKind.u16.min = 0 := rfl
  have hmax : IntKind.u16.max = 65535 := rfl
  simp only [Lit.wf, hmin, hmax, Bool.and_eq_true, decide_eq_true_eq] at h
  omega
theorem tb_u64 {x : Int} (h : (Lit.int .u64 x).wf = true) : 0 ≤ x ∧ x < 18446744073709551616 := by
  have hmin : IntKind.u64.min = 0 := rfl
  have hmax : IntKind.u64.max = 18446744073709551615 := rfl
  simp only [Lit.wf, hmin, hmax, Bool.and_eq_true, decide_eq_true_eq] at h
  omega
def tbLeaves : List Leaf := [.int .u8, .sl [.int .u64], .int .u16, .int .u16, .int .u16]
theorem leaves_tb : leaves Try.prog 6 90 = some tbLeaves := by kernel_rfl
/-- A slice of words, as it was handed in. -/
theorem u64s_of {w : World} {c : Value} (h : Leaf.holds w (.sl [.int .u64]) c) : ∃ (a : Option Addr) (cap : Nat) (l : List Int), c = .slice a l.length cap ∧ l.length ≤ maxLen ∧ (∀ v ∈ l, 0 ≤ v ∧ v < 18446744073709551616) ∧ ∀ i (hi : i < l.length), ∃ b off, a = some ⟨b, off, none⟩ ∧ w.cell? ⟨b, off + i, none⟩ = some (.int .u64 (l[i])) := by
  obtain ⟨a, len, cap, rfl, h1, h2, h3, h4⟩ := h
  rcases h4 with rfl | ⟨b, off, rfl, hc⟩
  · exact ⟨a, cap, [], rfl, Nat.zero_le _, fun v hv => (by cases hv), fun i hi => absurd hi (Nat.not_lt_zero _)⟩
  · have key : ∀ i, i < len → ∃ n : Int, w.cell? ⟨b, off + i, none⟩ = some (.int .u64 n) ∧ (Lit.int .u64 n).wf = true := fun i hi => by
      obtain ⟨cs, hl, hcs, hh⟩ := hc i hi
      obtain ⟨c0, r, rfl, g0, hh⟩ := allHold_cons hh
      obtain rfl := allHold_nil hh
      obtain ⟨n, rfl, hn⟩ := holds_int g0
      have := hcs 0 (by simp)
      simp only [Leaf.many, Nat.zero_add, Nat.mul_one, Nat.add_zero, List.getElem?_cons_zero] at this
      exact ⟨n, this, hn⟩
    have : ∃ f : Nat → Int, ∀ i, i < len → w.cell? ⟨b, off + i, none⟩ = some (.int .u64 (f i)) ∧ (Lit.int .u64 (f i)).wf = true := by
      refine ⟨fun i => if h : i < len then (key i h).choose else 0, fun i hi => ?_⟩
      simp only [dif_pos hi]
      exact (key i hi).choose_spec
    obtain ⟨f, hf⟩ := this
    refine ⟨some ⟨b, off, none⟩, cap, (List.range len).map f, by simp, by simp; omega, fun v hv => ?_, fun i hi => ?_⟩
    · obtain ⟨i, hi, rfl⟩ := List.mem_map.1 hv
      exact tb_u64 (hf i (List.mem_range.1 hi)).2
    · simp only [List.length_map, List.length_range] at hi
      refine ⟨b, off, rfl, ?_⟩
      rw [(hf i hi).1]
      simp
set_option maxRecDepth 100000 in
theorem tb_open {H : Type} {w : World} {enc : TypeId × Value → H} {base : Nat} {v : Value} {d : DataW H} {p : List MemPlace} (k : DataW.Trod enc Try.prog w 0 (fun _ => true) true 90 v d p) (o : Value.okWide Try.prog w .any base 90 v) : ∃ t : Tb, v = .agg t.cells ∧ TbRd w t := by
  obtain ⟨cs, rfl, -⟩ := Go.WideShapes.okWide_struct Try.underlying90 o
  have h := opened leaves_tb k
  unfold tbLeaves at h
  obtain ⟨c0, r, h0, g0, h⟩ := allHold_cons h
  obtain ⟨c1, r, rfl, g1, h⟩ := allHold_cons h
  obtain ⟨c2, r, rfl, g2, h⟩ := allHold_cons h
  obtain ⟨c3, r, rfl, g3, h⟩ := allHold_cons h
  obtain ⟨c4, r, rfl, g4, h⟩ := allHold_cons h
  obtain rfl := allHold_nil h
  obtain ⟨z0, rfl, k0⟩ := holds_int g0
  obtain ⟨a, cap, l, rfl, l1, l2, l3⟩ := u64s_of g1
  obtain ⟨z2, rfl, k2⟩ := holds_int g2
  obtain ⟨z3, rfl, k3⟩ := holds_int g3
  obtain ⟨z4, rfl, k4⟩ := holds_int g4
  refine ⟨⟨z0, a, cap, l, z2, z3, z4⟩, ?_, l3, l2, l1, tb_u8 k0, tb_u16 k2, tb_u16 k3, tb_u16 k4⟩
  have e : cs = #[.int .u8 z0, .slice a l.length cap, .int .u16 z2, .int .u16 z3, .int .u16 z4] := Array.toList_inj.1 h0
  rw [e]
end Go.Proofs.Ytdabcnjjbfmkaaa

/-
  Layer 16: a Way is made and runs by itself.
-/
namespace Go.Proofs.Ytdabcnjjbfmkaaa
open Go.RowKit Go.Maps TagPure
set_option linter.unusedVariables false

theorem own_loW {w : World} {base b2 e size n : Nat} {v : Value} {xs : List Value} (h : w.ownsRow base e size v n xs) (hl : b2 ≤ base) : w.ownsRow b2 e size v n xs := by
  obtain ⟨h1, h2 | ⟨g, cap, cur, rfl, hb, hg, r⟩⟩ := h
  · exact ⟨h1, .inl h2⟩
  · exact ⟨h1, .inr ⟨g, cap, cur, rfl, Nat.le_trans hl hb, hg, r⟩⟩
theorem WayAt.lower {w : World} {lo lo' xb : Nat} {x : WY} (h : WayAt w lo xb x) (hl : lo' ≤ lo) : WayAt w lo' xb x := by
  obtain ⟨h0, ⟨vb, vw, h1, h2, h3, h4⟩, h5, h6, h7⟩ := h
  exact ⟨Nat.le_trans hl h0, ⟨vb, vw, h1, own_loW h2 hl, own_loW h3 hl, h4⟩, fun m hm => ⟨Nat.le_trans hl (h5 m hm).1, (h5 m hm).2⟩, h6, h7⟩
theorem way_fresh {w0 w w1 : World} {B : WB} {V : WV} {s : CS} {m : Nat} (h : WS w0 w B V s) (hb : Below w.heap.size w w1) (hm : w.heap.size ≤ m) : Besd w1 B V m := by
  refine ⟨fun c => ?_, fun q hq e => ?_⟩
  · obtain ⟨⟨S', hS'⟩, -⟩ := h.own
    obtain ⟨mo, f, hA, rfl⟩ := hS'
    have e : w1.cell? ⟨B.cb, 0, none⟩ = some (.map mo) := by
      have h1 := (hb.block _ (Array.getElem?_eq_some_iff.1 hA.hdr).1).trans hA.hdr
      rw [hcell h1]; rfl
    rw [e] at c
    simp only [Option.some.injEq, Value.map.injEq] at c
    have := (hA.map m c).1.lt
    omega
  · have := (Array.getElem?_eq_some_iff.1 (h.fmk q hq).1).1
    omega
theorem wnew_ok2 {bits most a b : Int} {kb m : Nat} (hb : 1 ≤ bits ∧ bits ≤ 12) (ha : 0 ≤ a ∧ a < tsize bits) (hb2 : 0 ≤ b ∧ b < tsize bits) : WyOk (wnew bits most a b kb m) := by
  have hp := tsize_pos hb
  have hsh := wfirst_sh (N := (tsize bits).toNat) (fun _ _ => 0) (fun _ => 0) (a := a) (b := b) (by omega) (by omega)
  refine ⟨hb, hsh.win, hsh.ahead, fun _ => ?_, fun _ => rfl, Nat.zero_le _, rfl⟩
  show 0 < (wfirst a b).length
  unfold wfirst; split <;> simp
theorem wres_new (bits most a b : Int) (kb m : Nat) (tab : Int → Int) (n : Nat) : wres (wnew bits most a b kb m) tab n = wrun most (tabO bits tab) (tabF tab) n 0 (wfirst a b) := by
  exact if_neg (fun h : false = true => by cases h)
/-- What a Way says behind its run. -/
structure WayR (w : World) (lo xb : Nat) (x : WY) (bits : Int) (r : Nat × List Nd × List (Int × Int) × Bool) : Prop where
  at_ : WayAt w lo xb x
  bits_ : x.bits = bits
  l : x.l = r.2.1
  way : x.way = r.2.2.1
  over : x.over = r.2.2.2
  ok : WyOk x
/-- A run from the start on: it changes nothing that was. -/
theorem newrun {w0 w w1 : World} {B : WB} {V : WV} {s : CS} {xb kb mb : Nat} {bits most a b : Int} {tab : Int → Int} (m : Nat) (hm : m ≤ 1000) (c : Nat) (hc : s.n ≤ c ∧ s.cnt ≤ c) (hcl : c + 1000 < lim) (h : WS w0 w B V s) (hbl : Below w.heap.size w w1) (hx : WayAt w1 w.heap.size xb (wnew bits most a b kb mb)) (hmb : w.heap.size ≤ mb) (hkb : w.heap.size ≤ kb) (hb : 1 ≤ bits ∧ bits ≤ 12) (ha : 0 ≤ a ∧ a < tsize bits) (hb2 : 0 ≤ b ∧ b < tsize bits) (ht : TabOf bits tab s) :
    Calls Try.prog 27 #[.pointer (some ⟨B.wb, 0, none⟩), .iface 92 (.pointer (some ⟨xb, 0, none⟩)), .int .i64 m] w1 fun e w' => e = .returned (.int .i64 ((wrun most (tabO bits tab) (tabF tab) m 0 (wfirst a b)).1 : Nat)) ∧ ∃ (x' : WY) (s' : CS), WS w0 w' B V s' ∧ WayR w' w0.heap.size xb x' bits (wrun most (tabO bits tab) (tabF tab) m 0 (wfirst a b)) ∧ x'.mo = some mb ∧ Besd w' B V mb ∧ s'.val = s.val ∧ s'.cnt = s.cnt + (wrun most (tabO bits tab) (tabF tab) m 0 (wfirst a b)).1 ∧ s'.n = s.n + (wrun most (tabO bits tab) (tabF tab) m 0 (wfirst a b)).1 ∧ Fr wTy true w w' ∧ Fy xb kb w1 w' := by
  have hx2 : WayAt w1 w0.heap.size xb (wnew bits most a b kb mb) := hx.lower h.below.size
  have hlow := hx.low
  refine (wayrun (tab := tab) m hm c hc hcl (h.keep hbl) hx2 rfl (way_fresh h hbl hmb) (wnew_ok2 hb ha hb2) ht).mono ?_
  rw [wres_new]
  intro e w' hh
  obtain ⟨h1, x', s', g1, g2, g3, g4, g5, g6, g7, g8, g9, g10, g11, g12, g13⟩ := hh
  refine ⟨h1, x', s', g1, ⟨g2, g6, g7, g8, g9, g4⟩, g5, g3, g10, g11, g12, ?_, g13⟩
  refine ⟨Nat.le_trans hbl.size g13.size, fun k cs T fr hk hT => ?_, fun c => by cases c⟩
  have hlt := (Array.getElem?_eq_some_iff.1 hk).1
  refine g13.cells k cs T fr ((hbl.block k hlt).trans hk) hT (by omega) ?_
  show k ≠ kb
  omega
/-- A Way is left by what changes nothing that was. -/
theorem WayR.frm {w w' : World} {lo xb : Nat} {x : WY} {bits : Int} {r : Nat × List Nd × List (Int × Int) × Bool} (h : WayR w lo xb x bits r) (hf : Fr wTy true w w') (hm : ∀ m, x.mo = some m → w'.heap[m]? = w.heap[m]?) : WayR w' lo xb x bits r :=
  ⟨h.at_.frm hf w_not_y hm, h.bits_, h.l, h.way, h.over, h.ok⟩
theorem WayR.below {w w' : World} {lo xb : Nat} {x : WY} {bits : Int} {r : Nat × List Nd × List (Int × Int) × Bool} (h : WayR w lo xb x bits r) (hb : Below w.heap.size w w') : WayR w' lo xb x bits r :=
  ⟨h.at_.below hb, h.bits_, h.l, h.way, h.over, h.ok⟩
theorem WayAt.kb_lt {w : World} {lo xb : Nat} {x : WY} (h : WayAt w lo xb x) : x.kb < w.heap.size := by
  have hl := h.lt
  obtain ⟨h0, ⟨vb, vw, h1, h2, h3, h4⟩, -⟩ := h
  rcases h4 with h4 | ⟨-, h4⟩
  · obtain ⟨cur, hc⟩ := own_blk h2 h4
    exact (Array.getElem?_eq_some_iff.1 hc).1
  · rw [h4]; exact hl
/-- A Way behind its run, its map marked. -/
def WayH (w : World) (lo xb : Nat) (V : WV) (bits : Int) (r : Nat × List Nd × List (Int × Int) × Bool) : Prop :=
  ∃ x m es cl, WayR w lo xb x bits r ∧ x.mo = some m ∧ w.heap[m]? = some (.map es cl) ∧ (m, es, cl) ∈ V.fm
section
variable {w0 w w' : World} {B : WB} {V V' : WV} {s s' : CS} {lo xb : Nat} {bits : Int} {r : Nat × List Nd × List (Int × Int) × Bool}
theorem WayH.step (h : WayH w lo xb V bits r) (hw : WS w0 w' B V s') (hf : Fr wTy true w w') : WayH w' lo xb V bits r := by
  obtain ⟨x, m, es, cl, h1, h2, h3, h4⟩ := h
  have e := (hw.fmk _ h4).1
  refine ⟨x, m, es, cl, h1.frm hf (fun m' hm' => ?_), h2, e, h4⟩
  rw [h2] at hm'; cases hm'
  exact e.trans h3.symm
theorem WayH.below (h : WayH w lo xb V bits r) (hb : Below w.heap.size w w') : WayH w' lo xb V bits r := by
  obtain ⟨x, m, es, cl, h1, h2, h3, h4⟩ := h
  exact ⟨x, m, es, cl, h1.below hb, h2, (hb.block _ (Array.getElem?_eq_some_iff.1 h3).1).trans h3, h4⟩
theorem WayH.mono (h : WayH w lo xb V bits r) (hs : ∀ q ∈ V.fm, q ∈ V'.fm) : WayH w lo xb V' bits r := by
  obtain ⟨x, m, es, cl, h1, h2, h3, h4⟩ := h
  exact ⟨x, m, es, cl, h1, h2, h3, hs _ h4⟩
theorem WayH.got (h : WayH w lo xb V bits r) (hl : r.2.2.1.length ≤ 10000) : Calls Try.prog 34 #[.pointer (some ⟨xb, 0, none⟩)] w fun e w' => ∃ v, e = .returned v ∧ SpN w' w.heap.size v bits r.2.2.1 ∧ Below w.heap.size w w' := by
  obtain ⟨x, m, es, cl, h1, h2, h3, h4⟩ := h
  have := wgot h1.at_ (by rw [h1.way]; omega)
  rw [h1.bits_, h1.way] at this
  exact this
theorem WayH.nodes (h : WayH w lo xb V bits r) : Calls Try.prog 35 #[.pointer (some ⟨xb, 0, none⟩)] w fun e w' => e = .returned (.int .i64 r.2.1.length) ∧ w' = w := by
  obtain ⟨x, m, es, cl, h1, h2, h3, h4⟩ := h
  have := wnodes h1.at_
  rw [h1.l] at this
  exact this
theorem WayH.isover (h : WayH w lo xb V bits r) : Calls Try.prog 78 #[.pointer (some ⟨xb, 0, none⟩)] w fun e w' => e = .returned (.bool r.2.2.2) ∧ w' = w := by
  obtain ⟨x, m, es, cl, h1, h2, h3, h4⟩ := h
  have := wover h1.at_
  rw [h1.ok.made, h1.over, show (!true || r.2.2.2) = r.2.2.2 from by cases r.2.2.2 <;> rfl] at this
  exact this
end
abbrev WV.plus (V : WV) (p : Nat × Array MapEntry × Nat) : WV := { V with fm := p :: V.fm }
theorem newrunH {w0 w w1 : World} {B : WB} {V : WV} {s : CS} {xb kb mb : Nat} {bits most a b : Int} {tab : Int → Int} (m : Nat) (hm : m ≤ 1000) (c : Nat) (hc : s.n ≤ c ∧ s.cnt ≤ c) (hcl : c + 1000 < lim) (h : WS w0 w B V s) (hbl : Below w.heap.size w w1) (hx : WayAt w1 w.heap.size xb (wnew bits most a b kb mb)) (hmb : w.heap.size ≤ mb) (hkb : w.heap.size ≤ kb) (hb : 1 ≤ bits ∧ bits ≤ 12) (ha : 0 ≤ a ∧ a < tsize bits) (hb2 : 0 ≤ b ∧ b < tsize bits) (ht : TabOf bits tab s) (r : Nat × List Nd × List (Int × Int) × Bool) (hr : r = wrun most (tabO bits tab) (tabF tab) m 0 (wfirst a b)) :
    Calls Try.prog 27 #[.pointer (some ⟨B.wb, 0, none⟩), .iface 92 (.pointer (some ⟨xb, 0, none⟩)), .int .i64 m] w1 fun e w' => e = .returned (.int .i64 (r.1 : Nat)) ∧ ∃ p s', WS w0 w' B (V.plus p) s' ∧ WayH w' w0.heap.size xb (V.plus p) bits r ∧ s'.val = s.val ∧ s'.cnt = s.cnt + r.1 ∧ s'.n = s.n + r.1 ∧ Fr wTy true w w' ∧ Fy xb kb w1 w' := by
  subst hr
  refine (newrun (tab := tab) m hm c hc hcl h hbl hx hmb hkb hb ha hb2 ht).mono fun e w' hh => ?_
  obtain ⟨h1, x', s', g1, g2, g3, g4, g5, g6, g7, g8, g9⟩ := hh
  obtain ⟨es, cl, hmb2⟩ := (g2.at_.mp mb g3).2.blk
  exact ⟨h1, (mb, es, cl), s', g1.more hmb2 g4.ne, ⟨x', mb, es, cl, g2, g3, hmb2, by simp⟩, g5, g6, g7, g8, g9⟩
end Go.Proofs.Ytdabcnjjbfmkaaa

/-
  Layer 16's example.
-/
namespace Go.Proofs.Ytdabcnjjbfmkaaa
open Go.RowKit Go.Maps TagPure
set_option linter.unusedVariables false

def tab16 : Int → Int := fun k => if k = 1 ∨ k = 2 then 151587081 else 0
theorem ex16a : wrun 9 (tabO 2 fun _ => 0) (tabF fun _ => 0) 9 0 (wfirst 1 2) = (1, [(1, -1, -1), (2, -1, -1)], [(1, 0)], true) := by kernel_rfl
theorem ex16b : wrun 9 (tabO 2 tab16) (tabF tab16) 9 0 (wfirst 1 2) = (3, [(1, -1, -1), (2, -1, -1), (0, 0, 0), (3, 1, 0)], [(1, 0), (0, 0)], true) := by kernel_rfl
theorem ex16c : (wrun 2 (tabO 2 tab16) (tabF tab16) 9 0 (wfirst 1 2)).1 = 2 ∧ (wrun 2 (tabO 2 tab16) (tabF tab16) 9 0 (wfirst 1 2)).2.2.1 = [] := ⟨by kernel_rfl, by kernel_rfl⟩
theorem init_valP (t a : Int) : (CS.init [(2, t)]).val a = if a = 2 then t else 0 := by
  show upd (fun _ => (0 : Int)) 2 t a = _
  unfold upd; rfl
theorem tab_init (b t : Int) (hb : 1 ≤ b ∧ b ≤ 12) : TabOf b (fun _ => 0) (CS.init [(2, t)]) := fun k h0 h1 => by
  rw [init_valP, hasP_in hb ⟨h0, h1⟩, if_neg (by omega)]
abbrev TWc16 (wb cb : Nat) (W : World) : Prop := W.cell? ⟨wb, 0, none⟩ = some (.pointer (some ⟨cb, 0, none⟩))
set_option maxRecDepth 10000 in
set_option maxHeartbeats 4000000 in
theorem lives16 (w : World) : Calls Try.prog 36 #[] w fun e w' => e = .returned (.bool true) ∧ Below w.heap.size w w' := by
  have hNW := Lib.hid (fun W most => newway_ok 2 1 2 most (by decide) (by decide) W)
  have htg := fun (b : Int) W => tags_any 2 b W
  have HTG := Lib.hid htg
  clear htg
  go_enter Try.func36, Try.ntmps36
  go_upto_region 4 with (go_at_call 23; refine (world12v 2 (by decide) w).mono ?_; intro e w1 hh; obtain ⟨B, hh1, h1⟩ := hh; subst hh1; have H1 := Lib.hid h1; clear h1)
  obtain ⟨s1, hs1⟩ : ∃ s1, s1 = CS.init [(2, tword 2 0)] := ⟨_, rfl⟩
  have ht1 : TabOf 2 (fun _ => 0) s1 := by rw [hs1]; exact tab_init 2 _ (by decide)
  have hc1 : s1.n ≤ 1 ∧ s1.cnt ≤ 1 := by have h := CS.init_n [(2, tword 2 0)]; rw [hs1, h.1, h.2.1]; simp
  rw [← hs1] at H1
  have HT1 := Lib.hid ht1; have HC1 := Lib.hid hc1
  clear hs1 ht1 hc1
  have n1 := hNW.out w1 9
  go_upto_region 7 with (first
    | (go_at_call 76; refine n1.mono ?_; intro e w2 hh; obtain ⟨xb, kb, mb, hh1, hx, bx, hmb, hkb⟩ := hh; subst hh1; have hr2 := newrunH 9 (by decide) 1 HC1.out (by unfold lim; decide) H1.out bx hx hmb hkb (by decide) (by decide) (by decide) HT1.out _ rfl; rw [ex16a] at hr2; clear hx bx hmb hkb n1)
    | (go_at_call 27; refine hr2.mono ?_; intro e w3 hh; obtain ⟨hh1, p3, s3, h3, x3, v3, c3, n3, f3, -⟩ := hh; subst hh1; have hg3 := x3.got (by decide); have H3 := Lib.hid h3; have X3 := Lib.hid x3; have C3 := Lib.hid (And.intro v3 (And.intro c3 n3)); clear h3 x3 v3 c3 n3 f3 hr2)
    | (go_at_call 34; refine hg3.mono ?_; intro e w4 hh; obtain ⟨va, hh1, a4, b4⟩ := hh; subst hh1; have H4 := Lib.hid (H3.out.keep b4); have X4 := Lib.hid (X3.out.below b4); have A4 := Lib.hid a4; clear a4 b4 hg3 H3 X3))
  have hst4 : Hid (∀ W, Below w4.heap.size w4 W → Calls Try.prog 73 #[.pointer (some ⟨B.cb, 0, none⟩), .int .u64 (tagsA 2 1), .int .u64 151587081] W fun e w' => e = .returned (.int .u64 (s3.val (tagsA 2 1))) ∧ WS w w' B ((v0 ⟨2, 8, 3, 1, 16⟩).plus p3) (s3.acc 2 (tagsA 2 1) 151587081) ∧ Fr wTy true W w') := fun W hW => (H4.out.keep hW).store (CS.room_of 100 (by have := HC1.out; have := C3.out; omega) (by unfold lim; omega)) _ (tagsA_wf _ _) _ (by decide)
  have hs4 : TWc16 B.wb B.cb w4.drew := H4.out.c0
  have htg := HTG.out 1
  go_region_held2 (fun W => TWc16 B.wb B.cb W) (assumption) (first
    | (go_at_call 74; refine (htg _).mono ?_; intro e w5 hh; obtain ⟨hh1, b5⟩ := hh; subst hh1; have b5' := (Below.refl w4.heap.size w4).drew.trans b5; have s5 : TWc16 B.wb B.cb w5 := (H4.out.keep b5').c0; have X5 := Lib.hid (X4.out.below b5'); have A5 := Lib.hid (A4.out.below b5'); have hst5 := hst4.out w5 b5'; clear b5 b5' hs4 htg hst4 X4 A4)
    | (go_at_call 73; refine hst5.mono ?_; intro e w6 hh; obtain ⟨hh1, h6, f6⟩ := hh; subst hh1; have H6 := Lib.hid h6; have X6 := Lib.hid (X5.out.step h6 f6); have A6 := Lib.hid (A5.out.fr f6 rfl); have s6 : TWc16 B.wb B.cb w6 := h6.c0; clear h6 f6 hst5 s5 X5 A5))
  obtain ⟨s7, hs7⟩ : ∃ s7, s7 = s3.acc 2 (tagsA 2 1) 151587081 := ⟨_, rfl⟩
  rw [← hs7] at H6
  have S7 := Lib.hid hs7
  have hs6 : TWc16 B.wb B.cb w6.drew := H6.out.c0
  clear s6 hs7 H4
  have hst6 : Hid (∀ W, Below w6.heap.size w6 W → Calls Try.prog 73 #[.pointer (some ⟨B.cb, 0, none⟩), .int .u64 (tagsA 2 2), .int .u64 151587081] W fun e w' => e = .returned (.int .u64 (s7.val (tagsA 2 2))) ∧ WS w w' B ((v0 ⟨2, 8, 3, 1, 16⟩).plus p3) (s7.acc 2 (tagsA 2 2) 151587081) ∧ Fr wTy true W w') := fun W hW => (H6.out.keep hW).store (CS.room_of 100 (by rw [S7.out]; show s3.n + 1 ≤ 100 ∧ s3.cnt + 1 ≤ 100; have := HC1.out; have := C3.out; omega) (by unfold lim; omega)) _ (tagsA_wf _ _) _ (by decide)
  have htg2 := HTG.out 2
  go_upto_region 8 with (fail)
  go_region_held2 (fun W => TWc16 B.wb B.cb W) (assumption) (first
    | (go_at_call 74; refine (htg2 _).mono ?_; intro e w7 hh; obtain ⟨hh1, b7⟩ := hh; subst hh1; have b7' := (Below.refl w6.heap.size w6).drew.trans b7; have s7' : TWc16 B.wb B.cb w7 := (H6.out.keep b7').c0; have X7 := Lib.hid (X6.out.below b7'); have A7 := Lib.hid (A6.out.below b7'); have hst7 := hst6.out w7 b7'; clear b7 b7' hs6 htg2 hst6 X6 A6)
    | (go_at_call 73; refine hst7.mono ?_; intro e w8 hh; obtain ⟨hh1, h8, f8⟩ := hh; subst hh1; have H8 := Lib.hid h8; have X8 := Lib.hid (X7.out.step h8 f8); have A8 := Lib.hid (A7.out.fr f8 rfl); have s8' : TWc16 B.wb B.cb w8 := h8.c0; clear h8 f8 hst7 s7' X7 A7))
  obtain ⟨s8, hs8⟩ : ∃ s8, s8 = s7.acc 2 (tagsA 2 2) 151587081 := ⟨_, rfl⟩
  rw [← hs8] at H8
  have ht8 : TabOf 2 tab16 s8 := fun b h0 h1 => by
    have t4 : tsize 2 = 4 := by decide
    have e1 : tagsA 2 1 = 4136 := by decide
    have e2 : tagsA 2 2 = 4144 := by decide
    rw [hasP_in (by decide) ⟨h0, h1⟩, hs8, S7.out]
    show upd (upd s3.val (tagsA 2 1) 151587081) (tagsA 2 2) 151587081 _ = _
    rw [C3.out.1, e1, e2, t4]
    have h1' : b < 4 := by omega
    have : b = 0 ∨ b = 1 ∨ b = 2 ∨ b = 3 := by omega
    have hz := HT1.out b h0 h1
    rw [hasP_in (by decide) ⟨h0, h1⟩, t4] at hz
    unfold upd tab16
    rcases this with rfl | rfl | rfl | rfl
    · simp; exact hz
    · simp
    · simp
    · simp; exact hz
  have hc8 : s8.n ≤ 10 ∧ s8.cnt ≤ 10 := by rw [hs8, S7.out]; show s3.n + 1 + 1 ≤ 10 ∧ s3.cnt + 1 + 1 ≤ 10; have := HC1.out; have := C3.out; omega
  have HT8 := Lib.hid ht8; have HC8 := Lib.hid hc8
  clear s8' hs8 ht8 hc8 H6 S7 HT1 HC1 C3
  have n8 := hNW.out w8 9
  go_upto_region 12 with (first
    | (go_at_call 76; refine n8.mono ?_; intro e w9 hh; obtain ⟨yb, kb9, mb9, hh1, hx, bx, hmb, hkb⟩ := hh; subst hh1; have hr9 := newrunH 9 (by decide) 10 HC8.out (by unfold lim; decide) H8.out bx hx hmb hkb (by decide) (by decide) (by decide) HT8.out _ rfl; rw [ex16b] at hr9; clear hx bx hmb hkb n8)
    | (go_at_call 27; refine hr9.mono ?_; intro e w10 hh; obtain ⟨hh1, p10, s10, h10, y10, v10, c10, n10, f10, -⟩ := hh; subst hh1; have hg10 := y10.got (by decide); have H10 := Lib.hid h10; have Y10 := Lib.hid y10; have X10 := Lib.hid ((X8.out.mono (fun q hq => List.mem_cons_of_mem _ hq)).step h10 f10); have A10 := Lib.hid (A8.out.fr f10 rfl); have C10 := Lib.hid (And.intro v10 (And.intro c10 n10)); clear h10 y10 v10 c10 n10 f10 hr9 H8 X8 A8)
    | (go_at_call 34; refine hg10.mono ?_; intro e w11 hh; obtain ⟨vc, hh1, a11, b11⟩ := hh; subst hh1; have H11 := Lib.hid (H10.out.keep b11); have X11 := Lib.hid (X10.out.below b11); have Y11 := Lib.hid (Y10.out.below b11); have A11 := Lib.hid (A10.out.below b11); have D11 := Lib.hid a11; clear a11 b11 hg10 H10 X10 Y10 A10))
  have ht11 : TabOf 2 tab16 s10 := fun b h0 h1 => by rw [C10.out.1]; exact HT8.out b h0 h1
  have HT11 := Lib.hid ht11
  have HC11 := Lib.hid (show s10.n ≤ 20 ∧ s10.cnt ≤ 20 by have a1 : s10.cnt = s8.cnt + 3 := C10.out.2.1; have a2 : s10.n = s8.n + 3 := C10.out.2.2; have := HC8.out; omega)
  clear ht11 HT8 HC8 C10
  have n11 := hNW.out w11 2
  obtain ⟨va1, rfl, -⟩ := A11.out.sl
  obtain ⟨vc1, rfl, -⟩ := D11.out.sl
  go_upto_region 14 with (first
    | (go_at_call 76; refine n11.mono ?_; intro e w12 hh; obtain ⟨zb, kb12, mb12, hh1, hx, bx, hmb, hkb⟩ := hh; subst hh1; have hr12 := newrunH 9 (by decide) 20 HC11.out (by unfold lim; decide) H11.out bx hx hmb hkb (by decide) (by decide) (by decide) HT11.out _ rfl; rw [ex16c.1] at hr12; clear hx bx hmb hkb n11)
    | (go_at_call 27; refine hr12.mono ?_; intro e w13 hh; obtain ⟨hh1, p13, s13, h13, z13, v13, c13, n13, f13, -⟩ := hh; subst hh1; have H13 := Lib.hid h13; have hg13 := z13.got (by rw [ex16c.2]; decide); rw [ex16c.2] at hg13; have X13 := Lib.hid ((X11.out.mono (fun q hq => List.mem_cons_of_mem _ hq)).step h13 f13); have Y13 := Lib.hid ((Y11.out.mono (fun q hq => List.mem_cons_of_mem _ hq)).step h13 f13); have A13 := Lib.hid (A11.out.fr f13 rfl); have D13 := Lib.hid (D11.out.fr f13 rfl); clear h13 z13 v13 c13 n13 f13 hr12 H11 X11 Y11 A11 D11))
  go_upto_region 16 with (go_at_call 34; refine hg13.mono ?_; intro e w14 hh; obtain ⟨vz, hh1, a14, b14⟩ := hh; subst hh1; obtain ⟨vz1, rfl, -⟩ := a14.sl; have H14 := Lib.hid (H13.out.keep b14); have X14 := Lib.hid (X13.out.below b14); have Y14 := Lib.hid (Y13.out.below b14); have A14 := Lib.hid (A13.out.below b14); have D14 := Lib.hid (D13.out.below b14); clear b14 a14 hg13 H13 X13 Y13 A13 D13)
  go_upto_region 17 with (fail)
  have hb15 := below_alloc w14 (.cells #[.int .i64 2, .int .i64 1, .int .i64 0] 46)
  have hz15 := heap_alloc_new w14 (.cells #[.int .i64 2, .int .i64 1, .int .i64 0] 46)
  have X15 := Lib.hid (X14.out.below hb15); have Y15 := Lib.hid (Y14.out.below hb15)
  have A15 := A14.out.below hb15; have D15 := D14.out.below hb15
  have H15 := Lib.hid (H14.out.keep hb15)
  clear hb15 H14 X14 Y14 A14 D14
  change Code.wp _ _ _ _ (w14.alloc (.cells #[.int .i64 2, .int .i64 1, .int .i64 0] 46))
  generalize w14.alloc (.cells #[.int .i64 2, .int .i64 1, .int .i64 0] 46) = w15 at *
  generalize w14.heap.size = tr at *
  obtain ⟨ga, e1, -, -, a0, a1, a2, -⟩ := A15.at 0 (by decide)
  obtain ⟨gd, e2, -, -, d0, d1, d2, -⟩ := D15.at 0 (by decide)
  obtain ⟨gd', e3, -, -, d3, d4, d5, -⟩ := D15.at 1 (by decide)
  simp only [Value.slice.injEq] at e1 e2 e3
  obtain ⟨rfl, -, -⟩ := e1
  obtain ⟨rfl, -, -⟩ := e2
  obtain ⟨e3, -, -⟩ := e3
  simp only [Option.some.injEq, Addr.mk.injEq, and_true] at e3
  subst e3
  simp only [Nat.zero_mul, Nat.one_mul] at a0 a1 a2 d0 d1 d2 d3 d4 d5
  have t0 : w15.cell? ⟨tr, 0, none⟩ = some (.int .i64 2) := hcell hz15 0
  have t1 : w15.cell? ⟨tr, 1, none⟩ = some (.int .i64 1) := hcell hz15 1
  have t2 : w15.cell? ⟨tr, 2, none⟩ = some (.int .i64 0) := hcell hz15 2
  have x0 := fun st : ExtW w15 => st.cell a0; have x1 := fun st : ExtW w15 => st.cell a1; have x2 := fun st : ExtW w15 => st.cell a2
  have x3 := fun st : ExtW w15 => st.cell d0; have x4 := fun st : ExtW w15 => st.cell d1; have x5 := fun st : ExtW w15 => st.cell d2
  have x6 := fun st : ExtW w15 => st.cell d3; have x7 := fun st : ExtW w15 => st.cell d4; have x8 := fun st : ExtW w15 => st.cell d5
  have x9 := fun st : ExtW w15 => st.cell t0; have x10 := fun st : ExtW w15 => st.cell t1; have x11 := fun st : ExtW w15 => st.cell t2
  have hnx : ∀ st : ExtW w15, Calls Try.prog 35 #[.pointer (some ⟨xb, 0, none⟩)] st.val fun e w' => e = .returned (.int .i64 2) ∧ Below st.val.heap.size st.val w' := fun st => ((X15.out.below st.below).nodes).mono fun e w' hh => ⟨hh.1, hh.2 ▸ Below.refl _ _⟩
  have hny : ∀ st : ExtW w15, Calls Try.prog 35 #[.pointer (some ⟨yb, 0, none⟩)] st.val fun e w' => e = .returned (.int .i64 4) ∧ Below st.val.heap.size st.val w' := fun st => ((Y15.out.below st.below).nodes).mono fun e w' hh => ⟨hh.1, hh.2 ▸ Below.refl _ _⟩
  clear a0 a1 a2 d0 d1 d2 d3 d4 d5 t0 t1 t2 A15 D15 hz15
  refine wp_region_ext (by kernel_rfl) (by kernel_rfl) ?_
  repeat (go_big_quiet_step (first
    | (go_at_call 35; with_reducible refine calls_ext (hnx _))
    | (go_at_call 35; with_reducible refine calls_ext (hny _))))
  refine wpQuiet_nil ?_
  rintro W ⟨⟨W2, hW⟩, rfl⟩
  have H16 := Lib.hid (H15.out.keep hW)
  clear x0 x1 x2 x3 x4 x5 x6 x7 x8 x9 x10 x11 hnx hny hW
  go_wp2_with (fail)
  go_ret
  exact ⟨rfl, H16.out.below⟩
end Go.Proofs.Ytdabcnjjbfmkaaa

/-
  Layer 16: a table's run.
-/
namespace Go.Proofs.Ytdabcnjjbfmkaaa
open Go.RowKit Go.Maps TagPure
set_option linter.unusedVariables false

theorem wfrom_atW {w : World} {base : Nat} {a : Option Addr} {ws : List (Int × Int)} (h : WFrom w base a ws 0) (k : Nat) (hk : k < ws.length) : ∃ g, a = some ⟨g, 0, none⟩ ∧ w.cell? ⟨g, k * 2, none⟩ = some (.int .u64 (ws[k]).1) ∧ w.cell? ⟨g, k * 2 + 1, none⟩ = some (.int .u64 (ws[k]).2) := by
  rcases h with h | ⟨g, cur, rfl, _, hg, hc⟩
  · omega
  · obtain ⟨c1, c2⟩ := hc k (Nat.zero_le _) hk
    exact ⟨g, rfl, (hcell hg _).trans c1, (hcell hg _).trans c2⟩
theorem wfrom_frW {w w' : World} {base : Nat} {a : Option Addr} {ws : List (Int × Int)} (h : WFrom w base a ws 0) (hf : Fr wTy true w w') : WFrom w' base a ws 0 := by
  rcases h with h | ⟨g, cur, h1, h2, h3, h4⟩
  · exact .inl h
  · exact .inr ⟨g, cur, h1, h2, hf.cells _ _ _ _ h3 rfl, h4⟩
theorem wfrom_fyW {w w' : World} {base b c : Nat} {a : Option Addr} {ws : List (Int × Int)} (h : WFrom w base a ws 0) (hf : Fy b c w w') (hb : b < base) (hc : c < base) : WFrom w' base a ws 0 := by
  rcases h with h | ⟨g, cur, h1, h2, h3, h4⟩
  · exact .inl h
  · exact .inr ⟨g, cur, h1, h2, hf.cells _ _ _ _ h3 rfl (by omega) (by omega), h4⟩
abbrev TRn (wb cb : Nat) (W : World) : Prop := W.cell? ⟨wb, 0, none⟩ = some (.pointer (some ⟨cb, 0, none⟩))
set_option maxRecDepth 10000 in
set_option maxHeartbeats 4000000 in
theorem trun {w0 w : World} {B : WB} {V : WV} {s : CS} (t : Tb) (hrd : TbRd w t) (c : Nat) (hc : s.n ≤ c ∧ s.cnt ≤ c) (hcl : c ≤ 500000) (h : WS w0 w B V s) (ht : TabOf t.bits t.tab s) (most : Int) (r : Nat × List Nd × List (Int × Int) × Bool) (hr : r = wrun most (tabO t.bits t.tab) (tabF t.tab) 99 0 (wfirst t.a t.b)) :
    Calls Try.prog 33 #[.agg t.cells, .pointer (some ⟨B.wb, 0, none⟩), .int .i64 most] w fun e w' => ∃ xb p s', e = .returned (.tuple #[.pointer (some ⟨xb, 0, none⟩), .bool true]) ∧ WS w0 w' B (V.plus p) s' ∧ WayH w' w0.heap.size xb (V.plus p) t.bits r ∧ s'.val = s.val ∧ (s'.n ≤ c + 99 ∧ s'.cnt ≤ c + 99) ∧ Fr wTy true w w' := by
  have hb1 := below_alloc w (.cells t.cells 90)
  have z := heap_alloc_new w (.cells t.cells 90)
  have hbb := hrd.bits
  have hb12 : 1 ≤ t.bits ∧ t.bits ≤ 12 := by omega
  have hab := hrd.ab
  have hts := tsize5 hbb
  -- the plain law
  have hst := wrun_steps (tabF t.tab) (tab_ok t.bits hb12 t.tab) most 99 0 (wfirst t.a t.b) (wfirst_sh (N := (tsize t.bits).toNat) (tabO t.bits t.tab) (tabF t.tab) (by omega) (by omega)).win (Nat.zero_le _) (by omega)
  rw [← hr] at hst
  obtain ⟨hov, hnn, hwin⟩ := hst
  have hr99 : r.1 ≤ 99 := by have := hwin.len; omega
  have hn0 : (r.1 : Int) ≤ (r.2.1.length : Int) := by omega
  have hn1 := Lib.hid (show ¬ ((r.2.1.length : Int) < (r.1 : Int)) by omega)
  have H := Lib.hid h; have Z := Lib.hid z; have HB1 := Lib.hid hb1; have HRD := Lib.hid hrd; have HC := Lib.hid hc; have HCL := Lib.hid hcl; have HT := Lib.hid ht; have HR := Lib.hid hr; have HAB := Lib.hid hab; have H12 := Lib.hid hb12; have HOV := Lib.hid hov; have HR99 := Lib.hid hr99; have HN0 := Lib.hid hn0
  obtain ⟨c0, c1, c2, c3, c4⟩ := tb_cells z
  have hen := fun W (hb : Below w.heap.size w W) => tends (w := W) t (hrd.below hb)
  have hbt := fun W => tbits (w := W) t hrd.rb
  have HEN := Lib.hid hen; have HBT := Lib.hid hbt
  clear h z hb1 hrd hc hcl ht hr hab hb12 hts hbb hov hnn hwin hr99 hn0 hen hbt
  have hen1 := HEN.out _ HB1.out
  go_enter Try.func33, Try.ntmps33
  go_upto_region 2 with (go_at_call 75; refine hen1.mono ?_; intro e w2 hh; obtain ⟨hh1, b2⟩ := hh; subst hh1; have Z2 := Lib.hid ((b2.block _ (Array.getElem?_eq_some_iff.1 Z.out).1).trans Z.out); have HB2 := Lib.hid (HB1.out.trans (b2.mono HB1.out.size)); clear b2 hen1 Z c0 c1 c2 c3 c4)
  obtain ⟨c0, c1, c2, c3, c4⟩ := tb_cells Z2.out
  have hbt := HBT.out
  have hnw := fun W => newway_ok t.bits t.a t.b most HAB.out.1 HAB.out.2 W
  go_upto_region 3 with (first
    | (go_at_call 38; refine (hbt _).mono ?_; intro e w3 hh; obtain ⟨hh1, b3⟩ := hh; subst hh1; have HB3 := Lib.hid (HB2.out.trans (b3.mono HB2.out.size)); clear b3 hbt HB2)
    | (go_at_call 76; refine (hnw _).mono ?_; intro e w4 hh; obtain ⟨xb, kb, mb, hh1, hx, bx, hmb, hkb⟩ := hh; subst hh1; have HX := Lib.hid hx; have BX := Lib.hid bx; have HMK := Lib.hid (And.intro hmb hkb); clear hx bx hmb hkb hnw))
  have H3 := Lib.hid (H.out.keep HB3.out)
  have H4 := Lib.hid (H3.out.keep BX.out)
  have k0 := H4.out.c0
  have hwd := words_own H4.out.own (by have := HC.out; have := HCL.out; omega)
  clear c0 c1 c2 c3 c4
  go_upto_region 5 with (first
    | (go_at_call 77; refine hwd.mono ?_; intro e w5 hh; obtain ⟨ga, ws, hh1, hws, b5⟩ := hh; subst hh1; have W5 := Lib.hid hws; have H5 := Lib.hid (H4.out.keep b5); have B5 := Lib.hid b5; have hs5 := H5.out.steps5; clear hws b5 hwd k0 H4)
    | (go_at_call 10; refine hs5.mono ?_; intro e w6 hh; obtain ⟨hh1, hh2⟩ := hh; subst hh1; obtain rfl := hh2.symm; clear hs5))
  have BX5 := BX.out.trans (B5.out.mono BX.out.size)
  have hrun := newrunH (tab := t.tab) 99 (by decide) c HC.out (by have := HCL.out; unfold lim; omega) H3.out BX5 (HX.out.below B5.out) HMK.out.1 HMK.out.2 H12.out HAB.out.1 HAB.out.2 HT.out r HR.out
  clear BX5
  go_upto_region 7 with (first
    | (go_at_call 27; refine hrun.mono ?_; intro e w7 hh; obtain ⟨hh1, p7, s7, h7, x7, v7, c7, n7, f7, y7⟩ := hh; subst hh1; have H7 := Lib.hid h7; have X7 := Lib.hid x7; have C7 := Lib.hid (And.intro v7 (And.intro c7 n7)); have F7 := Lib.hid ((below_fr HB3.out wTy true).trans f7); have W7 : Hid (WFrom w7 w4.heap.size ga ws 0) := wfrom_fyW W5.out.row y7 HX.out.lt HX.out.kb_lt; have k7 := h7.c0; have hwd7 := words_own h7.own (by have := HC.out; have := HCL.out; have := HR99.out; omega); clear h7 x7 v7 c7 n7 f7 y7 hrun H5 B5 BX HX)
    | (go_at_call 77; refine hwd7.mono ?_; intro e w8 hh; obtain ⟨gb, ws2, hh1, hws, b8⟩ := hh; subst hh1; have W8 := Lib.hid hws; have W8a := Lib.hid (wfrom_below W7.out b8); have H8 := Lib.hid (H7.out.keep b8); have X8 := Lib.hid (X7.out.below b8); have F8 := Lib.hid (F7.out.trans (below_fr b8 wTy true)); clear hws b8 hwd7 k7 H7 X7 F7 W7))
  have hwe : ws2 = ws := ris_eq W8.out.ris W5.out.ris W8.out.nz W5.out.nz fun a => by rw [W8.out.look, W5.out.look, C7.out.1]
  subst hwe
  have ho8 := X8.out.isover
  rw [HOV.out] at ho8
  have hs8 := H8.out.steps5
  have hcn : (s7.cnt : Int) = (s.cnt : Int) + r.1 := by have := C7.out.2.1; omega
  rw [hcn] at hs8
  have hn8 := X8.out.nodes
  have hlim : wrap64 ((s.cnt : Int) + r.1) = (s.cnt : Int) + r.1 := IntWalk.wrap64_in _ (by have := HC.out; have := HCL.out; have := HR99.out; omega)
  have hn1' := hn1.out
  clear hcn
  go_upto_region 9 with (first
    | (go_at_call 78; refine ho8.mono ?_; intro e w9 hh; obtain ⟨hh1, hh2⟩ := hh; subst hh1; obtain rfl := hh2.symm; clear ho8)
    | (go_at_call 10; refine hs8.mono ?_; intro e w9 hh; obtain ⟨hh1, hh2⟩ := hh; subst hh1; obtain rfl := hh2.symm; clear hs8)
    | (go_at_call 35; refine hn8.mono ?_; intro e w9 hh; obtain ⟨hh1, hh2⟩ := hh; subst hh1; obtain rfl := hh2.symm; clear hn8))
  have W8r := Lib.hid W8.out.row
  have HWM := Lib.hid (show ws2.length ≤ 1000000 from W8.out.most)
  clear hlim hn1' W5 W8
  go_wp2_with fail
  go_loopw [15] (fun i wr => ∃ k2 : Nat, k2 ≤ ws2.length ∧ i = .int .i64 k2 ∧ Below w8.heap.size w8 wr) (fun i _ => ws2.length - (intOf i).toNat)
  case atStart => exact ⟨0, by omega, rfl, Below.refl _ _⟩
  case round =>
    obtain ⟨k2, hk2, rfl, hB2⟩ := hrel
    by_cases hlt2 : k2 < ws2.length
    · have hlt2' : (k2 : Int) < ws2.length := by omega
      have hk20 : (0 : Int) ≤ k2 := by omega
      obtain ⟨ga1, rfl, z0, z1⟩ := wfrom_atW (wfrom_below W8a.out hB2) k2 hlt2
      obtain ⟨gb1, rfl, z2, z3⟩ := wfrom_atW (wfrom_below W8r.out hB2) k2 hlt2
      generalize (ws2[k2]).1 = va at *
      generalize (ws2[k2]).2 = vb at *
      have x0 := fun st : ExtW wr => st.cell z0
      have x1 := fun st : ExtW wr => st.cell z1
      have x2 := fun st : ExtW wr => st.cell z2
      have x3 := fun st : ExtW wr => st.cell z3
      have HB2w := Lib.hid hB2; have HLT2 := Lib.hid hlt2
      clear z0 z1 z2 z3 hB2 hlt2 hk2
      go_upto_region 12 with (fail)
      refine wp_region_ext (by kernel_rfl) (by kernel_rfl) ?_
      repeat (go_big_quiet_step (fail))
      refine wpQuiet_nil ?_
      rintro W ⟨⟨W2, hW⟩, rfl⟩
      clear x0 x1 x2 x3
      have HB3w := Lib.hid (HB2w.out.trans (hW.mono HB2w.out.size))
      have hm := HWM.out
      clear hW
      go_wp2_with fail
      go_roundw
      case rel => exact ⟨k2 + 1, HLT2.out, by go_num, HB3w.out⟩
      case measure => have := HLT2.out; simp [intOf]; omega
    · obtain rfl : k2 = ws2.length := by omega
      have HB2w := Lib.hid hB2
      clear hB2 hlt2 hk2
      go_wp2_with fail
      refine bodyPost_ret (v := .tuple #[.pointer (some ⟨xb, 0, none⟩), .bool true]) (by simp [results, Try.results33, go_sem]) rfl ?_
      have hc7 := C7.out
      have hC := HC.out
      have h99 := HR99.out
      exact ⟨xb, p7, s7, rfl, H8.out.keep HB2w.out, X8.out.below HB2w.out, hc7.1, ⟨by omega, by omega⟩, F8.out.trans (below_fr HB2w.out wTy true)⟩
end Go.Proofs.Ytdabcnjjbfmkaaa

/-
  PathsMore: the walk.
-/
namespace Go.Proofs.Ytdabcnjjbfmkaaa
open Go.RowKit Go.Maps TagPure
set_option linter.unusedVariables false

theorem wrun_waylen (cap : Int) (o : Int → Nat → Int) (fr : Int → Int) : ∀ n k l, (wrun cap o fr n k l).2.2.1.length ≤ (wrun cap o fr n k l).2.1.length := by
  intro n
  induction n with
  | zero => intro k l; exact Nat.zero_le _
  | succ n ih =>
    intro k l
    unfold wrun
    split
    · exact Nat.zero_le _
    · split
      · simp only [wway, List.length_reverse]
        exact wpath_len _ _ _ _
      · exact ih _ _
/-- The plain law. -/
theorem more_law {bits : Int} (hb : 1 ≤ bits ∧ bits ≤ 5) (tab : Int → Int) {a b : Int} (ha : 0 ≤ a ∧ a < tsize bits) (hb2 : 0 ≤ b ∧ b < tsize bits) (n k : Nat) (x y : Nat × List Nd × List (Int × Int) × Bool)
    (hx : x = wrun n (tabO bits tab) (tabF tab) 99 0 (wfirst a b)) (hy : y = wrun ((n : Int) + k) (tabO bits tab) (tabF tab) 99 0 (wfirst a b)) :
    (x.2.1.length : Int) ≤ max (n : Int) 2 ∧ x.2.1.length ≤ y.2.1.length ∧ 1 ≤ x.2.1.length ∧ y.2.1.length ≤ 32 ∧ (x.2.2.1 = [] → (n : Int) ≤ x.2.1.length ∨ y.2.2.1 = []) ∧ (x.2.2.1 ≠ [] → y.2.2.1 = x.2.2.1) ∧ x.2.2.1.length ≤ 100 ∧ y.2.2.1.length ≤ 100 := by
  have hts := tsize5 hb
  have ht := tab_ok bits (by omega) tab
  have hsh := wfirst_sh (N := (tsize bits).toNat) (tabO bits tab) (tabF tab) (a := a) (b := b) (by omega) (by omega)
  have hf : 1 ≤ (wfirst a b).length ∧ (wfirst a b).length ≤ 2 := by unfold wfirst; split <;> simp
  obtain ⟨m1, m2, m3⟩ := wmore (cap := (n : Int)) (cap' := (n : Int) + k) (tabO bits tab) (tabF tab) (by omega) 99 0 (wfirst a b) (wfirst a b) ⟨List.prefix_refl _, .inl rfl⟩ hsh.ahead
  have sx := wrun_steps (tabF tab) ht (n : Int) 99 0 (wfirst a b) hsh.win (Nat.zero_le _) (by omega)
  have sy := wrun_steps (tabF tab) ht ((n : Int) + k) 99 0 (wfirst a b) hsh.win (Nat.zero_le _) (by omega)
  have cx := wrun_cap (n : Int) (tabO bits tab) (tabF tab) (max (n : Int) 2) (by omega) 99 0 (wfirst a b) (by omega)
  have px := (wrun_pre (n : Int) (tabO bits tab) (tabF tab) 99 0 (wfirst a b)).length_le
  have wx := wrun_waylen (n : Int) (tabO bits tab) (tabF tab) 99 0 (wfirst a b)
  have wy := wrun_waylen ((n : Int) + k) (tabO bits tab) (tabF tab) 99 0 (wfirst a b)
  rw [← hx] at m1 m2 m3 sx cx px wx
  rw [← hy] at m1 m2 m3 sy wy
  have lx := sx.2.2.len
  have ly := sy.2.2.len
  exact ⟨cx, m1.length_le, by omega, by omega, m3, m2, by omega, by omega⟩
abbrev TbAt (w : World) (q : Nat) (t : Tb) : Prop := w.heap[q]? = some (.cells t.cells 90 (0, 0))
theorem TbAt.below {w w' : World} {q : Nat} {t : Tb} (h : TbAt w q t) (hb : Below w.heap.size w w') : TbAt w' q t := (hb.block _ (Array.getElem?_eq_some_iff.1 h).1).trans h
theorem TbAt.fr {w w' : World} {q : Nat} {t : Tb} (h : TbAt w q t) (hf : Fr wTy true w w') : TbAt w' q t := hf.cells _ _ _ _ h rfl
theorem u16_smT (x : Int) (h : 0 ≤ x ∧ x < 65536) : IntKind.u16.wrap x = x := by rw [IntKind.wrap_u16]; omega
set_option maxRecDepth 10000 in
set_option maxHeartbeats 4000000 in
theorem more_any {w : World} (t : Tb) (h : TbRd w t) (z : Int) (hz : 0 ≤ z ∧ z < 256) : Calls Try.prog 5 #[.agg t.cells, .int .u8 z] w fun e w' => e = .returned (.bool true) ∧ Below w.heap.size w w' := by
  have hb1 := below_alloc w (.cells t.cells 90)
  have zz := heap_alloc_new w (.cells t.cells 90)
  obtain ⟨c0, c1, c2, c3, c4⟩ := tb_cells zz
  have hw := tworld t (h.below hb1)
  have H := Lib.hid h; have Z := Lib.hid (show TbAt _ _ t from zz); have HB1 := Lib.hid hb1
  obtain ⟨n, hn⟩ : ∃ n : Nat, n = (t.qm % 40).toNat := ⟨_, rfl⟩
  obtain ⟨k, hk⟩ : ∃ k : Nat, k = (z % 40).toNat := ⟨_, rfl⟩
  have hrm := h.rm
  have n40 : n < 40 := by omega
  have k40 : k < 40 := by omega
  have x1 : t.qm.tmod 40 = n := by rw [Int.tmod_eq_emod_of_nonneg hrm.1]; omega
  have x2 : z.tmod 40 = k := by rw [Int.tmod_eq_emod_of_nonneg hz.1]; omega
  have y3 : 0 ≤ (n : Int) ∧ (n : Int) < 65536 := by omega
  have y4 : 0 ≤ (k : Int) ∧ (k : Int) < 256 := by omega
  have y5 : -100000 ≤ (n : Int) ∧ (n : Int) < 100000 := by omega
  have y6 : -100000 ≤ (k : Int) ∧ (k : Int) < 100000 := by omega
  have y7 : -100000 ≤ (n : Int) + k ∧ (n : Int) + k < 100000 := by omega
  have x3 := u16_smT (n : Int) y3
  have x4 := u8_smT (k : Int) y4
  have x5 := w64_smT (n : Int) y5
  have x6 := w64_smT (k : Int) y6
  have x7 := w64_smT ((n : Int) + k) y7
  clear y3 y4 y5 y6 y7
  obtain ⟨x, hx⟩ : ∃ x, x = wrun n (tabO t.bits t.tab) (tabF t.tab) 99 0 (wfirst t.a t.b) := ⟨_, rfl⟩
  obtain ⟨y, hy⟩ : ∃ y, y = wrun ((n : Int) + k) (tabO t.bits t.tab) (tabF t.tab) 99 0 (wfirst t.a t.b) := ⟨_, rfl⟩
  have hlaw := more_law h.bits t.tab h.ab.1 h.ab.2 n k x y hx hy
  have HL := Lib.hid hlaw; have HX := Lib.hid hx; have HY := Lib.hid hy
  have N40 := Lib.hid n40
  clear h zz hb1 hn hk hrm n40 k40 hlaw hx hy hz
  go_enter Try.func5, Try.ntmps5
  go_upto_region 4 with (go_at_call 32; refine hw.mono ?_; intro e w2 hh; obtain ⟨B, s, wb, hh1, bb, h2, t2, s1, s2⟩ := hh; subst hh1; have H2 := Lib.hid h2; have HBB := Lib.hid (HB1.out.trans (bb.mono HB1.out.size)); have T2 := Lib.hid t2; have HS := Lib.hid (And.intro s2 s1); have Z2 := Lib.hid (Z.out.below (bb.trans (h2.below.mono bb.size))); clear bb h2 t2 s1 s2 hw c0 c1 c2 c3 c4)
  obtain ⟨c0, c1, c2, c3, c4⟩ := tb_cells Z2.out
  have R2 := Lib.hid (H.out.below (HBB.out.trans (H2.out.below.mono HBB.out.size)))
  have hr2 := trun t R2.out 40 HS.out (by decide) H2.out T2.out (n : Int) x HX.out
  go_upto_region 6 with (go_at_call 33; refine hr2.mono ?_; intro e w3 hh; obtain ⟨xb, p3, s3, hh1, h3, x3', v3, n3, f3⟩ := hh; subst hh1; have H3 := Lib.hid h3; have X3 := Lib.hid x3'; have S3 := Lib.hid (And.intro v3 n3); have Z3 := Lib.hid (Z2.out.fr f3); clear h3 x3' v3 n3 f3 hr2 c0 c1 c2 c3 c4)
  obtain ⟨c0, c1, c2, c3, c4⟩ := tb_cells Z3.out
  have R3 := Lib.hid (H.out.below (HBB.out.trans (H3.out.below.mono HBB.out.size)))
  have T3 : TabOf t.bits t.tab s3 := fun b h0 h1 => by rw [S3.out.1]; exact T2.out b h0 h1
  have hr3 := trun t R3.out 139 S3.out.2 (by decide) H3.out T3 ((n : Int) + k) y HY.out
  clear T3
  go_upto_region 7 with (go_at_call 33; refine hr3.mono ?_; intro e w4 hh; obtain ⟨yb, p4, s4, hh1, h4, y4, v4, n4, f4⟩ := hh; subst hh1; have H4 := Lib.hid h4; have Y4 := Lib.hid y4; have X4 := Lib.hid ((X3.out.mono (fun q hq => List.mem_cons_of_mem _ hq)).step h4 f4); clear h4 y4 v4 n4 f4 hr3 c0 c1 c2 c3 c4)
  clear x1 x2 x3 x4 x5 x6 x7
  obtain ⟨l1, l2, l3, l4, l5, l6, l7, l8⟩ := HL.out
  obtain ⟨vx, hvx⟩ : ∃ vx, vx = x.2.2.1 := ⟨_, rfl⟩
  obtain ⟨vy, hvy⟩ : ∃ vy, vy = y.2.2.1 := ⟨_, rfl⟩
  have hgx := X4.out.got (by omega)
  rw [← hvx] at hgx l5 l6 l7
  rw [← hvy] at l5 l6 l8
  go_upto_region 8 with (go_at_call 34; refine hgx.mono ?_; intro e w5 hh; obtain ⟨va, hh1, a5, b5⟩ := hh; subst hh1; have H5 := Lib.hid (H4.out.keep b5); have X5 := Lib.hid (X4.out.below b5); have Y5 := Lib.hid (Y4.out.below b5); have A5 := Lib.hid a5; clear a5 b5 hgx H4 X4 Y4)
  have hgy := Y5.out.got (by rw [← hvy]; omega)
  rw [← hvy] at hgy
  clear hvx hvy
  go_upto_region 9 with (go_at_call 34; refine hgy.mono ?_; intro e w6 hh; obtain ⟨vc, hh1, a6, b6⟩ := hh; subst hh1; have H6 := Lib.hid (H5.out.keep b6); have X6 := Lib.hid (X5.out.below b6); have Y6 := Lib.hid (Y5.out.below b6); have A6 := Lib.hid (A5.out.below b6); have D6 := Lib.hid a6; clear a6 b6 hgy H5 X5 Y5 A5)
  obtain ⟨va1, rfl, -⟩ := A6.out.sl
  obtain ⟨vc1, rfl, -⟩ := D6.out.sl
  have hnx := X6.out.nodes
  have hny := Y6.out.nodes
  obtain ⟨lx, hlx⟩ : ∃ lx : Nat, lx = x.2.1.length := ⟨_, rfl⟩
  obtain ⟨ly, hly⟩ : ∃ ly : Nat, ly = y.2.1.length := ⟨_, rfl⟩
  rw [← hlx] at l1 l2 l3 l5 hnx
  rw [← hly] at l2 l4 hny
  have i1 : ¬ (max (n : Int) 2 < (lx : Int)) := by omega
  have i2 : ¬ ((ly : Int) < (lx : Int)) := by omega
  have i3 : ¬ ((lx : Int) < 1) := by omega
  have L5 := Lib.hid l5; have L6 := Lib.hid l6; have L7 := Lib.hid l7; have L8 := Lib.hid l8
  clear l1 l2 l3 l4 l5 l6 l7 l8 hlx hly
  go_upto_region 11 with (first
    | (go_at_call 35; with_reducible refine hnx.mono ?_; intro e w7 hh; obtain ⟨hh1, hh2⟩ := hh; subst hh1; obtain rfl := hh2.symm)
    | (go_at_call 35; with_reducible refine hny.mono ?_; intro e w7 hh; obtain ⟨hh1, hh2⟩ := hh; subst hh1; obtain rfl := hh2.symm))
  clear i1 i2 i3
  by_cases hx0 : vx = []
  · have L5b := L5.out hx0
    have hq1 : vx.length = 0 := by rw [hx0]; rfl
    have hq2 : ((vx.length : Int) == 0) = true := by rw [hq1]; rfl
    have hlv := fun W => lives16 W
    have B6 := Lib.hid (HBB.out.trans (H6.out.below.mono HBB.out.size))
    clear hx0
    by_cases hnl : (n : Int) ≤ lx
    · have hnl2 : ((lx : Int) ≥ (n : Int)) := hnl
      clear L5b
      go_wp2_with (first
        | (go_at_call 35; with_reducible refine hnx.mono ?_; intro e w7 hh; obtain ⟨hh1, hh2⟩ := hh; subst hh1; obtain rfl := hh2.symm)
        | (go_at_call 36; refine (hlv _).mono ?_; intro e w8 hh; obtain ⟨hh1, b8⟩ := hh; subst hh1))
      go_ret
      exact ⟨rfl, B6.out.trans (b8.mono B6.out.size)⟩
    · have hq3 : vy.length = 0 := by rcases L5b with h | h; exact absurd h hnl; rw [h]; rfl
      have hq4 : ((vy.length : Int) == 0) = true := by rw [hq3]; rfl
      clear L5b
      go_wp2_with (first
        | (go_at_call 35; with_reducible refine hnx.mono ?_; intro e w7 hh; obtain ⟨hh1, hh2⟩ := hh; subst hh1; obtain rfl := hh2.symm)
        | (go_at_call 36; refine (hlv _).mono ?_; intro e w8 hh; obtain ⟨hh1, b8⟩ := hh; subst hh1))
      go_ret
      exact ⟨rfl, B6.out.trans (b8.mono B6.out.size)⟩
  · have hxy := L6.out hx0
    subst hxy
    have hq1 : vy.length ≠ 0 := by simpa using hx0
    have hq2 : ((vy.length : Int) == 0) = false := beq_eq_false_iff_ne.2 (by omega)
    have hlv := fun W => lives16 W
    have B6 := Lib.hid (HBB.out.trans (H6.out.below.mono HBB.out.size))
    clear hx0 hq1
    go_upto_region 15 with (fail)
    go_wp2_with (fail)
    go_loopw [13] (fun i wr => ∃ k2 : Nat, k2 ≤ vy.length ∧ i = .int .i64 k2 ∧ Below w6.heap.size w6 wr) (fun i _ => vy.length - (intOf i).toNat)
    case atStart => exact ⟨0, by omega, rfl, Below.refl _ _⟩
    case round =>
      obtain ⟨k2, hk2, rfl, hB2⟩ := hrel
      by_cases hlt2 : k2 < vy.length
      · have hlt2' : (k2 : Int) < vy.length := by omega
        have hk20 : (0 : Int) ≤ k2 := by omega
        obtain ⟨ga, ea, -, -, z0, z1, z2, -⟩ := (A6.out.below hB2).at k2 hlt2
        obtain ⟨gc, ec, -, -, z3, z4, z5, -⟩ := (D6.out.below hB2).at k2 hlt2
        simp only [Value.slice.injEq] at ea ec
        obtain ⟨rfl, -, -⟩ := ea
        obtain ⟨rfl, -, -⟩ := ec
        generalize (vy[k2]).1 = va at *
        generalize (vy[k2]).2 = vb at *
        have x0 := fun st : ExtW wr => st.cell z0
        have x1 := fun st : ExtW wr => st.cell z1
        have x2 := fun st : ExtW wr => st.cell z2
        have x3 := fun st : ExtW wr => st.cell z3
        have x4 := fun st : ExtW wr => st.cell z4
        have x5 := fun st : ExtW wr => st.cell z5
        have HB2w := Lib.hid hB2; have HLT2 := Lib.hid hlt2
        clear z0 z1 z2 z3 z4 z5 hB2 hlt2 hk2
        go_upto_region 18 with (fail)
        refine wp_region_ext (by kernel_rfl) (by kernel_rfl) ?_
        repeat (go_big_quiet_step (fail))
        refine wpQuiet_nil ?_
        rintro W ⟨⟨W2, hW⟩, rfl⟩
        clear x0 x1 x2 x3 x4 x5
        have HB3w := Lib.hid (HB2w.out.trans (hW.mono HB2w.out.size))
        have hm := L8.out
        clear hW
        go_wp2_with fail
        go_roundw
        case rel => exact ⟨k2 + 1, HLT2.out, by go_num, HB3w.out⟩
        case measure => have := HLT2.out; simp [intOf]; omega
      · obtain rfl : k2 = vy.length := by omega
        have HB2w := Lib.hid (B6.out.trans (hB2.mono B6.out.size))
        clear hB2 hlt2 hk2
        go_wp2_with (go_at_call 36; refine (hlv _).mono ?_; intro e w8 hh; obtain ⟨hh1, b8⟩ := hh; subst hh1)
        go_ret
        exact ⟨rfl, HB2w.out.trans (b8.mono HB2w.out.size)⟩
set_option maxRecDepth 100000 in
theorem walkPathsMore {H : Type} (w : World) (enc : TypeId × Value → H) (base : Nat) (v : Value) (d : DataW H) (p : List MemPlace) (k : DataW.Trod enc Try.prog w 0 (fun _ => true) true 90 v d p) (o : Value.okWide Try.prog w .any base 90 v) (n : Int) (hn : (Lit.int .u8 n).wf = true) :
    Calls Try.prog 5 #[v, .int .u8 n] w fun e w' => e = .returned (.bool true) ∧ Below w.heap.size w w' := by
  obtain ⟨t, rfl, ht⟩ := tb_open k o
  exact more_any t ht n (tb_u8 hn)
end Go.Proofs.Ytdabcnjjbfmkaaa
