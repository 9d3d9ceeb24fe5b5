/-
  Texts of this prover, merged: Grows, GrowDo, GrowLives, PathsTab, PathsRun, PathsLives, PathsDo, Arr, PathsBool, PathsFar, PathsLeads, PathsShort.
-/
import Derived.Test.YtdabcnjjbfmkaaaQ1
import Derived.Test.YtdabcnjjbfmkaaaBegin0
import Derived.Test.YtdabcnjjbfmkaaaQ2
import Derived.Test.YtdabcnjjbfmkaaaOpen
import Derived.Test.YtdabcnjjbfmkaaaAddr
import Derived.Test.YtdabcnjjbfmkaaaRefNew
import Derived.Test.YtdabcnjjbfmkaaaKeeps
import Derived.Deep.RegionHeld2
import Derived.ChangeKeysEq
import Derived.Deep.MidRow
import Derived.Laws.Tables
import Derived.Laws.CopyOwn
/-
  Grows: what is not there, what is over, without a world; the document's; a step.
-/
namespace Go.Proofs.Ytdabcnjjbfmkaaa
open Go.RowKit Go.Maps
set_option linter.unusedVariables false

/-- Is a Grow, a Swap, of a word over at once? -/
def gdead (t : Int) : Bool := asNow t != 0 || asOld t == 12
def sdead (t : Int) : Bool := asNow t == 0
theorem asNow_nn (t : Int) : 0 ≤ asNow t := by unfold asNow; split <;> omega
end Go.Proofs.Ytdabcnjjbfmkaaa

/-
  Grows: a step in a world. (written by gengrow.py)
-/
namespace Go.Proofs.Ytdabcnjjbfmkaaa
open Go.RowKit Go.Maps
set_option linter.unusedVariables false

theorem ws_set4 {w0 w : World} {B : WB} {V : WV} {s : CS} {b o : Nat} {cs : Array Value} {T : TypeId} (h : WS w0 w B V s) (hb : w.heap[b]? = some (.cells cs T (0, 0))) (hT : wTy T = false) (hlo : w0.heap.size ≤ b) (v : Value) : WS w0 (w.setCell ⟨b, o, none⟩ v) B V s :=
  h.fr (set_ty hb o v) (fun X hX => by cases hXT : (X == T); rfl; rw [beq_iff_eq] at hXT; subst hXT; rw [hX] at hT; cases hT) (set_below h.below h.below.size hlo o v)
theorem wu_of_wf {v : Int} (h : 0 ≤ v ∧ v < 18446744073709551616) : (Lit.int .u64 v).wf = true := bd_wf h

end Go.Proofs.Ytdabcnjjbfmkaaa

/-
  Grows: layer 19's examples.
-/
namespace Go.Proofs.Ytdabcnjjbfmkaaa
open Go.RowKit Go.Maps
set_option linter.unusedVariables false

theorem world12v (b : Int) (hb : 1 ≤ b ∧ b ≤ 12) (w : World) : Calls Try.prog 23 #[.int .i64 b] w fun e w' => ∃ B, e = .returned (.pointer (some ⟨B.wb, 0, none⟩)) ∧ WS w w' B (v0 ⟨b, 8, 3, 1, 16⟩) (CS.init [(2, tword b 0)]) := by
  have hn1 : Calls Try.prog 40 #[.agg #[.int .i64 b, .int .i64 8, .int .i64 3, .int .i64 1, .int .i64 16]] w fun e w' => ∃ B : WB, e = .returned (.tuple #[.pointer (some ⟨B.wb, 0, none⟩), .int .i64 0]) ∧ WS w w' B (v0 ⟨b, 8, 3, 1, 16⟩) (CS.init [(2, tword b 0)]) :=
    (wnew_ok ⟨b, 8, 3, 1, 16⟩ (by simp [Conf.ok]; omega) w).mono fun e w' ⟨wb, cb, ib, nb, he, g1, g2, g3, g4, g5, g6, g7⟩ => ⟨⟨wb, cb, ib, nb⟩, he, ws_of (Below.refl _ w) g1 g2 g3 g4 g5 g6 g7⟩
  clear hb
  go_enter Try.func23, Try.ntmps23
  go_wp2_with (go_at_call 40; with_reducible refine hn1.mono ?_; rintro e w1 ⟨B, rfl, h1⟩)
  go_ret
  exact ⟨_, rfl, h1⟩
theorem WS.slow {w0 w : World} {B : WB} {V : WV} {s : CS} (h : WS w0 w B V s) : w0.heap.size ≤ w.heap.size := h.below.size
end Go.Proofs.Ytdabcnjjbfmkaaa

/-
  Layer 16's tables.
-/
namespace Go.Proofs.Ytdabcnjjbfmkaaa
open Go.RowKit Go.Maps TagPure
set_option linter.unusedVariables false

structure Tb where
  qb : Int
  ta : Option Addr
  tc : Nat
  tags : List Int
  qa : Int
  qbb : Int
  qm : Int
abbrev Tb.cells (t : Tb) : Array Value := #[.int .u8 t.qb, .slice t.ta t.tags.length t.tc, .int .u16 t.qa, .int .u16 t.qbb, .int .u16 t.qm]
def Tb.bits (t : Tb) : Int := 1 + t.qb % 5
def Tb.a (t : Tb) : Int := t.qa % tsize t.bits
def Tb.b (t : Tb) : Int := t.qbb % tsize t.bits
def Tb.tab (t : Tb) (k : Int) : Int := if k.toNat < t.tags.length then t.tags.getD k.toNat 0 else 16843009 * (1 + k)
structure TbRd (w : World) (t : Tb) : Prop where
  cell : ∀ i (hi : i < t.tags.length), ∃ b off, t.ta = some ⟨b, off, none⟩ ∧ w.cell? ⟨b, off + i, none⟩ = some (.int .u64 (t.tags[i]))
  wf : ∀ v ∈ t.tags, 0 ≤ v ∧ v < 18446744073709551616
  most : t.tags.length ≤ maxLen
  rb : 0 ≤ t.qb ∧ t.qb < 256
  ra : 0 ≤ t.qa ∧ t.qa < 65536
  rbb : 0 ≤ t.qbb ∧ t.qbb < 65536
  rm : 0 ≤ t.qm ∧ t.qm < 65536
theorem TbRd.bits {w : World} {t : Tb} (h : TbRd w t) : 1 ≤ t.bits ∧ t.bits ≤ 5 := by have := h.rb; unfold Tb.bits; omega
theorem TbRd.below {w w' : World} {t : Tb} (h : TbRd w t) (hb : Below w.heap.size w w') : TbRd w' t := by
  refine ⟨fun i hi => ?_, h.wf, h.most, h.rb, h.ra, h.rbb, h.rm⟩
  obtain ⟨b, off, h1, h2⟩ := h.cell i hi
  exact ⟨b, off, h1, by have := World.block_lt_of_cell? _ _ h2; unfold World.cell? at h2 ⊢; simp only at h2 ⊢; rw [hb.block b this]; exact h2⟩
theorem tsize5 {b : Int} (h : 1 ≤ b ∧ b ≤ 5) : 2 ≤ tsize b ∧ tsize b ≤ 32 := by
  have : b = 1 ∨ b = 2 ∨ b = 3 ∨ b = 4 ∨ b = 5 := by omega
  rcases this with rfl | rfl | rfl | rfl | rfl <;> decide
theorem TbRd.ab {w : World} {t : Tb} (h : TbRd w t) : (0 ≤ t.a ∧ t.a < tsize t.bits) ∧ 0 ≤ t.b ∧ t.b < tsize t.bits := by
  have h2 := tsize5 h.bits
  unfold Tb.a Tb.b
  exact ⟨⟨Int.emod_nonneg _ (by omega), Int.emod_lt_of_pos _ (by omega)⟩, Int.emod_nonneg _ (by omega), Int.emod_lt_of_pos _ (by omega)⟩
theorem u8_smT (x : Int) (h : 0 ≤ x ∧ x < 256) : IntKind.u8.wrap x = x := by rw [IntKind.wrap_u8]; omega
theorem w64_smT (x : Int) (h : -100000 ≤ x ∧ x < 100000) : wrap64 x = x := IntWalk.wrap64_in _ (by omega)
theorem tb_cells {W : World} {q : Nat} {t : Tb} (z : W.heap[q]? = some (.cells t.cells 90 (0, 0))) : W.cell? ⟨q, 0, none⟩ = some (.int .u8 t.qb) ∧ W.cell? ⟨q, 1, none⟩ = some (.slice t.ta t.tags.length t.tc) ∧ W.cell? ⟨q, 2, none⟩ = some (.int .u16 t.qa) ∧ W.cell? ⟨q, 3, none⟩ = some (.int .u16 t.qbb) ∧ W.cell? ⟨q, 4, none⟩ = some (.int .u16 t.qm) :=
  ⟨hcell z 0, hcell z 1, hcell z 2, hcell z 3, hcell z 4⟩
theorem tbits {w : World} (t : Tb) (hb : 0 ≤ t.qb ∧ t.qb < 256) : Calls Try.prog 38 #[.agg t.cells] w fun e w' => e = .returned (.int .i64 t.bits) ∧ Below w.heap.size w w' := by
  have hb1 := below_alloc w (.cells t.cells 90)
  obtain ⟨c0, c1, c2, c3, c4⟩ := tb_cells (heap_alloc_new w (.cells t.cells 90))
  have HB1 := Lib.hid hb1
  obtain ⟨m5, hm5⟩ : ∃ m5, m5 = t.qb % 5 := ⟨_, rfl⟩
  have x1 : t.qb.tmod 5 = m5 := by rw [Int.tmod_eq_emod_of_nonneg hb.1, hm5]
  have x2 := u8_smT m5 (by omega)
  have x3 := w64_smT m5 (by omega)
  have x4 : 1 + m5 = t.bits := by rw [hm5]; rfl
  have x5 : wrap64 t.bits = t.bits := w64_smT _ (by rw [← x4]; omega)
  clear hb1 hm5 hb
  generalize t.bits = B at *
  go_enter Try.func38, Try.ntmps38
  go_wp2
  go_ret
  refine ⟨?_, HB1.out⟩
  show Ending.returned (Value.int .i64 (wrap64 B)) = _
  rw [x5]
theorem shl_bits (b : Int) (hb : 1 ≤ b ∧ b ≤ 5) (w : World) : Sem.run Try.prog (Op.shift BinOp.shl IntKind.i64 1 IntKind.i64 b) w = Result.ok (.int .i64 (tsize b)) w := by
  have : b = 1 ∨ b = 2 ∨ b = 3 ∨ b = 4 ∨ b = 5 := by omega
  rcases this with rfl | rfl | rfl | rfl | rfl <;> rfl
set_option maxRecDepth 10000 in
theorem tends {w : World} (t : Tb) (h : TbRd w t) : Calls Try.prog 75 #[.agg t.cells] w fun e w' => e = .returned (.tuple #[.int .i64 t.a, .int .i64 t.b]) ∧ Below w.heap.size w w' := by
  have hb1 := below_alloc w (.cells t.cells 90)
  have z := heap_alloc_new w (.cells t.cells 90)
  obtain ⟨c0, c1, c2, c3, c4⟩ := tb_cells z
  have hbt := fun W => tbits (w := W) t h.rb
  have hsh := shl_bits t.bits h.bits
  have H := Lib.hid h; have Z := Lib.hid z; have HB1 := Lib.hid hb1
  clear h z hb1
  go_enter Try.func75, Try.ntmps75
  go_upto_region 2 with (go_at_call 38; refine (hbt _).mono ?_; intro e w2 hh; obtain ⟨hh1, b2⟩ := hh; subst hh1; have B2 := Lib.hid b2; clear b2)
  have Z2 := (B2.out.block _ (Array.getElem?_eq_some_iff.1 Z.out).1).trans Z.out
  have HB2 := Lib.hid (HB1.out.trans (B2.out.mono HB1.out.size))
  obtain ⟨d0, d1, d2, d3, d4⟩ := tb_cells Z2
  have y2 := fun st : ExtW w2 => st.cell d2
  have y3 := fun st : ExtW w2 => st.cell d3
  obtain ⟨n, hn⟩ : ∃ n, n = tsize t.bits := ⟨_, rfl⟩
  have hn2 := tsize5 H.out.bits
  have e1 : t.a = t.qa % n := by rw [hn]; rfl
  have e2 : t.b = t.qbb % n := by rw [hn]; rfl
  rw [← hn] at hn2 ⊢
  have ha := H.out.ra; have hb := H.out.rbb
  have x1 : wrap64 t.qa = t.qa := w64_smT _ (by omega)
  have x2 : wrap64 t.qbb = t.qbb := w64_smT _ (by omega)
  have x3 : t.qa.tmod n = t.a := by rw [e1, Int.tmod_eq_emod_of_nonneg ha.1]
  have x4 : t.qbb.tmod n = t.b := by rw [e2, Int.tmod_eq_emod_of_nonneg hb.1]
  have x5 : wrap64 t.a = t.a := w64_smT _ (by
    have h1 := Int.emod_nonneg t.qa (b := n) (by omega)
    have h2 := Int.emod_lt_of_pos t.qa (show 0 < n by omega)
    omega)
  have x6 : wrap64 t.b = t.b := w64_smT _ (by
    have h1 := Int.emod_nonneg t.qbb (b := n) (by omega)
    have h2 := Int.emod_lt_of_pos t.qbb (show 0 < n by omega)
    omega)
  have x7 : ¬ n = 0 := by omega
  have x8 : (n == 0) = false := beq_eq_false_iff_ne.2 x7
  clear c0 c1 c2 c3 c4 d0 d1 d2 d3 d4 hn2 e1 e2 ha hb hn
  refine wp_region_ext (by kernel_rfl) (by kernel_rfl) ?_
  repeat (go_big_quiet_step (fail))
  refine wpQuiet_nil ?_
  rintro W ⟨⟨W2, hW⟩, rfl⟩
  have HB3 := Lib.hid (HB2.out.trans (hW.mono HB2.out.size))
  clear y2 y3 hW
  go_wp2_with (fail)
  refine bodyPost_ret (v := .tuple #[.int .i64 t.a, .int .i64 t.b]) (by simp [results, Try.results75, go_sem]) rfl ⟨rfl, HB3.out⟩
/-! ## The world of a table. -/
theorem hasP_in {b u : Int} (hb : 1 ≤ b ∧ b ≤ 12) (hu : 0 ≤ u ∧ u < tsize b) : tagsA b u = 4096 + 8 * (tsize b + u) := by
  unfold tagsA
  rw [if_pos (by simp [hasP]; omega)]
abbrev TWt (wb cb q : Nat) (t : Tb) (W : World) : Prop := W.cell? ⟨wb, 0, none⟩ = some (.pointer (some ⟨cb, 0, none⟩)) ∧ W.cell? ⟨q, 0, none⟩ = some (.int .u8 t.qb) ∧ W.cell? ⟨q, 1, none⟩ = some (.slice t.ta t.tags.length t.tc) ∧ W.cell? ⟨q, 2, none⟩ = some (.int .u16 t.qa) ∧ W.cell? ⟨q, 3, none⟩ = some (.int .u16 t.qbb) ∧ W.cell? ⟨q, 4, none⟩ = some (.int .u16 t.qm)
theorem tab_wf {w : World} {t : Tb} (h : TbRd w t) {k : Int} (hk : 0 ≤ k ∧ k < 40) : 0 ≤ t.tab k ∧ t.tab k < 18446744073709551616 := by
  unfold Tb.tab
  split
  · rename_i hl
    rw [List.getD_eq_getElem?_getD, List.getElem?_eq_getElem hl]
    exact h.wf _ (List.getElem_mem hl)
  · omega
set_option maxRecDepth 10000 in
set_option maxHeartbeats 4000000 in
theorem tworld {w : World} (t : Tb) (h : TbRd w t) : Calls Try.prog 32 #[.agg t.cells] w fun e w' => ∃ B s w1, e = .returned (.pointer (some ⟨B.wb, 0, none⟩)) ∧ Below w.heap.size w w1 ∧ WS w1 w' B (v0 ⟨t.bits, 8, 3, 1, 16⟩) s ∧ TabOf t.bits t.tab s ∧ s.cnt ≤ 40 ∧ s.n ≤ 40 := by
  have hb1 := below_alloc w (.cells t.cells 90)
  have z := heap_alloc_new w (.cells t.cells 90)
  obtain ⟨c0, c1, c2, c3, c4⟩ := tb_cells z
  have hbt := fun W => tbits (w := W) t h.rb
  have hbb := h.bits
  have hWD := world12v t.bits (by omega)
  have hsz := fun W => size_any t.bits W
  have H := Lib.hid h; have Z := Lib.hid z; have HB1 := Lib.hid hb1; have HBT := Lib.hid hbt; have HSZ := Lib.hid hsz; have HBB := Lib.hid hbb
  clear h z hb1 hbb hsz
  go_enter Try.func32, Try.ntmps32
  go_upto_region 4 with (first
    | (go_at_call 38; refine (hbt _).mono ?_; intro e w2 hh; obtain ⟨hh1, b2⟩ := hh; subst hh1; have HB2 := Lib.hid (HB1.out.trans (b2.mono HB1.out.size)); have Z2 := Lib.hid ((b2.block _ (Array.getElem?_eq_some_iff.1 Z.out).1).trans Z.out); clear b2 hbt Z c0 c1 c2 c3 c4)
    | (go_at_call 23; with_reducible refine (hWD w2).mono ?_; intro e w3 hh; obtain ⟨B, hh1, h3⟩ := hh; subst hh1; have H3 := Lib.hid h3; have Z3 := Lib.hid ((h3.below.block _ (Array.getElem?_eq_some_iff.1 Z2.out).1).trans Z2.out); clear h3 hWD Z2))
  have hN := tsize5 HBB.out
  obtain ⟨N, hNN⟩ : ∃ N : Nat, N = (tsize t.bits).toNat := ⟨_, rfl⟩
  have hNe : tsize t.bits = (N : Int) := by omega
  have HNE := Lib.hid hNe
  have hsz : ∀ W, Calls Try.prog 72 #[.int .i64 t.bits] W fun e w' => e = .returned (.int .i64 (N : Int)) ∧ w' = W := fun W => by rw [← hNe]; exact HSZ.out W
  have HSZ2 := Lib.hid hsz
  have HN := Lib.hid (show N ≤ 32 by omega)
  have HQ2 := Lib.hid (Array.getElem?_eq_some_iff.1 Z3.out).1
  have HT3 := Lib.hid (H.out.below (HB2.out.trans (H3.out.below.mono HB2.out.size)))
  clear hNN hN hNe hsz HSZ
  go_wp2_with (fail)
  go_loopw [4, 5] (fun v4 v5 wr => ∃ (k : Nat) (s : CS), k ≤ N ∧ v4 = .int .i64 k ∧ WS w2 wr B (v0 ⟨t.bits, 8, 3, 1, 16⟩) s ∧ Fr wTy true w3 wr ∧ (∀ b : Nat, b < k → s.val (tagsA t.bits b) = t.tab b) ∧ s.cnt ≤ k ∧ s.n ≤ k + 1) (fun v4 _ _ => N - (intOf v4).toNat)
  case atStart => exact ⟨0, _, Nat.zero_le _, rfl, H3.out, below_fr (Below.refl _ _) _ _, fun b hb => by omega, by have := CS.init_n [(2, tword t.bits 0)]; rw [this.2.1]; simp, by have := CS.init_n [(2, tword t.bits 0)]; rw [this.1]; simp⟩
  case round =>
    obtain ⟨k, s, hk, rfl, h1, f1, h2, h3, h4⟩ := hrel
    have Z4 := f1.cells _ _ _ _ Z3.out rfl
    obtain ⟨c0, c1, c2, c3, c4⟩ := tb_cells Z4
    have HBW := Lib.hid (HB2.out.trans (h1.below.mono HB2.out.size))
    by_cases hlt : k < N
    · have hlt' : (k : Int) < N := by omega
      have HLT := Lib.hid hlt; have HH1 := Lib.hid h1; have HF1 := Lib.hid f1; have HH2 := Lib.hid h2; have HC := Lib.hid (And.intro h3 h4)
      have k32 : k < 32 := by have := HN.out; omega
      have x1 : (k : Int).tmod 255 = k := by rw [Int.tmod_eq_emod_of_nonneg (by omega)]; omega
      have x2 : wrap64 (k : Int) = k := w64_smT _ (by omega)
      have x3 : wrap64 (1 + (k : Int)) = 1 + k := w64_smT _ (by omega)
      have x4 : IntKind.u64.wrap (1 + (k : Int)) = 1 + k := by rw [IntKind.wrap_u64]; omega
      have x5 : IntKind.u64.wrap (16843009 * (1 + (k : Int))) = 16843009 * (1 + (k : Int)) := by rw [IntKind.wrap_u64]; omega
      have hbt := HBT.out; have hsz2 := HSZ2.out
      have K32 := Lib.hid k32
      clear k32 hlt h1 f1 h2 h3 h4 hk
      go_upto_region 8 with (first
        | (go_at_call 38; refine (hbt _).mono ?_; intro e w5 hh; obtain ⟨hh1, b5⟩ := hh; subst hh1; have B5 := Lib.hid b5; clear b5 hbt)
        | (go_at_call 72; refine (hsz2 _).mono ?_; intro e w6 hh; obtain ⟨hh1, hh2⟩ := hh; subst hh1; obtain rfl := hh2.symm; clear hsz2))
      have Z5 := Lib.hid ((B5.out.block _ (Array.getElem?_eq_some_iff.1 Z4).1).trans Z4)
      have H5 := Lib.hid (HH1.out.keep B5.out)
      have F5 := Lib.hid (HF1.out.trans (below_fr B5.out wTy true))
      have T5 := Lib.hid (H.out.below (HBW.out.trans (B5.out.mono HBW.out.size)))
      clear c0 c1 c2 c3 c4 Z4
      obtain ⟨d0, d1, d2, d3, d4⟩ := tb_cells Z5.out
      clear x1 x2 x3 x4 x5
      go_upto_if 27 with (fail)
      go_cut [5] (fun v5 wx => v5 = .int .u64 (t.tab k) ∧ wx = w5)
      case first =>
        by_cases hkl : k < t.tags.length
        · have hkl' : (k : Int) < t.tags.length := by omega
          have hk0 : (0 : Int) ≤ k := by omega
          have e : t.tab k = t.tags[k] := by
            unfold Tb.tab
            rw [Int.toNat_natCast, if_pos hkl, List.getD_eq_getElem?_getD, List.getElem?_eq_getElem hkl]; rfl
          obtain ⟨tb, tof, hta, htc⟩ := T5.out.cell k hkl
          rw [hta] at d1
          rw [← e] at htc
          go_wp2_with (fail)
          go_meet
          exact ⟨by rw [e], rfl⟩
        · have hkl' : ¬ (k : Int) < t.tags.length := by omega
          have e : t.tab k = 16843009 * (1 + (k : Int)) := by
            unfold Tb.tab
            rw [Int.toNat_natCast, if_neg hkl]
          go_wp2_with (fail)
          go_meet
          exact ⟨by rw [e], rfl⟩
      case rest =>
        obtain ⟨rfl, hwx⟩ := hcut
        obtain rfl := hwx.symm
        clear d0 d1 d2 d3 d4
        have hs1 : TWt B.wb B.cb w.heap.size t w5.drew := ⟨H5.out.c0, tb_cells Z5.out⟩
        have hbt := HBT.out
        have htg := fun W => tags_any t.bits (k : Int) W
        have hkt := tab_wf H.out (k := k) (by have := K32.out; omega)
        have hst : Hid (∀ W, Below w5.heap.size w5 W → Calls Try.prog 73 #[.pointer (some ⟨B.cb, 0, none⟩), .int .u64 (tagsA t.bits k), .int .u64 (t.tab k)] W fun e w' => e = .returned (.int .u64 (s.val (tagsA t.bits k))) ∧ WS w2 w' B (v0 ⟨t.bits, 8, 3, 1, 16⟩) (s.acc 2 (tagsA t.bits k) (t.tab k)) ∧ Fr wTy true W w') := fun W hW => (H5.out.keep hW).store (CS.room_of 100 (by have := HC.out; have := K32.out; omega) (by unfold lim; omega)) _ (tagsA_wf _ _) _ (by simp only [Lit.wf, IntKind.min, IntKind.max, IntKind.bits, IntKind.signed]; simp; omega)
        clear hkt
        go_upto_region 10 with (fail)
        go_region_held2 (fun W => TWt B.wb B.cb w.heap.size t W) (assumption) (first
          | (go_at_call 38; refine (hbt _).mono ?_; intro e w6 hh; obtain ⟨hh1, b6⟩ := hh; subst hh1; have b6' := (Below.refl w5.heap.size w5).drew.trans b6; have H6 := Lib.hid (H5.out.keep b6'); have F6 := Lib.hid (F5.out.trans (below_fr b6' wTy true)); have Z6 := Lib.hid ((b6'.block _ (Array.getElem?_eq_some_iff.1 Z5.out).1).trans Z5.out); have s6 : TWt B.wb B.cb w.heap.size t w6 := ⟨H6.out.c0, tb_cells Z6.out⟩; have B6 := Lib.hid b6'; clear b6 b6' hs1 hbt H5 F5)
          | (go_at_call 74; refine (htg _).mono ?_; intro e w7 hh; obtain ⟨hh1, b7⟩ := hh; subst hh1; have F7 := Lib.hid (F6.out.trans (below_fr b7 wTy true)); have Z7 := Lib.hid ((b7.block _ (Array.getElem?_eq_some_iff.1 Z6.out).1).trans Z6.out); have B7 := B6.out.trans (b7.mono B6.out.size); have s7 : TWt B.wb B.cb w.heap.size t w7 := ⟨(H6.out.keep b7).c0, tb_cells Z7.out⟩; have hst7 := hst.out w7 B7; clear b7 B7 B6 s6 H6 htg F6)
          | (go_at_call 73; refine hst7.mono ?_; intro e w8 hh; obtain ⟨hh1, h8, f8⟩ := hh; subst hh1; have H8 := Lib.hid h8; have F8 := Lib.hid (F7.out.trans f8); have s8 : TWt B.wb B.cb w.heap.size t w8 := ⟨h8.c0, tb_cells (f8.cells _ _ _ _ Z7.out rfl)⟩; clear h8 f8 s7 hst7))
        have k32 := K32.out
        go_wp2_with (fail)
        go_roundw
        case measure => have := HLT.out; simp [intOf]; omega
        case rel =>
          refine ⟨k + 1, _, HLT.out, by go_num, H8.out, F8.out, fun b hb => ?_, by show s.cnt + 1 ≤ _; have := HC.out; omega, by show s.n + 1 ≤ _; have := HC.out; omega⟩
          show upd s.val (tagsA t.bits k) (t.tab k) (tagsA t.bits b) = _
          have h12 : 1 ≤ t.bits ∧ t.bits ≤ 12 := by have := HBB.out; omega
          have hne := HNE.out
          have hl := HLT.out
          unfold upd
          rw [hasP_in h12 (by omega), hasP_in h12 (by omega)]
          by_cases e : b = k
          · subst e; rw [if_pos rfl]
          · rw [if_neg (by omega), ← hasP_in h12 (by omega)]
            exact HH2.out b (by omega)
    · have hke : k = N := by omega
      subst hke
      have hlt' : ¬ (k : Int) < k := by omega
      have hbt := HBT.out; have hsz2 := HSZ2.out
      have HH1 := Lib.hid h1; have HH2 := Lib.hid h2; have HC := Lib.hid (And.intro h3 h4)
      clear h1 f1 h2 h3 h4 hk hlt
      go_wp2_with (first
        | (go_at_call 38; refine (hbt _).mono ?_; intro e w5 hh; obtain ⟨hh1, b5⟩ := hh; subst hh1; have B5 := Lib.hid b5; clear b5 hbt)
        | (go_at_call 72; refine (hsz2 _).mono ?_; intro e w6 hh; obtain ⟨hh1, hh2⟩ := hh; subst hh1; obtain rfl := hh2.symm; clear hsz2))
      go_ret
      have h32 := HN.out
      have hC := HC.out
      refine ⟨B, s, w2, rfl, HB2.out, HH1.out.keep B5.out, fun b hb0 hb1 => ?_, by omega, by omega⟩
      rw [HNE.out] at hb1
      have := HH2.out b.toNat (by omega)
      rw [Int.toNat_of_nonneg hb0] at this
      exact this
/-! ## The argument. -/
theorem tb_u8 {x : Int} (h : (Lit.int .u8 x).wf = true) : 0 ≤ x ∧ x < 256 := by
  have hmin : IntKind.u8.min = 0 := rfl
  have hmax : IntKind.u8.max = 255 := rfl
  simp only [Lit.wf, hmin, hmax, Bool.and_eq_true, decide_eq_true_eq] at h
  omega
theorem tb_u16 {x : Int} (h : (Lit.int .u16 x).wf = true) : 0 ≤ x ∧ x < 65536 := by
  have hmin : IntKind.u16.min = 0 := rfl
  have hmax : IntKind.u16.max = 65535 := rfl
  simp only [Lit.wf, hmin, hmax, Bool.and_eq_true, decide_eq_true_eq] at h
  omega
theorem tb_u64 {x : Int} (h : (Lit.int .u64 x).wf = true) : 0 ≤ x ∧ x < 18446744073709551616 := by
  have hmin : IntKind.u64.min = 0 := rfl
  have hmax : IntKind.u64.max = 18446744073709551615 := rfl
  simp only [Lit.wf, hmin, hmax, Bool.and_eq_true, decide_eq_true_eq] at h
  omega
def tbLeaves : List Leaf := [.int .u8, .sl [.int .u64], .int .u16, .int .u16, .int .u16]
theorem leaves_tb : leaves Try.prog 6 90 = some tbLeaves := by kernel_rfl
/-- A slice of words, as it was handed in. -/
theorem u64s_of {w : World} {c : Value} (h : Leaf.holds w (.sl [.int .u64]) c) : ∃ (a : Option Addr) (cap : Nat) (l : List Int), c = .slice a l.length cap ∧ l.length ≤ maxLen ∧ (∀ v ∈ l, 0 ≤ v ∧ v < 18446744073709551616) ∧ ∀ i (hi : i < l.length), ∃ b off, a = some ⟨b, off, none⟩ ∧ w.cell? ⟨b, off + i, none⟩ = some (.int .u64 (l[i])) := by
  obtain ⟨a, len, cap, rfl, h1, h2, h3, h4⟩ := h
  rcases h4 with rfl | ⟨b, off, rfl, hc⟩
  · exact ⟨a, cap, [], rfl, Nat.zero_le _, fun v hv => (by cases hv), fun i hi => absurd hi (Nat.not_lt_zero _)⟩
  · have key : ∀ i, i < len → ∃ n : Int, w.cell? ⟨b, off + i, none⟩ = some (.int .u64 n) ∧ (Lit.int .u64 n).wf = true := fun i hi => by
      obtain ⟨cs, hl, hcs, hh⟩ := hc i hi
      obtain ⟨c0, r, rfl, g0, hh⟩ := allHold_cons hh
      obtain rfl := allHold_nil hh
      obtain ⟨n, rfl, hn⟩ := holds_int g0
      have := hcs 0 (by simp)
      simp only [Leaf.many, Nat.zero_add, Nat.mul_one, Nat.add_zero, List.getElem?_cons_zero] at this
      exact ⟨n, this, hn⟩
    have : ∃ f : Nat → Int, ∀ i, i < len → w.cell? ⟨b, off + i, none⟩ = some (.int .u64 (f i)) ∧ (Lit.int .u64 (f i)).wf = true := by
      refine ⟨fun i => if h : i < len then (key i h).choose else 0, fun i hi => ?_⟩
      simp only [dif_pos hi]
      exact (key i hi).choose_spec
    obtain ⟨f, hf⟩ := this
    refine ⟨some ⟨b, off, none⟩, cap, (List.range len).map f, by simp, by simp; omega, fun v hv => ?_, fun i hi => ?_⟩
    · obtain ⟨i, hi, rfl⟩ := List.mem_map.1 hv
      exact tb_u64 (hf i (List.mem_range.1 hi)).2
    · simp only [List.length_map, List.length_range] at hi
      refine ⟨b, off, rfl, ?_⟩
      rw [(hf i hi).1]
      simp
set_option maxRecDepth 100000 in
theorem tb_open {H : Type} {w : World} {enc : TypeId × Value → H} {base : Nat} {v : Value} {d : DataW H} {p : List MemPlace} (k : DataW.Trod enc Try.prog w 0 (fun _ => true) true 90 v d p) (o : Value.okWide Try.prog w .any base 90 v) : ∃ t : Tb, v = .agg t.cells ∧ TbRd w t := by
  obtain ⟨cs, rfl, -⟩ := Go.WideShapes.okWide_struct Try.underlying90 o
  have h := opened leaves_tb k
  unfold tbLeaves at h
  obtain ⟨c0, r, h0, g0, h⟩ := allHold_cons h
  obtain ⟨c1, r, rfl, g1, h⟩ := allHold_cons h
  obtain ⟨c2, r, rfl, g2, h⟩ := allHold_cons h
  obtain ⟨c3, r, rfl, g3, h⟩ := allHold_cons h
  obtain ⟨c4, r, rfl, g4, h⟩ := allHold_cons h
  obtain rfl := allHold_nil h
  obtain ⟨z0, rfl, k0⟩ := holds_int g0
  obtain ⟨a, cap, l, rfl, l1, l2, l3⟩ := u64s_of g1
  obtain ⟨z2, rfl, k2⟩ := holds_int g2
  obtain ⟨z3, rfl, k3⟩ := holds_int g3
  obtain ⟨z4, rfl, k4⟩ := holds_int g4
  refine ⟨⟨z0, a, cap, l, z2, z3, z4⟩, ?_, l3, l2, l1, tb_u8 k0, tb_u16 k2, tb_u16 k3, tb_u16 k4⟩
  have e : cs = #[.int .u8 z0, .slice a l.length cap, .int .u16 z2, .int .u16 z3, .int .u16 z4] := Array.toList_inj.1 h0
  rw [e]
end Go.Proofs.Ytdabcnjjbfmkaaa

/-
  Layer 16: a Way is made and runs by itself.
-/
namespace Go.Proofs.Ytdabcnjjbfmkaaa
open Go.RowKit Go.Maps TagPure
set_option linter.unusedVariables false

theorem own_loW {w : World} {base b2 e size n : Nat} {v : Value} {xs : List Value} (h : w.ownsRow base e size v n xs) (hl : b2 ≤ base) : w.ownsRow b2 e size v n xs := by
  obtain ⟨h1, h2 | ⟨g, cap, cur, rfl, hb, hg, r⟩⟩ := h
  · exact ⟨h1, .inl h2⟩
  · exact ⟨h1, .inr ⟨g, cap, cur, rfl, Nat.le_trans hl hb, hg, r⟩⟩
theorem WayAt.lower {w : World} {lo lo' xb : Nat} {x : WY} (h : WayAt w lo xb x) (hl : lo' ≤ lo) : WayAt w lo' xb x := by
  obtain ⟨h0, ⟨vb, vw, h1, h2, h3, h4⟩, h5, h6, h7⟩ := h
  exact ⟨Nat.le_trans hl h0, ⟨vb, vw, h1, own_loW h2 hl, own_loW h3 hl, h4⟩, fun m hm => ⟨Nat.le_trans hl (h5 m hm).1, (h5 m hm).2⟩, h6, h7⟩
theorem way_fresh {w0 w w1 : World} {B : WB} {V : WV} {s : CS} {m : Nat} (h : WS w0 w B V s) (hb : Below w.heap.size w w1) (hm : w.heap.size ≤ m) : Besd w1 B V m := by
  refine ⟨fun c => ?_, fun q hq e => ?_⟩
  · obtain ⟨⟨S', hS'⟩, -⟩ := h.own
    obtain ⟨mo, f, hA, rfl⟩ := hS'
    have e : w1.cell? ⟨B.cb, 0, none⟩ = some (.map mo) := by
      have h1 := (hb.block _ (Array.getElem?_eq_some_iff.1 hA.hdr).1).trans hA.hdr
      rw [hcell h1]; rfl
    rw [e] at c
    simp only [Option.some.injEq, Value.map.injEq] at c
    have := (hA.map m c).1.lt
    omega
  · have := (Array.getElem?_eq_some_iff.1 (h.fmk q hq).1).1
    omega
theorem wnew_ok2 {bits most a b : Int} {kb m : Nat} (hb : 1 ≤ bits ∧ bits ≤ 12) (ha : 0 ≤ a ∧ a < tsize bits) (hb2 : 0 ≤ b ∧ b < tsize bits) : WyOk (wnew bits most a b kb m) := by
  have hp := tsize_pos hb
  have hsh := wfirst_sh (N := (tsize bits).toNat) (fun _ _ => 0) (fun _ => 0) (a := a) (b := b) (by omega) (by omega)
  refine ⟨hb, hsh.win, hsh.ahead, fun _ => ?_, fun _ => rfl, Nat.zero_le _, rfl⟩
  show 0 < (wfirst a b).length
  unfold wfirst; split <;> simp
theorem wres_new (bits most a b : Int) (kb m : Nat) (tab : Int → Int) (n : Nat) : wres (wnew bits most a b kb m) tab n = wrun most (tabO bits tab) (tabF tab) n 0 (wfirst a b) := by
  exact if_neg (fun h : false = true => by cases h)
/-- What a Way says behind its run. -/
structure WayR (w : World) (lo xb : Nat) (x : WY) (bits : Int) (r : Nat × List Nd × List (Int × Int) × Bool) : Prop where
  at_ : WayAt w lo xb x
  bits_ : x.bits = bits
  l : x.l = r.2.1
  way : x.way = r.2.2.1
  over : x.over = r.2.2.2
  ok : WyOk x
/-- A run from the start on: it changes nothing that was. -/
theorem newrun {w0 w w1 : World} {B : WB} {V : WV} {s : CS} {xb kb mb : Nat} {bits most a b : Int} {tab : Int → Int} (m : Nat) (hm : m ≤ 1000) (c : Nat) (hc : s.n ≤ c ∧ s.cnt ≤ c) (hcl : c + 1000 < lim) (h : WS w0 w B V s) (hbl : Below w.heap.size w w1) (hx : WayAt w1 w.heap.size xb (wnew bits most a b kb mb)) (hmb : w.heap.size ≤ mb) (hkb : w.heap.size ≤ kb) (hb : 1 ≤ bits ∧ bits ≤ 12) (ha : 0 ≤ a ∧ a < tsize bits) (hb2 : 0 ≤ b ∧ b < tsize bits) (ht : TabOf bits tab s) :
    Calls Try.prog 27 #[.pointer (some ⟨B.wb, 0, none⟩), .iface 92 (.pointer (some ⟨xb, 0, none⟩)), .int .i64 m] w1 fun e w' => e = .returned (.int .i64 ((wrun most (tabO bits tab) (tabF tab) m 0 (wfirst a b)).1 : Nat)) ∧ ∃ (x' : WY) (s' : CS), WS w0 w' B V s' ∧ WayR w' w0.heap.size xb x' bits (wrun most (tabO bits tab) (tabF tab) m 0 (wfirst a b)) ∧ x'.mo = some mb ∧ Besd w' B V mb ∧ s'.val = s.val ∧ s'.cnt = s.cnt + (wrun most (tabO bits tab) (tabF tab) m 0 (wfirst a b)).1 ∧ s'.n = s.n + (wrun most (tabO bits tab) (tabF tab) m 0 (wfirst a b)).1 ∧ Fr wTy true w w' ∧ Fy xb kb w1 w' := by
  have hx2 : WayAt w1 w0.heap.size xb (wnew bits most a b kb mb) := hx.lower h.below.size
  have hlow := hx.low
  refine (wayrun (tab := tab) m hm c hc hcl (h.keep hbl) hx2 rfl (way_fresh h hbl hmb) (wnew_ok2 hb ha hb2) ht).mono ?_
  rw [wres_new]
  intro e w' hh
  obtain ⟨h1, x', s', g1, g2, g3, g4, g5, g6, g7, g8, g9, g10, g11, g12, g13⟩ := hh
  refine ⟨h1, x', s', g1, ⟨g2, g6, g7, g8, g9, g4⟩, g5, g3, g10, g11, g12, ?_, g13⟩
  refine ⟨Nat.le_trans hbl.size g13.size, fun k cs T fr hk hT => ?_, fun c => by cases c⟩
  have hlt := (Array.getElem?_eq_some_iff.1 hk).1
  refine g13.cells k cs T fr ((hbl.block k hlt).trans hk) hT (by omega) ?_
  show k ≠ kb
  omega
/-- A Way is left by what changes nothing that was. -/
theorem WayR.frm {w w' : World} {lo xb : Nat} {x : WY} {bits : Int} {r : Nat × List Nd × List (Int × Int) × Bool} (h : WayR w lo xb x bits r) (hf : Fr wTy true w w') (hm : ∀ m, x.mo = some m → w'.heap[m]? = w.heap[m]?) : WayR w' lo xb x bits r :=
  ⟨h.at_.frm hf w_not_y hm, h.bits_, h.l, h.way, h.over, h.ok⟩
theorem WayR.below {w w' : World} {lo xb : Nat} {x : WY} {bits : Int} {r : Nat × List Nd × List (Int × Int) × Bool} (h : WayR w lo xb x bits r) (hb : Below w.heap.size w w') : WayR w' lo xb x bits r :=
  ⟨h.at_.below hb, h.bits_, h.l, h.way, h.over, h.ok⟩
theorem WayAt.kb_lt {w : World} {lo xb : Nat} {x : WY} (h : WayAt w lo xb x) : x.kb < w.heap.size := by
  have hl := h.lt
  obtain ⟨h0, ⟨vb, vw, h1, h2, h3, h4⟩, -⟩ := h
  rcases h4 with h4 | ⟨-, h4⟩
  · obtain ⟨cur, hc⟩ := own_blk h2 h4
    exact (Array.getElem?_eq_some_iff.1 hc).1
  · rw [h4]; exact hl
/-- A Way behind its run, its map marked. -/
def WayH (w : World) (lo xb : Nat) (V : WV) (bits : Int) (r : Nat × List Nd × List (Int × Int) × Bool) : Prop :=
  ∃ x m es cl, WayR w lo xb x bits r ∧ x.mo = some m ∧ w.heap[m]? = some (.map es cl) ∧ (m, es, cl) ∈ V.fm
section
variable {w0 w w' : World} {B : WB} {V V' : WV} {s s' : CS} {lo xb : Nat} {bits : Int} {r : Nat × List Nd × List (Int × Int) × Bool}
theorem WayH.step (h : WayH w lo xb V bits r) (hw : WS w0 w' B V s') (hf : Fr wTy true w w') : WayH w' lo xb V bits r := by
  obtain ⟨x, m, es, cl, h1, h2, h3, h4⟩ := h
  have e := (hw.fmk _ h4).1
  refine ⟨x, m, es, cl, h1.frm hf (fun m' hm' => ?_), h2, e, h4⟩
  rw [h2] at hm'; cases hm'
  exact e.trans h3.symm
theorem WayH.below (h : WayH w lo xb V bits r) (hb : Below w.heap.size w w') : WayH w' lo xb V bits r := by
  obtain ⟨x, m, es, cl, h1, h2, h3, h4⟩ := h
  exact ⟨x, m, es, cl, h1.below hb, h2, (hb.block _ (Array.getElem?_eq_some_iff.1 h3).1).trans h3, h4⟩
theorem WayH.mono (h : WayH w lo xb V bits r) (hs : ∀ q ∈ V.fm, q ∈ V'.fm) : WayH w lo xb V' bits r := by
  obtain ⟨x, m, es, cl, h1, h2, h3, h4⟩ := h
  exact ⟨x, m, es, cl, h1, h2, h3, hs _ h4⟩
theorem WayH.got (h : WayH w lo xb V bits r) (hl : r.2.2.1.length ≤ 10000) : Calls Try.prog 34 #[.pointer (some ⟨xb, 0, none⟩)] w fun e w' => ∃ v, e = .returned v ∧ SpN w' w.heap.size v bits r.2.2.1 ∧ Below w.heap.size w w' := by
  obtain ⟨x, m, es, cl, h1, h2, h3, h4⟩ := h
  have := wgot h1.at_ (by rw [h1.way]; omega)
  rw [h1.bits_, h1.way] at this
  exact this
theorem WayH.nodes (h : WayH w lo xb V bits r) : Calls Try.prog 35 #[.pointer (some ⟨xb, 0, none⟩)] w fun e w' => e = .returned (.int .i64 r.2.1.length) ∧ w' = w := by
  obtain ⟨x, m, es, cl, h1, h2, h3, h4⟩ := h
  have := wnodes h1.at_
  rw [h1.l] at this
  exact this
theorem WayH.isover (h : WayH w lo xb V bits r) : Calls Try.prog 78 #[.pointer (some ⟨xb, 0, none⟩)] w fun e w' => e = .returned (.bool r.2.2.2) ∧ w' = w := by
  obtain ⟨x, m, es, cl, h1, h2, h3, h4⟩ := h
  have := wover h1.at_
  rw [h1.ok.made, h1.over, show (!true || r.2.2.2) = r.2.2.2 from by cases r.2.2.2 <;> rfl] at this
  exact this
end
abbrev WV.plus (V : WV) (p : Nat × Array MapEntry × Nat) : WV := { V with fm := p :: V.fm }
theorem newrunH {w0 w w1 : World} {B : WB} {V : WV} {s : CS} {xb kb mb : Nat} {bits most a b : Int} {tab : Int → Int} (m : Nat) (hm : m ≤ 1000) (c : Nat) (hc : s.n ≤ c ∧ s.cnt ≤ c) (hcl : c + 1000 < lim) (h : WS w0 w B V s) (hbl : Below w.heap.size w w1) (hx : WayAt w1 w.heap.size xb (wnew bits most a b kb mb)) (hmb : w.heap.size ≤ mb) (hkb : w.heap.size ≤ kb) (hb : 1 ≤ bits ∧ bits ≤ 12) (ha : 0 ≤ a ∧ a < tsize bits) (hb2 : 0 ≤ b ∧ b < tsize bits) (ht : TabOf bits tab s) (r : Nat × List Nd × List (Int × Int) × Bool) (hr : r = wrun most (tabO bits tab) (tabF tab) m 0 (wfirst a b)) :
    Calls Try.prog 27 #[.pointer (some ⟨B.wb, 0, none⟩), .iface 92 (.pointer (some ⟨xb, 0, none⟩)), .int .i64 m] w1 fun e w' => e = .returned (.int .i64 (r.1 : Nat)) ∧ ∃ p s', WS w0 w' B (V.plus p) s' ∧ WayH w' w0.heap.size xb (V.plus p) bits r ∧ s'.val = s.val ∧ s'.cnt = s.cnt + r.1 ∧ s'.n = s.n + r.1 ∧ Fr wTy true w w' ∧ Fy xb kb w1 w' := by
  subst hr
  refine (newrun (tab := tab) m hm c hc hcl h hbl hx hmb hkb hb ha hb2 ht).mono fun e w' hh => ?_
  obtain ⟨h1, x', s', g1, g2, g3, g4, g5, g6, g7, g8, g9⟩ := hh
  obtain ⟨es, cl, hmb2⟩ := (g2.at_.mp mb g3).2.blk
  exact ⟨h1, (mb, es, cl), s', g1.more hmb2 g4.ne, ⟨x', mb, es, cl, g2, g3, hmb2, by simp⟩, g5, g6, g7, g8, g9⟩
end Go.Proofs.Ytdabcnjjbfmkaaa

/-
  Layer 16's example.
-/
namespace Go.Proofs.Ytdabcnjjbfmkaaa
open Go.RowKit Go.Maps TagPure
set_option linter.unusedVariables false

def tab16 : Int → Int := fun k => if k = 1 ∨ k = 2 then 151587081 else 0
theorem ex16a : wrun 9 (tabO 2 fun _ => 0) (tabF fun _ => 0) 9 0 (wfirst 1 2) = (1, [(1, -1, -1), (2, -1, -1)], [(1, 0)], true) := by kernel_rfl
theorem ex16b : wrun 9 (tabO 2 tab16) (tabF tab16) 9 0 (wfirst 1 2) = (3, [(1, -1, -1), (2, -1, -1), (0, 0, 0), (3, 1, 0)], [(1, 0), (0, 0)], true) := by kernel_rfl
theorem ex16c : (wrun 2 (tabO 2 tab16) (tabF tab16) 9 0 (wfirst 1 2)).1 = 2 ∧ (wrun 2 (tabO 2 tab16) (tabF tab16) 9 0 (wfirst 1 2)).2.2.1 = [] := ⟨by kernel_rfl, by kernel_rfl⟩
theorem init_valP (t a : Int) : (CS.init [(2, t)]).val a = if a = 2 then t else 0 := by
  show upd (fun _ => (0 : Int)) 2 t a = _
  unfold upd; rfl
theorem tab_init (b t : Int) (hb : 1 ≤ b ∧ b ≤ 12) : TabOf b (fun _ => 0) (CS.init [(2, t)]) := fun k h0 h1 => by
  rw [init_valP, hasP_in hb ⟨h0, h1⟩, if_neg (by omega)]
abbrev TWc16 (wb cb : Nat) (W : World) : Prop := W.cell? ⟨wb, 0, none⟩ = some (.pointer (some ⟨cb, 0, none⟩))
set_option maxRecDepth 10000 in
set_option maxHeartbeats 4000000 in
theorem lives16 (w : World) : Calls Try.prog 36 #[] w fun e w' => e = .returned (.bool true) ∧ Below w.heap.size w w' := by
  have hNW := Lib.hid (fun W most => newway_ok 2 1 2 most (by decide) (by decide) W)
  have htg := fun (b : Int) W => tags_any 2 b W
  have HTG := Lib.hid htg
  clear htg
  go_enter Try.func36, Try.ntmps36
  go_upto_region 4 with (go_at_call 23; refine (world12v 2 (by decide) w).mono ?_; intro e w1 hh; obtain ⟨B, hh1, h1⟩ := hh; subst hh1; have H1 := Lib.hid h1; clear h1)
  obtain ⟨s1, hs1⟩ : ∃ s1, s1 = CS.init [(2, tword 2 0)] := ⟨_, rfl⟩
  have ht1 : TabOf 2 (fun _ => 0) s1 := by rw [hs1]; exact tab_init 2 _ (by decide)
  have hc1 : s1.n ≤ 1 ∧ s1.cnt ≤ 1 := by have h := CS.init_n [(2, tword 2 0)]; rw [hs1, h.1, h.2.1]; simp
  rw [← hs1] at H1
  have HT1 := Lib.hid ht1; have HC1 := Lib.hid hc1
  clear hs1 ht1 hc1
  have n1 := hNW.out w1 9
  go_upto_region 7 with (first
    | (go_at_call 76; refine n1.mono ?_; intro e w2 hh; obtain ⟨xb, kb, mb, hh1, hx, bx, hmb, hkb⟩ := hh; subst hh1; have hr2 := newrunH 9 (by decide) 1 HC1.out (by unfold lim; decide) H1.out bx hx hmb hkb (by decide) (by decide) (by decide) HT1.out _ rfl; rw [ex16a] at hr2; clear hx bx hmb hkb n1)
    | (go_at_call 27; refine hr2.mono ?_; intro e w3 hh; obtain ⟨hh1, p3, s3, h3, x3, v3, c3, n3, f3, -⟩ := hh; subst hh1; have hg3 := x3.got (by decide); have H3 := Lib.hid h3; have X3 := Lib.hid x3; have C3 := Lib.hid (And.intro v3 (And.intro c3 n3)); clear h3 x3 v3 c3 n3 f3 hr2)
    | (go_at_call 34; refine hg3.mono ?_; intro e w4 hh; obtain ⟨va, hh1, a4, b4⟩ := hh; subst hh1; have H4 := Lib.hid (H3.out.keep b4); have X4 := Lib.hid (X3.out.below b4); have A4 := Lib.hid a4; clear a4 b4 hg3 H3 X3))
  have hst4 : Hid (∀ W, Below w4.heap.size w4 W → Calls Try.prog 73 #[.pointer (some ⟨B.cb, 0, none⟩), .int .u64 (tagsA 2 1), .int .u64 151587081] W fun e w' => e = .returned (.int .u64 (s3.val (tagsA 2 1))) ∧ WS w w' B ((v0 ⟨2, 8, 3, 1, 16⟩).plus p3) (s3.acc 2 (tagsA 2 1) 151587081) ∧ Fr wTy true W w') := fun W hW => (H4.out.keep hW).store (CS.room_of 100 (by have := HC1.out; have := C3.out; omega) (by unfold lim; omega)) _ (tagsA_wf _ _) _ (by decide)
  have hs4 : TWc16 B.wb B.cb w4.drew := H4.out.c0
  have htg := HTG.out 1
  go_region_held2 (fun W => TWc16 B.wb B.cb W) (assumption) (first
    | (go_at_call 74; refine (htg _).mono ?_; intro e w5 hh; obtain ⟨hh1, b5⟩ := hh; subst hh1; have b5' := (Below.refl w4.heap.size w4).drew.trans b5; have s5 : TWc16 B.wb B.cb w5 := (H4.out.keep b5').c0; have X5 := Lib.hid (X4.out.below b5'); have A5 := Lib.hid (A4.out.below b5'); have hst5 := hst4.out w5 b5'; clear b5 b5' hs4 htg hst4 X4 A4)
    | (go_at_call 73; refine hst5.mono ?_; intro e w6 hh; obtain ⟨hh1, h6, f6⟩ := hh; subst hh1; have H6 := Lib.hid h6; have X6 := Lib.hid (X5.out.step h6 f6); have A6 := Lib.hid (A5.out.fr f6 rfl); have s6 : TWc16 B.wb B.cb w6 := h6.c0; clear h6 f6 hst5 s5 X5 A5))
  obtain ⟨s7, hs7⟩ : ∃ s7, s7 = s3.acc 2 (tagsA 2 1) 151587081 := ⟨_, rfl⟩
  rw [← hs7] at H6
  have S7 := Lib.hid hs7
  have hs6 : TWc16 B.wb B.cb w6.drew := H6.out.c0
  clear s6 hs7 H4
  have hst6 : Hid (∀ W, Below w6.heap.size w6 W → Calls Try.prog 73 #[.pointer (some ⟨B.cb, 0, none⟩), .int .u64 (tagsA 2 2), .int .u64 151587081] W fun e w' => e = .returned (.int .u64 (s7.val (tagsA 2 2))) ∧ WS w w' B ((v0 ⟨2, 8, 3, 1, 16⟩).plus p3) (s7.acc 2 (tagsA 2 2) 151587081) ∧ Fr wTy true W w') := fun W hW => (H6.out.keep hW).store (CS.room_of 100 (by rw [S7.out]; show s3.n + 1 ≤ 100 ∧ s3.cnt + 1 ≤ 100; have := HC1.out; have := C3.out; omega) (by unfold lim; omega)) _ (tagsA_wf _ _) _ (by decide)
  have htg2 := HTG.out 2
  go_upto_region 8 with (fail)
  go_region_held2 (fun W => TWc16 B.wb B.cb W) (assumption) (first
    | (go_at_call 74; refine (htg2 _).mono ?_; intro e w7 hh; obtain ⟨hh1, b7⟩ := hh; subst hh1; have b7' := (Below.refl w6.heap.size w6).drew.trans b7; have s7' : TWc16 B.wb B.cb w7 := (H6.out.keep b7').c0; have X7 := Lib.hid (X6.out.below b7'); have A7 := Lib.hid (A6.out.below b7'); have hst7 := hst6.out w7 b7'; clear b7 b7' hs6 htg2 hst6 X6 A6)
    | (go_at_call 73; refine hst7.mono ?_; intro e w8 hh; obtain ⟨hh1, h8, f8⟩ := hh; subst hh1; have H8 := Lib.hid h8; have X8 := Lib.hid (X7.out.step h8 f8); have A8 := Lib.hid (A7.out.fr f8 rfl); have s8' : TWc16 B.wb B.cb w8 := h8.c0; clear h8 f8 hst7 s7' X7 A7))
  obtain ⟨s8, hs8⟩ : ∃ s8, s8 = s7.acc 2 (tagsA 2 2) 151587081 := ⟨_, rfl⟩
  rw [← hs8] at H8
  have ht8 : TabOf 2 tab16 s8 := fun b h0 h1 => by
    have t4 : tsize 2 = 4 := by decide
    have e1 : tagsA 2 1 = 4136 := by decide
    have e2 : tagsA 2 2 = 4144 := by decide
    rw [hasP_in (by decide) ⟨h0, h1⟩, hs8, S7.out]
    show upd (upd s3.val (tagsA 2 1) 151587081) (tagsA 2 2) 151587081 _ = _
    rw [C3.out.1, e1, e2, t4]
    have h1' : b < 4 := by omega
    have : b = 0 ∨ b = 1 ∨ b = 2 ∨ b = 3 := by omega
    have hz := HT1.out b h0 h1
    rw [hasP_in (by decide) ⟨h0, h1⟩, t4] at hz
    unfold upd tab16
    rcases this with rfl | rfl | rfl | rfl
    · simp; exact hz
    · simp
    · simp
    · simp; exact hz
  have hc8 : s8.n ≤ 10 ∧ s8.cnt ≤ 10 := by rw [hs8, S7.out]; show s3.n + 1 + 1 ≤ 10 ∧ s3.cnt + 1 + 1 ≤ 10; have := HC1.out; have := C3.out; omega
  have HT8 := Lib.hid ht8; have HC8 := Lib.hid hc8
  clear s8' hs8 ht8 hc8 H6 S7 HT1 HC1 C3
  have n8 := hNW.out w8 9
  go_upto_region 12 with (first
    | (go_at_call 76; refine n8.mono ?_; intro e w9 hh; obtain ⟨yb, kb9, mb9, hh1, hx, bx, hmb, hkb⟩ := hh; subst hh1; have hr9 := newrunH 9 (by decide) 10 HC8.out (by unfold lim; decide) H8.out bx hx hmb hkb (by decide) (by decide) (by decide) HT8.out _ rfl; rw [ex16b] at hr9; clear hx bx hmb hkb n8)
    | (go_at_call 27; refine hr9.mono ?_; intro e w10 hh; obtain ⟨hh1, p10, s10, h10, y10, v10, c10, n10, f10, -⟩ := hh; subst hh1; have hg10 := y10.got (by decide); have H10 := Lib.hid h10; have Y10 := Lib.hid y10; have X10 := Lib.hid ((X8.out.mono (fun q hq => List.mem_cons_of_mem _ hq)).step h10 f10); have A10 := Lib.hid (A8.out.fr f10 rfl); have C10 := Lib.hid (And.intro v10 (And.intro c10 n10)); clear h10 y10 v10 c10 n10 f10 hr9 H8 X8 A8)
    | (go_at_call 34; refine hg10.mono ?_; intro e w11 hh; obtain ⟨vc, hh1, a11, b11⟩ := hh; subst hh1; have H11 := Lib.hid (H10.out.keep b11); have X11 := Lib.hid (X10.out.below b11); have Y11 := Lib.hid (Y10.out.below b11); have A11 := Lib.hid (A10.out.below b11); have D11 := Lib.hid a11; clear a11 b11 hg10 H10 X10 Y10 A10))
  have ht11 : TabOf 2 tab16 s10 := fun b h0 h1 => by rw [C10.out.1]; exact HT8.out b h0 h1
  have HT11 := Lib.hid ht11
  have HC11 := Lib.hid (show s10.n ≤ 20 ∧ s10.cnt ≤ 20 by have a1 : s10.cnt = s8.cnt + 3 := C10.out.2.1; have a2 : s10.n = s8.n + 3 := C10.out.2.2; have := HC8.out; omega)
  clear ht11 HT8 HC8 C10
  have n11 := hNW.out w11 2
  obtain ⟨va1, rfl, -⟩ := A11.out.sl
  obtain ⟨vc1, rfl, -⟩ := D11.out.sl
  go_upto_region 14 with (first
    | (go_at_call 76; refine n11.mono ?_; intro e w12 hh; obtain ⟨zb, kb12, mb12, hh1, hx, bx, hmb, hkb⟩ := hh; subst hh1; have hr12 := newrunH 9 (by decide) 20 HC11.out (by unfold lim; decide) H11.out bx hx hmb hkb (by decide) (by decide) (by decide) HT11.out _ rfl; rw [ex16c.1] at hr12; clear hx bx hmb hkb n11)
    | (go_at_call 27; refine hr12.mono ?_; intro e w13 hh; obtain ⟨hh1, p13, s13, h13, z13, v13, c13, n13, f13, -⟩ := hh; subst hh1; have H13 := Lib.hid h13; have hg13 := z13.got (by rw [ex16c.2]; decide); rw [ex16c.2] at hg13; have X13 := Lib.hid ((X11.out.mono (fun q hq => List.mem_cons_of_mem _ hq)).step h13 f13); have Y13 := Lib.hid ((Y11.out.mono (fun q hq => List.mem_cons_of_mem _ hq)).step h13 f13); have A13 := Lib.hid (A11.out.fr f13 rfl); have D13 := Lib.hid (D11.out.fr f13 rfl); clear h13 z13 v13 c13 n13 f13 hr12 H11 X11 Y11 A11 D11))
  go_upto_region 16 with (go_at_call 34; refine hg13.mono ?_; intro e w14 hh; obtain ⟨vz, hh1, a14, b14⟩ := hh; subst hh1; obtain ⟨vz1, rfl, -⟩ := a14.sl; have H14 := Lib.hid (H13.out.keep b14); have X14 := Lib.hid (X13.out.below b14); have Y14 := Lib.hid (Y13.out.below b14); have A14 := Lib.hid (A13.out.below b14); have D14 := Lib.hid (D13.out.below b14); clear b14 a14 hg13 H13 X13 Y13 A13 D13)
  go_upto_region 17 with (fail)
  have hb15 := below_alloc w14 (.cells #[.int .i64 2, .int .i64 1, .int .i64 0] 46)
  have hz15 := heap_alloc_new w14 (.cells #[.int .i64 2, .int .i64 1, .int .i64 0] 46)
  have X15 := Lib.hid (X14.out.below hb15); have Y15 := Lib.hid (Y14.out.below hb15)
  have A15 := A14.out.below hb15; have D15 := D14.out.below hb15
  have H15 := Lib.hid (H14.out.keep hb15)
  clear hb15 H14 X14 Y14 A14 D14
  change Code.wp _ _ _ _ (w14.alloc (.cells #[.int .i64 2, .int .i64 1, .int .i64 0] 46))
  generalize w14.alloc (.cells #[.int .i64 2, .int .i64 1, .int .i64 0] 46) = w15 at *
  generalize w14.heap.size = tr at *
  obtain ⟨ga, e1, -, -, a0, a1, a2, -⟩ := A15.at 0 (by decide)
  obtain ⟨gd, e2, -, -, d0, d1, d2, -⟩ := D15.at 0 (by decide)
  obtain ⟨gd', e3, -, -, d3, d4, d5, -⟩ := D15.at 1 (by decide)
  simp only [Value.slice.injEq] at e1 e2 e3
  obtain ⟨rfl, -, -⟩ := e1
  obtain ⟨rfl, -, -⟩ := e2
  obtain ⟨e3, -, -⟩ := e3
  simp only [Option.some.injEq, Addr.mk.injEq, and_true] at e3
  subst e3
  simp only [Nat.zero_mul, Nat.one_mul] at a0 a1 a2 d0 d1 d2 d3 d4 d5
  have t0 : w15.cell? ⟨tr, 0, none⟩ = some (.int .i64 2) := hcell hz15 0
  have t1 : w15.cell? ⟨tr, 1, none⟩ = some (.int .i64 1) := hcell hz15 1
  have t2 : w15.cell? ⟨tr, 2, none⟩ = some (.int .i64 0) := hcell hz15 2
  have x0 := fun st : ExtW w15 => st.cell a0; have x1 := fun st : ExtW w15 => st.cell a1; have x2 := fun st : ExtW w15 => st.cell a2
  have x3 := fun st : ExtW w15 => st.cell d0; have x4 := fun st : ExtW w15 => st.cell d1; have x5 := fun st : ExtW w15 => st.cell d2
  have x6 := fun st : ExtW w15 => st.cell d3; have x7 := fun st : ExtW w15 => st.cell d4; have x8 := fun st : ExtW w15 => st.cell d5
  have x9 := fun st : ExtW w15 => st.cell t0; have x10 := fun st : ExtW w15 => st.cell t1; have x11 := fun st : ExtW w15 => st.cell t2
  have hnx : ∀ st : ExtW w15, Calls Try.prog 35 #[.pointer (some ⟨xb, 0, none⟩)] st.val fun e w' => e = .returned (.int .i64 2) ∧ Below st.val.heap.size st.val w' := fun st => ((X15.out.below st.below).nodes).mono fun e w' hh => ⟨hh.1, hh.2 ▸ Below.refl _ _⟩
  have hny : ∀ st : ExtW w15, Calls Try.prog 35 #[.pointer (some ⟨yb, 0, none⟩)] st.val fun e w' => e = .returned (.int .i64 4) ∧ Below st.val.heap.size st.val w' := fun st => ((Y15.out.below st.below).nodes).mono fun e w' hh => ⟨hh.1, hh.2 ▸ Below.refl _ _⟩
  clear a0 a1 a2 d0 d1 d2 d3 d4 d5 t0 t1 t2 A15 D15 hz15
  refine wp_region_ext (by kernel_rfl) (by kernel_rfl) ?_
  repeat (go_big_quiet_step (first
    | (go_at_call 35; with_reducible refine calls_ext (hnx _))
    | (go_at_call 35; with_reducible refine calls_ext (hny _))))
  refine wpQuiet_nil ?_
  rintro W ⟨⟨W2, hW⟩, rfl⟩
  have H16 := Lib.hid (H15.out.keep hW)
  clear x0 x1 x2 x3 x4 x5 x6 x7 x8 x9 x10 x11 hnx hny hW
  go_wp2_with (fail)
  go_ret
  exact ⟨rfl, H16.out.below⟩
end Go.Proofs.Ytdabcnjjbfmkaaa

/-
  Layer 16: a table's run.
-/
namespace Go.Proofs.Ytdabcnjjbfmkaaa
open Go.RowKit Go.Maps TagPure
set_option linter.unusedVariables false

theorem wfrom_atW {w : World} {base : Nat} {a : Option Addr} {ws : List (Int × Int)} (h : WFrom w base a ws 0) (k : Nat) (hk : k < ws.length) : ∃ g, a = some ⟨g, 0, none⟩ ∧ w.cell? ⟨g, k * 2, none⟩ = some (.int .u64 (ws[k]).1) ∧ w.cell? ⟨g, k * 2 + 1, none⟩ = some (.int .u64 (ws[k]).2) := by
  rcases h with h | ⟨g, cur, rfl, _, hg, hc⟩
  · omega
  · obtain ⟨c1, c2⟩ := hc k (Nat.zero_le _) hk
    exact ⟨g, rfl, (hcell hg _).trans c1, (hcell hg _).trans c2⟩
theorem wfrom_frW {w w' : World} {base : Nat} {a : Option Addr} {ws : List (Int × Int)} (h : WFrom w base a ws 0) (hf : Fr wTy true w w') : WFrom w' base a ws 0 := by
  rcases h with h | ⟨g, cur, h1, h2, h3, h4⟩
  · exact .inl h
  · exact .inr ⟨g, cur, h1, h2, hf.cells _ _ _ _ h3 rfl, h4⟩
theorem wfrom_fyW {w w' : World} {base b c : Nat} {a : Option Addr} {ws : List (Int × Int)} (h : WFrom w base a ws 0) (hf : Fy b c w w') (hb : b < base) (hc : c < base) : WFrom w' base a ws 0 := by
  rcases h with h | ⟨g, cur, h1, h2, h3, h4⟩
  · exact .inl h
  · exact .inr ⟨g, cur, h1, h2, hf.cells _ _ _ _ h3 rfl (by omega) (by omega), h4⟩
abbrev TRn (wb cb : Nat) (W : World) : Prop := W.cell? ⟨wb, 0, none⟩ = some (.pointer (some ⟨cb, 0, none⟩))
set_option maxRecDepth 10000 in
set_option maxHeartbeats 4000000 in
theorem trun {w0 w : World} {B : WB} {V : WV} {s : CS} (t : Tb) (hrd : TbRd w t) (c : Nat) (hc : s.n ≤ c ∧ s.cnt ≤ c) (hcl : c ≤ 500000) (h : WS w0 w B V s) (ht : TabOf t.bits t.tab s) (most : Int) (r : Nat × List Nd × List (Int × Int) × Bool) (hr : r = wrun most (tabO t.bits t.tab) (tabF t.tab) 99 0 (wfirst t.a t.b)) :
    Calls Try.prog 33 #[.agg t.cells, .pointer (some ⟨B.wb, 0, none⟩), .int .i64 most] w fun e w' => ∃ xb p s', e = .returned (.tuple #[.pointer (some ⟨xb, 0, none⟩), .bool true]) ∧ WS w0 w' B (V.plus p) s' ∧ WayH w' w0.heap.size xb (V.plus p) t.bits r ∧ s'.val = s.val ∧ (s'.n ≤ c + 99 ∧ s'.cnt ≤ c + 99) ∧ Fr wTy true w w' := by
  have hb1 := below_alloc w (.cells t.cells 90)
  have z := heap_alloc_new w (.cells t.cells 90)
  have hbb := hrd.bits
  have hb12 : 1 ≤ t.bits ∧ t.bits ≤ 12 := by omega
  have hab := hrd.ab
  have hts := tsize5 hbb
  -- the plain law
  have hst := wrun_steps (tabF t.tab) (tab_ok t.bits hb12 t.tab) most 99 0 (wfirst t.a t.b) (wfirst_sh (N := (tsize t.bits).toNat) (tabO t.bits t.tab) (tabF t.tab) (by omega) (by omega)).win (Nat.zero_le _) (by omega)
  rw [← hr] at hst
  obtain ⟨hov, hnn, hwin⟩ := hst
  have hr99 : r.1 ≤ 99 := by have := hwin.len; omega
  have hn0 : (r.1 : Int) ≤ (r.2.1.length : Int) := by omega
  have hn1 := Lib.hid (show ¬ ((r.2.1.length : Int) < (r.1 : Int)) by omega)
  have H := Lib.hid h; have Z := Lib.hid z; have HB1 := Lib.hid hb1; have HRD := Lib.hid hrd; have HC := Lib.hid hc; have HCL := Lib.hid hcl; have HT := Lib.hid ht; have HR := Lib.hid hr; have HAB := Lib.hid hab; have H12 := Lib.hid hb12; have HOV := Lib.hid hov; have HR99 := Lib.hid hr99; have HN0 := Lib.hid hn0
  obtain ⟨c0, c1, c2, c3, c4⟩ := tb_cells z
  have hen := fun W (hb : Below w.heap.size w W) => tends (w := W) t (hrd.below hb)
  have hbt := fun W => tbits (w := W) t hrd.rb
  have HEN := Lib.hid hen; have HBT := Lib.hid hbt
  clear h z hb1 hrd hc hcl ht hr hab hb12 hts hbb hov hnn hwin hr99 hn0 hen hbt
  have hen1 := HEN.out _ HB1.out
  go_enter Try.func33, Try.ntmps33
  go_upto_region 2 with (go_at_call 75; refine hen1.mono ?_; intro e w2 hh; obtain ⟨hh1, b2⟩ := hh; subst hh1; have Z2 := Lib.hid ((b2.block _ (Array.getElem?_eq_some_iff.1 Z.out).1).trans Z.out); have HB2 := Lib.hid (HB1.out.trans (b2.mono HB1.out.size)); clear b2 hen1 Z c0 c1 c2 c3 c4)
  obtain ⟨c0, c1, c2, c3, c4⟩ := tb_cells Z2.out
  have hbt := HBT.out
  have hnw := fun W => newway_ok t.bits t.a t.b most HAB.out.1 HAB.out.2 W
  go_upto_region 3 with (first
    | (go_at_call 38; refine (hbt _).mono ?_; intro e w3 hh; obtain ⟨hh1, b3⟩ := hh; subst hh1; have HB3 := Lib.hid (HB2.out.trans (b3.mono HB2.out.size)); clear b3 hbt HB2)
    | (go_at_call 76; refine (hnw _).mono ?_; intro e w4 hh; obtain ⟨xb, kb, mb, hh1, hx, bx, hmb, hkb⟩ := hh; subst hh1; have HX := Lib.hid hx; have BX := Lib.hid bx; have HMK := Lib.hid (And.intro hmb hkb); clear hx bx hmb hkb hnw))
  have H3 := Lib.hid (H.out.keep HB3.out)
  have H4 := Lib.hid (H3.out.keep BX.out)
  have k0 := H4.out.c0
  have hwd := words_own H4.out.own (by have := HC.out; have := HCL.out; omega)
  clear c0 c1 c2 c3 c4
  go_upto_region 5 with (first
    | (go_at_call 77; refine hwd.mono ?_; intro e w5 hh; obtain ⟨ga, ws, hh1, hws, b5⟩ := hh; subst hh1; have W5 := Lib.hid hws; have H5 := Lib.hid (H4.out.keep b5); have B5 := Lib.hid b5; have hs5 := H5.out.steps5; clear hws b5 hwd k0 H4)
    | (go_at_call 10; refine hs5.mono ?_; intro e w6 hh; obtain ⟨hh1, hh2⟩ := hh; subst hh1; obtain rfl := hh2.symm; clear hs5))
  have BX5 := BX.out.trans (B5.out.mono BX.out.size)
  have hrun := newrunH (tab := t.tab) 99 (by decide) c HC.out (by have := HCL.out; unfold lim; omega) H3.out BX5 (HX.out.below B5.out) HMK.out.1 HMK.out.2 H12.out HAB.out.1 HAB.out.2 HT.out r HR.out
  clear BX5
  go_upto_region 7 with (first
    | (go_at_call 27; refine hrun.mono ?_; intro e w7 hh; obtain ⟨hh1, p7, s7, h7, x7, v7, c7, n7, f7, y7⟩ := hh; subst hh1; have H7 := Lib.hid h7; have X7 := Lib.hid x7; have C7 := Lib.hid (And.intro v7 (And.intro c7 n7)); have F7 := Lib.hid ((below_fr HB3.out wTy true).trans f7); have W7 : Hid (WFrom w7 w4.heap.size ga ws 0) := wfrom_fyW W5.out.row y7 HX.out.lt HX.out.kb_lt; have k7 := h7.c0; have hwd7 := words_own h7.own (by have := HC.out; have := HCL.out; have := HR99.out; omega); clear h7 x7 v7 c7 n7 f7 y7 hrun H5 B5 BX HX)
    | (go_at_call 77; refine hwd7.mono ?_; intro e w8 hh; obtain ⟨gb, ws2, hh1, hws, b8⟩ := hh; subst hh1; have W8 := Lib.hid hws; have W8a := Lib.hid (wfrom_below W7.out b8); have H8 := Lib.hid (H7.out.keep b8); have X8 := Lib.hid (X7.out.below b8); have F8 := Lib.hid (F7.out.trans (below_fr b8 wTy true)); clear hws b8 hwd7 k7 H7 X7 F7 W7))
  have hwe : ws2 = ws := ris_eq W8.out.ris W5.out.ris W8.out.nz W5.out.nz fun a => by rw [W8.out.look, W5.out.look, C7.out.1]
  subst hwe
  have ho8 := X8.out.isover
  rw [HOV.out] at ho8
  have hs8 := H8.out.steps5
  have hcn : (s7.cnt : Int) = (s.cnt : Int) + r.1 := by have := C7.out.2.1; omega
  rw [hcn] at hs8
  have hn8 := X8.out.nodes
  have hlim : wrap64 ((s.cnt : Int) + r.1) = (s.cnt : Int) + r.1 := IntWalk.wrap64_in _ (by have := HC.out; have := HCL.out; have := HR99.out; omega)
  have hn1' := hn1.out
  clear hcn
  go_upto_region 9 with (first
    | (go_at_call 78; refine ho8.mono ?_; intro e w9 hh; obtain ⟨hh1, hh2⟩ := hh; subst hh1; obtain rfl := hh2.symm; clear ho8)
    | (go_at_call 10; refine hs8.mono ?_; intro e w9 hh; obtain ⟨hh1, hh2⟩ := hh; subst hh1; obtain rfl := hh2.symm; clear hs8)
    | (go_at_call 35; refine hn8.mono ?_; intro e w9 hh; obtain ⟨hh1, hh2⟩ := hh; subst hh1; obtain rfl := hh2.symm; clear hn8))
  have W8r := Lib.hid W8.out.row
  have HWM := Lib.hid (show ws2.length ≤ 1000000 from W8.out.most)
  clear hlim hn1' W5 W8
  go_wp2_with fail
  go_loopw [15] (fun i wr => ∃ k2 : Nat, k2 ≤ ws2.length ∧ i = .int .i64 k2 ∧ Below w8.heap.size w8 wr) (fun i _ => ws2.length - (intOf i).toNat)
  case atStart => exact ⟨0, by omega, rfl, Below.refl _ _⟩
  case round =>
    obtain ⟨k2, hk2, rfl, hB2⟩ := hrel
    by_cases hlt2 : k2 < ws2.length
    · have hlt2' : (k2 : Int) < ws2.length := by omega
      have hk20 : (0 : Int) ≤ k2 := by omega
      obtain ⟨ga1, rfl, z0, z1⟩ := wfrom_atW (wfrom_below W8a.out hB2) k2 hlt2
      obtain ⟨gb1, rfl, z2, z3⟩ := wfrom_atW (wfrom_below W8r.out hB2) k2 hlt2
      generalize (ws2[k2]).1 = va at *
      generalize (ws2[k2]).2 = vb at *
      have x0 := fun st : ExtW wr => st.cell z0
      have x1 := fun st : ExtW wr => st.cell z1
      have x2 := fun st : ExtW wr => st.cell z2
      have x3 := fun st : ExtW wr => st.cell z3
      have HB2w := Lib.hid hB2; have HLT2 := Lib.hid hlt2
      clear z0 z1 z2 z3 hB2 hlt2 hk2
      go_upto_region 12 with (fail)
      refine wp_region_ext (by kernel_rfl) (by kernel_rfl) ?_
      repeat (go_big_quiet_step (fail))
      refine wpQuiet_nil ?_
      rintro W ⟨⟨W2, hW⟩, rfl⟩
      clear x0 x1 x2 x3
      have HB3w := Lib.hid (HB2w.out.trans (hW.mono HB2w.out.size))
      have hm := HWM.out
      clear hW
      go_wp2_with fail
      go_roundw
      case rel => exact ⟨k2 + 1, HLT2.out, by go_num, HB3w.out⟩
      case measure => have := HLT2.out; simp [intOf]; omega
    · obtain rfl : k2 = ws2.length := by omega
      have HB2w := Lib.hid hB2
      clear hB2 hlt2 hk2
      go_wp2_with fail
      refine bodyPost_ret (v := .tuple #[.pointer (some ⟨xb, 0, none⟩), .bool true]) (by simp [results, Try.results33, go_sem]) rfl ?_
      have hc7 := C7.out
      have hC := HC.out
      have h99 := HR99.out
      exact ⟨xb, p7, s7, rfl, H8.out.keep HB2w.out, X8.out.below HB2w.out, hc7.1, ⟨by omega, by omega⟩, F8.out.trans (below_fr HB2w.out wTy true)⟩
end Go.Proofs.Ytdabcnjjbfmkaaa

/-
  Two arrays of integers by value: read from memory, held against each other.
-/
namespace Go.Proofs.Ytdabcnjjbfmkaaa
open Go.RowKit
set_option linter.unusedVariables false

theorem eqItems_ints {P : Program} {E : TypeId} {ik : IntKind} {inf : TypeInfo} (hE : P.underlying E = some (.int ik)) (hi : P.info? E = some inf) (hs : inf.size = 1) (d : Nat) (xs ys : List Int) (w : World) :
    ∀ is : List Nat, (∀ i ∈ is, i < xs.length ∧ i < ys.length) → (Op.eqItems (d + 1) E 1 (xs.map (Value.int ik)).toArray (ys.map (Value.int ik)).toArray is).run P w = .ok (is.all fun i => xs.getD i 0 == ys.getD i 0) w
  | [], _ => by simp [Op.eqItems]
  | i :: is, h => by
    have ih := eqItems_ints hE hi hs d xs ys w is (fun j hj => h j (List.mem_cons_of_mem _ hj))
    obtain ⟨h1, h2⟩ := h i List.mem_cons_self
    have p1 : (part E (xs.map (Value.int ik)).toArray (i * 1)).run P w = .ok (.int ik (xs.getD i 0)) w := by
      simp [part, isAgg, run_underlying hE, h1, List.getD_eq_getElem?_getD]
    have p2 : (part E (ys.map (Value.int ik)).toArray (i * 1)).run P w = .ok (.int ik (ys.getD i 0)) w := by
      simp [part, isAgg, run_underlying hE, h2, List.getD_eq_getElem?_getD]
    have e := run_equalIn_int w d E ik ik (xs.getD i 0) (ys.getD i 0) hE
    simp only [Op.eqItems, Sem.run_bind, p1, p2, e, Result.andThen_ok, List.all_cons]
    cases hb : (xs.getD i 0 == ys.getD i 0)
    · simp
    · simpa [hb] using ih
theorem all_eq (xs ys : List Int) (n : Nat) (h1 : xs.length = n) (h2 : ys.length = n) : ((List.range n).all fun i => xs.getD i 0 == ys.getD i 0) = (xs == ys) := by
  rw [Bool.eq_iff_iff, List.all_eq_true, beq_iff_eq]
  constructor
  · intro h
    refine List.ext_getElem (by omega) fun i hi hj => ?_
    have := h i (List.mem_range.2 (by omega))
    simpa [List.getD_eq_getElem?_getD, hi, hj] using this
  · rintro rfl i _
    simp
/-- Two arrays of integers, held against each other. -/
theorem run_eq_ints {P : Program} {T E n : Nat} {ik : IntKind} {inf : TypeInfo} (hT : P.underlying T = some (.array n E)) (hE : P.underlying E = some (.int ik)) (hi : P.info? E = some inf) (hs : inf.size = 1) (hc : P.cellsOf E = 1) (d : Nat) (xs ys : List Int) (h1 : xs.length = n) (h2 : ys.length = n) (w : World) :
    (Op.equalIn (d + 2) T (.agg (xs.map (Value.int ik)).toArray) (.agg (ys.map (Value.int ik)).toArray)).run P w = .ok (xs == ys) w := by
  rw [run_equalIn_array w (d + 1) _ _ hT hi, hc, eqItems_ints hE hi hs d xs ys w _ (fun i hi => by have := List.mem_range.1 hi; omega), all_eq xs ys n h1 h2]
theorem tick_eq (xs ys : List Int) (h1 : xs.length = 64) (h2 : ys.length = 64) (w : World) : (Op.equalIn 10000 40 (.agg (tkV xs).toArray) (.agg (tkV ys).toArray)).run Try.prog w = .ok (xs == ys) w := by
  obtain ⟨inf, hi, hs⟩ : ∃ inf, Try.prog.info? 39 = some inf ∧ inf.size = 1 := by
    have h : (Try.prog.info? 39).map (·.size) = some 1 := by kernel_rfl
    cases hh : Try.prog.info? 39 with
    | none => simp [hh] at h
    | some inf => exact ⟨inf, rfl, by simpa [hh] using h⟩
  exact run_eq_ints (P := Try.prog) (ik := .u64) Try.underlying40 Try.underlying39 hi hs (by kernel_rfl) 9998 xs ys h1 h2 w
theorem tk_range {W : World} {b T : Nat} {B : WB} {V : WV} (h : W.heap[b]? = some (.cells (B.val V) T (0, 0))) (ht : V.tk.length = 64) : W.rangeAt b 8 (tkV V.tk) := fun j v hv => by
  have hj : j < 64 := by
    have := (List.getElem?_eq_some_iff.1 hv).1
    simpa [tkV, ht] using this
  have h1 : W.cell? ⟨b, 8 + j, none⟩ = (B.val V)[8 + j]? := by unfold World.cell?; simp only; rw [h]; rfl
  rw [h1, val_tkat B V ht j hj, ← hv]
  simp [tkV, List.getD_eq_getElem?_getD, ht, hj]
theorem tk_load {W : World} {b T : Nat} {B : WB} {V : WV} (h : W.heap[b]? = some (.cells (B.val V) T (0, 0))) (ht : V.tk.length = 64) : (Instr.loadAt 40 (.pointer (some ⟨b, 8, none⟩))).run Try.prog W = .ok (.agg (tkV V.tk).toArray) W :=
  run_loadAt_mid W b 8 _ (tkV V.tk) _ (tk_range h ht) Try.underlying40 rfl (by rw [show (tkV V.tk).length = 64 by simp [tkV, ht]]; kernel_rfl)
theorem quiet_load {P : Program} {C : World → Prop} {o : Oper} {a : Act} {K : Act → Prop} (ty : TypeId) (x : Operand) (ho : o.op = .load ty x) (p v : Value) (hx : a.eval x = p) (hl : ∀ w, C w → (Instr.loadAt ty p).run P w = .ok v w) (hk : K (a.put o.dst v)) : o.quiet P a C K :=
  ⟨v, fun w hw => by
    unfold Oper.quietAt execOp
    simp only [ho, hx, Sem.run_bind, hl w hw, Result.andThen_ok, Sem.run_pure]
    exact ⟨rfl, rfl⟩, hk⟩
end Go.Proofs.Ytdabcnjjbfmkaaa

/-
  Arrays of 32 bools: by value, read from memory, held against each other.
-/
namespace Go.Proofs.Ytdabcnjjbfmkaaa
open Go.RowKit
set_option linter.unusedVariables false

def bvs (l : List Bool) : Array Value := (l.map Value.bool).toArray
theorem bvs_size (l : List Bool) : (bvs l).size = l.length := by simp [bvs]
theorem bvs_at (l : List Bool) (i : Nat) (h : i < l.length) : (bvs l)[i]? = some (.bool (l.getD i false)) := by
  unfold bvs
  simp [List.getD_eq_getElem?_getD, h]
theorem bvs_set (l : List Bool) (i : Nat) (b : Bool) : (bvs l).setIfInBounds i (.bool b) = bvs (l.set i b) := by
  unfold bvs
  apply Array.toList_inj.1
  simp
theorem eqItems_bools {P : Program} {E : TypeId} {inf : TypeInfo} (hE : P.underlying E = some .bool) (hi : P.info? E = some inf) (hs : inf.size = 1) (d : Nat) (xs ys : List Bool) (w : World) :
    ∀ is : List Nat, (∀ i ∈ is, i < xs.length ∧ i < ys.length) → (Op.eqItems (d + 1) E 1 (xs.map Value.bool).toArray (ys.map Value.bool).toArray is).run P w = .ok (is.all fun i => xs.getD i false == ys.getD i false) w
  | [], _ => by simp [Op.eqItems]
  | i :: is, h => by
    have ih := eqItems_bools hE hi hs d xs ys w is (fun j hj => h j (List.mem_cons_of_mem _ hj))
    obtain ⟨h1, h2⟩ := h i List.mem_cons_self
    have p1 : (part E (xs.map Value.bool).toArray (i * 1)).run P w = .ok (.bool (xs.getD i false)) w := by
      simp [part, isAgg, run_underlying hE, h1, List.getD_eq_getElem?_getD]
    have p2 : (part E (ys.map Value.bool).toArray (i * 1)).run P w = .ok (.bool (ys.getD i false)) w := by
      simp [part, isAgg, run_underlying hE, h2, List.getD_eq_getElem?_getD]
    have e := run_equalIn_bool' w d E (xs.getD i false) (ys.getD i false) hE
    simp only [Op.eqItems, Sem.run_bind, p1, p2, e, Result.andThen_ok, List.all_cons]
    cases hb : (xs.getD i false == ys.getD i false)
    · simp
    · simpa [hb] using ih
theorem all_eqB (xs ys : List Bool) (n : Nat) (h1 : xs.length = n) (h2 : ys.length = n) : ((List.range n).all fun i => xs.getD i false == ys.getD i false) = (xs == ys) := by
  rw [Bool.eq_iff_iff, List.all_eq_true, beq_iff_eq]
  constructor
  · intro h
    refine List.ext_getElem (by omega) fun i hi hj => ?_
    have := h i (List.mem_range.2 (by omega))
    simpa [List.getD_eq_getElem?_getD, hi, hj] using this
  · rintro rfl i _
    simp
theorem b32_eq (xs ys : List Bool) (h1 : xs.length = 32) (h2 : ys.length = 32) (w : World) : (Op.equalIn 10000 172 (.agg (bvs xs)) (.agg (bvs ys))).run Try.prog w = .ok (xs == ys) w := by
  obtain ⟨inf, hi, hs⟩ : ∃ inf, Try.prog.info? 4 = some inf ∧ inf.size = 1 := by
    have h : (Try.prog.info? 4).map (·.size) = some 1 := by kernel_rfl
    cases hh : Try.prog.info? 4 with
    | none => simp [hh] at h
    | some inf => exact ⟨inf, rfl, by simpa [hh] using h⟩
  unfold bvs
  rw [show (10000 : Nat) = 9998 + 1 + 1 from rfl, run_equalIn_array w (9998 + 1) _ _ Try.underlying172 hi, show Try.prog.cellsOf 4 = 1 from by kernel_rfl, eqItems_bools Try.underlying4 hi hs 9998 xs ys w _ (fun i hi => by have := List.mem_range.1 hi; omega), all_eqB xs ys 32 h1 h2]
theorem b32_eql (xs ys : List Bool) (h1 : xs.length = 32) (h2 : ys.length = 32) (w : World) : (binOp .eql 172 (.agg (bvs xs)) (.agg (bvs ys))).run Try.prog w = .ok (.bool (xs == ys)) w := by
  rw [run_eql_struct, b32_eq xs ys h1 h2 w]; rfl
abbrev B32 (w : World) (q : Nat) (l : List Bool) : Prop := w.heap[q]? = some (.cells (bvs l) 172 (0, 0)) ∧ l.length = 32
theorem B32.load {w : World} {q : Nat} {l : List Bool} (h : B32 w q l) : (Instr.loadAt 172 (.pointer (some ⟨q, 0, none⟩))).run Try.prog w = .ok (.agg (bvs l)) w := by
  have := run_loadVar_row (P := Try.prog) w q 172 172 (bvs l) (0, 0) _ h.1 Try.underlying172 rfl (by rw [bvs_size, h.2]; kernel_rfl)
  simp only [Instr.loadAt, Instr.sureAddr, Sem.run_bind, Sem.run_pure, Result.andThen_ok, this]
theorem bvs_one (l : List Bool) : (bvs l).all (·.oneCell') = true := by
  unfold bvs
  simp [Value.oneCell']
theorem B32.store {w : World} {q : Nat} {l m : List Bool} (h : B32 w q l) (hm : m.length = 32) : (Instr.storeAt 172 (.pointer (some ⟨q, 0, none⟩)) (.agg (bvs m))).run Try.prog w = .ok () (w.setRow q (bvs m)) := by
  have := run_storeVar_row (P := Try.prog) w q 172 172 (bvs l) (bvs m) h.1 (by rw [bvs_size, hm]; kernel_rfl) (by rw [bvs_size, bvs_size, h.2, hm]) (bvs_one m)
  simp only [Instr.storeAt, Instr.sureAddr, Sem.run_bind, Sem.run_pure, Result.andThen_ok, this]
theorem B32.row {w : World} {q : Nat} {l m : List Bool} (h : B32 w q l) (hm : m.length = 32) : B32 (w.setRow q (bvs m)) q m := ⟨setRow_heap w q _ _ _ _ h.1, hm⟩
theorem B32.below {w w' : World} {q : Nat} {l : List Bool} (h : B32 w q l) (hb : Below w.heap.size w w') : B32 w' q l := ⟨(hb.block _ (Array.getElem?_eq_some_iff.1 h.1).1).trans h.1, h.2⟩
theorem B32.lt {w : World} {q : Nat} {l : List Bool} (h : B32 w q l) : q < w.heap.size := (Array.getElem?_eq_some_iff.1 h.1).1
theorem B32.cell {w : World} {q : Nat} {l : List Bool} (h : B32 w q l) (i : Nat) (hi : i < 32) : w.cell? ⟨q, i, none⟩ = some (.bool (l.getD i false)) ∧ w.frozen? ⟨q, i, none⟩ = false := ⟨(hcell h.1 i).trans (bvs_at l i (by rw [h.2]; exact hi)), hfrz h.1 i⟩
theorem B32.set {w : World} {q : Nat} {l : List Bool} (h : B32 w q l) (i : Nat) (b : Bool) : B32 (w.setCell ⟨q, i, none⟩ (.bool b)) q (l.set i b) := by
  refine ⟨?_, by rw [List.length_set]; exact h.2⟩
  rw [← bvs_set]; exact setCell_same h.1 i _
theorem B32.other {w : World} {q p i : Nat} {l : List Bool} {u : Value} (h : B32 w q l) (hp : q ≠ p) : B32 (w.setCell ⟨p, i, none⟩ u) q l := ⟨((setCell_keeps w p i u).block q h.lt hp).trans h.1, h.2⟩
theorem B32.otherRow {w : World} {q p : Nat} {l : List Bool} {c : Array Value} (h : B32 w q l) (hp : q ≠ p) : B32 (w.setRow p c) q l := ⟨(setRow_other w p q c hp).trans h.1, h.2⟩
end Go.Proofs.Ytdabcnjjbfmkaaa

/-
  Layer 16: how far the nearest free slot is.
-/
namespace Go.Proofs.Ytdabcnjjbfmkaaa
open Go.RowKit Go.Maps TagPure
set_option linter.unusedVariables false

set_option maxRecDepth 10000 in
theorem ttags {w0 w : World} {B : WB} {V : WV} {s : CS} (t : Tb) (hb : 0 ≤ t.qb ∧ t.qb < 256) (h : WS w0 w B V s) (k : Int) : Calls Try.prog 81 #[.agg t.cells, .pointer (some ⟨B.wb, 0, none⟩), .int .i64 k] w fun e w' => e = .returned (.int .u64 (s.val (tagsA t.bits k))) ∧ Below w.heap.size w w' := by
  have hb1 := below_alloc w (.cells t.cells 90)
  have z := heap_alloc_new w (.cells t.cells 90)
  have hbt := fun W => tbits (w := W) t hb
  have htg := fun W => tags_any t.bits k W
  have hpk := Lib.hid (fun (W : World) (hW : Below w.heap.size w W) => (h.keep hW).peek (tagsA t.bits k) (tagsA_wf _ _))
  have H := Lib.hid h; have Z := Lib.hid z; have HB1 := Lib.hid hb1
  clear h z hb1 hb
  go_enter Try.func81, Try.ntmps81
  go_upto_region 1 with (fail)
  have hs1 : TWt B.wb B.cb w.heap.size t (w.alloc (.cells t.cells 90)).drew := ⟨(H.out.keep HB1.out).c0, tb_cells Z.out⟩
  change Code.wp _ _ _ _ (w.alloc (.cells t.cells 90))
  generalize w.alloc (.cells t.cells 90) = w1 at *
  go_region_held2 (fun W => TWt B.wb B.cb w.heap.size t W) (assumption) (first
    | (go_at_call 38; refine (hbt _).mono ?_; intro e w6 hh; obtain ⟨hh1, b6⟩ := hh; subst hh1; have b6' := (Below.refl w1.heap.size w1).drew.trans b6; have B6 := Lib.hid (HB1.out.trans (b6'.mono HB1.out.size)); have Z6 := Lib.hid ((b6'.block _ (Array.getElem?_eq_some_iff.1 Z.out).1).trans Z.out); have s6 : TWt B.wb B.cb w.heap.size t w6 := ⟨(H.out.keep B6.out).c0, tb_cells Z6.out⟩; clear b6 b6' hs1 hbt)
    | (go_at_call 74; refine (htg _).mono ?_; intro e w7 hh; obtain ⟨hh1, b7⟩ := hh; subst hh1; have Z7 := Lib.hid ((b7.block _ (Array.getElem?_eq_some_iff.1 Z6.out).1).trans Z6.out); have B7 := Lib.hid (B6.out.trans (b7.mono B6.out.size)); have s7 : TWt B.wb B.cb w.heap.size t w7 := ⟨(H.out.keep B7.out).c0, tb_cells Z7.out⟩; have hp7 := hpk.out w7 B7.out; clear b7 s6 htg)
    | (go_at_call 19; refine hp7.mono ?_; intro e w8 hh; obtain ⟨hh1, hh2⟩ := hh; subst hh1; obtain rfl := hh2.symm; clear hp7))
  go_wp2_with (fail)
  go_ret
  exact ⟨rfl, B7.out⟩
def sputN (o : Int → Nat → Int) (k c : Nat) (l : List Bool) : List Bool := (List.range c).foldl (fun l s => l.set (o (k : Int) s).toNat true) l
theorem sputN_succ (o : Int → Nat → Int) (k c : Nat) (l : List Bool) : sputN o k (c + 1) l = (sputN o k c l).set (o (k : Int) c).toNat true := by
  unfold sputN; rw [List.range_succ, List.foldl_append]; rfl
abbrev TQt (q : Nat) (t : Tb) (W : World) : Prop := W.cell? ⟨q, 0, none⟩ = some (.int .u8 t.qb) ∧ W.cell? ⟨q, 1, none⟩ = some (.slice t.ta t.tags.length t.tc) ∧ W.cell? ⟨q, 2, none⟩ = some (.int .u16 t.qa) ∧ W.cell? ⟨q, 3, none⟩ = some (.int .u16 t.qbb) ∧ W.cell? ⟨q, 4, none⟩ = some (.int .u16 t.qm)
abbrev TbA (w : World) (q : Nat) (t : Tb) : Prop := w.heap[q]? = some (.cells t.cells 90 (0, 0))
theorem tba_set {w : World} {q p i : Nat} {u : Value} {t : Tb} (h : TbA w q t) (hp : q ≠ p) : TbA (w.setCell ⟨p, i, none⟩ u) q t := ((setCell_keeps w p i u).block q (Array.getElem?_eq_some_iff.1 h).1 hp).trans h
theorem tba_below {w w' : World} {q : Nat} {t : Tb} (h : TbA w q t) (hb : Below w.heap.size w w') : TbA w' q t := (hb.block _ (Array.getElem?_eq_some_iff.1 h).1).trans h
theorem tba_row {w : World} {q p : Nat} {c : Array Value} {t : Tb} (h : TbA w q t) (hp : q ≠ p) : TbA (w.setRow p c) q t := (setRow_other w p q c hp).trans h
set_option maxRecDepth 10000 in
set_option maxHeartbeats 4000000 in
theorem tfar {w0 w : World} {B : WB} {V : WV} {s : CS} (t : Tb) (hrd : TbRd w t) (h : WS w0 w B V s) (ht : TabOf t.bits t.tab s) (R : Int) (hR : R = wfar (tsize t.bits).toNat (tabO t.bits t.tab) (tabF t.tab) 32 0 (fins t.a t.b)) : Calls Try.prog 37 #[.agg t.cells, .pointer (some ⟨B.wb, 0, none⟩)] w fun e w' => e = .returned (.int .i64 R) ∧ Below w.heap.size w w' := by
  have hb1 := below_alloc w (.cells t.cells 90)
  have z := heap_alloc_new w (.cells t.cells 90)
  obtain ⟨c0, c1, c2, c3, c4⟩ := tb_cells z
  have hbb := hrd.bits
  have hts := tsize5 hbb
  have hab := hrd.ab
  have hen := tends t (hrd.below hb1)
  have HRB := Lib.hid hrd.rb
  obtain ⟨N, hN⟩ : ∃ N : Nat, N = (tsize t.bits).toNat := ⟨_, rfl⟩
  rw [← hN] at hR
  obtain ⟨na, hna⟩ : ∃ na : Nat, na = t.a.toNat := ⟨_, rfl⟩
  obtain ⟨nb, hnb⟩ : ∃ nb : Nat, nb = t.b.toNat := ⟨_, rfl⟩
  have ea : t.a = (na : Int) := by omega
  have eb : t.b = (nb : Int) := by omega
  have la : na < 32 := by omega
  have lb : nb < 32 := by omega
  have eN : tsize t.bits = (N : Int) := by omega
  have N32 : N ≤ 32 := by omega
  rw [ea, eb] at hR hen
  have hfi : fins (na : Int) nb = ((List.replicate 32 false).set na true).set nb true := by unfold fins; rw [Int.toNat_natCast, Int.toNat_natCast]
  rw [hfi] at hR
  have H := Lib.hid h; have Z := Lib.hid (show w.heap.size < (w.alloc (.cells t.cells 90)).heap.size ∧ _ from ⟨(Array.getElem?_eq_some_iff.1 z).1, z⟩); have HB1 := Lib.hid hb1; have HT := Lib.hid ht; have HR := Lib.hid hR; have EN := Lib.hid eN; have N2 := Lib.hid N32; have HBB := Lib.hid hbb
  have LA := Lib.hid la; have LB := Lib.hid lb
  have a0 : (0 : Int) ≤ na := by omega
  have b0 : (0 : Int) ≤ nb := by omega
  have a1 : (na : Int) < 32 := by omega
  have b1 : (nb : Int) < 32 := by omega
  clear h z hb1 hbb hts hab ht hR hrd hna hnb ea eb eN N32 hfi hN la lb
  go_enter Try.func37, Try.ntmps37
  go_upto_region 3 with (go_at_call 75; refine hen.mono ?_; intro e w2 hh; obtain ⟨hh1, b2⟩ := hh; subst hh1; have B2 := Lib.hid b2; clear b2 hen c0 c1 c2 c3 c4)
  have hb3 := below_alloc w2 (.cells (bvs (List.replicate 32 false)) 172)
  have hz3 : B32 (w2.alloc (.cells (bvs (List.replicate 32 false)) 172)) w2.heap.size (List.replicate 32 false) := ⟨heap_alloc_new w2 _, rfl⟩
  change Code.wp _ _ _ _ (w2.alloc (.cells (bvs (List.replicate 32 false)) 172))
  have HB2 : Hid (Below w.heap.size w w2) := HB1.out.trans (B2.out.mono HB1.out.size)
  have Z2 : Hid (TbA w2 w.heap.size t) := (B2.out.block _ Z.out.1).trans Z.out.2
  have HB3 := Lib.hid (HB2.out.trans (hb3.mono HB2.out.size))
  have Z3 := Lib.hid (show TbA _ w.heap.size t from (hb3.block _ (Array.getElem?_eq_some_iff.1 Z2.out).1).trans Z2.out)
  have IB := Lib.hid (show w.heap.size < w2.heap.size from (Array.getElem?_eq_some_iff.1 Z2.out).1)
  clear Z Z2 hb3 B2 HB1 HB2
  generalize w2.alloc (.cells (bvs (List.replicate 32 false)) 172) = w3 at *
  generalize w2.heap.size = ib at *
  obtain ⟨e1, f1⟩ := hz3.cell na LA.out
  have I4 := hz3.set na true
  obtain ⟨e2, f2⟩ := I4.cell nb LB.out
  have I5 := Lib.hid (I4.set nb true)
  have HB5 := Lib.hid ((HB3.out.setCell (p := ⟨ib, na, none⟩) (Nat.le_of_lt IB.out) (.bool true)).setCell (p := ⟨ib, nb, none⟩) (Nat.le_of_lt IB.out) (.bool true))
  have Z5 := Lib.hid (tba_set (i := nb) (u := .bool true) (tba_set (i := na) (u := .bool true) Z3.out (Nat.ne_of_lt IB.out)) (Nat.ne_of_lt IB.out))
  clear hz3 I4 HB3 Z3
  go_upto_region 5 with (fail)
  generalize (w3.setCell ⟨ib, na, none⟩ (.bool true)).setCell ⟨ib, nb, none⟩ (.bool true) = w5 at *
  clear e1 e2 f1 f2 a0 b0 a1 b1
  go_wp2_with (fail)
  go_loopw [8] (fun v8 wr => ∃ (n : Nat) (l : List Bool), n ≤ 32 ∧ v8 = .int .i64 n ∧ B32 wr ib l ∧ TbA wr w.heap.size t ∧ Below w.heap.size w wr ∧ R = wfar N (tabO t.bits t.tab) (tabF t.tab) (32 - n) n l) (fun v8 _ => 32 - (intOf v8).toNat)
  case atStart => exact ⟨0, _, Nat.zero_le _, rfl, I5.out, Z5.out, HB5.out, HR.out⟩
  case round =>
    clear I5 Z5 HB5 HR
    obtain ⟨n, l, hn, rfl, hi, hz, hb, hR⟩ := hrel
    by_cases hlt : n < 32
    · have hlt' : (n : Int) < 32 := by omega
      obtain ⟨m, hm⟩ : ∃ m, m = 32 - (n + 1) := ⟨_, rfl⟩
      rw [show 32 - n = m + 1 by omega] at hR
      have I6 := Lib.hid hi; have Z6 := Lib.hid hz; have HB6 := Lib.hid hb; have HR6 := Lib.hid hR; have HN := Lib.hid hlt; have HM := Lib.hid hm
      clear hi hz hb hR hlt hn hm
      have hsz32 : Hid ((Try.prog.info? 172).map (·.size) = some (bvs l).size) := by show _ = some (bvs l).size; rw [bvs_size, I6.out.2]; kernel_rfl
      have hzr : Hid ((wr.alloc (.cells (bvs (List.replicate 32 false)) 172)).heap[wr.heap.size]? = some (.cells (bvs (List.replicate 32 false)) 172 (0, 0))) := heap_alloc_new wr _
      have hold : Hid ((bvs (List.replicate 32 false)).size = (bvs l).size) := by show _ = _; rw [bvs_size, bvs_size, I6.out.2]; rfl
      go_upto_region 9 with (first
        | (refine wpList_load_row rfl 172 _ rfl ib rfl 172 (bvs l) (0, 0) _ I6.out.1 Try.underlying172 rfl hsz32.out ?_)
        | (refine wpList_store_row rfl 172 _ _ rfl wr.heap.size (bvs l) rfl rfl 172 (bvs (List.replicate 32 false)) hzr.out hsz32.out hold.out (bvs_one l) ?_))
      have hba := below_alloc wr (.cells (bvs (List.replicate 32 false)) 172)
      have ia := I6.out.below hba
      have za := tba_below Z6.out hba
      have IJ : Hid (ib < wr.heap.size) := I6.out.lt
      have QJ : Hid (w.heap.size < wr.heap.size) := (Array.getElem?_eq_some_iff.1 Z6.out).1
      have I7 := Lib.hid (ia.otherRow (p := wr.heap.size) (c := bvs l) (Nat.ne_of_lt IJ.out))
      have Z7 := Lib.hid (tba_row (p := wr.heap.size) (c := bvs l) za (Nat.ne_of_lt QJ.out))
      have J7 := Lib.hid (B32.row (q := wr.heap.size) (l := List.replicate 32 false) ⟨hzr.out, rfl⟩ I6.out.2)
      have HB7 := Lib.hid (below_setRow (HB6.out.trans (hba.mono HB6.out.size)) (Nat.le_of_lt QJ.out) (bvs l))
      change Code.wp _ _ _ _ ((wr.alloc (.cells (bvs (List.replicate 32 false)) 172)).setRow wr.heap.size (bvs l))
      clear hba ia za hsz32 hzr hold I6 Z6 HB6
      generalize (wr.alloc (.cells (bvs (List.replicate 32 false)) 172)).setRow wr.heap.size (bvs l) = w7 at *
      generalize wr.heap.size = jb at *
      go_wp2_with (fail)
      go_loopw [10] (fun v10 wk => ∃ (k : Nat) (nx : List Bool), k ≤ N ∧ v10 = .int .i64 k ∧ B32 wk jb nx ∧ B32 wk ib l ∧ TbA wk w.heap.size t ∧ Below w.heap.size w wk ∧ nx = (List.range k).foldl (fstp (tabO t.bits t.tab) l) l ∧ ∀ j, j < k → ¬ (l.getD j false = true ∧ 0 ≤ tabF t.tab (j : Int))) (fun v10 _ => N - (intOf v10).toNat)
      case atStart => exact ⟨0, l, Nat.zero_le _, rfl, J7.out, I7.out, Z7.out, HB7.out, rfl, fun j hj => absurd hj (Nat.not_lt_zero _)⟩
      case round =>
        clear I7 Z7 J7 HB7
        obtain ⟨k, nx, hk, rfl, hj, hi, hz, hb, hnx, hno⟩ := hrel
        have hsh := shl_bits t.bits HBB.out
        rw [EN.out] at hsh
        have hbt := fun W => tbits (w := W) t HRB.out
        obtain ⟨c0, c1, c2, c3, c4⟩ := tb_cells hz
        have J8 := Lib.hid hj; have I8 := Lib.hid hi; have Z8 := Lib.hid hz; have HB8 := Lib.hid hb; have HNX := Lib.hid hnx; have HNO := Lib.hid hno
        clear hj hi hz hb hnx hno
        by_cases hlt : k < N
        · have hlt' : (k : Int) < N := by omega
          have HLT := Lib.hid hlt
          have k32 := Lib.hid (show k < 32 by have := N2.out; omega)
          have hk0 : (0 : Int) ≤ k := by omega
          have hk1 : (k : Int) < 32 := by have := k32.out; omega
          clear hk hlt
          go_upto_region 12 with (go_at_call 38; refine (hbt _).mono ?_; intro e w9 hh; obtain ⟨hh1, b9⟩ := hh; subst hh1; have J9 := Lib.hid (J8.out.below b9); have I9 := Lib.hid (I8.out.below b9); have Z9 := Lib.hid (tba_below Z8.out b9); have HB9 := Lib.hid (HB8.out.trans (b9.mono HB8.out.size)); clear b9 hbt J8 I8 Z8 HB8 c0 c1 c2 c3 c4)
          obtain ⟨e1, e2⟩ := I9.out.cell k k32.out
          obtain ⟨q, hq⟩ : ∃ q, q = l.getD k false := ⟨_, rfl⟩
          rw [← hq] at e1
          have HQ := Lib.hid hq
          clear hq hlt'
          obtain ⟨c0, c1, c2, c3, c4⟩ := tb_cells Z9.out
          cases q
          · -- not reached
            go_wp2_with (fail)
            go_roundw
            case measure => have := HLT.out; have := N2.out; simp [intOf]; omega
            case rel =>
              refine ⟨k + 1, nx, HLT.out, by have := N2.out; have := HLT.out; go_num, J9.out, I9.out, Z9.out, HB9.out, ?_, fun j hj => ?_⟩
              · rw [List.range_succ, List.foldl_append, ← HNX.out]
                show nx = fstp _ l nx k
                unfold fstp
                rw [if_neg (by rw [← HQ.out]; decide)]
              · by_cases e : j = k
                · subst e; rw [← HQ.out]; exact fun c => absurd c.1 (by decide)
                · exact HNO.out j (by omega)
          · have htg := ttags t HRB.out (H.out.keep HB9.out) (k : Int)
            have hv : s.val (tagsA t.bits k) = t.tab k := HT.out k hk0 (by rw [EN.out]; have := HLT.out; omega)
            rw [hv] at htg
            obtain ⟨v, hvv⟩ : ∃ v, v = t.tab k := ⟨_, rfl⟩
            rw [← hvv] at htg
            have hvb := wf_bd (H.out.own.wf (tagsA t.bits k))
            rw [hv, ← hvv] at hvb
            have hfree := fun W => free_any v W hvb.1 hvb.2
            obtain ⟨fv, hfv⟩ : ∃ fv, fv = frW v := ⟨_, rfl⟩
            have hfw : fv = freeFrom v 0 4 := hfv
            rw [← hfw] at hfree
            have hFF : tabF t.tab (k : Int) = fv := by unfold tabF; rw [← hvv, hfv]
            have HV := Lib.hid hvv; have HVB := Lib.hid hvb; have HFV := Lib.hid hfv; have HFF := Lib.hid hFF
            have hfc := free_casesW v
            rw [← hfw] at hfc
            clear hv hvv hvb hfv hfw hFF
            by_cases hf : 0 ≤ fv
            · have hf' : (fv ≥ 0) := hf
              have HF := Lib.hid hf
              clear hf hfc
              go_wp2_with (first
                | (go_at_call 81; refine htg.mono ?_; intro e w10 hh; obtain ⟨hh1, b10⟩ := hh; subst hh1; have HB10 := Lib.hid (HB9.out.trans (b10.mono HB9.out.size)); clear b10 htg)
                | (go_at_call 82; refine (hfree _).mono ?_; intro e w11 hh; obtain ⟨hh1, b11⟩ := hh; subst hh1; have HB11 := Lib.hid (HB10.out.trans (b11.mono HB10.out.size)); clear b11 hfree))
              go_ret
              have hRn : R = (n : Int) := by
                rw [HR6.out]
                show (if ffree N (tabF t.tab) l = true then (n : Int) else _) = _
                rw [if_pos]
                unfold ffree
                rw [List.any_eq_true]
                exact ⟨k, List.mem_range.2 HLT.out, by rw [← HQ.out, HFF.out]; simpa using HF.out⟩
              rw [hRn]
              exact ⟨rfl, HB11.out⟩
            · have hf' : ¬ (fv ≥ 0) := hf
              have hfe : fv = -1 := by rcases hfc with h | ⟨x, _, h, _⟩ <;> omega
              have hfull := full_tags v HVB.out.1 (by rw [← HFV.out]; exact hfe)
              have HFULL := Lib.hid hfull; have HF := Lib.hid hf
              clear hfull hf hfc hfe
              go_upto_region 16 with (first
                | (go_at_call 81; refine htg.mono ?_; intro e w10 hh; obtain ⟨hh1, b10⟩ := hh; subst hh1; have HB10 := Lib.hid (HB9.out.trans (b10.mono HB9.out.size)); have J10 := Lib.hid (J9.out.below b10); have I10 := Lib.hid (I9.out.below b10); have Z10 := Lib.hid (tba_below Z9.out b10); clear b10 htg J9 I9 Z9 HB9 c0 c1 c2 c3 c4 e1 e2)
                | (go_at_call 82; refine (hfree _).mono ?_; intro e w11 hh; obtain ⟨hh1, b11⟩ := hh; subst hh1; have HB11 := Lib.hid (HB10.out.trans (b11.mono HB10.out.size)); have J11 := Lib.hid (J10.out.below b11); have I11 := Lib.hid (I10.out.below b11); have Z11 := Lib.hid (tba_below Z10.out b11); clear b11 hfree J10 I10 Z10 HB10))
              clear hf'
              go_wp2_with (fail)
              go_loopw [12] (fun v12 wi => ∃ (c : Nat) (nx2 : List Bool), c ≤ 4 ∧ v12 = .int .i64 c ∧ B32 wi jb nx2 ∧ B32 wi ib l ∧ TbA wi w.heap.size t ∧ Below w.heap.size w wi ∧ nx2 = sputN (tabO t.bits t.tab) k c nx) (fun v12 _ => 4 - (intOf v12).toNat)
              case atStart => exact ⟨0, nx, by omega, rfl, J11.out, I11.out, Z11.out, HB11.out, rfl⟩
              case round =>
                clear J11 I11 Z11 HB11
                obtain ⟨c, nx2, hc, rfl, hj, hi, hz, hb, hnx2⟩ := hrel
                have J12 := Lib.hid hj; have I12 := Lib.hid hi; have Z12 := Lib.hid hz; have HB12 := Lib.hid hb; have HNX2 := Lib.hid hnx2
                clear hj hi hz hb hnx2
                by_cases hlt : c < 4
                · have hlt' : (c : Int) < 4 := by omega
                  have HC4 := Lib.hid hlt
                  have htg2 : tagOf v c = tg v c := by unfold tagOf; rw [if_pos (by omega), Int.toNat_natCast]
                  have hTG := fun W => tag_any v c W HVB.out.1 HVB.out.2
                  rw [htg2] at hTG
                  have hN12 : 1 ≤ t.bits ∧ t.bits ≤ 12 := by have := HBB.out; omega
                  have hkt : 0 ≤ (k : Int) ∧ (k : Int) < tsize t.bits := by rw [EN.out]; have := HLT.out; omega
                  have hOT := other_fn k (tg v c) t.bits hN12 hkt (HFULL.out c hlt)
                  have hto := (tab_ok t.bits hN12 t.tab).o_in k c hkt.1 (by omega) hlt
                  have hoe : tabO t.bits t.tab k c = oth k (tg v c) t.bits := by unfold tabO otW; rw [← HV.out]
                  obtain ⟨nt, hnt⟩ : ∃ nt : Nat, nt = (oth k (tg v c) t.bits).toNat := ⟨_, rfl⟩
                  rw [hoe, EN.out] at hto
                  have hnte : oth k (tg v c) t.bits = (nt : Int) := by omega
                  have hnt32 := Lib.hid (show nt < 32 by have := N2.out; omega)
                  rw [hnte] at hOT
                  have HNT := Lib.hid (hoe.trans hnte)
                  have hbt := fun W => tbits (w := W) t HRB.out
                  have hs12 : TQt w.heap.size t wr.drew := tb_cells Z12.out
                  clear hc hlt htg2 hN12 hkt hto hoe hnt hnte hsh
                  go_upto_region 19 with (fail)
                  go_region_held2 (fun W => TQt w.heap.size t W) (assumption) (first
                    | (go_at_call 84; refine (hTG _).mono ?_; intro e w13 hh; obtain ⟨hh1, b13⟩ := hh; subst hh1; have b13' := (Below.refl wr.heap.size wr).drew.trans b13; have J13 := Lib.hid (J12.out.below b13'); have I13 := Lib.hid (I12.out.below b13'); have Z13 := Lib.hid (tba_below Z12.out b13'); have HB13 := Lib.hid (HB12.out.trans (b13'.mono HB12.out.size)); have s13 : TQt w.heap.size t w13 := tb_cells Z13.out; clear b13 b13' hTG hs12)
                    | (go_at_call 38; refine (hbt _).mono ?_; intro e w14 hh; obtain ⟨hh1, b14⟩ := hh; subst hh1; have J14 := Lib.hid (J13.out.below b14); have I14 := Lib.hid (I13.out.below b14); have Z14 := Lib.hid (tba_below Z13.out b14); have HB14 := Lib.hid (HB13.out.trans (b14.mono HB13.out.size)); have s14 : TQt w.heap.size t w14 := tb_cells Z14.out; clear b14 hbt s13)
                    | (go_at_call 83; refine (hOT _).mono ?_; intro e w15 hh; obtain ⟨hh1, hh2⟩ := hh; subst hh1; obtain rfl := hh2.symm; clear hOT))
                  have t0 : ¬ ((nt : Int) < 0) := by omega
                  have t1 : ¬ ((31 : Int) < nt) := by have := hnt32.out; omega
                  have t2 : ¬ ((nt : Int) > 31) := by have := hnt32.out; omega
                  have t3 : (0 : Int) ≤ nt := by omega
                  have t4 : (nt : Int) < 32 := by have := hnt32.out; omega
                  obtain ⟨d1, d2⟩ := J14.out.cell nt hnt32.out
                  have J15 := Lib.hid (J14.out.set nt true)
                  have I15 := Lib.hid (I14.out.other (p := jb) (i := nt) (u := .bool true) (Nat.ne_of_lt IJ.out))
                  have Z15 := Lib.hid (tba_set (p := jb) (i := nt) (u := .bool true) Z14.out (Nat.ne_of_lt QJ.out))
                  have HB15 := Lib.hid (HB14.out.setCell (p := ⟨jb, nt, none⟩) (Nat.le_of_lt QJ.out) (.bool true))
                  go_wp2_with (fail)
                  go_roundw
                  case measure => have := HC4.out; simp [intOf]; omega
                  case rel =>
                    refine ⟨c + 1, nx2.set nt true, HC4.out, by go_num, J15.out, I15.out, Z15.out, HB15.out, ?_⟩
                    rw [sputN_succ, ← HNX2.out, HNT.out, Int.toNat_natCast]
                · obtain rfl : c = 4 := by omega
                  clear hlt hc
                  go_wp2_with (fail)
                  go_roundw
                  case measure => have := HLT.out; have := N2.out; simp [intOf]; omega
                  case rel =>
                    refine ⟨k + 1, nx2, HLT.out, by have := N2.out; have := HLT.out; go_num, J12.out, I12.out, Z12.out, HB12.out, ?_, fun j hj => ?_⟩
                    · rw [List.range_succ, List.foldl_append, ← HNX.out, HNX2.out]
                      show _ = fstp _ l nx k
                      unfold fstp
                      rw [if_pos HQ.out.symm]; rfl
                    · by_cases e : j = k
                      · subst e; rw [HFF.out]; exact fun c => by have := HF.out; have := c.2; omega
                      · exact HNO.out j (by omega)
        · obtain rfl : k = N := by omega
          clear hlt hk
          have hlt' : ¬ (k : Int) < k := by omega
          have hl32 := I8.out.2
          have hn32 := J8.out.2
          have hff : ffree k (tabF t.tab) l = false := by
            rw [Bool.eq_false_iff]
            intro hc
            unfold ffree at hc
            obtain ⟨j, hj1, hj2⟩ := List.any_eq_true.1 hc
            simp only [Bool.and_eq_true, decide_eq_true_eq] at hj2
            exact HNO.out j (List.mem_range.1 hj1) hj2
          have hRe : R = if nx = l then -1 else wfar k (tabO t.bits t.tab) (tabF t.tab) m (n + 1) nx := by
            rw [HR6.out]
            show (if ffree k (tabF t.tab) l = true then (n : Int) else if fnext k (tabO t.bits t.tab) l = l then -1 else wfar k (tabO t.bits t.tab) (tabF t.tab) m (n + 1) (fnext k (tabO t.bits t.tab) l)) = _
            rw [if_neg (by rw [hff]; decide), show fnext k (tabO t.bits t.tab) l = nx from HNX.out.symm]
          have HRE := Lib.hid hRe
          have hq := b32_eql nx l hn32 hl32
          have hq2 := b32_eq nx l hn32 hl32
          obtain ⟨b, hbe⟩ : ∃ b, b = (nx == l) := ⟨_, rfl⟩
          rw [← hbe] at hq hq2
          have HBE := Lib.hid hbe
          clear hff hRe hl32 hn32 hbe
          go_upto_region 23 with (go_at_call 38; refine (hbt _).mono ?_; intro e w9 hh; obtain ⟨hh1, b9⟩ := hh; subst hh1; have J9 := Lib.hid (J8.out.below b9); have I9 := Lib.hid (I8.out.below b9); have Z9 := Lib.hid (tba_below Z8.out b9); have HB9 := Lib.hid (HB8.out.trans (b9.mono HB8.out.size)); clear b9 hbt J8 I8 Z8 HB8 c0 c1 c2 c3 c4)
          have hsz32 : Hid ((Try.prog.info? 172).map (·.size) = some (bvs l).size) := by show _ = some (bvs l).size; rw [bvs_size, I9.out.2]; kernel_rfl
          have hsz33 : Hid ((Try.prog.info? 172).map (·.size) = some (bvs nx).size) := by show _ = some (bvs nx).size; rw [bvs_size, J9.out.2]; kernel_rfl
          cases b
          · -- on
            have hne : nx ≠ l := fun e => by have := HBE.out; rw [e] at this; simp at this
            have HR9 : Hid (R = wfar k (tabO t.bits t.tab) (tabF t.tab) m (n + 1) nx) := by show R = _; rw [HRE.out, if_neg hne]
            have hold : Hid ((bvs l).size = (bvs nx).size) := by show _ = _; rw [bvs_size, bvs_size, I9.out.2, J9.out.2]
            clear hne
            have I10 := Lib.hid (I9.out.row J9.out.2)
            have Z10 := Lib.hid (tba_row (p := ib) (c := bvs nx) Z9.out (Nat.ne_of_lt IB.out))
            have HB10 := Lib.hid (below_setRow HB9.out (Nat.le_of_lt IB.out) (bvs nx))
            go_wp2_with (first
              | (refine wpList_load_row rfl 172 _ rfl jb rfl 172 (bvs nx) (0, 0) _ J9.out.1 Try.underlying172 rfl hsz33.out ?_)
              | (refine wpList_load_row rfl 172 _ rfl ib rfl 172 (bvs l) (0, 0) _ I9.out.1 Try.underlying172 rfl hsz32.out ?_)
              | (refine wpList_store_row rfl 172 _ _ rfl ib (bvs nx) rfl rfl 172 (bvs l) I9.out.1 hsz33.out hold.out (bvs_one nx) ?_))
            exact ⟨⟨n + 1, nx, HN.out, by push_cast; rfl, I10.out, Z10.out, HB10.out, by have := HR9.out; rw [HM.out] at this; exact this⟩, by have := HN.out; simp [intOf]; omega⟩
          · have he : nx = l := by have := HBE.out; simpa using this.symm
            have HR9 : Hid (R = -1) := by show R = _; rw [HRE.out, if_pos he]
            clear he
            go_wp2_with (first
              | (refine wpList_load_row rfl 172 _ rfl jb rfl 172 (bvs nx) (0, 0) _ J9.out.1 Try.underlying172 rfl hsz33.out ?_)
              | (refine wpList_load_row rfl 172 _ rfl ib rfl 172 (bvs l) (0, 0) _ I9.out.1 Try.underlying172 rfl hsz32.out ?_))
            go_ret
            rw [HR9.out]
            exact ⟨rfl, HB9.out⟩
    · obtain rfl : n = 32 := by omega
      rw [Nat.sub_self] at hR
      have HR9 : Hid (R = -2) := hR
      have HB9 := Lib.hid hb
      clear hR hb hi hz hn hlt
      go_wp2_with (fail)
      go_ret
      rw [HR9.out]
      exact ⟨rfl, HB9.out⟩
end Go.Proofs.Ytdabcnjjbfmkaaa

/-
  Layer 16: a way leads.
-/
namespace Go.Proofs.Ytdabcnjjbfmkaaa
open Go.RowKit Go.Maps TagPure
set_option linter.unusedVariables false

theorem Leads.rng {N : Nat} {o : Int → Nat → Int} {fr : Int → Int} {a b : Int} {W : List (Int × Int)} (h : Leads o fr a b W) (ht : Tab N o) (ha : 0 ≤ a ∧ a < N) (hb : 0 ≤ b ∧ b < N) : ∀ (t : Nat) (x : Int × Int), W[t]? = some x → 0 ≤ x.1 ∧ x.1 < N := by
  intro t
  induction t with
  | zero =>
    intro x hx
    rcases h.first x hx with e | e <;> rw [e] <;> assumption
  | succ t ih =>
    intro y hy
    have hlt := (List.getElem?_eq_some_iff.1 hy).1
    obtain ⟨x, hx⟩ : ∃ x, W[t]? = some x := ⟨_, List.getElem?_eq_getElem (show t < W.length by omega)⟩
    obtain ⟨_, s, hs, _, e⟩ := h.next t x y hx hy
    have := ih x hx
    rw [← e]
    exact ht.o_in x.1 s this.1 this.2 hs
/-- What is known of the list's t-th spot. -/
structure LAt (t : Tb) (l : List (Int × Int)) (i : Nat) (u sl : Int) : Prop where
  at_ : l[i]? = some (u, sl)
  rng : 0 ≤ u ∧ u < tsize t.bits
  first : i = 0 → u = t.a ∨ u = t.b
  last : i + 1 = l.length → frW (t.tab u) = sl
  next : i + 1 < l.length → frW (t.tab u) = -1 ∧ ∃ (s : Nat) (u2 s2 : Int), s < 4 ∧ sl = s ∧ l[i + 1]? = some (u2, s2) ∧ oth u (tg (t.tab u) s) t.bits = u2
  unlike : ∀ j u2 s2, i < j → l[j]? = some (u2, s2) → u2 ≠ u
theorem lat_of {w : World} {t : Tb} (h : TbRd w t) {l : List (Int × Int)} (hl : Leads (tabO t.bits t.tab) (tabF t.tab) t.a t.b l) (i : Nat) (hi : i < l.length) : ∃ u sl, LAt t l i u sl := by
  have hts := tsize5 h.bits
  have hab := h.ab
  have hb := h.bits
  have hrg := hl.rng (N := (tsize t.bits).toNat) (tab_ok t.bits (by omega) t.tab) (by omega) (by omega)
  obtain ⟨⟨u, sl⟩, hx⟩ : ∃ x, x = l[i] := ⟨_, rfl⟩
  have hxi : l[i]? = some (u, sl) := by rw [List.getElem?_eq_getElem hi, hx]
  have hr := hrg i _ hxi
  refine ⟨u, sl, hxi, by simp only at hr; omega, fun e => ?_, fun e => ?_, fun e => ?_, fun j u2 s2 hj h2 e => ?_⟩
  · subst e; exact hl.first _ hxi
  · have := hl.last (u, sl) (by rw [show l.length - 1 = i by omega]; exact hxi)
    exact this.1.symm
  · obtain ⟨⟨u2, s2⟩, hy⟩ : ∃ y, y = l[i + 1] := ⟨_, rfl⟩
    have hyi : l[i + 1]? = some (u2, s2) := by rw [List.getElem?_eq_getElem e, hy]
    obtain ⟨n1, s, n2, n3, n4⟩ := hl.next i _ _ hxi hyi
    refine ⟨?_, s, u2, s2, n2, n3, hyi, n4⟩
    rcases frW_nn (t.tab u) with c | c
    · exact c
    · exact absurd c n1
  · have hn := hl.unlike
    have hj2 := (List.getElem?_eq_some_iff.1 h2).1
    rw [List.nodup_iff_pairwise_ne, List.pairwise_iff_getElem] at hn
    have := hn i j (by simpa using hi) (by simpa using hj2) hj
    simp only [List.getElem_map] at this
    have a1 := (List.getElem?_eq_some_iff.1 hxi).2
    have a2 := (List.getElem?_eq_some_iff.1 h2).2
    rw [a1, a2] at this
    exact this e.symm
theorem spn_at {w : World} {base : Nat} {v : Value} {bits : Int} {l : List (Int × Int)} (h : SpN w base v bits l) {g : Nat} {n c : Nat} (hv : v = .slice (some ⟨g, 0, none⟩) n c) {i : Nat} {u sl : Int} (hi : l[i]? = some (u, sl)) : w.cell? ⟨g, i * 3, none⟩ = some (.int .i64 bits) ∧ w.cell? ⟨g, i * 3 + 1, none⟩ = some (.int .i64 u) ∧ w.cell? ⟨g, i * 3 + 2, none⟩ = some (.int .i64 sl) := by
  obtain ⟨hlt, he⟩ := List.getElem?_eq_some_iff.1 hi
  obtain ⟨g2, e, -, -, z0, z1, z2, -⟩ := h.at i hlt
  rw [hv] at e
  simp only [Value.slice.injEq, Option.some.injEq, Addr.mk.injEq, and_true] at e
  obtain ⟨rfl, -⟩ := e
  rw [he] at z1 z2
  exact ⟨z0, z1, z2⟩
set_option maxRecDepth 10000 in
set_option maxHeartbeats 4000000 in
theorem tleads {w0 w : World} {B : WB} {V : WV} {s : CS} {base : Nat} {v : Value} {l : List (Int × Int)} (t : Tb) (hrd : TbRd w t) (h : WS w0 w B V s) (ht : TabOf t.bits t.tab s) (hsp : SpN w base v t.bits l) (hl : Leads (tabO t.bits t.tab) (tabF t.tab) t.a t.b l) (hn : l.length ≤ 1000) :
    Calls Try.prog 39 #[.agg t.cells, .pointer (some ⟨B.wb, 0, none⟩), v] w fun e w' => e = .returned (.bool true) ∧ Below w.heap.size w w' := by
  have hb1 := below_alloc w (.cells t.cells 90)
  have z := heap_alloc_new w (.cells t.cells 90)
  obtain ⟨c0, c1, c2, c3, c4⟩ := tb_cells z
  obtain ⟨av, hv, -⟩ := hsp.sl
  have hen := tends t (hrd.below hb1)
  have H := Lib.hid h; have Z := Lib.hid (And.intro (Array.getElem?_eq_some_iff.1 z).1 z); have HB1 := Lib.hid hb1; have HT := Lib.hid ht; have RD := Lib.hid hrd; have SP := Lib.hid hsp; have HLL := Lib.hid hl; have HN := Lib.hid hn; have HV := Lib.hid hv
  clear h z hb1 hrd ht hsp hl hn
  subst hv
  go_enter Try.func39, Try.ntmps39
  go_upto_region 2 with (go_at_call 75; refine hen.mono ?_; intro e w2 hh; obtain ⟨hh1, b2⟩ := hh; subst hh1; have HB2 := Lib.hid (HB1.out.trans (b2.mono HB1.out.size)); have Z2 := Lib.hid (show TbA w2 w.heap.size t from (b2.block _ Z.out.1).trans Z.out.2); clear b2 hen c0 c1 c2 c3 c4 HB1 Z)
  go_wp2_with (fail)
  go_loopw [9] (fun v9 wr => ∃ i : Nat, i ≤ l.length ∧ v9 = .int .i64 i ∧ TbA wr w.heap.size t ∧ Below w.heap.size w wr) (fun v9 _ => l.length - (intOf v9).toNat)
  case atStart => exact ⟨0, Nat.zero_le _, rfl, Z2.out, HB2.out⟩
  case round =>
    clear Z2 HB2
    obtain ⟨i, hi, rfl, hz, hb⟩ := hrel
    have Z3 := Lib.hid hz; have HB3 := Lib.hid hb
    obtain ⟨c0, c1, c2, c3, c4⟩ := tb_cells hz
    clear hz hb
    by_cases hlt : i < l.length
    · have hlt' : (i : Int) < l.length := by omega
      have hi0 : (0 : Int) ≤ i := by omega
      have HLT := Lib.hid hlt
      obtain ⟨u, sl, LA⟩ := lat_of RD.out HLL.out i hlt
      obtain ⟨g, hg, -⟩ := SP.out.at i hlt
      simp only [Value.slice.injEq] at hg
      obtain ⟨hg, -⟩ := hg
      subst hg
      obtain ⟨z0, z1, z2⟩ := spn_at (SP.out.below HB3.out) rfl LA.at_
      have HLA := Lib.hid LA
      have y0 := fun st : ExtW wr => st.cell z0
      have y1 := fun st : ExtW wr => st.cell z1
      have y2 := fun st : ExtW wr => st.cell z2
      have q0 := fun st : ExtW wr => st.cell c0
      have q1 := fun st : ExtW wr => st.cell c1
      have q2 := fun st : ExtW wr => st.cell c2
      have q3 := fun st : ExtW wr => st.cell c3
      have q4 := fun st : ExtW wr => st.cell c4
      have hbt := fun st : ExtW wr => tbits (w := st.val) t RD.out.rb
      clear z0 z1 z2 c0 c1 c2 c3 c4 LA hlt hi
      go_upto_region 5 with (fail)
      go_cut [55] (fun v55 wx => v55 = .bool false ∧ Below wr.heap.size wr wx)
      case first =>
        refine wp_region_ext (by kernel_rfl) (by kernel_rfl) ?_
        by_cases hi2 : i = 0
        · subst hi2
          have hab := HLA.out.first rfl
          rcases hab with e | e
          · subst e
            repeat (go_big_quiet_step (first | (go_at_call 38; with_reducible refine calls_ext (hbt _))))
            refine wpQuiet_nil ?_
            rintro W ⟨⟨W2, hW⟩, rfl⟩
            have HW := Lib.hid hW
            clear y0 y1 y2 q0 q1 q2 q3 q4 hbt hW
            go_wp2_with (fail)
            go_meet
            exact ⟨rfl, HW.out⟩
          · by_cases hba : t.b = t.a
            · rw [hba] at e
              subst e
              repeat (go_big_quiet_step (first | (go_at_call 38; with_reducible refine calls_ext (hbt _))))
              refine wpQuiet_nil ?_
              rintro W ⟨⟨W2, hW⟩, rfl⟩
              have HW := Lib.hid hW
              clear y0 y1 y2 q0 q1 q2 q3 q4 hbt hW
              go_wp2_with (fail)
              go_meet
              exact ⟨rfl, HW.out⟩
            · subst e
              have hne : (t.b != t.a) = true := bne_iff_ne.2 hba
              clear hba
              repeat (go_big_quiet_step (first | (go_at_call 38; with_reducible refine calls_ext (hbt _))))
              refine wpQuiet_nil ?_
              rintro W ⟨⟨W2, hW⟩, rfl⟩
              have HW := Lib.hid hW
              clear y0 y1 y2 q0 q1 q2 q3 q4 hbt hW
              go_wp2_with (fail)
              go_meet
              exact ⟨rfl, HW.out⟩
        · have hi3 : ((i : Int) == 0) = false := beq_eq_false_iff_ne.2 (by omega)
          have hi4 : ¬ (i : Int) = 0 := by omega
          clear hi2
          repeat (go_big_quiet_step (first | (go_at_call 38; with_reducible refine calls_ext (hbt _))))
          refine wpQuiet_nil ?_
          rintro W ⟨⟨W2, hW⟩, rfl⟩
          have HW := Lib.hid hW
          clear y0 y1 y2 q0 q1 q2 q3 q4 hbt hW
          go_wp2_with (fail)
          go_meet
          exact ⟨rfl, HW.out⟩
      case rest =>
        obtain ⟨rfl, hcb⟩ := hcut
        clear y0 y1 y2 q0 q1 q2 q3 q4 hbt
        have HB4 := Lib.hid (HB3.out.trans (hcb.mono HB3.out.size))
        have Z4 := Lib.hid (tba_below Z3.out hcb)
        clear hcb Z3 HB3
        obtain ⟨c0, c1, c2, c3, c4⟩ := tb_cells Z4.out
        obtain ⟨z0, z1, z2⟩ := spn_at (SP.out.below HB4.out) rfl HLA.out.at_
        have y1 := fun st : ExtW wc => st.cell z1
        have q0 := fun st : ExtW wc => st.cell c0
        have q1 := fun st : ExtW wc => st.cell c1
        have q2 := fun st : ExtW wc => st.cell c2
        have q3 := fun st : ExtW wc => st.cell c3
        have q4 := fun st : ExtW wc => st.cell c4
        have htg := fun st : ExtW wc => ttags t RD.out.rb (H.out.keep (HB4.out.trans (st.below.mono HB4.out.size))) u
        obtain ⟨tv, htv⟩ : ∃ tv, tv = t.tab u := ⟨_, rfl⟩
        have hsv : s.val (tagsA t.bits u) = tv := by rw [htv]; exact HT.out u HLA.out.rng.1 HLA.out.rng.2
        have hvb := wf_bd (H.out.own.wf (tagsA t.bits u))
        rw [hsv] at hvb
        simp only [hsv] at htg
        have HTV := Lib.hid htv; have HVB := Lib.hid hvb
        clear z0 z1 z2 c0 c1 c2 c3 c4 htv hsv hvb
        go_upto_region 7 with (fail)
        refine wp_region_ext (by kernel_rfl) (by kernel_rfl) ?_
        repeat (go_big_quiet_step (first | (go_at_call 81; with_reducible refine calls_ext (htg _))))
        refine wpQuiet_nil ?_
        rintro W ⟨⟨W2, hW⟩, rfl⟩
        have HB5 := Lib.hid (HB4.out.trans (hW.mono HB4.out.size))
        have Z5 := Lib.hid (tba_below Z4.out hW)
        clear y1 q0 q1 q2 q3 q4 htg hW Z4 HB4
        obtain ⟨c0, c1, c2, c3, c4⟩ := tb_cells Z5.out
        obtain ⟨z0, z1, z2⟩ := spn_at (SP.out.below HB5.out) rfl HLA.out.at_
        have n1000 := HN.out
        by_cases hla : i + 1 = l.length
        · have w1 : wrap64 ((l.length : Int) - 1) = (i : Int) := by rw [w64_smT _ (by omega)]; omega
          have w2 : ((i : Int) == (i : Int)) = true := by simp
          have hfr := HLA.out.last hla
          rw [← HTV.out] at hfr
          have hfree := fun st : ExtW W => free_any tv st.val HVB.out.1 HVB.out.2
          have hfw : freeFrom tv 0 4 = sl := hfr
          simp only [hfw] at hfree
          have y2 := fun st : ExtW W => st.cell z2
          clear z0 z1 z2 c0 c1 c2 c3 c4 hfr hfw hla n1000
          go_upto_region 9 with (fail)
          refine wp_region_ext (by kernel_rfl) (by kernel_rfl) ?_
          repeat (go_big_quiet_step (first | (go_at_call 82; with_reducible refine calls_ext (hfree _))))
          refine wpQuiet_nil ?_
          rintro W3 ⟨⟨W4, hW⟩, rfl⟩
          have HB6 := Lib.hid (HB5.out.trans (hW.mono HB5.out.size))
          clear y2 hfree hW
          go_wp2_with (fail)
          go_ret
          exact ⟨by first | rfl | simp, HB6.out⟩
        · obtain ⟨i1, hi1⟩ : ∃ i1, i1 = i + 1 := ⟨_, rfl⟩
          have hl1 : i1 < l.length := by have := HLT.out; omega
          obtain ⟨hf, sn, u2, s2, hs4, hsl, hnx, hot⟩ := HLA.out.next (by omega)
          rw [← hi1] at hnx
          rw [← HTV.out] at hf hot
          subst hsl
          have b1 : -100000 ≤ (l.length : Int) - 1 ∧ (l.length : Int) - 1 < 100000 := by omega
          have b2 : -100000 ≤ (i : Int) + 1 ∧ (i : Int) + 1 < 100000 := by omega
          have e1 : (i : Int) + 1 = (i1 : Int) := by omega
          have v1 : ((i : Int) == (l.length : Int) - 1) = false := beq_eq_false_iff_ne.2 (by omega)
          have v2 : (0 : Int) ≤ i1 := by omega
          have v3 : (i1 : Int) < l.length := by omega
          have w1 : wrap64 ((l.length : Int) - 1) = (l.length : Int) - 1 := w64_smT _ b1
          have w2 : wrap64 ((i : Int) + 1) = (i1 : Int) := by rw [w64_smT _ b2, e1]
          have hfw : freeFrom tv 0 4 = -1 := hf
          have hN12 : 1 ≤ t.bits ∧ t.bits ≤ 12 := ⟨RD.out.bits.1, Int.le_trans RD.out.bits.2 (by decide)⟩
          have hOT := other_fn u (tg tv sn) t.bits hN12 HLA.out.rng (full_tags tv HVB.out.1 hf sn hs4)
          rw [hot] at hOT
          have htg2 : tagOf tv sn = tg tv sn := by unfold tagOf; rw [if_pos ⟨Int.natCast_nonneg _, Int.ofNat_lt.2 hs4⟩, Int.toNat_natCast]
          have hfree := fun st : ExtW W => free_any tv st.val HVB.out.1 HVB.out.2
          simp only [hfw] at hfree
          have hTG := fun st : ExtW W => tag_any tv sn st.val HVB.out.1 HVB.out.2
          simp only [htg2] at hTG
          have hOT2 : ∀ st : ExtW W, Calls Try.prog 83 #[.int .i64 u, .int .i64 (tg tv sn), .int .i64 t.bits] st.val fun e w' => e = .returned (.int .i64 u2) ∧ Below st.val.heap.size st.val w' := fun st => (hOT st.val).mono fun e w' hh => ⟨hh.1, hh.2 ▸ Below.refl _ _⟩
          have hbt := fun st : ExtW W => tbits (w := st.val) t RD.out.rb
          obtain ⟨z3, z4, z5⟩ := spn_at (SP.out.below HB5.out) rfl hnx
          have y1 := fun st : ExtW W => st.cell z1
          have y2 := fun st : ExtW W => st.cell z2
          have y4 := fun st : ExtW W => st.cell z4
          have q0 := fun st : ExtW W => st.cell c0
          have q1 := fun st : ExtW W => st.cell c1
          have q2 := fun st : ExtW W => st.cell c2
          have q3 := fun st : ExtW W => st.cell c3
          have q4 := fun st : ExtW W => st.cell c4
          have HI1 := Lib.hid hi1; have HL1 := Lib.hid hl1
          clear z0 z1 z2 z3 z4 z5 c0 c1 c2 c3 c4 hla n1000 hi1 hl1 hf hs4 hnx hot b1 b2 e1 hfw hN12 hOT htg2
          go_upto_region 10 with (fail)
          refine wp_region_ext (by kernel_rfl) (by kernel_rfl) ?_
          repeat (go_big_quiet_step (first
            | (go_at_call 82; with_reducible refine calls_ext (hfree _))
            | (go_at_call 84; with_reducible refine calls_ext (hTG _))
            | (go_at_call 38; with_reducible refine calls_ext (hbt _))
            | (go_at_call 83; with_reducible refine calls_ext (hOT2 _))))
          refine wpQuiet_nil ?_
          rintro W3 ⟨⟨W4, hW⟩, rfl⟩
          have HB6 := Lib.hid (HB5.out.trans (hW.mono HB5.out.size))
          have Z6 := Lib.hid (tba_below Z5.out hW)
          clear y1 y2 y4 q0 q1 q2 q3 q4 hfree hTG hbt hOT2 hW Z5 HB5
          go_wp2_with (fail)
          go_loopw [11] (fun v11 wr => ∃ k : Nat, i1 ≤ k ∧ k ≤ l.length ∧ v11 = .int .i64 k ∧ TbA wr w.heap.size t ∧ Below w.heap.size w wr) (fun v11 _ => l.length - (intOf v11).toNat)
          case atStart => exact ⟨i1, Nat.le_refl _, Nat.le_of_lt HL1.out, by first | rfl | rw [w2], Z6.out, HB6.out⟩
          case round =>
            clear Z6 HB6 v1 v2 v3 w1 w2
            obtain ⟨k, hk1, hk, rfl, hz, hb⟩ := hrel
            have Z7 := Lib.hid hz; have HB7 := Lib.hid hb
            clear hz hb
            by_cases hlt : k < l.length
            · have hlt' : (k : Int) < l.length := by omega
              have hk0 : (0 : Int) ≤ k := by omega
              have HK := Lib.hid (And.intro hk1 hlt)
              obtain ⟨⟨uk, sk⟩, hx⟩ : ∃ x, x = l[k] := ⟨_, rfl⟩
              have hxk : l[k]? = some (uk, sk) := by rw [List.getElem?_eq_getElem hlt, hx]
              have hne : (uk == u) = false := beq_eq_false_iff_ne.2 (HLA.out.unlike k uk sk (by have := HI1.out; omega) hxk)
              have hne2 : ¬ uk = u := HLA.out.unlike k uk sk (by have := HI1.out; omega) hxk
              obtain ⟨z0, z1, z2⟩ := spn_at (SP.out.below HB7.out) rfl hxk
              obtain ⟨z3, z4, z5⟩ := spn_at (SP.out.below HB7.out) rfl HLA.out.at_
              have y1 := fun st : ExtW wr => st.cell z1
              have y2 := fun st : ExtW wr => st.cell z4
              clear z0 z1 z2 z3 z4 z5 hxk hx hlt hk hk1
              go_upto_region 15 with (fail)
              refine wp_region_ext (by kernel_rfl) (by kernel_rfl) ?_
              repeat (go_big_quiet_step (fail))
              refine wpQuiet_nil ?_
              rintro W5 ⟨⟨W6, hW⟩, rfl⟩
              have HB8 := Lib.hid (HB7.out.trans (hW.mono HB7.out.size))
              have Z8 := Lib.hid (tba_below Z7.out hW)
              clear y1 y2 hne hne2 hW Z7 HB7
              have hn0 := HN.out
              go_wp2_with (fail)
              go_roundw
              case measure => have := HK.out; have := HN.out; simp [intOf]; omega
              case rel => exact ⟨k + 1, by have := HK.out; omega, HK.out.2, by have := HK.out; have := HN.out; go_num, Z8.out, HB8.out⟩
            · obtain rfl : k = l.length := by omega
              clear hlt hk hk1
              have hlt' : ¬ ((l.length : Int) < l.length) := by omega
              have hn0 := HN.out; have hi9 := HLT.out
              go_wp2_with (fail)
              go_roundw
              case measure => have := HLT.out; have := HN.out; simp [intOf]; omega
              case rel => exact ⟨i + 1, HLT.out, by have := HLT.out; have := HN.out; go_num, Z7.out, HB7.out⟩
    · obtain rfl : i = l.length := by omega
      have hlt' : ¬ ((l.length : Int) < l.length) := by omega
      clear hlt hi c0 c1 c2 c3 c4
      go_wp2_with (fail)
      go_ret
      exact ⟨rfl, HB3.out⟩
end Go.Proofs.Ytdabcnjjbfmkaaa

/-
  PathsShort: the walk.
-/
namespace Go.Proofs.Ytdabcnjjbfmkaaa
open Go.RowKit Go.Maps TagPure
set_option linter.unusedVariables false

theorem u16_smS (x : Int) (h : 0 ≤ x ∧ x < 65536) : IntKind.u16.wrap x = x := by rw [IntKind.wrap_u16]; omega
theorem wrun_waylenS (cap : Int) (o : Int → Nat → Int) (fr : Int → Int) : ∀ n k l, (wrun cap o fr n k l).2.2.1.length ≤ (wrun cap o fr n k l).2.1.length := by
  intro n
  induction n with
  | zero => intro k l; exact Nat.zero_le _
  | succ n ih =>
    intro k l
    unfold wrun
    split
    · exact Nat.zero_le _
    · split
      · simp only [wway, List.length_reverse]
        exact wpath_len _ _ _ _
      · exact ih _ _
/-- The plain law. -/
theorem short_law {bits : Int} (hb : 1 ≤ bits ∧ bits ≤ 5) (tab : Int → Int) {a b : Int} (ha : 0 ≤ a ∧ a < tsize bits) (hb2 : 0 ≤ b ∧ b < tsize bits) (n : Int) (x y : Nat × List Nd × List (Int × Int) × Bool)
    (hx : x = wrun (tsize bits) (tabO bits tab) (tabF tab) 99 0 (wfirst a b)) (hy : y = wrun n (tabO bits tab) (tabF tab) 99 0 (wfirst a b)) :
    ((x.2.2.1.length : Int) = wfar (tsize bits).toNat (tabO bits tab) (tabF tab) 32 0 (fins a b) + 1) ∧ Leads (tabO bits tab) (tabF tab) a b x.2.2.1 ∧ Leads (tabO bits tab) (tabF tab) a b y.2.2.1 ∧ (y.2.2.1.length = 0 ∨ y.2.2.1.length = x.2.2.1.length) ∧ x.2.2.1.length ≤ 100 ∧ y.2.2.1.length ≤ 100 := by
  have hts := tsize5 hb
  have ht := tab_ok bits (by omega) tab
  have eN : ((tsize bits).toNat : Int) = tsize bits := by omega
  have ha2 : 0 ≤ a ∧ a < ((tsize bits).toNat : Int) := by omega
  have hb3 : 0 ≤ b ∧ b < ((tsize bits).toNat : Int) := by omega
  obtain ⟨s1, s2⟩ := wshort (fr := tabF tab) ht (by omega) (cap := tsize bits) (by omega) ha2 hb3 99 (by omega)
  have s3 := wany (fr := tabF tab) ht (by omega) n ha2 hb3 99 (by omega)
  rw [eN] at s3
  rw [← hx] at s1 s2 s3
  rw [← hy] at s3
  have l1 := ends_leads s2
  have wx := wrun_waylenS (tsize bits) (tabO bits tab) (tabF tab) 99 0 (wfirst a b)
  have hsh := wfirst_sh (tabO bits tab) (tabF tab) ha2 hb3
  have sx := wrun_steps (tabF tab) ht (tsize bits) 99 0 (wfirst a b) hsh.win (Nat.zero_le _) (by omega)
  rw [← hx] at wx sx
  have lx := sx.2.2.len
  refine ⟨s1, l1, ?_, ?_, by omega, ?_⟩
  · rcases s3 with e | e
    · rw [e]; exact ⟨fun x hx => (by simp at hx), fun t x y hx => (by simp at hx), fun x hx => (by simp at hx), by simp⟩
    · rw [e]; exact l1
  · rcases s3 with e | e
    · exact .inl (by rw [e]; rfl)
    · exact .inr (by rw [e])
  · rcases s3 with e | e
    · rw [e]; exact Nat.zero_le _
    · rw [e]; omega
theorem tba_fr {w w' : World} {q : Nat} {t : Tb} (h : TbA w q t) (hf : Fr wTy true w w') : TbA w' q t := hf.cells _ _ _ _ h rfl
set_option maxRecDepth 10000 in
set_option maxHeartbeats 4000000 in
theorem short_any {w : World} (t : Tb) (h : TbRd w t) : Calls Try.prog 6 #[.agg t.cells] w fun e w' => e = .returned (.bool true) ∧ Below w.heap.size w w' := by
  have hb1 := below_alloc w (.cells t.cells 90)
  have zz := heap_alloc_new w (.cells t.cells 90)
  obtain ⟨c0, c1, c2, c3, c4⟩ := tb_cells zz
  have hw := tworld t (h.below hb1)
  have H := Lib.hid h; have Z := Lib.hid (And.intro (Array.getElem?_eq_some_iff.1 zz).1 zz); have HB1 := Lib.hid hb1
  obtain ⟨n, hn⟩ : ∃ n : Nat, n = (t.qm % 40).toNat := ⟨_, rfl⟩
  have hrm := h.rm
  have y0 : t.qm % 40 = (n : Int) := by omega
  have y3 : 0 ≤ (n : Int) ∧ (n : Int) < 65536 := by omega
  have y5 : -100000 ≤ (n : Int) ∧ (n : Int) < 100000 := by omega
  have x1 : t.qm.tmod 40 = n := by rw [Int.tmod_eq_emod_of_nonneg hrm.1, y0]
  have x3 := u16_smS (n : Int) y3
  have x5 := w64_smT (n : Int) y5
  have X135 := Lib.hid (And.intro x1 (And.intro x3 x5))
  obtain ⟨x, hx⟩ : ∃ x, x = wrun (tsize t.bits) (tabO t.bits t.tab) (tabF t.tab) 99 0 (wfirst t.a t.b) := ⟨_, rfl⟩
  obtain ⟨y, hy⟩ : ∃ y, y = wrun (n : Int) (tabO t.bits t.tab) (tabF t.tab) 99 0 (wfirst t.a t.b) := ⟨_, rfl⟩
  obtain ⟨F, hF⟩ : ∃ F, F = wfar (tsize t.bits).toNat (tabO t.bits t.tab) (tabF t.tab) 32 0 (fins t.a t.b) := ⟨_, rfl⟩
  have hlaw := short_law h.bits t.tab h.ab.1 h.ab.2 (n : Int) x y hx hy
  rw [← hF] at hlaw
  have HL := Lib.hid hlaw; have HX := Lib.hid hx; have HY := Lib.hid hy; have HF := Lib.hid hF
  have HSH := Lib.hid (shl_bits t.bits h.bits)
  clear h zz hb1 hn hrm hlaw hx hy hF y0 y3 y5 x1 x3 x5
  go_enter Try.func6, Try.ntmps6
  go_upto_region 4 with (go_at_call 32; refine hw.mono ?_; intro e w2 hh; obtain ⟨B, s, wb, hh1, bb, h2, t2, s1, s2⟩ := hh; subst hh1; have H2 := Lib.hid h2; have HBB := Lib.hid (HB1.out.trans (bb.mono HB1.out.size)); have T2 := Lib.hid t2; have HS := Lib.hid (And.intro s2 s1); have Z2 := Lib.hid (show TbA w2 w.heap.size t from ((bb.trans (h2.below.mono bb.size)).block _ Z.out.1).trans Z.out.2); clear bb h2 t2 s1 s2 hw c0 c1 c2 c3 c4)
  obtain ⟨c0, c1, c2, c3, c4⟩ := tb_cells Z2.out
  have R2 := Lib.hid (H.out.below (HBB.out.trans (H2.out.below.mono HBB.out.size)))
  have hfar := tfar t R2.out H2.out T2.out F HF.out
  go_upto_region 5 with (go_at_call 37; refine hfar.mono ?_; intro e w3 hh; obtain ⟨hh1, b3⟩ := hh; subst hh1; have H3 := Lib.hid (H2.out.keep b3); have Z3 := Lib.hid (tba_below Z2.out b3); have R3 := Lib.hid (R2.out.below b3); clear b3 hfar c0 c1 c2 c3 c4 H2 Z2 R2)
  have hbt := fun W => tbits (w := W) t R3.out.rb
  have hsh := HSH.out
  have hs3 : TQt w.heap.size t w3.drew := tb_cells Z3.out
  have hrun := Lib.hid (fun W (hW : Below w3.heap.size w3 W) => trun t (R3.out.below hW) 40 HS.out (by decide) (H3.out.keep hW) T2.out (tsize t.bits) x HX.out)
  go_region_held2 (fun W => TQt w.heap.size t W) (assumption) (first
    | (go_at_call 38; refine (hbt _).mono ?_; intro e w4 hh; obtain ⟨hh1, b4⟩ := hh; subst hh1; have b4' := (Below.refl w3.heap.size w3).drew.trans b4; have Z4 := Lib.hid (tba_below Z3.out b4'); have s4 : TQt w.heap.size t w4 := tb_cells Z4.out; have hrun4 := hrun.out w4 b4'; have F4 := Lib.hid (below_fr b4' wTy true); clear b4 b4' hbt hs3)
    | (go_at_call 33; refine hrun4.mono ?_; intro e w5 hh; obtain ⟨xb, p5, s5, hh1, h5, x5, v5, n5, f5⟩ := hh; subst hh1; have H5 := Lib.hid h5; have X5 := Lib.hid x5; have S5 := Lib.hid (And.intro v5 n5); have Z5 := Lib.hid (tba_fr Z4.out f5); have s5' : TQt w.heap.size t w5 := tb_cells Z5.out; clear h5 x5 v5 n5 f5 hrun4 s4))
  clear s5' hsh hrun H3 Z3 R3 Z4 F4
  obtain ⟨l1, l2, l3, l4, l5, l6⟩ := HL.out
  obtain ⟨vx, hvx⟩ : ∃ vx, vx = x.2.2.1 := ⟨_, rfl⟩
  obtain ⟨vy, hvy⟩ : ∃ vy, vy = y.2.2.1 := ⟨_, rfl⟩
  have hgx := X5.out.got (by omega)
  rw [← hvx] at hgx l1 l2 l4 l5
  rw [← hvy] at l3 l4 l6
  have L1 := Lib.hid l1; have L2 := Lib.hid l2; have L3 := Lib.hid l3; have L4 := Lib.hid l4; have L5 := Lib.hid l5; have L6 := Lib.hid l6
  have HVY := Lib.hid hvy
  clear l1 l2 l3 l4 l5 l6 hvx hvy
  go_upto_region 7 with (go_at_call 34; refine hgx.mono ?_; intro e w6 hh; obtain ⟨va, hh1, a6, b6⟩ := hh; subst hh1; have H6 := Lib.hid (H5.out.keep b6); have Z6 := Lib.hid (tba_below Z5.out b6); have A6 := Lib.hid a6; clear a6 b6 hgx H5 X5 Z5)
  have R6 := Lib.hid (H.out.below (HBB.out.trans (H6.out.below.mono HBB.out.size)))
  have T5 : Hid (TabOf t.bits t.tab s5) := fun b h0 h1 => by rw [S5.out.1]; exact T2.out b h0 h1
  have hld := tleads t R6.out H6.out T5.out A6.out L2.out (by have := L5.out; omega)
  obtain ⟨va1, rfl, -⟩ := A6.out.sl
  obtain ⟨c0, c1, c2, c3, c4⟩ := tb_cells Z6.out
  have b1 : -100000 ≤ F + 1 ∧ F + 1 < 100000 := by have := L1.out; have := L5.out; omega
  have w1 : wrap64 (F + 1) = (vx.length : Int) := by rw [w64_smT _ b1]; exact L1.out.symm
  clear b1
  go_upto_region 9 with (go_at_call 39; refine hld.mono ?_; intro e w7 hh; obtain ⟨hh1, b7⟩ := hh; subst hh1; have H7 := Lib.hid (H6.out.keep b7); have Z7 := Lib.hid (tba_below Z6.out b7); have A7 := Lib.hid (A6.out.below b7); clear b7 hld c0 c1 c2 c3 c4 H6 Z6 A6 R6)
  obtain ⟨c0, c1, c2, c3, c4⟩ := tb_cells Z7.out
  obtain ⟨x1, x3, x5⟩ := X135.out
  have R7 := Lib.hid (H.out.below (HBB.out.trans (H7.out.below.mono HBB.out.size)))
  have hr7 := trun t R7.out 139 S5.out.2 (by decide) H7.out T5.out (n : Int) y HY.out
  clear w1
  go_upto_region 10 with (go_at_call 33; refine hr7.mono ?_; intro e w8 hh; obtain ⟨yb, p8, s8, hh1, h8, y8, v8, n8, f8⟩ := hh; subst hh1; have H8 := Lib.hid h8; have Y8 := Lib.hid y8; have S8 := Lib.hid v8; have Z8 := Lib.hid (tba_fr Z7.out f8); clear h8 y8 v8 n8 f8 hr7 c0 c1 c2 c3 c4 H7 Z7 R7 A7)
  clear x1 x3 x5
  have hgy := Y8.out.got (by rw [← HVY.out]; have := L6.out; omega)
  rw [← HVY.out] at hgy
  go_upto_region 11 with (go_at_call 34; refine hgy.mono ?_; intro e w9 hh; obtain ⟨vc, hh1, a9, b9⟩ := hh; subst hh1; have H9 := Lib.hid (H8.out.keep b9); have Z9 := Lib.hid (tba_below Z8.out b9); have A9 := Lib.hid a9; clear a9 b9 hgy H8 Y8 Z8)
  have R9 := Lib.hid (H.out.below (HBB.out.trans (H9.out.below.mono HBB.out.size)))
  have T8 : Hid (TabOf t.bits t.tab s8) := fun b h0 h1 => by rw [S8.out, S5.out.1]; exact T2.out b h0 h1
  have hld := tleads t R9.out H9.out T8.out A9.out L3.out (by have := L6.out; omega)
  obtain ⟨vc1, rfl, -⟩ := A9.out.sl
  obtain ⟨c0, c1, c2, c3, c4⟩ := tb_cells Z9.out
  have hlv := fun W => lives16 W
  have B9 := Lib.hid (HBB.out.trans (H9.out.below.mono HBB.out.size))
  have hl4 := L4.out
  rcases hl4 with e4 | e4
  · have q1 : ((vy.length : Int) == 0) = true := by rw [e4]; rfl
    clear e4
    go_wp2_with (first
      | (go_at_call 39; refine hld.mono ?_; intro e w10 hh; obtain ⟨hh1, b10⟩ := hh; subst hh1; have B10 := Lib.hid (B9.out.trans (b10.mono B9.out.size)); clear b10 hld c0 c1 c2 c3 c4)
      | (go_at_call 36; refine (hlv _).mono ?_; intro e w11 hh; obtain ⟨hh1, b11⟩ := hh; subst hh1; have B11 := Lib.hid (B10.out.trans (b11.mono B10.out.size)); clear b11))
    go_ret
    exact ⟨rfl, B11.out⟩
  · by_cases h0 : vy.length = 0
    · have q1 : ((vy.length : Int) == 0) = true := by rw [h0]; rfl
      clear e4 h0
      go_wp2_with (first
        | (go_at_call 39; refine hld.mono ?_; intro e w10 hh; obtain ⟨hh1, b10⟩ := hh; subst hh1; have B10 := Lib.hid (B9.out.trans (b10.mono B9.out.size)); clear b10 hld c0 c1 c2 c3 c4)
        | (go_at_call 36; refine (hlv _).mono ?_; intro e w11 hh; obtain ⟨hh1, b11⟩ := hh; subst hh1; have B11 := Lib.hid (B10.out.trans (b11.mono B10.out.size)); clear b11))
      go_ret
      exact ⟨rfl, B11.out⟩
    · have q1 : ((vy.length : Int) == 0) = false := beq_eq_false_iff_ne.2 (by omega)
      have q2 : ((vy.length : Int) == (vx.length : Int)) = true := by rw [e4]; simp
      clear e4 h0
      go_wp2_with (first
        | (go_at_call 39; refine hld.mono ?_; intro e w10 hh; obtain ⟨hh1, b10⟩ := hh; subst hh1; have B10 := Lib.hid (B9.out.trans (b10.mono B9.out.size)); clear b10 hld c0 c1 c2 c3 c4)
        | (go_at_call 36; refine (hlv _).mono ?_; intro e w11 hh; obtain ⟨hh1, b11⟩ := hh; subst hh1; have B11 := Lib.hid (B10.out.trans (b11.mono B10.out.size)); clear b11))
      go_ret
      exact ⟨rfl, B11.out⟩
set_option maxRecDepth 100000 in
theorem walkPathsShort {H : Type} (w : World) (enc : TypeId × Value → H) (base : Nat) (v : Value) (d : DataW H) (p : List MemPlace) (k : DataW.Trod enc Try.prog w 0 (fun _ => true) true 90 v d p) (o : Value.okWide Try.prog w .any base 90 v) :
    Calls Try.prog 6 #[v] w fun e w' => e = .returned (.bool true) ∧ Below w.heap.size w w' := by
  obtain ⟨t, rfl, ht⟩ := tb_open k o
  exact short_any t ht
end Go.Proofs.Ytdabcnjjbfmkaaa
