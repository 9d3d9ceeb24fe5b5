/-
  Texts of this prover, merged: PutsAll, PutsLives, PutsEx, PutsLaw.
-/
import Derived.Test.YteofdldlmmkgbaaG14
import Derived.Test.YteofdldlmmkgbaaG9
import Derived.Maps.RangeWalk
/-
  Slots, spots, runs of a Put, layer 13's examples.
-/
namespace Go.Proofs.Yteofdldlmmkgbaa
open Go.RowKit Go.Maps TagPure
set_option linter.unusedVariables false

theorem world12w (b : Int) (hb : 1 ≤ b ∧ b ≤ 12) (w : World) : Calls Try.prog 42 #[.int .i64 b] w fun e w' => ∃ B, e = .returned (.pointer (some ⟨B.wb, 0, none⟩)) ∧ WS w w' B (v0 ⟨b, 8, 3, 1, 16⟩) (CS.init [(2, tword b 0)]) := by
  have hn1 : Calls Try.prog 8 #[.agg #[.int .i64 b, .int .i64 8, .int .i64 3, .int .i64 1, .int .i64 16]] w fun e w' => ∃ B : WB, e = .returned (.tuple #[.pointer (some ⟨B.wb, 0, none⟩), .int .i64 0]) ∧ WS w w' B (v0 ⟨b, 8, 3, 1, 16⟩) (CS.init [(2, tword b 0)]) :=
    (wnew_ok ⟨b, 8, 3, 1, 16⟩ (by simp [Conf.ok]; omega) w).mono fun e w' ⟨wb, cb, ib, nb, he, g1, g2, g3, g4, g5, g6, g7⟩ => ⟨⟨wb, cb, ib, nb⟩, he, ws_of (Below.refl _ w) g1 g2 g3 g4 g5 g6 g7⟩
  clear hb
  go_enter Try.func42, Try.ntmps42
  go_wp2_with (go_at_call 8; with_reducible refine hn1.mono ?_; rintro e w1 ⟨B, rfl, h1⟩)
  go_ret
  exact ⟨_, rfl, h1⟩

theorem WS.peekx {w0 w : World} {B : WB} {V : WV} {s : CS} (h : WS w0 w B V s) (a : Int) (ha : (Lit.int .u64 a).wf = true) (st : ExtW w) : Calls Try.prog 27 #[.pointer (some ⟨B.cb, 0, none⟩), .int .u64 a] st.val fun e w' => e = .returned (.int .u64 (s.val a)) ∧ st.val = w' :=
  ((h.keep st.below).peek a ha).mono fun e w' ⟨he, hw⟩ => ⟨he, hw.symm⟩
set_option maxRecDepth 10000 in
set_option maxHeartbeats 1000000 in
theorem slot_any {w0 w : World} {B : WB} {V : WV} {s : CS} (h : WS w0 w B V s) (b u k : Int) (hk : (Lit.int .i64 k).wf = true) : Calls Try.prog 48 #[.pointer (some ⟨B.wb, 0, none⟩), .agg #[.int .i64 b, .int .i64 u, .int .i64 k]] w
    fun e w' => e = .returned (.tuple #[.int .i64 (tagOf (s.val (tagsA b u)) k), .int .u64 (s.val (itemA b u k))]) ∧ Below w.heap.size w w' := by
  have hB := below_alloc w (.cells #[.int .i64 b, .int .i64 u, .int .i64 k] 55)
  have h1 := h.keep hB
  have hit := fun {W : World} (st : ExtW W) => item_any b u k hk st.val
  have htg := fun {W : World} (st : ExtW W) => tags_any b u st.val
  have hp1 := fun st => h1.peekx (tagsA b u) (tagsA_wf b u) st
  have hp2 := fun st => h1.peekx (itemA b u k) (itemA_wf b u k) st
  have hwf := wf_bd (h.own.wf (tagsA b u))
  have hto := fun {W : World} (st : ExtW W) => tag_any (s.val (tagsA b u)) k st.val hwf.1 hwf.2
  have z := box3 w b u k 55
  have x0 := fun st : ExtW (w.alloc (.cells #[.int .i64 b, .int .i64 u, .int .i64 k] 55)) => st.cell (z 0)
  have x1 := fun st : ExtW (w.alloc (.cells #[.int .i64 b, .int .i64 u, .int .i64 k] 55)) => st.cell (z 1)
  have x2 := fun st : ExtW (w.alloc (.cells #[.int .i64 b, .int .i64 u, .int .i64 k] 55)) => st.cell (z 2)
  have x3 := fun st : ExtW (w.alloc (.cells #[.int .i64 b, .int .i64 u, .int .i64 k] 55)) => st.cell h1.c0
  have HB := Lib.hid hB
  clear h h1 hk hwf z hB
  go_enter Try.func48, Try.ntmps48
  go_wp2_with fail
  refine wp_region_ext (by kernel_rfl) (by kernel_rfl) ?_
  repeat (go_big_quiet_step (first
    | (go_at_call 45; with_reducible refine calls_ext (htg _))
    | (go_at_call 89; with_reducible refine calls_ext (hit _))
    | (go_at_call 27; with_reducible refine calls_ext_same (hp1 _))
    | (go_at_call 27; with_reducible refine calls_ext_same (hp2 _))
    | (go_at_call 50; with_reducible refine calls_ext (hto _))))
  refine wpQuiet_nil ?_
  rintro W ⟨⟨W2, hW⟩, rfl⟩
  clear x0 x1 x2 x3
  go_wp2
  go_ret2
  exact ⟨rfl, bnext HB.out hW⟩
theorem spot21 (k : Nat) (hk : k < 4) (w : World) : Calls Try.prog 44 #[.int .i64 2, .int .i64 1, .int .i64 k] w fun e w' => e = .returned (.agg #[.int .i64 2, .int .i64 1, .int .i64 k]) ∧ Below w.heap.size w w' := by
  have hsz := fun w => size_any 2 w
  have e0 : tsize 2 = 4 := by decide
  simp only [e0] at hsz
  have e1 : (k : Int) % 4 = k := by omega
  clear e0 hk
  go_enter Try.func44, Try.ntmps44
  go_wp2_with (go_at_call 92; refine (hsz _).mono ?_; rintro e w1 ⟨rfl, hw⟩; obtain rfl := hw.symm)
  refine bodyPost_ret (v := .agg #[.int .i64 2, .int .i64 1, .int .i64 k]) (by simp [results, Try.results44, go_sem]) rfl ⟨rfl, ?_⟩
  exact below_alloc' _ _

def pst (s : CS) (tgA it at_ g r : Int) : Nat → CS
  | 0 => s
  | 1 => s.acc 2 it r
  | 2 => (s.acc 2 it r).acc 1 tgA ((s.acc 2 it r).val tgA)
  | _ => ((s.acc 2 it r).acc 1 tgA ((s.acc 2 it r).val tgA)).acc 2 tgA (withOf ((s.acc 2 it r).val tgA) at_ g)
def psl (s : CS) (tgA it at_ r : Int) : Nat → SL
  | 0 => ⟨tgA, it, at_, 0, 0⟩
  | 1 => ⟨tgA, it, at_, 0, 1⟩
  | 2 => ⟨tgA, it, at_, (s.acc 2 it r).val tgA, 2⟩
  | _ => ⟨tgA, it, at_, (s.acc 2 it r).val tgA, 3⟩
def ost (s : CS) (tgA it at_ : Int) : Nat → CS
  | 0 => s
  | 1 => s.acc 1 tgA (s.val tgA)
  | 2 => (s.acc 1 tgA (s.val tgA)).acc 2 tgA (withOf (s.val tgA) at_ 0)
  | _ => ((s.acc 1 tgA (s.val tgA)).acc 2 tgA (withOf (s.val tgA) at_ 0)).acc 2 it 0
def osl (s : CS) (tgA it at_ : Int) : Nat → SL
  | 0 => ⟨tgA, it, at_, 0, 0⟩
  | 1 => ⟨tgA, it, at_, s.val tgA, 1⟩
  | 2 => ⟨tgA, it, at_, s.val tgA, 2⟩
  | _ => ⟨tgA, it, at_, s.val tgA, 3⟩
section
variable {w0 w : World} {B : WB} {V : WV} {s : CS} {b : Nat} {tgA it at_ g r : Int} {m : Nat} (hm : s.n ≤ m ∧ s.cnt ≤ m) (hl : m + 3 < lim) (hlo : w0.heap.size ≤ b) (hz : tgA ≠ 0) (hg : (Lit.int .u64 tgA).wf = true) (hi : (Lit.int .u64 it).wf = true)
include hm
theorem pst_le (n : Nat) (hn : n ≤ 3) : (pst s tgA it at_ g r n).n ≤ m + n ∧ (pst s tgA it at_ g r n).cnt ≤ m + n := by
  match n, hn with
  | 0, _ => exact hm
  | 1, _ => exact room_acc m hm
  | 2, _ => exact room_acc _ (room_acc m hm)
  | 3, _ => exact room_acc _ (room_acc _ (room_acc m hm))
theorem ost_le (n : Nat) (hn : n ≤ 3) : (ost s tgA it at_ n).n ≤ m + n ∧ (ost s tgA it at_ n).cnt ≤ m + n := by
  match n, hn with
  | 0, _ => exact hm
  | 1, _ => exact room_acc m hm
  | 2, _ => exact room_acc _ (room_acc m hm)
  | 3, _ => exact room_acc _ (room_acc _ (room_acc m hm))
include hl hlo hz hg hi
theorem put_step (hrr : 0 ≤ r ∧ r < 9223372036854775808) (n : Nat) (hn : n < 3) (h : WS w0 w B V (pst s tgA it at_ g r n)) (hS : SlotAt w b 186 (psl s tgA it at_ r n) [.int .i64 g, .int .i64 r]) :
    Calls Try.prog 190 #[.pointer (some ⟨b, 0, none⟩), .pointer (some ⟨B.wb, 0, none⟩)] w fun e w' => (∃ o, e = .returned (.bool o)) ∧ WS w0 w' B V (pst s tgA it at_ g r (n + 1)) ∧ SlotAt w' b 186 (psl s tgA it at_ r (n + 1)) [.int .i64 g, .int .i64 r] ∧ Fx wTy true b w w' := by
  have hle := pst_le (tgA := tgA) (it := it) (at_ := at_) (g := g) (r := r) hm n (by omega)
  have hr : (pst s tgA it at_ g r n).room := CS.room_of (m + n) hle (by omega)
  match n, hn with
  | 0, _ => exact (put_step0 h hr hlo hS hz hg rfl hi hrr).mono fun e w' ⟨h1, h2⟩ => ⟨⟨_, h1⟩, h2⟩
  | 1, _ => exact (put_step1 h hr hlo hS hz hg rfl).mono fun e w' ⟨h1, h2⟩ => ⟨⟨_, h1⟩, h2⟩
  | 2, _ =>
    have hx : 0 ≤ (psl s tgA it at_ r 2).x ∧ (psl s tgA it at_ r 2).x < 18446744073709551616 := by
      have := wf_bd (h.own.wf tgA)
      simp only [pst, CS.acc_self] at this
      exact this
    exact (put_step2 h hr hlo hS hz hg rfl hx).mono fun e w' ⟨h1, h2⟩ => ⟨⟨_, h1⟩, h2⟩
theorem out_step (n : Nat) (hn : n < 3) (h : WS w0 w B V (ost s tgA it at_ n)) (hS : SlotAt w b 189 (osl s tgA it at_ n) []) :
    Calls Try.prog 90 #[.pointer (some ⟨b, 0, none⟩), .pointer (some ⟨B.wb, 0, none⟩)] w fun e w' => (∃ o, e = .returned (.bool o)) ∧ WS w0 w' B V (ost s tgA it at_ (n + 1)) ∧ SlotAt w' b 189 (osl s tgA it at_ (n + 1)) [] ∧ Fx wTy true b w w' := by
  have hle := ost_le (tgA := tgA) (it := it) (at_ := at_) hm n (by omega)
  have hr : (ost s tgA it at_ n).room := CS.room_of (m + n) hle (by omega)
  match n, hn with
  | 0, _ => exact (out_step0 h hr hlo hS hz hg rfl).mono fun e w' ⟨h1, h2⟩ => ⟨⟨_, h1⟩, h2⟩
  | 1, _ =>
    have hx : 0 ≤ (osl s tgA it at_ 1).x ∧ (osl s tgA it at_ 1).x < 18446744073709551616 := by
      have := wf_bd (h.own.wf tgA)
      simp only [ost, CS.acc_self] at this
      exact this
    exact (out_step1 h hr hlo hS hz hg rfl hx).mono fun e w' ⟨h1, h2⟩ => ⟨⟨_, h1⟩, h2⟩
  | 2, _ => exact (out_step2 h hr hlo hS hz hg rfl hi).mono fun e w' ⟨h1, h2⟩ => ⟨⟨true, h1⟩, h2⟩
end
end Go.Proofs.Yteofdldlmmkgbaa

/-
  A Put by itself; layer 13's examples.
-/
namespace Go.Proofs.Yteofdldlmmkgbaa
open Go.RowKit Go.Maps TagPure
set_option linter.unusedVariables false

theorem psl_tg (s : CS) (tgA it at_ r : Int) (n : Nat) : (psl s tgA it at_ r n).tg = tgA := by unfold psl; split <;> rfl
theorem psl_ln (s : CS) (tgA it at_ r : Int) (n : Nat) (hn : n ≤ 3) : (psl s tgA it at_ r n).ln = n := by
  match n, hn with
  | 0, _ | 1, _ | 2, _ | 3, _ => rfl
theorem osl_tg (s : CS) (tgA it at_ : Int) (n : Nat) : (osl s tgA it at_ n).tg = tgA := by unfold osl; split <;> rfl
theorem osl_ln (s : CS) (tgA it at_ : Int) (n : Nat) (hn : n ≤ 3) : (osl s tgA it at_ n).ln = n := by
  match n, hn with
  | 0, _ | 1, _ | 2, _ | 3, _ => rfl
theorem put_over {w : World} {b : Nat} {s : CS} {tgA it at_ r : Int} {rest : List Value} (n : Nat) (hn : n ≤ 3) (hz : tgA ≠ 0) (hS : SlotAt w b 186 (psl s tgA it at_ r n) rest) : Calls Try.prog 189 #[.pointer (some ⟨b, 0, none⟩)] w fun e w' => e = .returned (.bool ((n : Int) == 3)) ∧ Below w.heap.size w w' := by
  have := Putover hS false ((n : Int) == 3) (by rw [psl_tg]; exact beq_eq_false_iff_ne.2 hz) (by rw [psl_ln _ _ _ _ _ n hn])
  simpa only [Bool.false_or] using this
theorem out_over {w : World} {b : Nat} {s : CS} {tgA it at_ : Int} {rest : List Value} (n : Nat) (hn : n ≤ 3) (hz : tgA ≠ 0) (hS : SlotAt w b 189 (osl s tgA it at_ n) rest) : Calls Try.prog 125 #[.pointer (some ⟨b, 0, none⟩)] w fun e w' => e = .returned (.bool ((n : Int) == 3)) ∧ Below w.heap.size w w' := by
  have := Outover hS false ((n : Int) == 3) (by rw [osl_tg]; exact beq_eq_false_iff_ne.2 hz) (by rw [osl_ln _ _ _ _ n hn])
  simpa only [Bool.false_or] using this
theorem gone_any {w : World} {b : Nat} {s : CS} {tgA it at_ : Int} {rest : List Value} (n : Nat) (hn : n ≤ 3) (hz : tgA ≠ 0) (hS : SlotAt w b 189 (osl s tgA it at_ n) rest) : Calls Try.prog 91 #[.pointer (some ⟨b, 0, none⟩)] w fun e w' => e = .returned (.bool (decide ((1 : Int) < n))) ∧ w' = w := by
  have c0 := hS.c0; have c4 := hS.c4
  rw [osl_tg] at c0
  rw [osl_ln _ _ _ _ n hn] at c4
  have hz' : (tgA != 0) = true := bne_iff_ne.2 hz
  clear hS hz hn
  go_enter Try.func91, Try.ntmps91
  go_wp2
  go_ret
  exact ⟨rfl, rfl⟩
set_option maxRecDepth 10000 in
set_option maxHeartbeats 1000000 in
theorem run_put {w0 w : World} {B : WB} {V : WV} {s : CS} {b : Nat} {tgA it at_ g r : Int} {m : Nat} (hm : s.n ≤ m ∧ s.cnt ≤ m) (hl : m + 3 < lim) (hlo : w0.heap.size ≤ b) (hz : tgA ≠ 0) (hg : (Lit.int .u64 tgA).wf = true) (hi : (Lit.int .u64 it).wf = true) (hrr : 0 ≤ r ∧ r < 9223372036854775808)
    (h : WS w0 w B V s) (hS : SlotAt w b 186 ⟨tgA, it, at_, 0, 0⟩ [.int .i64 g, .int .i64 r]) :
    Calls Try.prog 88 #[.pointer (some ⟨B.wb, 0, none⟩), .iface 109 (.pointer (some ⟨b, 0, none⟩)), .int .i64 9] w fun e w' => e = .returned (.int .i64 3) ∧ WS w0 w' B V (pst s tgA it at_ g r 3) ∧ SlotAt w' b 186 (psl s tgA it at_ r 3) [.int .i64 g, .int .i64 r] ∧ Fx wTy true b w w' := by
  have hst := fun (n : Nat) (hn : n < 3) (W : World) (h1 : WS w0 W B V (pst s tgA it at_ g r n)) h2 => put_step hm hl hlo hz hg hi hrr n hn h1 h2
  have H := Lib.hid h; have HS := Lib.hid hS; have HST := Lib.hid hst; have HZ := Lib.hid hz
  clear h hS hst hg hi hrr hm hl hz
  go_enter Try.func88, Try.ntmps88
  go_wp2
  go_loopw [7] (fun i wr => ∃ k : Nat, k ≤ 3 ∧ i = .int .i64 k ∧ WS w0 wr B V (pst s tgA it at_ g r k) ∧ SlotAt wr b 186 (psl s tgA it at_ r k) [.int .i64 g, .int .i64 r] ∧ Fx wTy true b w wr) (fun i _ => 3 - (intOf i).toNat)
  case atStart => exact ⟨0, by omega, rfl, H.out, HS.out, (below_fr (Below.refl _ w) wTy true).fx b⟩
  case round =>
    obtain ⟨k, hk, rfl, h1, h2, h3⟩ := hrel
    have hov := put_over k hk HZ.out h2
    by_cases hlt : k < 3
    · have hk9 : (k : Int) < 9 := by omega
      have hk3 : ((k : Int) == 3) = false := by rw [beq_eq_false_iff_ne]; omega
      rw [hk3] at hov
      have hcall := fun (W : World) (hb : Below wr.heap.size wr W) => HST.out k hlt W (h1.keep hb) (h2.below hb)
      have HC := Lib.hid hcall; have H3 := Lib.hid h3
      clear h1 h2 h3 hcall hk3
      go_wp2_with (first
        | (go_at_call 189; refine hov.mono ?_; rintro e w2 ⟨rfl, b2⟩; have hc := HC.out _ b2; have B2 := Lib.hid b2; clear b2 hov)
        | (go_at_call 190; refine hc.mono ?_; rintro e w3 ⟨⟨o, rfl⟩, g1, g2, g3⟩; have G1 := Lib.hid g1; have G2 := Lib.hid g2; have G3 := Lib.hid g3; clear g1 g2 g3 hc))
      exact ⟨⟨k + 1, by omega, by go_num, G1.out, G2.out, (H3.out.trans ((below_fr B2.out wTy true).fx b)).trans G3.out⟩, by simp [intOf]; omega⟩
    · obtain rfl : k = 3 := by omega
      have H1 := Lib.hid h1; have H2 := Lib.hid h2; have H3 := Lib.hid h3
      rw [show (((3 : Nat) : Int) == 3) = true from rfl] at hov
      clear h1 h2 h3
      go_wp2_with (go_at_call 189; refine hov.mono ?_; rintro e w2 ⟨rfl, b2⟩)
      go_ret
      exact ⟨rfl, H1.out.keep b2, H2.out.below b2, H3.out.trans ((below_fr b2 wTy true).fx b)⟩
end Go.Proofs.Yteofdldlmmkgbaa

/-
  Layer 13's examples.
-/
namespace Go.Proofs.Yteofdldlmmkgbaa
open Go.RowKit Go.Maps TagPure
set_option linter.unusedVariables false

theorem ex_it (n : Nat) (hn : n ≤ 3) (h3 : n = 3 ∨ n = 1) : True := trivial
def exs : CS := pst (CS.init [(2, tword 1 0)]) 4120 4123 2 7 5 3
theorem exs_le : exs.n ≤ 10 ∧ exs.cnt ≤ 10 := ⟨by decide, by decide⟩
theorem exs_it : exs.val 4123 = 5 := by decide
theorem exs_tg : exs.val 4120 = 458752 := by decide
def exo : CS := ost exs 4120 4123 2 3
theorem exo_it : exo.val 4123 = 0 := by decide
theorem exo_tg : exo.val 4120 = 0 := by decide
theorem spot3 (w : World) (q : Nat) (a b c : Value) (T : TypeId) (h : w.heap[q]? = some (.cells #[a, b, c] T (0, 0))) : w.cell? ⟨q, 0, none⟩ = some a ∧ w.cell? ⟨q, 1, none⟩ = some b ∧ w.cell? ⟨q, 2, none⟩ = some c := ⟨hcell h 0, hcell h 1, hcell h 2⟩
set_option maxRecDepth 10000 in
set_option maxHeartbeats 2000000 in
theorem lives13 (w : World) : Calls Try.prog 43 #[] w fun e w' => e = .returned (.bool true) ∧ Below w.heap.size w w' := by
  have et : tagsA 1 1 = 4120 := by decide
  have ei : itemA 1 1 2 = 4123 := by decide
  have es : sof 1 1 2 = ⟨4120, 4123, 2, 0, 0⟩ := by unfold sof; rw [et, ei]; rfl
  have htags := fun {W : World} (st : ExtW W) => tags_any 1 1 st.val
  have hitem := fun {W : World} (st : ExtW W) => item_any 1 1 2 (by decide) st.val
  rw [et] at htags
  rw [ei] at hitem
  have hnp := fun W => newput_in 1 1 2 7 5 (by decide) (by decide) (by decide) W
  have hno := fun W => newout_any 1 1 2 (by decide) W
  rw [es] at hnp hno
  have e4123 := exs_it; have e4120 := exs_tg
  clear et ei es
  go_enter Try.func43, Try.ntmps43
  go_upto_region 5 with (first
    | (go_at_call 42; refine (world12w 1 (by decide) w).mono ?_; rintro e w1 ⟨B, rfl, h1⟩; have H1 := Lib.hid h1; clear h1))
  have hq0 := heap_alloc_new w1 (.cells #[.int .i64 1, .int .i64 1, .int .i64 2] 55)
  have hb0 := below_alloc w1 (.cells #[.int .i64 1, .int .i64 1, .int .i64 2] 55)
  have H2 := Lib.hid (H1.out.keep hb0)
  have HW1 : Hid (w.heap.size ≤ w1.heap.size) := H1.out.below.size
  generalize w1.alloc (.cells #[.int .i64 1, .int .i64 1, .int .i64 2] 55) = w2 at *
  generalize w1.heap.size = q at *
  have c0 := H2.out.c0
  obtain ⟨c1, c2, c3⟩ := spot3 _ _ _ _ _ _ hq0
  have HQ := Lib.hid hq0
  clear hq0 hb0 H1
  go_upto_region 6 with (first
    | (go_at_call 46; refine (hnp _).mono ?_; rintro e w3 ⟨b, rfl, p3, l3, b3⟩; have hq3 := (b3.block _ (Array.getElem?_eq_some_iff.1 HQ.out).1).trans HQ.out; have H3 := Lib.hid (H2.out.keep b3); have HL := Lib.hid (show w.heap.size ≤ b from Nat.le_trans H2.out.below.size l3); have HNE := Lib.hid (show q ≠ b from Nat.ne_of_lt (Nat.lt_of_lt_of_le (Array.getElem?_eq_some_iff.1 HQ.out).1 l3)); have P3 := Lib.hid p3; clear p3 l3 b3)
    | (go_at_call 88; refine (run_put (m := 1) ⟨by decide, by decide⟩ (by unfold lim; decide) HL.out (by decide) (by decide) (by decide) (by decide) H3.out P3.out).mono ?_; rintro e w4 ⟨rfl, h4, p4, f4⟩; have hq4 := f4.cells _ _ _ _ hq3 rfl HNE.out; have H4 : Hid (WS w w4 B (v0 ⟨1, 8, 3, 1, 16⟩) exs) := h4; have HQ4 := Lib.hid hq4; clear h4 p4 f4 hq4 hq3))
  clear c0 c1 c2 c3 H2 H3 P3 HQ hnp
  have hp1 := fun st => H4.out.peekx 4123 (by decide) st
  have hp2 := fun st => H4.out.peekx 4120 (by decide) st
  rw [e4123] at hp1
  rw [e4120] at hp2
  have x0 := fun st : ExtW w4 => st.cell H4.out.c0
  have x1 := fun st : ExtW w4 => st.cell (spot3 _ _ _ _ _ _ HQ4.out).1
  have x2 := fun st : ExtW w4 => st.cell (spot3 _ _ _ _ _ _ HQ4.out).2.1
  have x3 := fun st : ExtW w4 => st.cell (spot3 _ _ _ _ _ _ HQ4.out).2.2
  refine wp_region_ext (by kernel_rfl) (by kernel_rfl) ?_
  repeat (go_big_quiet_step (first
    | (go_at_call 45; with_reducible refine calls_ext (htags _))
    | (go_at_call 89; with_reducible refine calls_ext (hitem _))
    | (go_at_call 27; with_reducible refine calls_ext_same (hp1 _))
    | (go_at_call 27; with_reducible refine calls_ext_same (hp2 _))))
  refine wpQuiet_nil ?_
  rintro W ⟨⟨W5, hW⟩, rfl⟩
  have H5 := Lib.hid (H4.out.keep hW)
  have hq5 := (hW.block _ (Array.getElem?_eq_some_iff.1 HQ4.out).1).trans HQ4.out
  obtain ⟨c1, c2, c3⟩ := spot3 _ _ _ _ _ _ hq5
  have HQ5 := Lib.hid hq5
  clear x0 x1 x2 x3 hp1 hp2 hW hq5 H4 HQ4
  go_upto_region 9 with (fail)
  go_upto_region 10 with (first
    | (go_at_call 47; refine (hno _).mono ?_; rintro e w6 ⟨b6, rfl, p6, l6, bb6⟩; have hq6 := (bb6.block _ (Array.getElem?_eq_some_iff.1 HQ5.out).1).trans HQ5.out; have H6 := Lib.hid (H5.out.keep bb6); have HL6 := Lib.hid (show w.heap.size ≤ b6 from Nat.le_trans H5.out.below.size l6); have HNE6 := Lib.hid (show q ≠ b6 from Nat.ne_of_lt (Nat.lt_of_lt_of_le (Array.getElem?_eq_some_iff.1 HQ5.out).1 l6)); have P6 := Lib.hid p6; have HQ6 := Lib.hid hq6; clear p6 l6 bb6 hq6)
    | (go_at_call 90; refine (out_step (m := 10) exs_le (by unfold lim; decide) HL6.out (by decide) (by decide) (by decide) 0 (by decide) H6.out P6.out).mono ?_; rintro e w7 ⟨⟨o, rfl⟩, h7, p7, f7⟩; have hq7 := f7.cells _ _ _ _ HQ6.out rfl HNE6.out; have H7 := Lib.hid h7; have P7 := Lib.hid p7; have HQ7 := Lib.hid hq7; have hgo := gone_any 1 (by decide) (by decide) p7; clear h7 p7 f7 hq7))
  clear c1 c2 c3
  go_upto_region 12 with (first
    | (go_at_call 91; refine hgo.mono ?_; rintro e w' ⟨rfl, hw⟩; obtain rfl := hw.symm; clear hgo)
    | (go_at_call 90; refine (out_step (m := 10) exs_le (by unfold lim; decide) HL6.out (by decide) (by decide) (by decide) 1 (by decide) H7.out P7.out).mono ?_; rintro e w8 ⟨⟨o2, rfl⟩, h8, p8, f8⟩; have hq8 := f8.cells _ _ _ _ HQ7.out rfl HNE6.out; have H8 := Lib.hid h8; have P8 := Lib.hid p8; have HQ8 := Lib.hid hq8; clear h8 p8 f8 hq8))
  have x0 := fun st : ExtW w8 => st.cell H8.out.c0
  have hg2 : ∀ st : ExtW w8, Calls Try.prog 91 #[.pointer (some ⟨b6, 0, none⟩)] st.val fun e w' => e = .returned (.bool (decide ((1 : Int) < (2 : Nat)))) ∧ st.val = w' := fun st => (gone_any 2 (by decide) (by decide) (P8.out.below st.below)).mono fun e w' ⟨he, hw⟩ => ⟨he, hw.symm⟩
  refine wp_region_segs [9] (by kernel_rfl) (by kernel_rfl) (by kernel_rfl) ?_
  simp only [Segs, List.take_succ_cons, List.take_zero, List.drop_succ_cons, List.drop_zero]
  repeat (go_big_quiet_step ((go_at_call 91; with_reducible refine calls_ext_same (hg2 _))))
  refine wpQuiet_nil ?_
  rintro W ⟨⟨W9, hW⟩, rfl⟩
  clear x0 hg2
  refine seg_call rfl (by kernel_rfl) 90 #[.pointer (some ⟨b6, 0, none⟩), .pointer (some ⟨B.wb, 0, none⟩)] (by kernel_rfl) ?_
  refine (out_step2 (H8.out.keep hW) (CS.room_of (10 + 2) (ost_le exs_le 2 (by decide)) (by unfold lim; decide)) HL6.out (P8.out.below hW) (by decide) (by decide) rfl (by decide)).mono ?_
  rintro e w10 ⟨rfl, h10, p10, f10⟩
  have h10 : WS w w10 B (v0 ⟨1, 8, 3, 1, 16⟩) exo := h10
  have hq10 := f10.cells _ _ _ _ ((hW.block _ (Array.getElem?_eq_some_iff.1 HQ8.out).1).trans HQ8.out) rfl HNE6.out
  refine ⟨_, rfl, ?_⟩
  simp only [List.getElem_toArray, List.getElem_cons_succ, List.getElem_cons_zero]
  go_frame
  have H10 := Lib.hid h10
  have hp1 := fun st => h10.peekx 4123 (by decide) st
  have hp2 := fun st => h10.peekx 4120 (by decide) st
  rw [exo_it] at hp1
  rw [exo_tg] at hp2
  have x0 := fun st : ExtW w10 => st.cell h10.c0
  have x1 := fun st : ExtW w10 => st.cell (spot3 _ _ _ _ _ _ hq10).1
  have x2 := fun st : ExtW w10 => st.cell (spot3 _ _ _ _ _ _ hq10).2.1
  have x3 := fun st : ExtW w10 => st.cell (spot3 _ _ _ _ _ _ hq10).2.2
  clear h10 hq10 p10 f10 hW
  repeat (go_big_quiet_step (first
    | (go_at_call 45; with_reducible refine calls_ext (htags _))
    | (go_at_call 89; with_reducible refine calls_ext (hitem _))
    | (go_at_call 27; with_reducible refine calls_ext_same (hp1 _))
    | (go_at_call 27; with_reducible refine calls_ext_same (hp2 _))))
  refine wpQuiet_nil ?_
  rintro W12 ⟨⟨W11, hW11⟩, rfl⟩
  clear x0 x1 x2 x3 hp1 hp2
  go_wp2
  go_ret
  exact ⟨rfl, (H10.out.keep hW11).below⟩
end Go.Proofs.Yteofdldlmmkgbaa

/-
  What PutsNever says of words: plain laws; the blocks that its walk keeps.
-/
namespace Go.Proofs.Yteofdldlmmkgbaa
open Go.RowKit Go.Maps TagPure
set_option linter.unusedVariables false

structure Byb (w : World) (a : Option Addr) (cap : Nat) (l : List Int) : Prop where
  le : l.length ≤ cap
  most : cap ≤ maxLen
  nil : a = none → cap = 0
  wf : ∀ x ∈ l, 0 ≤ x ∧ x < 256
  cell : l = [] ∨ ∃ b off, a = some ⟨b, off, none⟩ ∧ ∀ i, (hi : i < l.length) → w.cell? ⟨b, off + i, none⟩ = some (.int .u8 l[i])
theorem Byb.at {w : World} {a : Option Addr} {cap : Nat} {l : List Int} (h : Byb w a cap l) (i : Nat) (hi : i < l.length) :
    ∃ b off x, a = some ⟨b, off, none⟩ ∧ (0 ≤ x ∧ x < 256) ∧ w.cell? ⟨b, off + i, none⟩ = some (.int .u8 x) := by
  rcases h.cell with rfl | ⟨b, off, rfl, h5⟩
  · simp at hi
  · exact ⟨b, off, l[i], rfl, h.wf _ (List.getElem_mem hi), h5 i hi⟩
theorem byb_of {w : World} {v : Value} (h : Leaf.holds w (.sl [.int .u8]) v) : ∃ (l : List Int) (a : Option Addr) (cap : Nat), v = .slice a l.length cap ∧ Byb w a cap l := by
  obtain ⟨l, a, cap, rfl, h1, h2, h3, h4, h5⟩ := recs_of h
  have hwf : ∀ x, (Lit.int .u8 x).wf = true → 0 ≤ x ∧ x < 256 := fun x hx => by
    have hmin : IntKind.u8.min = 0 := rfl
    have hmax : IntKind.u8.max = 255 := rfl
    simp only [Lit.wf, Bool.and_eq_true, decide_eq_true_eq] at hx; omega
  obtain ⟨m, hm, hp⟩ := list_of (fun i (x : Int) => l[i]? = some [.int .u8 x] ∧ 0 ≤ x ∧ x < 256) l.length (fun i hi => by
    obtain ⟨c0, r, e0, g0, h⟩ := allHold_cons (h4 _ (List.getElem_mem hi))
    obtain rfl := allHold_nil h
    obtain ⟨z0, rfl, k0⟩ := holds_int g0
    exact ⟨z0, by rw [List.getElem?_eq_getElem hi, e0], hwf _ k0⟩)
  refine ⟨m, a, cap, by rw [hm], ⟨by omega, h2, h3, fun x hx => ?_, ?_⟩⟩
  · obtain ⟨i, hi, rfl⟩ := List.mem_iff_getElem.1 hx
    exact (hp i hi).2
  · rcases h5 with rfl | ⟨b, off, rfl, h6⟩
    · exact .inl (List.length_eq_zero_iff.1 hm)
    · refine .inr ⟨b, off, rfl, fun i hi => ?_⟩
      have hi2 : i < l.length := by omega
      have hq := (hp i (by omega)).1
      rw [List.getElem?_eq_getElem hi2, Option.some.injEq] at hq
      have a0 := h6 i hi2 0 (by decide)
      rw [hq] at a0
      simpa using a0
theorem leaves_byb : leaves Try.prog 4 83 = some [.sl [.int .u8]] := by kernel_rfl

theorem ptg_put (x t : Int) (n i : Nat) (h0 : 0 ≤ x) (hn : n < 4) (hi : i < 4) (t0 : 0 ≤ t) (t1 : t ≤ 255) : tg (put x n t) i = if i = n then t else tg x i := by
  match n, i, hn, hi with
  | 0, 0, _, _ | 0, 1, _, _ | 0, 2, _, _ | 0, 3, _, _ | 1, 0, _, _ | 1, 1, _, _ | 1, 2, _, _ | 1, 3, _, _
  | 2, 0, _, _ | 2, 1, _, _ | 2, 2, _, _ | 2, 3, _, _ | 3, 0, _, _ | 3, 1, _, _ | 3, 2, _, _ | 3, 3, _, _ => simp [put, tg] <;> omega
theorem pput_put (x t : Int) (n : Nat) (h0 : 0 ≤ x) (hn : n < 4) (t0 : 0 ≤ t) (t1 : t ≤ 255) : put (put x n t) n (tg x n) = x := by
  have e := ptg_put x t n n h0 hn hn t0 t1
  rw [if_pos rfl] at e
  show put x n t - tg (put x n t) n * 256 ^ n + tg x n * 256 ^ n = x
  rw [e]; unfold put; omega
theorem withOf_nat (x : Int) (k : Nat) (t : Int) (hk : k < 4) (t0 : 0 ≤ t) (t1 : t ≤ 255) : withOf x k t = put x k t := by
  unfold withOf; rw [if_pos ⟨⟨by omega, by omega⟩, t0, t1⟩]; rfl
theorem tagOf_nat (x : Int) (k : Nat) (hk : k < 4) : tagOf x k = tg x k := by
  unfold tagOf; rw [if_pos ⟨by omega, by omega⟩]; rfl
theorem tag21 : tagsA 2 1 = 4136 := by decide
theorem item21 (k : Nat) (hk : k < 4) : itemA 2 1 k = 4137 + k := by
  match k, hk with
  | 0, _ | 1, _ | 2, _ | 3, _ => decide
theorem sof21 (k : Nat) (hk : k < 4) : sof 2 1 k = ⟨4136, 4137 + k, k, 0, 0⟩ := by
  unfold sof; rw [tag21, item21 k hk, if_neg (by omega)]
def HasAt (w : World) (p : Nat) (H : Nat → Bool) : Prop := w.heap[p]? = some (.cells #[.bool (H 0), .bool (H 1), .bool (H 2), .bool (H 3)] 106 (0, 0))
theorem HasAt.cell {w : World} {p : Nat} {H : Nat → Bool} (h : HasAt w p H) (k : Nat) (hk : k < 4) : w.cell? ⟨p, k, none⟩ = some (.bool (H k)) := by
  match k, hk with
  | 0, _ => exact hcell h 0
  | 1, _ => exact hcell h 1
  | 2, _ => exact hcell h 2
  | 3, _ => exact hcell h 3
theorem HasAt.set {w : World} {p : Nat} {H : Nat → Bool} (h : HasAt w p H) (k : Nat) (hk : k < 4) (v : Bool) : HasAt (w.setCell ⟨p, k, none⟩ (.bool v)) p (fun j => if j = k then v else H j) := by
  match k, hk with
  | 0, _ => exact setCell_same h 0 (.bool v)
  | 1, _ => exact setCell_same h 1 (.bool v)
  | 2, _ => exact setCell_same h 2 (.bool v)
  | 3, _ => exact setCell_same h 3 (.bool v)
theorem HasAt.below {w w' : World} {p : Nat} {H : Nat → Bool} (h : HasAt w p H) (hb : Below w.heap.size w w') : HasAt w' p H := (hb.block _ (Array.getElem?_eq_some_iff.1 h).1).trans h
def SpotAt (w : World) (q : Nat) (k : Nat) : Prop := w.heap[q]? = some (.cells #[.int .i64 2, .int .i64 1, .int .i64 k] 55 (0, 0))
theorem SpotAt.below {w w' : World} {q k : Nat} (h : SpotAt w q k) (hb : Below w.heap.size w w') : SpotAt w' q k := (hb.block _ (Array.getElem?_eq_some_iff.1 h).1).trans h
def Good (s : CS) : Prop := ∀ j : Nat, j < 4 → tg (s.val 4136) j ≠ 0 → s.val (4137 + j) ≠ 0
def Inv (s : CS) (H : Nat → Bool) : Prop := (∀ j : Nat, j < 4 → H j = (tg (s.val 4136) j != 0)) ∧ Good s
theorem inv0 : Inv (CS.init [(2, tword 2 0)]) (fun _ => false) := by
  have e : ∀ a : Int, a ≠ 2 → (CS.init [(2, tword 2 0)]).val a = 0 := (new1 2).vo
  have z : ∀ j : Nat, tg ((CS.init [(2, tword 2 0)]).val 4136) j = 0 := fun j => by rw [e 4136 (by decide)]; unfold tg; simp
  exact ⟨fun j _ => by rw [z j]; rfl, fun j _ c => absurd (z j) c⟩
section
variable {s : CS} {H : Nat → Bool} (hI : Inv s H) (k : Nat) (hk : k < 4) (g r : Int) (hg : 1 ≤ g ∧ g ≤ 255) (hr : 1 ≤ r) (h0 : 0 ≤ s.val 4136)
include hk
theorem pst_tag (n : Nat) (hn : n ≤ 3) : (pst s 4136 (4137 + k) k g r n).val 4136 = if n = 3 then withOf (s.val 4136) k g else s.val 4136 := by
  have hne : (4136 : Int) ≠ 4137 + k := by omega
  match n, hn with
  | 0, _ => rfl
  | 1, _ => exact CS.acc_val _ _ _ _ hne
  | 2, _ => exact (CS.acc_self _ _ _).trans (CS.acc_val _ _ _ _ hne)
  | 3, _ => rw [if_pos rfl, ← show (s.acc 2 (4137 + k) r).val 4136 = s.val 4136 from CS.acc_val _ _ _ _ hne]; exact CS.acc_self _ _ _
theorem pst_item (n : Nat) (hn : n ≤ 3) (j : Nat) (hj : j < 4) : (pst s 4136 (4137 + k) k g r n).val (4137 + j) = if n ≠ 0 ∧ j = k then r else s.val (4137 + j) := by
  have hne : (4137 + (j : Int)) ≠ 4136 := by omega
  have h1 : (s.acc 2 (4137 + k) r).val (4137 + j) = if j = k then r else s.val (4137 + j) := by
    by_cases h : j = k
    · subst h; rw [if_pos rfl]; exact CS.acc_self _ _ _
    · rw [if_neg h]; exact CS.acc_val _ _ _ _ (by omega)
  match n, hn with
  | 0, _ => simp [pst]
  | 1, _ => rw [show (if (1 : Nat) ≠ 0 ∧ j = k then r else s.val (4137 + j)) = if j = k then r else s.val (4137 + j) by simp]; exact h1
  | 2, _ => rw [show (if (2 : Nat) ≠ 0 ∧ j = k then r else s.val (4137 + j)) = if j = k then r else s.val (4137 + j) by simp]; exact (CS.acc_val _ _ _ _ hne).trans h1
  | 3, _ => rw [show (if (3 : Nat) ≠ 0 ∧ j = k then r else s.val (4137 + j)) = if j = k then r else s.val (4137 + j) by simp]; exact ((CS.acc_val _ _ _ _ hne).trans (CS.acc_val _ _ _ _ hne)).trans h1
theorem ost_tag (n : Nat) (hn : n ≤ 3) : (ost s 4136 (4137 + k) k n).val 4136 = if 2 ≤ n then withOf (s.val 4136) k 0 else s.val 4136 := by
  have hne : (4136 : Int) ≠ 4137 + k := by omega
  match n, hn with
  | 0, _ => rfl
  | 1, _ => exact CS.acc_self _ _ _
  | 2, _ => exact CS.acc_self _ _ _
  | 3, _ => exact (CS.acc_val _ _ _ _ hne).trans (CS.acc_self _ _ _)
theorem ost_item (n : Nat) (hn : n ≤ 3) (j : Nat) (hj : j < 4) : (ost s 4136 (4137 + k) k n).val (4137 + j) = if n = 3 ∧ j = k then 0 else s.val (4137 + j) := by
  have hne : (4137 + (j : Int)) ≠ 4136 := by omega
  have h2 : ((s.acc 1 4136 (s.val 4136)).acc 2 4136 (withOf (s.val 4136) k 0)).val (4137 + j) = s.val (4137 + j) := (CS.acc_val _ _ _ _ hne).trans (CS.acc_val _ _ _ _ hne)
  match n, hn with
  | 0, _ => simp [ost]
  | 1, _ => rw [if_neg (by omega)]; exact CS.acc_val _ _ _ _ hne
  | 2, _ => rw [if_neg (by omega)]; exact h2
  | 3, _ =>
    by_cases h : j = k
    · subst h; simp only [and_self, if_true]; exact CS.acc_self _ _ _
    · rw [if_neg (by omega)]; exact (CS.acc_val _ _ _ _ (by omega)).trans h2
include hI hg hr h0
theorem pst_good (n : Nat) (hn : n ≤ 3) : Good (pst s 4136 (4137 + k) k g r n) := fun j hj hne => by
  rw [pst_item k hk g r n hn j hj]
  rw [pst_tag k hk g r n hn] at hne
  split
  · omega
  · rename_i h
    refine hI.2 j hj ?_
    split at hne
    · rw [withOf_nat _ k g hk (by omega) hg.2, ptg_put _ g k j h0 hk hj (by omega) hg.2, if_neg (fun c => h ⟨by omega, c⟩)] at hne; exact hne
    · exact hne
theorem pst_inv : Inv (pst s 4136 (4137 + k) k g r 3) (fun j => if j = k then true else H j) := by
  refine ⟨fun j hj => ?_, pst_good hI k hk g r hg hr h0 3 (by omega)⟩
  rw [pst_tag k hk g r 3 (by omega), if_pos rfl, withOf_nat _ k g hk (by omega) hg.2, ptg_put _ g k j h0 hk hj (by omega) hg.2]
  show (if j = k then true else H j) = ((if j = k then g else tg (s.val 4136) j) != 0)
  by_cases hjk : j = k
  · rw [if_pos hjk, if_pos hjk]; exact (bne_iff_ne.2 (by omega)).symm
  · rw [if_neg hjk, if_neg hjk]; exact hI.1 j hj
omit hI hr in
theorem pst_back : withOf ((pst s 4136 (4137 + k) k g r 3).val 4136) k (tagOf (s.val 4136) k) = s.val 4136 := by
  have hb := tg_bd (s.val 4136) k
  rw [pst_tag k hk g r 3 (by omega), if_pos rfl, withOf_nat _ k g hk (by omega) hg.2, tagOf_nat _ k hk, withOf_nat _ k _ hk hb.1 hb.2]
  exact pput_put _ g k h0 hk (by omega) hg.2
omit hg hr in
theorem ost_good (n : Nat) (hn : n ≤ 3) : Good (ost s 4136 (4137 + k) k n) := fun j hj hne => by
  rw [ost_item k hk n hn j hj]
  rw [ost_tag k hk n hn] at hne
  by_cases hjk : j = k
  · subst hjk
    split at hne
    · rw [withOf_nat _ j 0 hk (by omega) (by omega), ptg_put _ 0 j j h0 hk hj (by omega) (by omega), if_pos rfl] at hne; exact absurd rfl hne
    · rw [if_neg (by omega)]; exact hI.2 j hj hne
  · rw [if_neg (by omega)]
    refine hI.2 j hj ?_
    split at hne
    · rw [withOf_nat _ k 0 hk (by omega) (by omega), ptg_put _ 0 k j h0 hk hj (by omega) (by omega), if_neg hjk] at hne; exact hne
    · exact hne
omit hg hr in
theorem ost_inv : Inv (ost s 4136 (4137 + k) k 3) (fun j => if j = k then false else H j) := by
  refine ⟨fun j hj => ?_, ost_good hI k hk h0 3 (by omega)⟩
  rw [ost_tag k hk 3 (by omega), if_pos (by omega), withOf_nat _ k 0 hk (by omega) (by omega), ptg_put _ 0 k j h0 hk hj (by omega) (by omega)]
  show (if j = k then false else H j) = ((if j = k then 0 else tg (s.val 4136) j) != 0)
  by_cases hjk : j = k
  · rw [if_pos hjk, if_pos hjk]; rfl
  · rw [if_neg hjk, if_neg hjk]; exact hI.1 j hj
omit hI hg hr in
theorem ost_back : withOf ((ost s 4136 (4137 + k) k 3).val 4136) k (tagOf (s.val 4136) k) = s.val 4136 := by
  have hb := tg_bd (s.val 4136) k
  rw [ost_tag k hk 3 (by omega), if_pos (by omega), withOf_nat _ k 0 hk (by omega) (by omega), tagOf_nat _ k hk, withOf_nat _ k _ hk hb.1 hb.2]
  exact pput_put _ 0 k h0 hk (by omega) (by omega)
end
end Go.Proofs.Yteofdldlmmkgbaa
