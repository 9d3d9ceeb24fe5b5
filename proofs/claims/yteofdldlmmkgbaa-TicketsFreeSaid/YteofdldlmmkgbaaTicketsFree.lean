/-
  TicketsFree: the walk.
-/
import Derived.Test.YteofdldlmmkgbaaFirst
import Derived.Test.YteofdldlmmkgbaaTicketsDo
namespace Go.Proofs.Yteofdldlmmkgbaa
open Go.RowKit
set_option linter.unusedVariables false

/-- Made since w0; the lock's words a, b; thread q's cell v; the Holder; how far at most. -/
def TF (w0 w : World) (B : WB) (q : Nat) (a b v hd : Int) (m : Nat) : Prop := ∃ V s, WS w0 w B V s ∧ s.val 0 = a ∧ s.val 1 = b ∧ V.tk.getD q 0 = v ∧ V.hd = hd ∧ s.n ≤ m ∧ s.cnt ≤ m
section
variable {w0 w : World} {B : WB} {q : Nat} {a b v hd : Int} {m : Nat} (h : TF w0 w B q a b v hd m)
include h
theorem TF.keep {w' : World} (hb : Below w.heap.size w w') : TF w0 w' B q a b v hd m := by
  obtain ⟨V, s, h1, h2⟩ := h
  exact ⟨V, s, h1.keep hb, h2⟩
theorem TF.below : Below w0.heap.size w0 w := by obtain ⟨V, s, h1, _⟩ := h; exact h1.below
theorem TF.c0 : w.cell? ⟨B.wb, 0, none⟩ = some (.pointer (some ⟨B.cb, 0, none⟩)) := by obtain ⟨V, s, h1, _⟩ := h; exact h1.c0
theorem TF.c72 : w.cell? ⟨B.wb, 72, none⟩ = some (.int .i64 hd) := by obtain ⟨V, s, h1, _, _, _, h2, _⟩ := h; rw [← h2]; exact h1.hcell'
theorem TF.cq (hq : q < 64) : w.cell? ⟨B.wb, 8 + q, none⟩ = some (.int .u64 v) := by obtain ⟨V, s, h1, _, _, h2, _⟩ := h; rw [← h2]; exact h1.cellb q hq
theorem TF.peek0 : Calls Try.prog 27 #[.pointer (some ⟨B.cb, 0, none⟩), .int .u64 0] w fun e w' => e = .returned (.int .u64 a) ∧ w' = w := by
  obtain ⟨V, s, h1, rfl, _⟩ := h; exact h1.peek 0 (by decide)
theorem TF.peek1 : Calls Try.prog 27 #[.pointer (some ⟨B.cb, 0, none⟩), .int .u64 1] w fun e w' => e = .returned (.int .u64 b) ∧ w' = w := by
  obtain ⟨V, s, h1, _, rfl, _⟩ := h; exact h1.peek 1 (by decide)
variable {p t : Nat} {k : Int} {d : Bool} (hlo : w0.heap.size ≤ p) (hq : q < 64) (hc : m < 10000)
include hlo hq hc
theorem TF.draw (hT : TakeAt w p q k d 1) : Calls Try.prog 38 #[.pointer (some ⟨p, 0, none⟩), .pointer (some ⟨B.wb, 0, none⟩)] w fun e w' => e = .returned (.bool false) ∧ TF w0 w' B q (wu (a + 1)) b (wu (a + 1)) hd (m + 1) ∧ TakeAt w' p q a true 2 := by
  obtain ⟨V, s, h1, rfl, rfl, rfl, rfl, h6, h7⟩ := h
  have hr : s.room := by unfold CS.room lim; omega
  refine (tstep1 h1 hr hlo hq hT).mono fun e w' ⟨he, hw, hT', hf⟩ => ⟨he, ⟨_, _, hw, CS.acc_self _ _ _, CS.acc_val _ _ _ _ (by decide), ?_, rfl, by simp [CS.acc]; omega, by simp [CS.acc]; omega⟩, hT'⟩
  have := h1.tkl
  simp [this, hq]
theorem TF.served (hT : TakeAt w p q b d 2) : Calls Try.prog 38 #[.pointer (some ⟨p, 0, none⟩), .pointer (some ⟨B.wb, 0, none⟩)] w fun e w' => e = .returned (.bool true) ∧ TF w0 w' B q a b 0 q (m + 1) ∧ TakeAt w' p q b d 0 := by
  obtain ⟨V, s, h1, rfl, rfl, rfl, rfl, h6, h7⟩ := h
  have hr : s.room := by unfold CS.room lim; omega
  refine (tstep2y h1 hr hlo hq hT).mono fun e w' ⟨he, hw, hT', hf⟩ => ⟨he, ⟨_, _, hw, CS.acc_val _ _ _ _ (by decide), CS.acc_self _ _ _, ?_, rfl, by simp [CS.acc]; omega, by simp [CS.acc]; omega⟩, hT'⟩
  have := h1.tkl
  simp [this, hq]
omit hq in
theorem TF.give (hG : GiveAt w p 1) : Calls Try.prog 41 #[.pointer (some ⟨p, 0, none⟩), .pointer (some ⟨B.wb, 0, none⟩)] w fun e w' => e = .returned (.bool true) ∧ TF w0 w' B q a (wu (b + 1)) v (-1) (m + 1) := by
  obtain ⟨V, s, h1, rfl, rfl, rfl, rfl, h6, h7⟩ := h
  have hr : s.room := by unfold CS.room lim; omega
  exact (gstep h1 hr hlo hG).mono fun e w' ⟨he, hw, hT', hf⟩ => ⟨he, ⟨_, _, hw, CS.acc_val _ _ _ _ (by decide), CS.acc_self _ _ _, rfl, rfl, by simp [CS.acc]; omega, by simp [CS.acc]; omega⟩⟩
end

set_option maxRecDepth 100000 in
set_option maxHeartbeats 4000000 in
theorem tfree_any (f : Fst) (w : World) (hr : FstRd w f) (T : Int) (hT : (Lit.int .u64 T).wf = true) (t : Int) (ht : (Lit.int .u8 t).wf = true) :
    Calls Try.prog 6 #[.agg #[.int .i64 f.c.bits, .int .i64 f.c.budget, .int .i64 f.c.tries, .int .i64 f.c.quantum, .int .i64 f.c.way, .bool f.gr, .slice f.ia f.its.length f.ic, .slice f.pa f.puts.length f.pc, .slice f.sa f.sts.length f.sc, .int .i64 f.ticks], .int .u64 T, .int .u8 t] w
    fun e w' => e = .returned (.bool true) ∧ Below w.heap.size w w' := by
  have htb := wf_u8 ht
  obtain ⟨k, hk⟩ : ∃ k : Nat, t % 64 = k := ⟨(t % 64).toNat, by omega⟩
  have hk64 : k < 64 := by omega
  have hkm : t.tmod 64 = k := by rw [← hk]; exact Int.tmod_eq_emod_of_nonneg htb.1
  have hkw : wrap64 (k : Int) = k := IntWalk.wrap64_in _ (by omega)
  have hB := below_alloc w (.cells f.cells 49)
  have z := heap_alloc_new w (.cells f.cells 49)
  have HR := Lib.hid (hr.below hB); have HB := Lib.hid hB; have HT := Lib.hid hT; have HK := Lib.hid hk64; have HZ := Lib.hid z; have HKM := Lib.hid hkm; have HKW := Lib.hid hkw
  clear hr hB hT hk64 ht htb hk z hkm hkw
  go_enter Try.func6, Try.ntmps6
  go_upto_region 1 with (fail)
  change Code.wp _ _ _ _ (w.alloc (.cells f.cells 49))
  generalize w.alloc (.cells f.cells 49) = w1 at *
  have z := HZ.out
  obtain ⟨e0, e1, e2, e3, e4, e5, e6, e7, e8, e9⟩ := fst_cells z
  clear z
  go_upto_if 15 with (go_at_call 18; refine (great_any f w1 HR.out).mono ?_; rintro e w2 ⟨g, rfl, b2, hg⟩; have B2 := Lib.hid b2; have HG := Lib.hid hg; clear b2 hg e0 e1 e2 e3 e4 e5 e6 e7 e8 e9)
  have HBB : Hid (Below w.heap.size w w2) := HB.out.trans (B2.out.mono HB.out.size)
  cases g
  · obtain ⟨hin, hsz⟩ := HG.out rfl
    have HIN := Lib.hid (hin.below B2.out)
    have z := (B2.out.block _ (Array.getElem?_eq_some_iff.1 HZ.out).1).trans HZ.out
    obtain ⟨e0, e1, e2, e3, e4, e5, e6, e7, e8, e9⟩ := fst_cells z
    clear z hin hsz
    go_upto_region 4 with (go_at_call 19; refine (begin_any f w2 HIN.out).mono ?_; rintro e w3 ⟨B, R, V, s, x, rfl, hpr, hV, hfar, -, -⟩; have HPR := Lib.hid hpr; have HFAR := Lib.hid hfar; clear hpr hV hfar e0 e1 e2 e3 e4 e5 e6 e7 e8 e9)
    have hq0 := heap_alloc_new w3 (.cells #[.pointer (some ⟨B.wb, 0, none⟩), .pointer (some ⟨R.wb, 0, none⟩)] 44)
    have hB4 := below_alloc w3 (.cells #[.pointer (some ⟨B.wb, 0, none⟩), .pointer (some ⟨R.wb, 0, none⟩)] 44)
    have HPR4 := Lib.hid (HPR.out.keep hB4)
    change Code.wp _ _ _ _ (w3.alloc (.cells #[.pointer (some ⟨B.wb, 0, none⟩), .pointer (some ⟨R.wb, 0, none⟩)] 44))
    generalize w3.alloc (.cells #[.pointer (some ⟨B.wb, 0, none⟩), .pointer (some ⟨R.wb, 0, none⟩)] 44) = w4 at *
    generalize w3.heap.size = q at *
    have c0 := hcell hq0 0; have c1 := hcell hq0 1
    have HQ0 := Lib.hid hq0
    have hps := pstore_any HPR4.out 300 HFAR.out (by decide) 0 T (by decide) HT.out
    clear HPR hq0 hB4
    go_upto_region 5 with (go_at_call 36; refine hps.mono ?_; rintro e w5 ⟨rfl, h5, f5⟩; have HPR5 := Lib.hid h5; have HQ5 := Lib.hid (f5.cells _ _ _ _ HQ0.out rfl); clear h5 f5 c0 c1)
    have c0 := hcell HQ5.out 0; have c1 := hcell HQ5.out 1
    have hps := pstore_any HPR5.out 301 (HFAR.out.acc HPR4.out.al _ _ _) (by decide) 1 T (by decide) HT.out
    go_upto_region 6 with (go_at_call 36; refine hps.mono ?_; rintro e w6 ⟨rfl, h6, f6⟩; have HPR6 := Lib.hid h6; have HQ6 := Lib.hid (f6.cells _ _ _ _ HQ5.out rfl); clear h6 f6 c0 c1)
    have htf : TF w2 w6 B k T T (V.tk.getD k 0) V.hd 302 := by
      have h2 := (HFAR.out.acc HPR4.out.al 2 0 T).acc HPR5.out.al 2 1 T
      exact ⟨V, _, HPR6.out.ws, (CS.acc_val _ _ _ _ (by decide)).trans (CS.acc_self _ _ _), CS.acc_self _ _ _, rfl, rfl, h2.1, h2.2.1⟩
    have c0 := hcell HQ6.out 0
    have HTF := Lib.hid htf
    have HLO : Hid (w2.heap.size ≤ w6.heap.size) := HPR6.out.ws.below.size
    clear htf HPR4 HPR5 HPR6 HFAR HQ0 HQ5 HIN HR HZ
    have hkm := HKM.out; have hkw := HKW.out
    go_upto_region 9 with (go_at_call 37; refine (newtake_in k HK.out w6).mono ?_; rintro e w7 ⟨rfl, t7, b7⟩; have HT7 := Lib.hid t7; have H7 := Lib.hid (HTF.out.keep b7); clear t7 b7 c0)
    clear hkm hkw HKM HKW
    generalize w6.heap.size = p at *
    have hwt := wf_bd HT.out
    have hd1 := H7.out.draw HLO.out HK.out (by omega) HT7.out
    clear hwt
    have hkk : (k : Int) < 64 := by have := HK.out; omega
    generalize V.tk.getD k 0 = v0' at *
    generalize V.hd = hd0 at *
    go_upto_region 11 with (first
      | (go_at_call 38; with_reducible refine hd1.mono ?_; rintro e w8 ⟨rfl, h8, t8⟩; have H8 := Lib.hid h8; have hd2 := h8.served HLO.out HK.out (by omega) t8; clear h8 t8 hd1)
      | (go_at_call 38; with_reducible refine hd2.mono ?_; rintro e w9 ⟨rfl, h9, t9⟩; have H9 := Lib.hid h9; have HT9 := Lib.hid t9; have r72 := h9.c72; have rq := h9.cq HK.out; clear h9 t9 hd2))
    clear r72 rq
    go_upto_region 13 with (first
      | (go_at_call 39; refine (got_any HT9.out).mono ?_; rintro e w10 ⟨rfl, b10⟩; have H10 := Lib.hid (H9.out.keep b10); have HS10 := Lib.hid b10.size; clear b10)
      | (go_at_call 40; refine (newgive _).mono ?_; rintro e w11 ⟨rfl, g11, b11⟩; have HG11 := Lib.hid g11; have H11 := Lib.hid (H10.out.keep b11); clear g11 b11))
    have hgv := H11.out.give (show w2.heap.size ≤ w10.heap.size from H10.out.below.size) (by omega) HG11.out
    go_wp2_with (first
      | (go_at_call 41; with_reducible refine hgv.mono ?_; rintro e w12 ⟨rfl, h12⟩; have H12 := Lib.hid h12; have r72 := h12.c72; have r0 := h12.c0; have hp0 := h12.peek0; have hp1 := h12.peek1; clear h12 hgv)
      | (go_at_call 27; with_reducible refine hp0.mono ?_; rintro e w' ⟨rfl, hw⟩; obtain rfl := hw.symm; clear hp0)
      | (go_at_call 27; with_reducible refine hp1.mono ?_; rintro e w' ⟨rfl, hw⟩; obtain rfl := hw.symm; clear hp1)
      | (go_at_call 31; refine (lives11 _).mono ?_; rintro e w13 ⟨rfl, b13⟩))
    go_ret
    exact ⟨rfl, HBB.out.trans ((H12.out.below.trans (b13.mono H12.out.below.size)).mono HBB.out.size)⟩
  · go_wp2_with (go_at_call 31; refine (lives11 _).mono ?_; rintro e w3 ⟨rfl, b3⟩)
    go_ret
    exact ⟨rfl, HBB.out.trans (b3.mono HBB.out.size)⟩
set_option maxRecDepth 10000 in
theorem walkTicketsFree {H : Type} (w : World) (enc : TypeId × Value → H) (base : Nat) (v : Value) (d : DataW H) (p : List MemPlace) (k : DataW.Trod enc Try.prog w 0 (fun _ => true) true 49 v d p) (o : Value.okWide Try.prog w .any base 49 v)
    (T : Int) (hT : (Lit.int .u64 T).wf = true) (t : Int) (ht : (Lit.int .u8 t).wf = true) :
    Calls Try.prog 6 #[v, .int .u64 T, .int .u8 t] w fun e w' => e = .returned (.bool true) ∧ Below w.heap.size w w' := by
  obtain ⟨f, rfl, hr⟩ := fst_open k o
  exact tfree_any f w hr T hT t ht
end Go.Proofs.Yteofdldlmmkgbaa
