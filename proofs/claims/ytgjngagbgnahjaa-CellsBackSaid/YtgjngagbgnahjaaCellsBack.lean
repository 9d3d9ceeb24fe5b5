/-
  CellsBack.
-/
import Derived.Test.YtgjngagbgnahjaaCellsOwn
import Derived.Test.YtgjngagbgnahjaaOpen
namespace Go.Proofs.Ytgjngagbgnahjaa
open Go.RowKit Go.Maps
set_option linter.unusedVariables false

theorem wu_round {x y : Int} (hx : (Lit.int .u64 x).wf = true) : wu (wu (x + y) + IntKind.u64.wrap (-y)) = x := by
  have h2 := wu_of hx
  have e : wu (wu (x + y) + IntKind.u64.wrap (-y)) = wu x := by
    rw [IntKind.wrap_u64, wu_eq, wu_eq, wu_eq]; omega
  rw [e, h2]
theorem wu_next {x : Int} (hx : (Lit.int .u64 x).wf = true) : x ≠ IntKind.u64.wrap (x + 1) := by
  have h2 := wu_of hx
  rw [wu_eq] at h2
  rw [IntKind.wrap_u64]; omega

theorem box3 {v0 w1 : World} {q : Nat} {z0 z1 z2 : Int} (hq : v0.heap[q]? = some (.cells #[.int .u64 z0, .int .u64 z1, .int .u64 z2] 134 (0, 0))) (h : Below v0.heap.size v0 w1) :
    w1.cell? ⟨q, 0, none⟩ = some (.int .u64 z0) ∧ w1.cell? ⟨q, 1, none⟩ = some (.int .u64 z1) ∧ w1.cell? ⟨q, 2, none⟩ = some (.int .u64 z2) := by
  have h2 : w1.heap[q]? = some (.cells #[.int .u64 z0, .int .u64 z1, .int .u64 z2] 134 (0, 0)) := (h.block q (Array.getElem?_eq_some_iff.1 hq).1).trans hq
  simp [World.cell?, h2]

set_option maxRecDepth 10000 in
set_option maxHeartbeats 2000000 in
theorem back_any (a z0 z1 z2 : Int) (ha : (Lit.int .u64 a).wf = true) (h0 : (Lit.int .u64 z0).wf = true) (h1 : (Lit.int .u64 z1).wf = true) (h2 : (Lit.int .u64 z2).wf = true) (w : World) :
    Calls Try.prog 13 #[.int .u64 a, .agg #[.int .u64 z0, .int .u64 z1, .int .u64 z2]] w fun e w' => e = .returned (.bool true) ∧ Below w.heap.size w w' := by
  have e1 := wu_round (y := z2) h0
  have e2 := wu_next h0
  have H0 := Lib.hid h0; have H1 := Lib.hid h1; have HA := Lib.hid ha; have E1 := Lib.hid e1; have E2 := Lib.hid e2
  have hbx := heap_alloc_new w (.cells #[.int .u64 z0, .int .u64 z1, .int .u64 z2] 134)
  clear h0 h1 h2 ha e1 e2
  go_enter Try.func13, Try.ntmps13
  go_wp2_with (first
    | (go_at_call 70; refine (One.new a (Below.refl _ (w.alloc (.cells #[.int .u64 z0, .int .u64 z1, .int .u64 z2] 134)))).mono ?_; rintro e w1 ⟨b, rfl, h1⟩; obtain ⟨p0, p1, p2⟩ := box3 hbx h1.below)
    | (go_at_call 34; refine (h1.store HA.out (by omega) z0 H0.out).mono ?_; rintro e w2 ⟨rfl, h2⟩; clear h1 p0 p1 p2; obtain ⟨p0, p1, p2⟩ := box3 hbx h2.below)
    | (go_at_call 71; refine (h2.cas HA.out (by omega) z1 H1.out).mono ?_; rintro e w3 ⟨rfl, h3⟩; clear h2 p0 p1 p2; obtain ⟨p0, p1, p2⟩ := box3 hbx h3.below)
    | (go_at_call 71; refine (h3.cas HA.out (by omega) z0 H0.out).mono ?_; rintro e w4 ⟨rfl, h4⟩; clear h3 p0 p1 p2; obtain ⟨p0, p1, p2⟩ := box3 hbx h4.below)
    | (go_at_call 72; refine (h4.add HA.out (by omega) z2).mono ?_; rintro e w5 ⟨rfl, h5⟩; clear h4 p0 p1 p2; obtain ⟨p0, p1, p2⟩ := box3 hbx h5.below)
    | (go_at_call 72; refine (h5.add HA.out (by omega) (IntKind.u64.wrap (-z2))).mono ?_; rw [E1.out]; rintro e w6 ⟨rfl, h6⟩; clear h5 p0 p1 p2; obtain ⟨p0, p1, p2⟩ := box3 hbx h6.below)
    | (go_at_call 71; refine (h6.cas_not HA.out (by omega) (IntKind.u64.wrap (z0 + 1)) z1 E2.out H1.out).mono ?_; rintro e w7 ⟨rfl, h7⟩; clear h6 p0 p1 p2; obtain ⟨p0, p1, p2⟩ := box3 hbx h7.below))
  have x0 := fun s : ExtW w7 => s.cell p0
  have hpk : ∀ s : ExtW w7, Calls Try.prog 41 #[.pointer (some ⟨b, 0, none⟩), .int .u64 a] s.val fun e w' => e = .returned (.int .u64 z0) ∧ s.val = w' :=
    fun s => ((h7.keep s.below).peek HA.out).mono fun e w' ⟨he, hw⟩ => ⟨he, hw.symm⟩
  clear p0 p1 p2
  refine wp_region_ext (by kernel_rfl) (by kernel_rfl) ?_
  repeat (go_big_quiet_step (first | (go_at_call 41; refine calls_ext_same (hpk _)) | (go_at_call 73; refine calls_ext (lives05 _))))
  refine wpQuiet_nil ?_
  rintro W ⟨⟨W2, hW⟩, rfl⟩
  go_wp2
  go_ret
  have hb := h7.below
  exact ⟨rfl, (((Below.refl _ w).alloc (Nat.le_refl _) _).trans (hb.mono (by simp))).trans (hW.mono (Nat.le_trans (by simp) hb.size))⟩

theorem leaves_three : leaves Try.prog 3 134 = some [.int .u64, .int .u64, .int .u64] := by kernel_rfl

set_option maxRecDepth 10000 in
theorem walkCellsBack {H : Type} (w : World) (a : Int) (ha : (Lit.int .u64 a).wf = true) (enc : TypeId × Value → H) (base : Nat) (v : Value) (d : DataW H) (p : List MemPlace) (k : DataW.Trod enc Try.prog w 0 (fun _ => true) true 134 v d p) (o : Value.okWide Try.prog w .any base 134 v) :
    Calls Try.prog 13 #[.int .u64 a, v] w fun e w' => e = .returned (.bool true) ∧ Below w.heap.size w w' := by
  obtain ⟨cs, rfl⟩ := okWide_array Try.underlying134 o
  have h := opened leaves_three k
  obtain ⟨c0, r, e0, g0, h⟩ := allHold_cons h
  obtain ⟨c1, r, rfl, g1, h⟩ := allHold_cons h
  obtain ⟨c2, r, rfl, g2, h⟩ := allHold_cons h
  obtain rfl := allHold_nil h
  obtain ⟨z0, rfl, h0⟩ := holds_int g0
  obtain ⟨z1, rfl, h1⟩ := holds_int g1
  obtain ⟨z2, rfl, h2⟩ := holds_int g2
  obtain rfl : cs = #[.int .u64 z0, .int .u64 z1, .int .u64 z2] := by
    have : cs.toList = _ := e0
    rw [← Array.toArray_toList (xs := cs), this]
  exact back_any a z0 z1 z2 ha h0 h1 h2 w
end Go.Proofs.Ytgjngagbgnahjaa
