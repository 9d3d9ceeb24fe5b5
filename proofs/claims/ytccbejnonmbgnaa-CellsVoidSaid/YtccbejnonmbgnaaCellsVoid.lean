/-
  CellsVoid.
-/
import Derived.Test.YtccbejnonmbgnaaSame
import Derived.Test.YtccbejnonmbgnaaCellsNil
import Derived.Test.YtccbejnonmbgnaaWorldsFull
namespace Go.Proofs.Ytccbejnonmbgnaa
open Go.RowKit Go.Maps
set_option linter.unusedVariables false

/-- What an act does to both. -/
theorem same_any {w0 w : World} {cb r : Nat} {s : CS} {x : RS} (h : Both w0 w cb r s x) (m : Nat) (hf : Far s x m) (hm : m ≤ 90000) (k a v i : Int) (hk0 : 0 ≤ k ∧ k < 256) (ha : (Lit.int .u64 a).wf = true) (hvw : (Lit.int .u64 v).wf = true) (hiw : (Lit.int .u64 i).wf = true) (w1 : World) (hw : w1 = w) :
    Calls Try.prog 71 #[.pointer (some ⟨cb, 0, none⟩), .pointer (some ⟨r, 0, none⟩), .agg #[.int .u8 k, .int .u64 a, .int .u64 v, .int .u64 i]] w1 fun e w' => e = .returned (.bool true) ∧ ∃ s' x', Both w0 w' cb r s' x' ∧ Far s' x' (m + 1) ∧ s'.cnt = s.cnt + 1 := by
  subst hw
  have hA := h.alike
  have : k % 5 = 0 ∨ k % 5 = 1 ∨ k % 5 = 2 ∨ k % 5 = 3 ∨ k % 5 = 4 := by omega
  rcases this with hk | hk | hk | hk | hk
  · exact (same_load h m hf hm k a v i hk hk0 ha hvw hiw).mono fun e w' ⟨he, hb⟩ => ⟨he, _, _, hb, hf.acc hA _ _ _, rfl⟩
  · exact (same_store h m hf hm k a v i hk hk0 ha hvw hiw).mono fun e w' ⟨he, hb⟩ => ⟨he, _, _, hb, hf.acc hA _ _ _, rfl⟩
  · exact (same_cas h m hf hm k a v i hk hk0 ha hvw hiw).mono fun e w' ⟨he, hb⟩ => ⟨he, _, _, hb, hf.acc hA _ _ _, rfl⟩
  · exact (same_swap h m hf hm k a v i hk hk0 ha hvw hiw).mono fun e w' ⟨he, hb⟩ => ⟨he, _, _, hb, hf.acc hA _ _ _, rfl⟩
  · exact (same_add h m hf hm k a v i hk hk0 ha hvw hiw).mono fun e w' ⟨he, hb⟩ => ⟨he, _, _, hb, hf.acc hA _ _ _, rfl⟩

theorem alike_zero : Alike CS.zero RS.zero := ⟨rfl, List.Pairwise.nil, rfl, rfl, rfl, rfl, rfl⟩
theorem far_zero : Far CS.zero RS.zero 1 := ⟨by decide, by decide, by decide⟩
theorem both_new {w0 w w8 : World} {cb : Nat} (hO : Own w0 w cb CS.zero) (hr : RCells w8 w.heap.size w.heap.size (.slice none 0 0) RS.zero) (hle : w0.heap.size ≤ w.heap.size) (hb : Below w.heap.size w w8) : Both w0 w8 cb w.heap.size CS.zero RS.zero :=
  ⟨hO.keep hb, ⟨_, hr.hdr, hle, World.ownsRow_nil _ _ _ _, fun p hp => by cases hp⟩, alike_zero⟩

set_option maxRecDepth 10000 in
set_option maxHeartbeats 2000000 in
theorem cvoid_any (k a v i : Int) (hk0 : 0 ≤ k ∧ k < 256) (ha : (Lit.int .u64 a).wf = true) (hv : (Lit.int .u64 v).wf = true) (hi : (Lit.int .u64 i).wf = true) (w : World) :
    Calls Try.prog 13 #[.agg #[.int .u8 k, .int .u64 a, .int .u64 v, .int .u64 i]] w fun e w' => e = .returned (.bool true) ∧ Below w.heap.size w w' := by
  obtain ⟨wA, hwA⟩ : ∃ wA, wA = w.alloc (.cells #[.int .u8 k, .int .u64 a, .int .u64 v, .int .u64 i] 133) := ⟨_, rfl⟩
  obtain ⟨wV, hwV⟩ : ∃ wV, wV = wA.alloc (.cells #[.map none, .int .i64 0, .int .u8 0, .int .u64 0, .int .u64 0, .int .u64 0] 136) := ⟨_, rfl⟩
  have hBA : Below w.heap.size w wA := by rw [hwA]; exact below_alloc _ _
  have hsA : wA.heap.size = w.heap.size + 1 := by rw [hwA]; simp
  have hq : wV.heap[w.heap.size]? = some (.cells #[.int .u8 k, .int .u64 a, .int .u64 v, .int .u64 i] 133 (0, 0)) := by
    rw [hwV, Below.heap_alloc _ _ _ (by omega), hwA]; exact heap_alloc_new w _
  have hO : Own w wV (w.heap.size + 1) CS.zero := by
    have h1 := cells_new wA
    have h2 := Own.new (w0 := w) hBA (⟨_, _, h1, rfl⟩ : Cells _ _ _ CS.zero _) (below_alloc _ _)
    rw [hsA] at h2
    rw [hwV]; exact h2
  have bx : ∀ w2, Below wV.heap.size wV w2 → w2.cell? ⟨w.heap.size, 0, none⟩ = some (.int .u8 k) ∧ w2.cell? ⟨w.heap.size, 1, none⟩ = some (.int .u64 a) ∧ w2.cell? ⟨w.heap.size, 2, none⟩ = some (.int .u64 v) ∧ w2.cell? ⟨w.heap.size, 3, none⟩ = some (.int .u64 i) := fun w2 hb => by
    have h3 := (hb.block _ (Array.getElem?_eq_some_iff.1 hq).1).trans hq
    have c : ∀ o, w2.cell? ⟨w.heap.size, o, none⟩ = (#[.int .u8 k, .int .u64 a, .int .u64 v, .int .u64 i] : Array Value)[o]? := fun o => by unfold World.cell?; simp only; rw [h3]; rfl
    exact ⟨c 0, c 1, c 2, c 3⟩
  obtain ⟨p0, p1, p2, p3⟩ := bx wV (Below.refl _ _)
  have BX := Lib.hid bx; have HO := Lib.hid hO; have HA := Lib.hid ha; have HV := Lib.hid hv; have HI := Lib.hid hi
  have HB := Lib.hid (Below.refl wV.heap.size wV)
  clear bx hO hq ha hv hi hBA hsA
  have hwW : ((w.alloc (.cells #[.int .u8 k, .int .u64 a, .int .u64 v, .int .u64 i] 133)).alloc (.cells #[.map none, .int .i64 0, .int .u8 0, .int .u64 0, .int .u64 0, .int .u64 0] 136)) = wV := by rw [hwV, hwA]
  have HW := Lib.hid hwW
  clear hwA hwV hwW
  go_enter Try.func13, Try.ntmps13
  go_wp2_with fail
  rw [HW.out]
  clear HW
  go_wp2_with (first
    | (go_at_call 67; refine (ccas_nil _ _ _ _).mono ?_; rintro e w2 ⟨rfl, b2⟩; clear p0 p1 p2 p3; have HB2 := Lib.hid (bnext HB.out b2); obtain ⟨p0, p1, p2, p3⟩ := BX.out _ HB2.out; clear b2)
    | (go_at_call 23; refine (cload_nil _ _).mono ?_; rintro e w3 ⟨rfl, b2⟩; clear p0 p1 p2 p3; have HB3 := Lib.hid (bnext HB2.out b2); obtain ⟨p0, p1, p2, p3⟩ := BX.out _ HB3.out; clear b2)
    | (go_at_call 34; refine (cstore_nil _ _ _).mono ?_; rintro e w4 ⟨rfl, b2⟩; clear p0 p1 p2 p3; have HB4 := Lib.hid (bnext HB3.out b2); obtain ⟨p0, p1, p2, p3⟩ := BX.out _ HB4.out; clear b2)
    | (go_at_call 68; refine (cswap_nil _ _ _).mono ?_; rintro e w5 ⟨rfl, b2⟩; clear p0 p1 p2 p3; have HB5 := Lib.hid (bnext HB4.out b2); obtain ⟨p0, p1, p2, p3⟩ := BX.out _ HB5.out; clear b2)
    | (go_at_call 62; refine (cadd_nil _ _ _).mono ?_; rintro e w6 ⟨rfl, b2⟩; clear p0 p1 p2 p3; have HB6 := Lib.hid (bnext HB5.out b2); obtain ⟨p0, p1, p2, p3⟩ := BX.out _ HB6.out; clear b2)
    | (go_at_call 69; refine (ccount_nil _).mono ?_; rintro e w' ⟨rfl, hw⟩; obtain rfl := hw.symm)
    | (go_at_call 27; refine (clast_nil _).mono ?_; unfold accV; rintro e w7 ⟨rfl, b2⟩; clear p0 p1 p2 p3; have HB7 := Lib.hid (bnext HB6.out b2); obtain ⟨p0, p1, p2, p3⟩ := BX.out _ HB7.out; clear b2)
    | (go_at_call 41; refine (cpeek_nil _ _).mono ?_; rintro e w' ⟨rfl, hw⟩; obtain rfl := hw.symm)
    | (go_at_call 70; refine (cwords_nil _).mono ?_; rintro e w' ⟨rfl, hw⟩; obtain rfl := hw.symm))
  have hO7 : Own w w7.drew (w.heap.size + 1) CS.zero := (HO.out.keep HB7.out).keep (Below.refl _ _).drew
  have hb7 : Below wV.heap.size wV w7.drew := HB7.out.drew
  have HO7 := Lib.hid hO7; have HB8 := Lib.hid hb7
  have hle : w.heap.size ≤ w7.drew.heap.size := hO7.below.size
  clear hO7 hb7 HB HB2 HB3 HB4 HB5 HB6
  go_region_with (first
    | (go_at_call 72; refine (rnew_nil _).mono ?_; rintro e w8 ⟨rfl, r8, b8⟩; obtain ⟨t0, t1, t2, t3⟩ := BX.out _ (bnext HB8.out b8); have BT := Lib.hid (both_new HO7.out r8 hle b8); clear r8 b8)
    | (go_at_call 71; refine (same_any BT.out 1 far_zero (by decide) k a v i hk0 HA.out HV.out HI.out _ rfl).mono ?_; rintro e w9 ⟨rfl, s', x', h9, hf9, hc9⟩; have H9 := Lib.hid h9; have HC9 := Lib.hid hc9; clear h9 hf9 hc9 t0 t1 t2 t3)
    | (go_at_call 69; refine (count_own H9.out.own).mono ?_; rw [HC9.out]; rintro e w' ⟨rfl, hw⟩; obtain rfl := hw.symm)
    | (go_at_call 73; refine (lives05 _).mono ?_; rintro e w10 ⟨rfl, b10⟩; have HB10 := Lib.hid (bnext H9.out.own.below b10); clear b10))
  all_goals (try go_wp2)
  all_goals go_ret
  all_goals exact ⟨by first | rfl | simp [CS.zero], HB10.out⟩

theorem leaves_act05 : leaves Try.prog 4 133 = some [.int .u8, .int .u64, .int .u64, .int .u64] := by kernel_rfl
set_option maxRecDepth 10000 in
theorem walkCellsVoid {H : Type} (w : World) (enc : TypeId × Value → H) (base : Nat) (v : Value) (d : DataW H) (p : List MemPlace) (k : DataW.Trod enc Try.prog w 0 (fun _ => true) true 133 v d p) (o : Value.okWide Try.prog w .any base 133 v) :
    Calls Try.prog 13 #[v] w fun e w' => e = .returned (.bool true) ∧ Below w.heap.size w w' := by
  obtain ⟨cs, rfl⟩ := okWide_struct Try.underlying133 o
  have h := opened leaves_act05 k
  obtain ⟨c0, r, e0, g0, h⟩ := allHold_cons h
  obtain ⟨c1, r, rfl, g1, h⟩ := allHold_cons h
  obtain ⟨c2, r, rfl, g2, h⟩ := allHold_cons h
  obtain ⟨c3, r, rfl, g3, h⟩ := allHold_cons h
  obtain rfl := allHold_nil h
  obtain ⟨z0, rfl, k0⟩ := holds_int g0
  obtain ⟨z1, rfl, k1⟩ := holds_int g1
  obtain ⟨z2, rfl, k2⟩ := holds_int g2
  obtain ⟨z3, rfl, k3⟩ := holds_int g3
  obtain rfl : cs = #[.int .u8 z0, .int .u64 z1, .int .u64 z2, .int .u64 z3] := by
    have : cs.toList = _ := e0
    rw [← Array.toArray_toList (xs := cs), this]
  have hz : 0 ≤ z0 ∧ z0 < 256 := by
    have hmin : IntKind.u8.min = 0 := rfl
    have hmax : IntKind.u8.max = 255 := rfl
    simp only [Lit.wf, Bool.and_eq_true, decide_eq_true_eq] at k0; omega
  exact cvoid_any z0 z1 z2 z3 hz k1 k2 k3 w
end Go.Proofs.Ytccbejnonmbgnaa
