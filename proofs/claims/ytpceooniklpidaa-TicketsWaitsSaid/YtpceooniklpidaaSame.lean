/-
  Cells and the document's cells, side by side: an access of both.
-/
import Derived.Test.YtpceooniklpidaaRef05Acc
import Derived.Test.YtpceooniklpidaaCellsOwn
import Derived.Test.YtpceooniklpidaaMark
import Derived.Test.YtpceooniklpidaaFront
namespace Go.Proofs.Ytpceooniklpidaa
open Go.RowKit Go.Maps
set_option linter.unusedVariables false

theorem RCells.rest {w w' : World} {base r : Nat} {lv : Value} {x : RS} (h : RCells w base r lv x) (hb : Rest w w') : RCells w' base r lv x := by
  refine ⟨hb _ _ _ _ h.hdr rfl rfl, h.lo, ?_, h.wf⟩
  obtain ⟨h1, h3 | ⟨g, cap, cur, rfl, hg, hgg, r3⟩⟩ := h.row
  · exact ⟨h1, .inl h3⟩
  · exact ⟨h1, .inr ⟨g, cap, cur, rfl, hg, hb _ _ _ _ hgg rfl rfl, r3⟩⟩
theorem Own.ref {w0 w w' : World} {b r : Nat} {s : CS} {base : Nat} {lv : Value} {x : RS} (h : Own w0 w b s) (hr : RCells w base r lv x) (hb : w0.heap.size ≤ base) (hk : Keeps (· = r) w w') : Own w0 w' b s :=
  h.other hk hr.hdr (Nat.le_trans hb hr.lo) rfl rfl

section
variable {w0 w : World} {b : Nat} {s : CS} (h : Own w0 w b s) (hr : s.room) (a : Int) (ha : (Lit.int .u64 a).wf = true)
include h hr ha
theorem load_or : Calls Try.prog 94 #[.pointer (some ⟨b, 0, none⟩), .int .u64 a] w fun e w' => e = .returned (.int .u64 (s.val a)) ∧ Own w0 w' b (s.acc 1 a (s.val a)) ∧ Rest w w' := by
  obtain ⟨⟨S, hS⟩, hB⟩ := h
  exact (load_any w _ b s S hS a ha hr.1 hr.2 hB.size).mono fun e w' ⟨he, hA⟩ => ⟨he, Own.acc hS hB hA, hA.rest hS⟩
theorem store_or (v : Int) (hv : (Lit.int .u64 v).wf = true) : Calls Try.prog 33 #[.pointer (some ⟨b, 0, none⟩), .int .u64 a, .int .u64 v] w fun e w' => e = .returned (.int .u64 (s.val a)) ∧ Own w0 w' b (s.acc 2 a v) ∧ Rest w w' := by
  obtain ⟨⟨S, hS⟩, hB⟩ := h
  exact (store_any w _ b s S hS a v ha hv hr.1 hr.2 hB.size).mono fun e w' ⟨he, hA⟩ => ⟨he, Own.acc hS hB hA, hA.rest hS⟩
theorem swap_or (v : Int) (hv : (Lit.int .u64 v).wf = true) : Calls Try.prog 95 #[.pointer (some ⟨b, 0, none⟩), .int .u64 a, .int .u64 v] w fun e w' => e = .returned (.int .u64 (s.val a)) ∧ Own w0 w' b (s.acc 5 a v) ∧ Rest w w' := by
  obtain ⟨⟨S, hS⟩, hB⟩ := h
  exact (swap_any w _ b s S hS a v ha hv hr.1 hr.2 hB.size).mono fun e w' ⟨he, hA⟩ => ⟨he, Own.acc hS hB hA, hA.rest hS⟩
theorem add_or (v : Int) : Calls Try.prog 38 #[.pointer (some ⟨b, 0, none⟩), .int .u64 a, .int .u64 v] w fun e w' => e = .returned (.int .u64 (s.val a)) ∧ Own w0 w' b (s.acc 4 a (wu (s.val a + v))) ∧ Rest w w' := by
  obtain ⟨⟨S, hS⟩, hB⟩ := h
  exact (add_any w _ b s S hS a v ha hr.1 hr.2 hB.size).mono fun e w' ⟨he, hA⟩ => ⟨he, Own.acc hS hB hA, hA.rest hS⟩
theorem cas_or (x y : Int) (hy : (Lit.int .u64 y).wf = true) : Calls Try.prog 92 #[.pointer (some ⟨b, 0, none⟩), .int .u64 a, .int .u64 x, .int .u64 y] w fun e w' => e = .returned (.tuple #[.int .u64 (s.val a), .bool (s.val a == x)]) ∧
    Own w0 w' b (s.acc 3 a (if s.val a = x then y else s.val a)) ∧ Rest w w' := by
  obtain ⟨⟨S, hS⟩, hB⟩ := h
  exact (cas_any w _ b s S hS a x y ha hy hr.1 hr.2 hB.size).mono fun e w' ⟨he, hA⟩ => ⟨he, Own.acc hS hB hA, hA.rest hS⟩
end

/-- The two say the same. -/
structure Alike (s : CS) (x : RS) : Prop where
  val : s.val = rlook x.l
  ris : Ris x.l
  nz : ∀ p ∈ x.l, p.2 ≠ 0
  cnt : s.cnt = x.cnt
  kind : s.kind = x.kind
  addr : s.addr = x.addr
  was : s.was = x.was
  is : s.is = x.is
theorem Alike.acc {s : CS} {x : RS} (h : Alike s x) (k a i : Int) : Alike (s.acc k a i) (x.acc k a i) := by
  have e := rput_ins h.ris a i
  refine ⟨?_, ?_, fun p hp => ?_, ?_, rfl, rfl, ?_, rfl⟩
  · show upd s.val a i = rlook (rput x.l a i)
    rw [e, rlook_ins h.ris, h.val]
  · show Ris (rput x.l a i)
    rw [e]; exact rins_ris h.ris a i
  · have hp : p ∈ rput x.l a i := hp
    rw [e] at hp
    rcases rins_mem hp with hp | ⟨rfl, hv⟩
    · exact h.nz p hp
    · exact hv
  · show s.cnt + 1 = x.cnt + 1
    rw [h.cnt]
  · show s.val a = rlook x.l a
    rw [h.val]
theorem rins_len (l : List (Int × Int)) (a v : Int) : (rins l a v).length ≤ l.length + 1 := by
  induction l with
  | nil => unfold rins; split <;> simp
  | cons p r ih =>
    unfold rins
    split
    · simp only [List.length_cons]; omega
    · split <;> split <;> simp only [List.length_cons] <;> omega
/-- Cells at cb and the document's at r, both made since w0, say the same. -/
structure Both (w0 w : World) (cb r : Nat) (s : CS) (x : RS) : Prop where
  own : Own w0 w cb s
  ref : ∃ lv, RCells w w0.heap.size r lv x
  alike : Alike s x
theorem Both.keep {w0 w w' : World} {cb r : Nat} {s : CS} {x : RS} (h : Both w0 w cb r s x) (hb : Below w.heap.size w w') : Both w0 w' cb r s x := by
  obtain ⟨lv, hr⟩ := h.ref
  exact ⟨h.own.keep hb, ⟨lv, hr.keep hb⟩, h.alike⟩
/-- How far both are at most. -/
def Far (s : CS) (x : RS) (m : Nat) : Prop := s.n ≤ m ∧ s.cnt ≤ m ∧ x.l.length ≤ m
theorem Far.acc {s : CS} {x : RS} {m : Nat} (h : Far s x m) (ha : Alike s x) (k a i : Int) : Far (s.acc k a i) (x.acc k a i) (m + 1) := by
  have := rins_len x.l a i
  rw [← rput_ins ha.ris] at this
  obtain ⟨h1, h2, h3⟩ := h
  exact ⟨by simp only [CS.acc]; omega, by simp only [CS.acc]; omega, by simp only [RS.acc]; omega⟩

theorem both_after {w0 w2 w3 : World} {cb r : Nat} {s : CS} {x : RS} {k a i : Int} {lv : Value} (hA : Alike s x) (g : Own w0 w2 cb (s.acc k a i)) (h2 : RCells w2 w0.heap.size r lv x) (h3 : ∃ lv', RCells w3 w0.heap.size r lv' (x.acc k a i)) (hk : Keeps (· = r) w2 w3) : Both w0 w3 cb r (s.acc k a i) (x.acc k a i) :=
  ⟨g.ref h2 (Nat.le_refl _) hk, h3, hA.acc k a i⟩

set_option maxRecDepth 10000 in
set_option maxHeartbeats 2000000 in
theorem same_store {w0 w : World} {cb r : Nat} {s : CS} {x : RS} (h : Both w0 w cb r s x) (m : Nat) (hf : Far s x m) (hm : m ≤ 90000) (k a v i : Int) (hk : k % 5 = 1) (hk0 : 0 ≤ k ∧ k < 256) (ha : (Lit.int .u64 a).wf = true) (hvw : (Lit.int .u64 v).wf = true) (hiw : (Lit.int .u64 i).wf = true) :
    Calls Try.prog 51 #[.pointer (some ⟨cb, 0, none⟩), .pointer (some ⟨r, 0, none⟩), .agg #[.int .u8 k, .int .u64 a, .int .u64 v, .int .u64 i]] w fun e w' => e = .returned (.bool true) ∧ Both w0 w' cb r (s.acc 2 a v) (x.acc 2 a v) := by
  obtain ⟨w1, hw1⟩ : ∃ w1, w1 = w.alloc (.cells #[.int .u8 k, .int .u64 a, .int .u64 v, .int .u64 i] 124) := ⟨_, rfl⟩
  have hB : Below w.heap.size w w1 := by rw [hw1]; exact below_alloc _ _
  have hq : w1.heap[w.heap.size]? = some (.cells #[.int .u8 k, .int .u64 a, .int .u64 v, .int .u64 i] 124 (0, 0)) := by rw [hw1]; exact heap_alloc_new w _
  have h1 := h.keep hB
  have hqr : w.heap.size ≠ r := by obtain ⟨lv, hr⟩ := h.ref; have := (Array.getElem?_eq_some_iff.1 hr.hdr).1; omega
  have d0 : (k % 5 == 0) = false := beq_eq_false_iff_ne.2 (by omega)
  have d1 : (k % 5 == 1) = true := beq_iff_eq.2 hk
  have hv := h.alike.val
  have HH := Lib.hid h; have HA := Lib.hid ha; have HQ := Lib.hid hq; have HVW := Lib.hid hvw; have HIW := Lib.hid hiw
  have hO : Own w0 w1.drew cb s := h1.own.keep (Below.refl _ _).drew
  obtain ⟨lv, hR⟩ := h1.ref
  have hR : RCells w1.drew w0.heap.size r lv x := hR.keep (Below.refl _ _).drew
  have hb : ∀ o, w1.cell? ⟨w.heap.size, o, none⟩ = (#[.int .u8 k, .int .u64 a, .int .u64 v, .int .u64 i] : Array Value)[o]? := fun o => by unfold World.cell?; simp only; rw [hq]; rfl
  have p0 := hb 0
  have p1 := hb 1
  have p2 := hb 2
  have p3 := hb 3
  have hrl := congrFun hv a
  have hroom : s.room := CS.room_of m ⟨hf.1, hf.2.1⟩ (by unfold lim; omega)
  have hc := store_or hO hroom a ha v hvw
  have hx1 : x.l.length ≤ 100000 := by have := hf.2.2; omega
  have hx2 : x.cnt ≤ 1000000 := by have := hf.2.1; rw [h.alike.cnt] at this; omega
  have HR := Lib.hid hR; have HC := Lib.hid hc; have HX := Lib.hid (And.intro hx1 hx2)
  have hrl' : (s.val a == rlook x.l a) = true := beq_iff_eq.2 hrl
  have HRL := Lib.hid hrl
  clear h hf ha h1 hq hv hb hk hR hc hroom hx1 hx2 hrl hvw hiw
  go_enter Try.func51, Try.ntmps51
  go_wp2_with fail
  rw [← hw1]
  clear hw1
  have hD : ∃ st : BoxW w w.heap.size #[.int .u8 k, .int .u64 a, .int .u64 v, .int .u64 i] 124, w1.drew = st.val := ⟨⟨w1.drew, HQ.out⟩, rfl⟩
  have x1 : ∀ st : BoxW w w.heap.size #[.int .u8 k, .int .u64 a, .int .u64 v, .int .u64 i] 124, st.val.cell? ⟨w.heap.size, 1, none⟩ = some (.int .u64 a) := fun st => st.cell 1
  have x2 : ∀ st : BoxW w w.heap.size #[.int .u8 k, .int .u64 a, .int .u64 v, .int .u64 i] 124, st.val.cell? ⟨w.heap.size, 2, none⟩ = some (.int .u64 v) := fun st => st.cell 2
  refine wp_region_front (D := fun W => ∃ st : BoxW w w.heap.size #[.int .u8 k, .int .u64 a, .int .u64 v, .int .u64 i] 124, W = st.val) [0, 1, 2, 3, 4, 6, 7, 8, 9, 10] [5, 11, 12, 13] (by kernel_rfl) (by kernel_rfl) (by kernel_rfl) (by kernel_rfl) (fun c d v a w h => by cases d <;> exact h) hD ?_
  simp only [pickL_cons, pickL_nil, List.drop_succ_cons, List.drop_zero, List.take_succ_cons, List.take_zero, List.cons_append, List.nil_append]
  repeat (go_big_quiet_step (fail))
  refine wpQuiet_nil ?_
  clear x1 x2
  refine tailD_call rfl rfl 33 #[.pointer (some ⟨cb, 0, none⟩), .int .u64 a, .int .u64 v] (by kernel_rfl) ?_
  refine HC.out.mono ?_
  rintro e w2 ⟨rfl, g1, g2⟩
  have hQ2 := g2 _ _ _ _ HQ.out rfl rfl
  have HR2 := HR.out.rest g2
  have hs2 := g1.below.size
  refine ⟨_, rfl, ⟨⟨w2, hQ2⟩, rfl⟩, ?_⟩
  refine tailD_call rfl rfl 101 #[.pointer (some ⟨r, 0, none⟩), .int .u64 a, .int .u64 v] (by kernel_rfl) ?_
  refine (rstore_any HR2 HX.out.1 HX.out.2 hs2 a HA.out v HVW.out).mono ?_
  rintro e w3 ⟨rfl, r1, r2⟩
  have hQ3 := (r2.block _ (Array.getElem?_eq_some_iff.1 hQ2).1 hqr).trans hQ2
  refine ⟨_, rfl, ⟨⟨w3, hQ3⟩, rfl⟩, ?_⟩
  refine tailD_value (v := .bool (s.val a == rlook x.l a)) rfl rfl ⟨⟨w3, hQ3⟩, rfl⟩ (by kernel_rfl) ?_
  refine tailD_value (v := .bool (s.val a == rlook x.l a)) rfl rfl ⟨⟨w3, hQ3⟩, rfl⟩ (by kernel_rfl) ?_
  have hfin := both_after HH.out.alike g1 HR2 r1 r2
  have HFN := Lib.hid hfin
  clear hfin g1 g2 HR2 r1 r2 hQ2 hQ3 hs2 hD
  change Exit.then _ _ Exit.normal _ w3
  go_wp2
  go_ret
  exact ⟨by first | rfl | exact conf_b' hrl', HFN.out⟩
set_option maxRecDepth 10000 in
set_option maxHeartbeats 2000000 in
theorem same_swap {w0 w : World} {cb r : Nat} {s : CS} {x : RS} (h : Both w0 w cb r s x) (m : Nat) (hf : Far s x m) (hm : m ≤ 90000) (k a v i : Int) (hk : k % 5 = 3) (hk0 : 0 ≤ k ∧ k < 256) (ha : (Lit.int .u64 a).wf = true) (hvw : (Lit.int .u64 v).wf = true) (hiw : (Lit.int .u64 i).wf = true) :
    Calls Try.prog 51 #[.pointer (some ⟨cb, 0, none⟩), .pointer (some ⟨r, 0, none⟩), .agg #[.int .u8 k, .int .u64 a, .int .u64 v, .int .u64 i]] w fun e w' => e = .returned (.bool true) ∧ Both w0 w' cb r (s.acc 5 a v) (x.acc 5 a v) := by
  obtain ⟨w1, hw1⟩ : ∃ w1, w1 = w.alloc (.cells #[.int .u8 k, .int .u64 a, .int .u64 v, .int .u64 i] 124) := ⟨_, rfl⟩
  have hB : Below w.heap.size w w1 := by rw [hw1]; exact below_alloc _ _
  have hq : w1.heap[w.heap.size]? = some (.cells #[.int .u8 k, .int .u64 a, .int .u64 v, .int .u64 i] 124 (0, 0)) := by rw [hw1]; exact heap_alloc_new w _
  have h1 := h.keep hB
  have hqr : w.heap.size ≠ r := by obtain ⟨lv, hr⟩ := h.ref; have := (Array.getElem?_eq_some_iff.1 hr.hdr).1; omega
  have d0 : (k % 5 == 0) = false := beq_eq_false_iff_ne.2 (by omega)
  have d1 : (k % 5 == 1) = false := beq_eq_false_iff_ne.2 (by omega)
  have d2 : (k % 5 == 2) = false := beq_eq_false_iff_ne.2 (by omega)
  have d3 : (k % 5 == 3) = true := beq_iff_eq.2 hk
  have hv := h.alike.val
  have HH := Lib.hid h; have HA := Lib.hid ha; have HQ := Lib.hid hq; have HVW := Lib.hid hvw; have HIW := Lib.hid hiw
  have hO : Own w0 w1.drew cb s := h1.own.keep (Below.refl _ _).drew
  obtain ⟨lv, hR⟩ := h1.ref
  have hR : RCells w1.drew w0.heap.size r lv x := hR.keep (Below.refl _ _).drew
  have hb : ∀ o, w1.cell? ⟨w.heap.size, o, none⟩ = (#[.int .u8 k, .int .u64 a, .int .u64 v, .int .u64 i] : Array Value)[o]? := fun o => by unfold World.cell?; simp only; rw [hq]; rfl
  have p0 := hb 0
  have p1 := hb 1
  have p2 := hb 2
  have p3 := hb 3
  have hrl := congrFun hv a
  have hroom : s.room := CS.room_of m ⟨hf.1, hf.2.1⟩ (by unfold lim; omega)
  have hc := swap_or hO hroom a ha v hvw
  have hx1 : x.l.length ≤ 100000 := by have := hf.2.2; omega
  have hx2 : x.cnt ≤ 1000000 := by have := hf.2.1; rw [h.alike.cnt] at this; omega
  have HR := Lib.hid hR; have HC := Lib.hid hc; have HX := Lib.hid (And.intro hx1 hx2)
  have hrl' : (s.val a == rlook x.l a) = true := beq_iff_eq.2 hrl
  have HRL := Lib.hid hrl
  clear h hf ha h1 hq hv hb hk hR hc hroom hx1 hx2 hrl hvw hiw
  go_enter Try.func51, Try.ntmps51
  go_wp2_with fail
  rw [← hw1]
  clear hw1
  have hD : ∃ st : BoxW w w.heap.size #[.int .u8 k, .int .u64 a, .int .u64 v, .int .u64 i] 124, w1.drew = st.val := ⟨⟨w1.drew, HQ.out⟩, rfl⟩
  have x1 : ∀ st : BoxW w w.heap.size #[.int .u8 k, .int .u64 a, .int .u64 v, .int .u64 i] 124, st.val.cell? ⟨w.heap.size, 1, none⟩ = some (.int .u64 a) := fun st => st.cell 1
  have x2 : ∀ st : BoxW w w.heap.size #[.int .u8 k, .int .u64 a, .int .u64 v, .int .u64 i] 124, st.val.cell? ⟨w.heap.size, 2, none⟩ = some (.int .u64 v) := fun st => st.cell 2
  refine wp_region_front (D := fun W => ∃ st : BoxW w w.heap.size #[.int .u8 k, .int .u64 a, .int .u64 v, .int .u64 i] 124, W = st.val) [0, 1, 2, 3, 4, 6, 7, 8, 9, 10] [5, 11, 12, 13] (by kernel_rfl) (by kernel_rfl) (by kernel_rfl) (by kernel_rfl) (fun c d v a w h => by cases d <;> exact h) hD ?_
  simp only [pickL_cons, pickL_nil, List.drop_succ_cons, List.drop_zero, List.take_succ_cons, List.take_zero, List.cons_append, List.nil_append]
  repeat (go_big_quiet_step (fail))
  refine wpQuiet_nil ?_
  clear x1 x2
  refine tailD_call rfl rfl 95 #[.pointer (some ⟨cb, 0, none⟩), .int .u64 a, .int .u64 v] (by kernel_rfl) ?_
  refine HC.out.mono ?_
  rintro e w2 ⟨rfl, g1, g2⟩
  have hQ2 := g2 _ _ _ _ HQ.out rfl rfl
  have HR2 := HR.out.rest g2
  have hs2 := g1.below.size
  refine ⟨_, rfl, ⟨⟨w2, hQ2⟩, rfl⟩, ?_⟩
  refine tailD_call rfl rfl 103 #[.pointer (some ⟨r, 0, none⟩), .int .u64 a, .int .u64 v] (by kernel_rfl) ?_
  refine (rswap_any HR2 HX.out.1 HX.out.2 hs2 a HA.out v HVW.out).mono ?_
  rintro e w3 ⟨rfl, r1, r2⟩
  have hQ3 := (r2.block _ (Array.getElem?_eq_some_iff.1 hQ2).1 hqr).trans hQ2
  refine ⟨_, rfl, ⟨⟨w3, hQ3⟩, rfl⟩, ?_⟩
  refine tailD_value (v := .bool (s.val a == rlook x.l a)) rfl rfl ⟨⟨w3, hQ3⟩, rfl⟩ (by kernel_rfl) ?_
  refine tailD_value (v := .bool (s.val a == rlook x.l a)) rfl rfl ⟨⟨w3, hQ3⟩, rfl⟩ (by kernel_rfl) ?_
  have hfin := both_after HH.out.alike g1 HR2 r1 r2
  have HFN := Lib.hid hfin
  clear hfin g1 g2 HR2 r1 r2 hQ2 hQ3 hs2 hD
  change Exit.then _ _ Exit.normal _ w3
  go_wp2
  go_ret
  exact ⟨by first | rfl | exact conf_b' hrl', HFN.out⟩
set_option maxRecDepth 10000 in
set_option maxHeartbeats 2000000 in
theorem same_add {w0 w : World} {cb r : Nat} {s : CS} {x : RS} (h : Both w0 w cb r s x) (m : Nat) (hf : Far s x m) (hm : m ≤ 90000) (k a v i : Int) (hk : k % 5 = 4) (hk0 : 0 ≤ k ∧ k < 256) (ha : (Lit.int .u64 a).wf = true) (hvw : (Lit.int .u64 v).wf = true) (hiw : (Lit.int .u64 i).wf = true) :
    Calls Try.prog 51 #[.pointer (some ⟨cb, 0, none⟩), .pointer (some ⟨r, 0, none⟩), .agg #[.int .u8 k, .int .u64 a, .int .u64 v, .int .u64 i]] w fun e w' => e = .returned (.bool true) ∧ Both w0 w' cb r (s.acc 4 a (wu (s.val a + v))) (x.acc 4 a (wu (s.val a + v))) := by
  obtain ⟨w1, hw1⟩ : ∃ w1, w1 = w.alloc (.cells #[.int .u8 k, .int .u64 a, .int .u64 v, .int .u64 i] 124) := ⟨_, rfl⟩
  have hB : Below w.heap.size w w1 := by rw [hw1]; exact below_alloc _ _
  have hq : w1.heap[w.heap.size]? = some (.cells #[.int .u8 k, .int .u64 a, .int .u64 v, .int .u64 i] 124 (0, 0)) := by rw [hw1]; exact heap_alloc_new w _
  have h1 := h.keep hB
  have hqr : w.heap.size ≠ r := by obtain ⟨lv, hr⟩ := h.ref; have := (Array.getElem?_eq_some_iff.1 hr.hdr).1; omega
  have d0 : (k % 5 == 0) = false := beq_eq_false_iff_ne.2 (by omega)
  have d1 : (k % 5 == 1) = false := beq_eq_false_iff_ne.2 (by omega)
  have d2 : (k % 5 == 2) = false := beq_eq_false_iff_ne.2 (by omega)
  have d3 : (k % 5 == 3) = false := beq_eq_false_iff_ne.2 (by omega)
  have hv := h.alike.val
  have HH := Lib.hid h; have HA := Lib.hid ha; have HQ := Lib.hid hq; have HVW := Lib.hid hvw; have HIW := Lib.hid hiw
  have hO : Own w0 w1.drew cb s := h1.own.keep (Below.refl _ _).drew
  obtain ⟨lv, hR⟩ := h1.ref
  have hR : RCells w1.drew w0.heap.size r lv x := hR.keep (Below.refl _ _).drew
  have hb : ∀ o, w1.cell? ⟨w.heap.size, o, none⟩ = (#[.int .u8 k, .int .u64 a, .int .u64 v, .int .u64 i] : Array Value)[o]? := fun o => by unfold World.cell?; simp only; rw [hq]; rfl
  have p0 := hb 0
  have p1 := hb 1
  have p2 := hb 2
  have p3 := hb 3
  have hrl := congrFun hv a
  have hroom : s.room := CS.room_of m ⟨hf.1, hf.2.1⟩ (by unfold lim; omega)
  have hc := add_or hO hroom a ha v
  have hx1 : x.l.length ≤ 100000 := by have := hf.2.2; omega
  have hx2 : x.cnt ≤ 1000000 := by have := hf.2.1; rw [h.alike.cnt] at this; omega
  have HR := Lib.hid hR; have HC := Lib.hid hc; have HX := Lib.hid (And.intro hx1 hx2)
  have hrl' : (s.val a == rlook x.l a) = true := beq_iff_eq.2 hrl
  have HRL := Lib.hid hrl
  clear h hf ha h1 hq hv hb hk hR hc hroom hx1 hx2 hrl hvw hiw
  go_enter Try.func51, Try.ntmps51
  go_wp2_with fail
  rw [← hw1]
  clear hw1
  have hD : ∃ st : BoxW w w.heap.size #[.int .u8 k, .int .u64 a, .int .u64 v, .int .u64 i] 124, w1.drew = st.val := ⟨⟨w1.drew, HQ.out⟩, rfl⟩
  have x1 : ∀ st : BoxW w w.heap.size #[.int .u8 k, .int .u64 a, .int .u64 v, .int .u64 i] 124, st.val.cell? ⟨w.heap.size, 1, none⟩ = some (.int .u64 a) := fun st => st.cell 1
  have x2 : ∀ st : BoxW w w.heap.size #[.int .u8 k, .int .u64 a, .int .u64 v, .int .u64 i] 124, st.val.cell? ⟨w.heap.size, 2, none⟩ = some (.int .u64 v) := fun st => st.cell 2
  refine wp_region_front (D := fun W => ∃ st : BoxW w w.heap.size #[.int .u8 k, .int .u64 a, .int .u64 v, .int .u64 i] 124, W = st.val) [0, 1, 2, 3, 4, 6, 7, 8, 9, 10] [5, 11, 12, 13] (by kernel_rfl) (by kernel_rfl) (by kernel_rfl) (by kernel_rfl) (fun c d v a w h => by cases d <;> exact h) hD ?_
  simp only [pickL_cons, pickL_nil, List.drop_succ_cons, List.drop_zero, List.take_succ_cons, List.take_zero, List.cons_append, List.nil_append]
  repeat (go_big_quiet_step (fail))
  refine wpQuiet_nil ?_
  clear x1 x2
  refine tailD_call rfl rfl 38 #[.pointer (some ⟨cb, 0, none⟩), .int .u64 a, .int .u64 v] (by kernel_rfl) ?_
  refine HC.out.mono ?_
  rintro e w2 ⟨rfl, g1, g2⟩
  have hQ2 := g2 _ _ _ _ HQ.out rfl rfl
  have HR2 := HR.out.rest g2
  have hs2 := g1.below.size
  refine ⟨_, rfl, ⟨⟨w2, hQ2⟩, rfl⟩, ?_⟩
  refine tailD_call rfl rfl 104 #[.pointer (some ⟨r, 0, none⟩), .int .u64 a, .int .u64 v] (by kernel_rfl) ?_
  refine (radd_any HR2 HX.out.1 HX.out.2 hs2 a HA.out v).mono ?_
  rw [← HRL.out]
  rintro e w3 ⟨rfl, r1, r2⟩
  have hQ3 := (r2.block _ (Array.getElem?_eq_some_iff.1 hQ2).1 hqr).trans hQ2
  refine ⟨_, rfl, ⟨⟨w3, hQ3⟩, rfl⟩, ?_⟩
  refine tailD_value (v := .bool (s.val a == s.val a)) rfl rfl ⟨⟨w3, hQ3⟩, rfl⟩ (by kernel_rfl) ?_
  refine tailD_value (v := .bool (s.val a == s.val a)) rfl rfl ⟨⟨w3, hQ3⟩, rfl⟩ (by kernel_rfl) ?_
  have hfin := both_after HH.out.alike g1 HR2 r1 r2
  have HFN := Lib.hid hfin
  clear hfin g1 g2 HR2 r1 r2 hQ2 hQ3 hs2 hD
  change Exit.then _ _ Exit.normal _ w3
  go_wp2
  go_ret
  exact ⟨by first | rfl | exact conf_b' (beq_self_eq_true _), HFN.out⟩
set_option maxRecDepth 10000 in
set_option maxHeartbeats 2000000 in
theorem same_load {w0 w : World} {cb r : Nat} {s : CS} {x : RS} (h : Both w0 w cb r s x) (m : Nat) (hf : Far s x m) (hm : m ≤ 90000) (k a v i : Int) (hk : k % 5 = 0) (hk0 : 0 ≤ k ∧ k < 256) (ha : (Lit.int .u64 a).wf = true) (hvw : (Lit.int .u64 v).wf = true) (hiw : (Lit.int .u64 i).wf = true) :
    Calls Try.prog 51 #[.pointer (some ⟨cb, 0, none⟩), .pointer (some ⟨r, 0, none⟩), .agg #[.int .u8 k, .int .u64 a, .int .u64 v, .int .u64 i]] w fun e w' => e = .returned (.bool true) ∧ Both w0 w' cb r (s.acc 1 a (s.val a)) (x.acc 1 a (s.val a)) := by
  obtain ⟨w1, hw1⟩ : ∃ w1, w1 = w.alloc (.cells #[.int .u8 k, .int .u64 a, .int .u64 v, .int .u64 i] 124) := ⟨_, rfl⟩
  have hB : Below w.heap.size w w1 := by rw [hw1]; exact below_alloc _ _
  have hq : w1.heap[w.heap.size]? = some (.cells #[.int .u8 k, .int .u64 a, .int .u64 v, .int .u64 i] 124 (0, 0)) := by rw [hw1]; exact heap_alloc_new w _
  have h1 := h.keep hB
  have hqr : w.heap.size ≠ r := by obtain ⟨lv, hr⟩ := h.ref; have := (Array.getElem?_eq_some_iff.1 hr.hdr).1; omega
  have d0 : (k % 5 == 0) = true := beq_iff_eq.2 hk
  have hv := h.alike.val
  have HH := Lib.hid h; have HA := Lib.hid ha; have HQ := Lib.hid hq; have HVW := Lib.hid hvw; have HIW := Lib.hid hiw
  have hO : Own w0 w1.drew cb s := h1.own.keep (Below.refl _ _).drew
  obtain ⟨lv, hR⟩ := h1.ref
  have hR : RCells w1.drew w0.heap.size r lv x := hR.keep (Below.refl _ _).drew
  have hb : ∀ o, w1.cell? ⟨w.heap.size, o, none⟩ = (#[.int .u8 k, .int .u64 a, .int .u64 v, .int .u64 i] : Array Value)[o]? := fun o => by unfold World.cell?; simp only; rw [hq]; rfl
  have p0 := hb 0
  have p1 := hb 1
  have p2 := hb 2
  have p3 := hb 3
  have hrl := congrFun hv a
  have hroom : s.room := CS.room_of m ⟨hf.1, hf.2.1⟩ (by unfold lim; omega)
  have hc := load_or hO hroom a ha
  have hx1 : x.l.length ≤ 100000 := by have := hf.2.2; omega
  have hx2 : x.cnt ≤ 1000000 := by have := hf.2.1; rw [h.alike.cnt] at this; omega
  have HR := Lib.hid hR; have HC := Lib.hid hc; have HX := Lib.hid (And.intro hx1 hx2)
  have hrl' : (s.val a == rlook x.l a) = true := beq_iff_eq.2 hrl
  have HRL := Lib.hid hrl
  clear h hf ha h1 hq hv hb hk hR hc hroom hx1 hx2 hrl hvw hiw
  go_enter Try.func51, Try.ntmps51
  go_wp2_with fail
  rw [← hw1]
  clear hw1
  have hD : ∃ st : BoxW w w.heap.size #[.int .u8 k, .int .u64 a, .int .u64 v, .int .u64 i] 124, w1.drew = st.val := ⟨⟨w1.drew, HQ.out⟩, rfl⟩
  have x1 : ∀ st : BoxW w w.heap.size #[.int .u8 k, .int .u64 a, .int .u64 v, .int .u64 i] 124, st.val.cell? ⟨w.heap.size, 1, none⟩ = some (.int .u64 a) := fun st => st.cell 1
  have x2 : ∀ st : BoxW w w.heap.size #[.int .u8 k, .int .u64 a, .int .u64 v, .int .u64 i] 124, st.val.cell? ⟨w.heap.size, 2, none⟩ = some (.int .u64 v) := fun st => st.cell 2
  refine wp_region_front (D := fun W => ∃ st : BoxW w w.heap.size #[.int .u8 k, .int .u64 a, .int .u64 v, .int .u64 i] 124, W = st.val) [0, 1, 2, 4, 5, 6] [3, 7, 8, 9] (by kernel_rfl) (by kernel_rfl) (by kernel_rfl) (by kernel_rfl) (fun c d v a w h => by cases d <;> exact h) hD ?_
  simp only [pickL_cons, pickL_nil, List.drop_succ_cons, List.drop_zero, List.take_succ_cons, List.take_zero, List.cons_append, List.nil_append]
  repeat (go_big_quiet_step (fail))
  refine wpQuiet_nil ?_
  clear x1 x2
  refine tailD_call rfl rfl 94 #[.pointer (some ⟨cb, 0, none⟩), .int .u64 a] (by kernel_rfl) ?_
  refine HC.out.mono ?_
  rintro e w2 ⟨rfl, g1, g2⟩
  have hQ2 := g2 _ _ _ _ HQ.out rfl rfl
  have HR2 := HR.out.rest g2
  have hs2 := g1.below.size
  refine ⟨_, rfl, ⟨⟨w2, hQ2⟩, rfl⟩, ?_⟩
  refine tailD_call rfl rfl 100 #[.pointer (some ⟨r, 0, none⟩), .int .u64 a] (by kernel_rfl) ?_
  refine (rload_any HR2 HX.out.1 HX.out.2 hs2 a HA.out).mono ?_
  rw [← HRL.out]
  rintro e w3 ⟨rfl, r1, r2⟩
  have hQ3 := (r2.block _ (Array.getElem?_eq_some_iff.1 hQ2).1 hqr).trans hQ2
  refine ⟨_, rfl, ⟨⟨w3, hQ3⟩, rfl⟩, ?_⟩
  refine tailD_value (v := .bool (s.val a == s.val a)) rfl rfl ⟨⟨w3, hQ3⟩, rfl⟩ (by kernel_rfl) ?_
  refine tailD_value (v := .bool (s.val a == s.val a)) rfl rfl ⟨⟨w3, hQ3⟩, rfl⟩ (by kernel_rfl) ?_
  have hfin := both_after HH.out.alike g1 HR2 r1 r2
  have HFN := Lib.hid hfin
  clear hfin g1 g2 HR2 r1 r2 hQ2 hQ3 hs2 hD
  change Exit.then _ _ Exit.normal _ w3
  go_wp2
  go_ret
  exact ⟨by first | rfl | exact conf_b' (beq_self_eq_true _), HFN.out⟩
set_option maxRecDepth 10000 in
set_option maxHeartbeats 2000000 in
theorem same_cas {w0 w : World} {cb r : Nat} {s : CS} {x : RS} (h : Both w0 w cb r s x) (m : Nat) (hf : Far s x m) (hm : m ≤ 90000) (k a v i : Int) (hk : k % 5 = 2) (hk0 : 0 ≤ k ∧ k < 256) (ha : (Lit.int .u64 a).wf = true) (hvw : (Lit.int .u64 v).wf = true) (hiw : (Lit.int .u64 i).wf = true) :
    Calls Try.prog 51 #[.pointer (some ⟨cb, 0, none⟩), .pointer (some ⟨r, 0, none⟩), .agg #[.int .u8 k, .int .u64 a, .int .u64 v, .int .u64 i]] w fun e w' => e = .returned (.bool true) ∧ Both w0 w' cb r (s.acc 3 a (if s.val a = v then i else s.val a)) (x.acc 3 a (if s.val a = v then i else s.val a)) := by
  obtain ⟨w1, hw1⟩ : ∃ w1, w1 = w.alloc (.cells #[.int .u8 k, .int .u64 a, .int .u64 v, .int .u64 i] 124) := ⟨_, rfl⟩
  have hB : Below w.heap.size w w1 := by rw [hw1]; exact below_alloc _ _
  have hq : w1.heap[w.heap.size]? = some (.cells #[.int .u8 k, .int .u64 a, .int .u64 v, .int .u64 i] 124 (0, 0)) := by rw [hw1]; exact heap_alloc_new w _
  have h1 := h.keep hB
  have hqr : w.heap.size ≠ r := by obtain ⟨lv, hr⟩ := h.ref; have := (Array.getElem?_eq_some_iff.1 hr.hdr).1; omega
  have d0 : (k % 5 == 0) = false := beq_eq_false_iff_ne.2 (by omega)
  have d1 : (k % 5 == 1) = false := beq_eq_false_iff_ne.2 (by omega)
  have d2 : (k % 5 == 2) = true := beq_iff_eq.2 hk
  have hv := h.alike.val
  have HH := Lib.hid h; have HA := Lib.hid ha; have HQ := Lib.hid hq; have HVW := Lib.hid hvw; have HIW := Lib.hid hiw
  have hO : Own w0 w1 cb s := h1.own
  obtain ⟨lv, hR⟩ := h1.ref
  have hR : RCells w1 w0.heap.size r lv x := hR
  have hb : ∀ o, w1.cell? ⟨w.heap.size, o, none⟩ = (#[.int .u8 k, .int .u64 a, .int .u64 v, .int .u64 i] : Array Value)[o]? := fun o => by unfold World.cell?; simp only; rw [hq]; rfl
  have p0 := hb 0
  have p1 := hb 1
  have p2 := hb 2
  have p3 := hb 3
  have hrl := congrFun hv a
  have hroom : s.room := CS.room_of m ⟨hf.1, hf.2.1⟩ (by unfold lim; omega)
  have hc := cas_or hO hroom a ha v i hiw
  have hx1 : x.l.length ≤ 100000 := by have := hf.2.2; omega
  have hx2 : x.cnt ≤ 1000000 := by have := hf.2.1; rw [h.alike.cnt] at this; omega
  obtain ⟨j, hj⟩ : ∃ j, j = (if s.val a = v then i else s.val a) := ⟨_, rfl⟩
  rw [← hj] at hc ⊢
  have HJ := Lib.hid hj
  clear hj
  have HR := Lib.hid hR; have HC := Lib.hid hc; have HX := Lib.hid (And.intro hx1 hx2)
  have hrl' : (s.val a == rlook x.l a) = true := beq_iff_eq.2 hrl
  have HRL := Lib.hid hrl
  clear h hf ha h1 hq hv hb hk hR hc hroom hx1 hx2 hrl hvw hiw
  go_enter Try.func51, Try.ntmps51
  rw [hw1] at HC HR p0 p1 p2 p3 HQ
  go_wp2_with (first
    | (go_at_call 92; refine HC.out.mono ?_; rintro e w2 ⟨rfl, g1, g2⟩; have hQ2 := g2 _ _ _ _ HQ.out rfl rfl; have hb2 : ∀ o, w2.cell? ⟨w.heap.size, o, none⟩ = (#[.int .u8 k, .int .u64 a, .int .u64 v, .int .u64 i] : Array Value)[o]? := (fun o => by unfold World.cell?; simp only; rw [hQ2]; rfl); have p1' := hb2 1; have p2' := hb2 2; have p3' := hb2 3; have G1 := Lib.hid g1; have HR2 := Lib.hid (HR.out.rest g2); have hs2 := g1.below.size; clear g1 g2 hQ2 hb2)
    | (go_at_call 102; refine (rcas_any HR2.out HX.out.1 HX.out.2 hs2 a HA.out v i HIW.out).mono ?_; rw [← HRL.out, ← HJ.out]; rintro e w3 ⟨rfl, r1, r2⟩; have R1 := Lib.hid r1; have R2 := Lib.hid r2; clear r1 r2))
  go_ret
  exact ⟨rfl, both_after HH.out.alike G1.out HR2.out R1.out R2.out⟩
end Go.Proofs.Ytpceooniklpidaa
