import Derived.Test.YtmakjfeepmiggaaGreatZ11
import Derived.Test.YtmakjfeepmiggaaGreatZ10
import Derived.Test.YtmakjfeepmiggaaGreatZ1
import Derived.Deep.DeepCutAuto
import Derived.Deep.CutBlock
import Derived.Deep.RegionHeld2
namespace Go.Proofs.YtmakjfeepmiggaaGreat
open Go.RowKit
set_option linter.unusedVariables false
structure FstRd (w : World) (f : Fst) : Prop where
  its : Itms w (.slice f.ia f.its.length f.ic) f.its
  puts : Tri w f.pa f.pc f.puts
  sts : RWds w f.sa f.sc f.sts
theorem FstRd.below {w w' : World} {f : Fst} (h : FstRd w f) (hb : Below w.heap.size w w') : FstRd w' f := ⟨h.its.below hb (Nat.le_refl _), h.puts.below hb, h.sts.below hb⟩
theorem wf_u8 {x : Int} (h : (Lit.int .u8 x).wf = true) : 0 ≤ x ∧ x < 256 := by
  have hmin : IntKind.u8.min = 0 := rfl
  have hmax : IntKind.u8.max = 255 := rfl
  simp only [Lit.wf, Bool.and_eq_true, decide_eq_true_eq] at h; omega
theorem tri_of {w : World} {v : Value} (h : Leaf.holds w (.sl [.int .u8, .int .u8, .int .u8]) v) : ∃ (l : List (Int × Int × Int)) (a : Option Addr) (cap : Nat), v = .slice a l.length cap ∧ Tri w a cap l := by
  obtain ⟨l, a, cap, rfl, h1, h2, h3, h4, h5⟩ := recs_of h
  obtain ⟨m, hm, hp⟩ := list_of (fun i (x : Int × Int × Int) => l[i]? = some [.int .u8 x.1, .int .u8 x.2.1, .int .u8 x.2.2] ∧ (0 ≤ x.1 ∧ x.1 < 256) ∧ (0 ≤ x.2.1 ∧ x.2.1 < 256) ∧ (0 ≤ x.2.2 ∧ x.2.2 < 256)) l.length (fun i hi => by
    obtain ⟨c0, r, e0, g0, h⟩ := allHold_cons (h4 _ (List.getElem_mem hi))
    obtain ⟨c1, r, rfl, g1, h⟩ := allHold_cons h
    obtain ⟨c2, r, rfl, g2, h⟩ := allHold_cons h
    obtain rfl := allHold_nil h
    obtain ⟨z0, rfl, k0⟩ := holds_int g0
    obtain ⟨z1, rfl, k1⟩ := holds_int g1
    obtain ⟨z2, rfl, k2⟩ := holds_int g2
    exact ⟨(z0, z1, z2), by rw [List.getElem?_eq_getElem hi, e0], wf_u8 k0, wf_u8 k1, wf_u8 k2⟩)
  refine ⟨m, a, cap, by rw [hm], ⟨by omega, h2, fun x hx => ?_, ?_⟩⟩
  · obtain ⟨i, hi, rfl⟩ := List.mem_iff_getElem.1 hx
    exact (hp i hi).2
  · rcases h5 with rfl | ⟨b, off, rfl, h6⟩
    · exact .inl (List.length_eq_zero_iff.1 hm)
    · refine .inr ⟨b, off, rfl, fun i hi => ?_⟩
      have hi2 : i < l.length := by omega
      have hq := (hp i (by omega)).1
      rw [List.getElem?_eq_getElem hi2, Option.some.injEq] at hq
      have a0 := h6 i hi2 0 (by decide)
      have a1 := h6 i hi2 1 (by decide)
      have a2 := h6 i hi2 2 (by decide)
      rw [hq] at a0 a1 a2
      exact ⟨by simpa using a0, by simpa [Nat.add_assoc] using a1, by simpa [Nat.add_assoc] using a2⟩
theorem wds_of {w : World} {v : Value} (h : Leaf.holds w (.sl [.int .u64, .int .u64]) v) : ∃ (l : List (Int × Int)) (a : Option Addr) (cap : Nat), v = .slice a l.length cap ∧ RWds w a cap l := by
  obtain ⟨l, a, cap, rfl, h1, h2, h3, h4, h5⟩ := recs_of h
  obtain ⟨m, hm, hp⟩ := list_of (fun i (x : Int × Int) => l[i]? = some [.int .u64 x.1, .int .u64 x.2] ∧ (Lit.int .u64 x.1).wf = true ∧ (Lit.int .u64 x.2).wf = true) l.length (fun i hi => by
    obtain ⟨c0, r, e0, g0, h⟩ := allHold_cons (h4 _ (List.getElem_mem hi))
    obtain ⟨c1, r, rfl, g1, h⟩ := allHold_cons h
    obtain rfl := allHold_nil h
    obtain ⟨z0, rfl, k0⟩ := holds_int g0
    obtain ⟨z1, rfl, k1⟩ := holds_int g1
    exact ⟨(z0, z1), by rw [List.getElem?_eq_getElem hi, e0], k0, k1⟩)
  refine ⟨m, a, cap, by rw [hm], ⟨by omega, h2, fun x hx => ?_, ?_⟩⟩
  · obtain ⟨i, hi, rfl⟩ := List.mem_iff_getElem.1 hx
    exact (hp i hi).2
  · rcases h5 with rfl | ⟨b, off, rfl, h6⟩
    · exact .inl (List.length_eq_zero_iff.1 hm)
    · refine .inr ⟨b, off, rfl, fun i hi => ?_⟩
      have hi2 : i < l.length := by omega
      have hq := (hp i (by omega)).1
      rw [List.getElem?_eq_getElem hi2, Option.some.injEq] at hq
      have a0 := h6 i hi2 0 (by decide)
      have a1 := h6 i hi2 1 (by decide)
      rw [hq] at a0 a1
      exact ⟨by simpa using a0, by simpa [Nat.add_assoc] using a1⟩
def fstLeaves : List Leaf := [.int .i64, .int .i64, .int .i64, .int .i64, .int .i64, .bool, .sl itmLeaves, .sl [.int .u8, .int .u8, .int .u8], .sl [.int .u64, .int .u64], .int .i64]
theorem leaves_first : leaves Tryz.prog 5 28 = some fstLeaves := by kernel_rfl
theorem fst_of {w : World} {cs : List Value} (h : Leaf.allHold w fstLeaves cs) : ∃ f : Fst, cs = f.cells.toList ∧ FstRd w f := by
  unfold fstLeaves at h
  obtain ⟨c0, r, rfl, g0, h⟩ := allHold_cons h
  obtain ⟨c1, r, rfl, g1, h⟩ := allHold_cons h
  obtain ⟨c2, r, rfl, g2, h⟩ := allHold_cons h
  obtain ⟨c3, r, rfl, g3, h⟩ := allHold_cons h
  obtain ⟨c4, r, rfl, g4, h⟩ := allHold_cons h
  obtain ⟨c5, r, rfl, g5, h⟩ := allHold_cons h
  obtain ⟨c6, r, rfl, g6, h⟩ := allHold_cons h
  obtain ⟨c7, r, rfl, g7, h⟩ := allHold_cons h
  obtain ⟨c8, r, rfl, g8, h⟩ := allHold_cons h
  obtain ⟨c9, r, rfl, g9, h⟩ := allHold_cons h
  obtain rfl := allHold_nil h
  obtain ⟨z0, rfl, -⟩ := holds_int g0
  obtain ⟨z1, rfl, -⟩ := holds_int g1
  obtain ⟨z2, rfl, -⟩ := holds_int g2
  obtain ⟨z3, rfl, -⟩ := holds_int g3
  obtain ⟨z4, rfl, -⟩ := holds_int g4
  obtain ⟨z5, rfl⟩ := holds_bool g5
  obtain ⟨z9, rfl, -⟩ := holds_int g9
  obtain ⟨its, hi⟩ := itms_of g6
  obtain ⟨ia, ic, rfl, hi2⟩ := id hi
  obtain ⟨puts, pa, pc, rfl, hp⟩ := tri_of g7
  obtain ⟨sts, sa, sc, rfl, hs⟩ := wds_of g8
  exact ⟨⟨⟨z0, z1, z2, z3, z4⟩, z5, ia, ic, its, pa, pc, puts, sa, sc, sts, z9⟩, rfl, hi, hp, hs⟩
set_option maxRecDepth 10000 in
theorem fst_open {H : Type} {w : World} {enc : TypeId × Value → H} {base : Nat} {v : Value} {d : DataW H} {p : List MemPlace} (k : DataW.Trod enc Tryz.prog w 0 (fun _ => true) true 28 v d p) (o : Value.okWide Tryz.prog w .any base 28 v) : ∃ f : Fst, v = .agg f.cells ∧ FstRd w f := by
  obtain ⟨cs, rfl, -⟩ := Go.WideShapes.okWide_struct Tryz.underlying28 o
  obtain ⟨f, hf, hr⟩ := fst_of (opened leaves_first k)
  refine ⟨f, ?_, hr⟩
  have : cs.toList = f.cells.toList := hf
  rw [Array.toList_inj.1 this]
theorem fst_cells {W : World} {q : Nat} {f : Fst} (z : W.heap[q]? = some (.cells f.cells 28 (0, 0))) : W.cell? ⟨q, 0, none⟩ = some (.int .i64 f.c.bits) ∧ W.cell? ⟨q, 1, none⟩ = some (.int .i64 f.c.budget) ∧ W.cell? ⟨q, 2, none⟩ = some (.int .i64 f.c.tries) ∧ W.cell? ⟨q, 3, none⟩ = some (.int .i64 f.c.quantum) ∧ W.cell? ⟨q, 4, none⟩ = some (.int .i64 f.c.way) ∧ W.cell? ⟨q, 5, none⟩ = some (.bool f.gr) ∧ W.cell? ⟨q, 6, none⟩ = some (.slice f.ia f.its.length f.ic) ∧ W.cell? ⟨q, 7, none⟩ = some (.slice f.pa f.puts.length f.pc) ∧ W.cell? ⟨q, 8, none⟩ = some (.slice f.sa f.sts.length f.sc) ∧ W.cell? ⟨q, 9, none⟩ = some (.int .i64 f.ticks) :=
  ⟨hcell z 0, hcell z 1, hcell z 2, hcell z 3, hcell z 4, hcell z 5, hcell z 6, hcell z 7, hcell z 8, hcell z 9⟩
set_option maxRecDepth 100000 in
set_option maxHeartbeats 2000000 in
theorem great_any (f : Fst) (w : World) (hr : FstRd w f) : Calls Tryz.prog 7 #[.agg #[.int .i64 f.c.bits, .int .i64 f.c.budget, .int .i64 f.c.tries, .int .i64 f.c.quantum, .int .i64 f.c.way, .bool f.gr, .slice f.ia f.its.length f.ic, .slice f.pa f.puts.length f.pc, .slice f.sa f.sts.length f.sc, .int .i64 f.ticks]] w
    fun e w' => ∃ g, e = .returned (.bool g) ∧ Below w.heap.size w w' ∧ (g = false → FstIn w f ∧ ∀ y ∈ f.its, y.key.size ≤ 400 ∧ y.val.size ≤ 2000) := by
  have hB := below_alloc w (.cells f.cells 28)
  have z := heap_alloc_new w (.cells f.cells 28)
  have HR := Lib.hid hr; have HB := Lib.hid hB
  clear hr hB
  go_enter Tryz.func7, Tryz.ntmps7
  go_upto_region 1 with (fail)
  change Code.wp _ _ _ _ (w.alloc (.cells f.cells 28))
  generalize w.alloc (.cells f.cells 28) = w1 at *
  have c6 : w1.cell? ⟨w.heap.size, 6, none⟩ = some (.slice f.ia f.its.length f.ic) := hcell z 6
  have c7 : w1.cell? ⟨w.heap.size, 7, none⟩ = some (.slice f.pa f.puts.length f.pc) := hcell z 7
  have c8 : w1.cell? ⟨w.heap.size, 8, none⟩ = some (.slice f.sa f.sts.length f.sc) := hcell z 8
  clear z
  by_cases h1 : 40 < f.its.length
  · have d1 : decide ((40 : Int) < f.its.length) = true := by simp; omega
    go_wp2
    go_ret
    exact ⟨true, rfl, HB.out, fun h => by cases h⟩
  have d1 : decide ((40 : Int) < f.its.length) = false := by simp; omega
  by_cases h2 : 60 < f.puts.length
  · have d2 : decide ((60 : Int) < f.puts.length) = true := by simp; omega
    go_wp2
    go_ret
    exact ⟨true, rfl, HB.out, fun h => by cases h⟩
  have d2 : decide ((60 : Int) < f.puts.length) = false := by simp; omega
  by_cases h3 : 60 < f.sts.length
  · have d3 : decide ((60 : Int) < f.sts.length) = true := by simp; omega
    go_wp2
    go_ret
    exact ⟨true, rfl, HB.out, fun h => by cases h⟩
  have d3 : decide ((60 : Int) < f.sts.length) = false := by simp; omega
  have HN : Hid (f.its.length ≤ 40 ∧ f.puts.length ≤ 60 ∧ f.sts.length ≤ 60) := ⟨by omega, by omega, by omega⟩
  clear h2 h3
  go_wp2_with fail
  clear d1 d2 d3
  go_loopw [3] (fun i wr => ∃ k : Nat, k ≤ f.its.length ∧ i = .int .i64 k ∧ w1 = wr ∧ ∀ j, (hj : j < f.its.length) → j < k → (f.its[j]).key.size ≤ 400 ∧ (f.its[j]).val.size ≤ 2000) (fun i _ => f.its.length - (intOf i).toNat)
  case atStart => exact ⟨0, by omega, rfl, rfl, fun j _ h => by omega⟩
  case round =>
    obtain ⟨k, hk, rfl, rfl, hs⟩ := hrel
    by_cases hlt : k < f.its.length
    · have hlt' : (k : Int) < f.its.length := by omega
      obtain ⟨b, off, y, hia, hy, q0, q1, q2, q3, q4, q5⟩ := Itms.cell HR.out.its k hlt
      have hg : b < w.heap.size := World.block_lt_of_cell? _ _ q0
      have q0 := (HB.out.cell (p := ⟨b, _, none⟩) hg).trans q0
      have q1 := (HB.out.cell (p := ⟨b, _, none⟩) hg).trans q1
      rw [hia] at c6
      have hyk : f.its[k] = y := by rw [List.getElem?_eq_getElem hlt] at hy; exact Option.some.inj hy
      have HS := Lib.hid hs; have HY := Lib.hid hyk
      clear hs hy hyk hia hg q2 q3 q4 q5
      by_cases hk1 : 400 < y.key.size
      · have e1 : decide ((400 : Int) < y.key.size) = true := by simp; omega
        go_wp2
        go_ret
        exact ⟨true, rfl, HB.out, fun h => by cases h⟩
      have e1 : decide ((400 : Int) < y.key.size) = false := by simp; omega
      by_cases hv1 : 2000 < y.val.size
      · have e2 : decide ((2000 : Int) < y.val.size) = true := by simp; omega
        go_wp2
        go_ret
        exact ⟨true, rfl, HB.out, fun h => by cases h⟩
      have e2 : decide ((2000 : Int) < y.val.size) = false := by simp; omega
      have HYS : Hid (y.key.size ≤ 400 ∧ y.val.size ≤ 2000) := ⟨by omega, by omega⟩
      clear hk1 hv1
      go_wp2
      go_roundw
      case rel => exact ⟨k + 1, by omega, by go_num, by first | rfl | trivial, fun j hj hjk => by
        rcases Nat.lt_or_ge j k with h | h
        · exact HS.out j hj h
        · obtain rfl : j = k := by omega
          rw [HY.out]; exact HYS.out⟩
      case measure => simp [intOf]; omega
    · obtain rfl : k = f.its.length := by omega
      have HS := Lib.hid hs
      clear hs
      go_wp2
      go_ret
      refine ⟨false, rfl, HB.out, fun _ => ?_⟩
      have hall : ∀ y ∈ f.its, y.key.size ≤ 400 ∧ y.val.size ≤ 2000 := fun y hy => by
        obtain ⟨i, hi, rfl⟩ := List.mem_iff_getElem.1 hy
        exact HS.out i hi hi
      exact ⟨⟨HR.out.its, HR.out.puts, HR.out.sts, HN.out.1, HN.out.2.1, HN.out.2.2, fun y hy => by have := (hall y hy).1; omega⟩, hall⟩
end Go.Proofs.YtmakjfeepmiggaaGreat
namespace Go.Proofs.YtmakjfeepmiggaaGreat
open Go.RowKit Go.Maps
set_option linter.unusedVariables false
structure DPS (w0 w : World) (B R : WB) (V : WV) (s : CS) (x : RS) (m : Nat) : Prop where
  pr : Pr w0 w B R V s x
  far : Far s x (300 + m)
  cok : V.c.ok = true
  nn : V.nts.length ≤ m
  ni : V.its.length ≤ 100 + m
  st : Nsteps V.nts s.cnt
  nk : Nkinds V.nts
section
variable {w0 w w' : World} {B R : WB} {V : WV} {s : CS} {x : RS} {m m' : Nat}
theorem DPS.keep (h : DPS w0 w B R V s x m) (hb : Below w.heap.size w w') : DPS w0 w' B R V s x m := ⟨h.pr.keep hb, h.far, h.cok, h.nn, h.ni, h.st, h.nk⟩
theorem DPS.le (h : DPS w0 w B R V s x m) (hm : m ≤ m') : DPS w0 w B R V s x m' := ⟨h.pr, ⟨Nat.le_trans h.far.1 (by omega), Nat.le_trans h.far.2.1 (by omega), Nat.le_trans h.far.2.2 (by omega)⟩, h.cok, Nat.le_trans h.nn hm, by have := h.ni; omega, h.st, h.nk⟩
theorem DPS.acc (h : DPS w0 w B R V s x m) (k a i : Int) (hp : Pr w0 w' B R V (s.acc k a i) (x.acc k a i)) : DPS w0 w' B R V (s.acc k a i) (x.acc k a i) (m + 1) :=
  ⟨hp, by have := h.far.acc h.pr.al k a i; rw [Nat.add_assoc] at this; exact this, h.cok, Nat.le_succ_of_le h.nn, by have := h.ni; omega, h.st.le (by simp only [CS.acc]; omega), h.nk⟩
end
section
variable {w0 w : World} {B R : WB} {V : WV} {s : CS} {x : RS} {m : Nat}
end
end Go.Proofs.YtmakjfeepmiggaaGreat
namespace Go.Proofs.YtmakjfeepmiggaaGreat
open Go.RowKit Go.Maps
set_option linter.unusedVariables false
structure PO (α : Type) where
  pb : Nat
  rb : Nat
  a : α
def PO.vals {α : Type} (o : PO α) : List Value := [.pointer (some ⟨o.pb, 0, none⟩), .pointer (some ⟨o.rb, 0, none⟩)]
def ZKeep (Z : TypeId → Bool) (w w' : World) : Prop := ∀ (k : Nat) (cs : Array Value) (T : TypeId) (fr : Nat × Nat), w.heap[k]? = some (.cells cs T fr) → Z T = true → w'.heap[k]? = some (.cells cs T fr)
structure POLaw {α : Type} (OT : TypeId) (Q Z : TypeId → Bool) (P : World → Nat → PO α → (Nat → Prop) → Prop) : Prop where
  q : ∀ T, Q T = true → wrTy T = false ∧ T ≠ 34 ∧ T ≠ OT ∧ Z T = false
  z : ∀ T, Z T = true → wrTy T = false ∧ T ≠ OT
  ot : wrTy OT = false ∧ OT ≠ 34
  keep : ∀ {w w' : World} {lo : Nat} {o : PO α} {S : Nat → Prop}, P w lo o S → w.heap.size ≤ w'.heap.size → (∀ k, S k → w'.heap[k]? = w.heap[k]?) → ZKeep Z w w' → P w' lo o S
  lo : ∀ {w : World} {lo : Nat} {o : PO α} {S : Nat → Prop} {k : Nat}, P w lo o S → S k → lo ≤ k
  lower : ∀ {w : World} {lo lo' : Nat} {o : PO α} {S : Nat → Prop}, P w lo o S → lo' ≤ lo → P w lo' o S
  blk : ∀ {w : World} {lo : Nat} {o : PO α} {S : Nat → Prop} {k : Nat}, P w lo o S → S k → (∃ cs T fr, w.heap[k]? = some (.cells cs T fr) ∧ Q T = true) ∨ ∃ es cl, w.heap[k]? = some (.map es cl)
def MapsIn (w : World) (V : WV) (S : Nat → Prop) : Prop := ∀ k es cl, S k → w.heap[k]? = some (.map es cl) → (k, es, cl) ∈ V.fm
structure OFr (S : Nat → Prop) (V V' : WV) (w w' : World) : Prop where
  size : w.heap.size ≤ w'.heap.size
  cells : ∀ (k : Nat) (cs : Array Value) (T : TypeId) (fr : Nat × Nat), w.heap[k]? = some (.cells cs T fr) → wrTy T = false → ¬ S k → w'.heap[k]? = some (.cells cs T fr)
  map : ∀ (k : Nat) (es : Array MapEntry) (cl : Nat), w.heap[k]? = some (.map es cl) → (k, es, cl) ∈ V.fm → ¬ S k → w'.heap[k]? = some (.map es cl) ∧ (k, es, cl) ∈ V'.fm
structure OPS {α : Type} (OT : TypeId) (P : World → Nat → PO α → (Nat → Prop) → Prop) (w0 w : World) (B R : WB) (q : Nat) (V : WV) (s : CS) (x : RS) (m : Nat) (L : List (PO α)) (v : Value) : Prop where
  d : DPS w0 w B R V s x m
  pq : w.heap[q]? = some (.cells #[.pointer (some ⟨B.wb, 0, none⟩), .pointer (some ⟨R.wb, 0, none⟩)] 34 (0, 0))
  row : w.ownsRow w0.heap.size OT 2 v L.length (L.flatMap PO.vals)
  ops : ∃ F : Nat → Nat → Prop, (∀ i (hi : i < L.length), P w w0.heap.size L[i] (F i) ∧ MapsIn w V (F i)) ∧ ∀ i j, i < L.length → j < L.length → i ≠ j → ∀ k, F i k → ¬ F j k
theorem ocell_ty {w : World} {k : Nat} {cs cs' : Array Value} {T T' : TypeId} {fr fr' : Nat × Nat} (h : w.heap[k]? = some (.cells cs T fr)) (h' : w.heap[k]? = some (.cells cs' T' fr')) : T = T' := by
  have := h.symm.trans h'; simp only [Option.some.injEq, Obj.cells.injEq] at this; exact this.2.1
theorem zkeep_below {Z : TypeId → Bool} {w w' : World} (hb : Below w.heap.size w w') : ZKeep Z w w' := fun k cs T fr h _ => (hb.block k (Array.getElem?_eq_some_iff.1 h).1).trans h
theorem zkeep_fr {K Z : TypeId → Bool} {mp : Bool} {w w' : World} (hf : Fr K mp w w') (hK : ∀ T, Z T = true → K T = false) : ZKeep Z w w' := fun k cs T fr h hT => hf.cells k cs T fr h (hK T hT)
theorem heap_lt {w : World} {k : Nat} {o : Obj} (h : w.heap[k]? = some o) : k < w.heap.size := (Array.getElem?_eq_some_iff.1 h).1
section
variable {α : Type} {OT : TypeId} {Q Z : TypeId → Bool} {P : World → Nat → PO α → (Nat → Prop) → Prop} {w0 w w' : World} {B R : WB} {q : Nat} {V V' : WV} {s s' : CS} {x x' : RS} {m m' : Nat} {L : List (PO α)} {v : Value}
theorem POLaw.lt (hl : POLaw OT Q Z P) {lo : Nat} {o : PO α} {S : Nat → Prop} {k : Nat} (h : P w lo o S) (hk : S k) : k < w.heap.size := by
  rcases hl.blk h hk with ⟨cs, T, fr, h1, -⟩ | ⟨es, cl, h1⟩ <;> exact heap_lt h1
theorem POLaw.below (hl : POLaw OT Q Z P) {lo : Nat} {o : PO α} {S : Nat → Prop} (h : P w lo o S) (hb : Below w.heap.size w w') : P w' lo o S :=
  hl.keep h hb.size (fun k hk => hb.block k (hl.lt h hk)) (zkeep_below hb)
theorem maps_below {S : Nat → Prop} (h : MapsIn w V S) (hs : ∀ k, S k → k < w.heap.size) (hb : Below w.heap.size w w') : MapsIn w' V S := fun k es cl hk he => h k es cl hk ((hb.block k (hs k hk)).symm.trans he)
theorem OPS.below (hl : POLaw OT Q Z P) (h : OPS OT P w0 w B R q V s x m L v) (hb : Below w.heap.size w w') : OPS OT P w0 w' B R q V s x m L v := by
  obtain ⟨F, h1, h2⟩ := h.ops
  exact ⟨h.d.keep hb, (hb.block _ (heap_lt h.pq)).trans h.pq, own_fr h.row (below_fr hb (fun _ => false) false) rfl, F, fun i hi => ⟨hl.below (h1 i hi).1 hb, maps_below (h1 i hi).2 (fun k hk => hl.lt (h1 i hi).1 hk) hb⟩, h2⟩
theorem OPS.le (h : OPS OT P w0 w B R q V s x m L v) (hm : m ≤ m') : OPS OT P w0 w B R q V s x m' L v := ⟨h.d.le hm, h.pq, h.row, h.ops⟩
theorem OPS.world (hl : POLaw OT Q Z P) (h : OPS OT P w0 w B R q V s x m L v) (hp : DPS w0 w' B R V' s' x' m') (hV : ∀ p ∈ V.fm, p ∈ V'.fm) (hf : Fr wrTy true w w') : OPS OT P w0 w' B R q V' s' x' m' L v := by
  obtain ⟨F, h1, h2⟩ := h.ops
  have key : ∀ i (hi : i < L.length) k, F i k → w'.heap[k]? = w.heap[k]? := fun i hi k hk => by
    rcases hl.blk (h1 i hi).1 hk with ⟨cs, T, fr, g1, g2⟩ | ⟨es, cl, g1⟩
    · rw [g1]; exact hf.cells _ _ _ _ g1 (hl.q T g2).1
    · rw [g1]; exact (hp.pr.ws.fmk _ (hV _ ((h1 i hi).2 k es cl hk g1))).1
  exact ⟨hp, hf.cells _ _ _ _ h.pq rfl, own_fr h.row hf hl.ot.1, F, fun i hi => ⟨hl.keep (h1 i hi).1 hf.size (key i hi) (zkeep_fr hf fun T hT => (hl.z T hT).1), fun k es cl hk he => hV _ ((h1 i hi).2 k es cl hk ((key i hi k hk).symm.trans he))⟩, h2⟩
theorem oflat_set (L : List (PO α)) (j : Nat) (hj : j < L.length) (o : PO α) (e1 : o.pb = (L[j]).pb) (e2 : o.rb = (L[j]).rb) : (L.set j o).flatMap PO.vals = L.flatMap PO.vals := by
  induction L generalizing j with
  | nil => rfl
  | cons a L ih =>
    cases j with
    | zero => simp only [List.set_cons_zero, List.flatMap_cons]; simp only [List.getElem_cons_zero] at e1 e2; unfold PO.vals; rw [e1, e2]
    | succ j => simp only [List.set_cons_succ, List.flatMap_cons]; rw [ih j (by simpa using hj) (by simpa using e1) (by simpa using e2)]
theorem OPS.take (hl : POLaw OT Q Z P) (h : OPS OT P w0 w B R q V s x m L v) (j : Nat) (hj : j < L.length) : ∃ S, P w w0.heap.size L[j] S ∧ MapsIn w V S ∧
    ∀ (w' : World) (V' : WV) (s' : CS) (x' : RS) (m' : Nat) (o : PO α) (S' : Nat → Prop), o.pb = (L[j]).pb → o.rb = (L[j]).rb → DPS w0 w' B R V' s' x' m' → P w' w0.heap.size o S' → MapsIn w' V' S' → (∀ k, S' k → S k ∨ w.heap.size ≤ k) → OFr S V V' w w' → OPS OT P w0 w' B R q V' s' x' m' (L.set j o) v := by
  obtain ⟨F, h1, h2⟩ := h.ops
  refine ⟨F j, (h1 j hj).1, (h1 j hj).2, fun w' V' s' x' m' o S' e1 e2 hp ho hm hS hf => ?_⟩
  have hoj := (h1 j hj).1
  have hno : ∀ (k : Nat) (cs : Array Value) (T : TypeId) (fr : Nat × Nat), w.heap[k]? = some (.cells cs T fr) → Q T = false → ¬ F j k := fun k cs T fr hk hT c => by
    rcases hl.blk hoj c with ⟨cs2, T2, fr2, g1, g2⟩ | ⟨es, cl, g1⟩
    · rw [ocell_ty hk g1] at hT; rw [hT] at g2; cases g2
    · rw [hk] at g1; cases g1
  have hQ : ∀ T, (wrTy T = true ∨ T = 34 ∨ T = OT ∨ Z T = true) → Q T = false := fun T hT => by
    cases hq : Q T
    · rfl
    · obtain ⟨a1, a2, a3, a4⟩ := hl.q T hq
      rcases hT with hT | hT | hT | hT
      · rw [a1] at hT; cases hT
      · exact absurd hT a2
      · exact absurd hT a3
      · rw [a4] at hT; cases hT
  have hZ : ZKeep Z w w' := fun k cs T fr hk hT => hf.cells k cs T fr hk (hl.z T hT).1 (hno k cs T fr hk (hQ T (.inr (.inr (.inr hT)))))
  have hlen : (L.set j o).length = L.length := List.length_set
  refine ⟨hp, hf.cells _ _ _ _ h.pq rfl (hno _ _ _ _ h.pq (hQ _ (.inr (.inl rfl)))), ?_, fun i => if i = j then S' else F i, fun i hi => ?_, fun a b ha hb hab => ?_⟩
  · rw [hlen, oflat_set L j hj o e1 e2]
    obtain ⟨h3, h4 | ⟨g, cap, cur, hv, hb1, hg, r⟩⟩ := h.row
    · exact ⟨h3, .inl h4⟩
    · exact ⟨h3, .inr ⟨g, cap, cur, hv, hb1, hf.cells _ _ _ _ hg hl.ot.1 (hno _ _ _ _ hg (hQ _ (.inr (.inr (.inl rfl))))), r⟩⟩
  · by_cases e : i = j
    · subst e
      simp only [if_true, List.getElem_set_self]
      exact ⟨ho, hm⟩
    · have hi' : i < L.length := by rw [hlen] at hi; exact hi
      simp only [if_neg e]
      rw [List.getElem_set_ne (fun c => e c.symm)]
      have key : ∀ k, F i k → w'.heap[k]? = w.heap[k]? ∧ ∀ es cl, w.heap[k]? = some (.map es cl) → (k, es, cl) ∈ V'.fm := fun k hk => by
        have hn : ¬ F j k := h2 i j hi' hj e k hk
        rcases hl.blk (h1 i hi').1 hk with ⟨cs, T, fr, g1, g2⟩ | ⟨es, cl, g1⟩
        · refine ⟨by rw [g1]; exact hf.cells _ _ _ _ g1 (hl.q T g2).1 hn, fun es cl g3 => ?_⟩
          rw [g1] at g3; cases g3
        · have g2 := hf.map k es cl g1 ((h1 i hi').2 k es cl hk g1) hn
          refine ⟨by rw [g1]; exact g2.1, fun es' cl' g3 => ?_⟩
          rw [g1] at g3; cases g3; exact g2.2
      exact ⟨hl.keep (h1 i hi').1 hf.size (fun k hk => (key k hk).1) hZ, fun k es cl hk he => (key k hk).2 es cl ((key k hk).1.symm.trans he)⟩
  · rw [hlen] at ha hb
    have new : ∀ i, i < L.length → i ≠ j → ∀ k, F i k → ¬ S' k := fun i hi hne k hk c => by
      rcases hS k c with c | c
      · exact h2 i j hi hj hne k hk c
      · have := hl.lt (h1 i hi).1 hk; omega
    intro k hka hkb
    by_cases ea : a = j <;> by_cases eb : b = j
    · exact hab (ea.trans eb.symm)
    · simp only [if_pos ea] at hka; simp only [if_neg eb] at hkb; exact new b hb eb k hkb hka
    · simp only [if_neg ea] at hka; simp only [if_pos eb] at hkb; exact new a ha ea k hka hkb
    · simp only [if_neg ea] at hka; simp only [if_neg eb] at hkb; exact h2 a b ha hb hab k hka hkb
theorem OPS.push (hl : POLaw OT Q Z P) {wF : World} {o : PO α} {S : Nat → Prop} {v' : Value} (h : OPS OT P w0 w B R q V s x m L v) (hb : Below w.heap.size w wF) (hp : DPS w0 wF B R V' s x m) (hV : ∀ p ∈ V.fm, p ∈ V'.fm) (ho : P wF w.heap.size o S) (hm : MapsIn wF V' S) (hr : w'.ownsRow w0.heap.size OT 2 v' (L.length + 1) (L.flatMap PO.vals ++ o.vals)) (hf : Fr (fun T => T == OT) false wF w') (hB : Below w0.heap.size w0 w') : OPS OT P w0 w' B R q V' s x m (L ++ [o]) v' := by
  have hF := h.below hl hb
  have hlo : w0.heap.size ≤ w.heap.size := h.d.pr.ws.below.size
  have hopw : ∀ T, wrTy T = true → (T == OT) = false := fun T hT => by
    cases hc : (T == OT)
    · rfl
    · rw [beq_iff_eq] at hc; subst hc; rw [hl.ot.1] at hT; cases hT
  have hpt : ((34 : TypeId) == OT) = false := beq_eq_false_iff_ne.2 fun c => hl.ot.2 c.symm
  have hq : ∀ T, Q T = true → (T == OT) = false := fun T hT => beq_eq_false_iff_ne.2 (hl.q T hT).2.2.1
  have hz : ∀ T, Z T = true → (T == OT) = false := fun T hT => beq_eq_false_iff_ne.2 (hl.z T hT).2
  obtain ⟨F, h1, h2⟩ := hF.ops
  obtain ⟨F0, g1, g2⟩ := h.ops
  have stay : ∀ {o2 : PO α} {lo : Nat} {S2 : Nat → Prop}, P wF lo o2 S2 → (∀ k, S2 k → w'.heap[k]? = wF.heap[k]?) := fun ho2 k hk => by
    rcases hl.blk ho2 hk with ⟨cs, T, fr, e1, e2⟩ | ⟨es, cl, e1⟩
    · rw [e1]; exact hf.cells _ _ _ _ e1 (hq T e2)
    · rw [e1]; exact hf.map rfl _ _ _ e1
  refine ⟨⟨⟨hp.pr.ws.fr hf (fun T hT => hopw T (by unfold wrTy; rw [hT]; rfl)) hB, hp.pr.rd.fr hf (fun T hT => hopw T (by unfold wrTy; rw [hT]; simp)) hB, hp.pr.al⟩, hp.far, hp.cok, hp.nn, hp.ni, hp.st, hp.nk⟩, hf.cells _ _ _ _ hF.pq hpt, ?_, fun i => if i = L.length then S else F0 i, fun i hi => ?_, fun a b ha hb2 hab => ?_⟩
  · rw [List.length_append, List.flatMap_append]; simpa using hr
  · simp only [List.length_append, List.length_singleton] at hi
    by_cases e : i = L.length
    · subst e
      simp only [if_true]
      rw [List.getElem_append_right (Nat.le_refl _)]
      simp only [Nat.sub_self, List.getElem_cons_zero]
      exact ⟨hl.lower (hl.keep ho hf.size (stay ho) (zkeep_fr hf hz)) hlo, fun k es cl hk he => hm k es cl hk ((stay ho k hk).symm.trans he)⟩
    · have hi' : i < L.length := by omega
      simp only [if_neg e]
      rw [List.getElem_append_left hi']
      have p1 := hl.below (g1 i hi').1 hb
      refine ⟨hl.keep p1 hf.size (stay p1) (zkeep_fr hf hz), fun k es cl hk he => hV _ ((g1 i hi').2 k es cl hk ?_)⟩
      exact (hb.block k (hl.lt (g1 i hi').1 hk)).symm.trans ((stay p1 k hk).symm.trans he)
  · simp only [List.length_append, List.length_singleton] at ha hb2
    have old : ∀ i, i < L.length → ∀ k, F0 i k → ¬ S k := fun i hi k hk c => by
      have e1 := hl.lt (g1 i hi).1 hk
      have e2 := hl.lo ho c
      omega
    intro k hka hkb
    by_cases ea : a = L.length <;> by_cases eb : b = L.length
    · exact hab (ea.trans eb.symm)
    · simp only [if_pos ea] at hka; simp only [if_neg eb] at hkb; exact old b (by omega) k hkb hka
    · simp only [if_neg ea] at hka; simp only [if_pos eb] at hkb; exact old a (by omega) k hka hkb
    · simp only [if_neg ea] at hka; simp only [if_neg eb] at hkb; exact g2 a b (by omega) (by omega) hab k hka hkb
theorem ovals_at (L : List (PO α)) (k : Nat) (hk : k < L.length) (j : Nat) (hj : j < 2) : (L.flatMap PO.vals)[k * 2 + j]? = ((L[k]).vals)[j]? := by
  induction L generalizing k with
  | nil => simp at hk
  | cons a L ih =>
    rw [List.flatMap_cons]
    cases k with
    | zero => rw [List.getElem?_append_left (by unfold PO.vals; simp; omega)]; simp
    | succ k =>
      rw [List.getElem?_append_right (by unfold PO.vals; simp; omega)]
      have := ih k (by simpa using hk)
      simp only [List.getElem_cons_succ]
      rw [← this]; congr 1; unfold PO.vals; simp; omega
theorem OPS.at (h : OPS OT P w0 w B R q V s x m L v) (k : Nat) (hk : k < L.length) : ∃ g cap, v = .slice (some ⟨g, 0, none⟩) L.length cap ∧ w.cell? ⟨g, k * 2, none⟩ = some (.pointer (some ⟨(L[k]).pb, 0, none⟩)) ∧ w.cell? ⟨g, k * 2 + 1, none⟩ = some (.pointer (some ⟨(L[k]).rb, 0, none⟩)) := by
  obtain ⟨h1, ⟨h2, h0⟩ | ⟨g, cap', cur, hv, hb, hg, hn, hm, hs, ht⟩⟩ := h.row
  · omega
  · have key : ∀ j, j < 2 → w.cell? ⟨g, k * 2 + j, none⟩ = ((L[k]).vals)[j]? := fun j hj => by
      rw [hcell hg, ← ovals_at L k hk j hj, ← ht, List.getElem?_take, if_pos (by omega)]; simp
    exact ⟨g, cap', hv, key 0 (by omega), key 1 (by omega)⟩
end
end Go.Proofs.YtmakjfeepmiggaaGreat