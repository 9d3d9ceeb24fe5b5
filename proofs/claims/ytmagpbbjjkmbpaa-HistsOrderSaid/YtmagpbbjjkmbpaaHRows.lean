/-
  A history's calls and drops, to be read.
-/
import Derived.Test.YtmagpbbjjkmbpaaOpen
import Derived.Deep.MidRow
import Derived.Deep.WholeRow
namespace Go.Proofs.Ytmagpbbjjkmbpaa
open Go.RowKit Go.Maps
set_option linter.unusedVariables false

structure HC where
  th : Int
  vb : Int
  ky : ByteArray
  vl : ByteArray
  fl : Int
  ex : Int
  ui : Int
  bn : Int
  fr : Int
  to : Int
  ak : Int
  an : Int
  ik : ByteArray
  iv : ByteArray
  ifl : Int
  iid : Int
  idi : Int
  ige : Int
  ep : Int
  pt : Int
def HC.cells (x : HC) : List Value := [.int .i64 x.th, .int .u8 x.vb, .string x.ky, .string x.vl, .int .u32 x.fl, .int .i64 x.ex, .int .u64 x.ui, .int .u64 x.bn, .int .i64 x.fr, .int .i64 x.to, .int .u8 x.ak, .int .u64 x.an, .string x.ik, .string x.iv, .int .u32 x.ifl, .int .u64 x.iid, .int .i64 x.idi, .int .i64 x.ige, .int .u64 x.ep, .int .i64 x.pt]
structure HC.wf (x : HC) : Prop where
  th : (Lit.int .i64 x.th).wf = true
  vb : (Lit.int .u8 x.vb).wf = true
  ky : x.ky.size ≤ maxLen
  vl : x.vl.size ≤ maxLen
  fl : (Lit.int .u32 x.fl).wf = true
  ex : (Lit.int .i64 x.ex).wf = true
  ui : (Lit.int .u64 x.ui).wf = true
  bn : (Lit.int .u64 x.bn).wf = true
  fr : (Lit.int .i64 x.fr).wf = true
  to : (Lit.int .i64 x.to).wf = true
  ak : (Lit.int .u8 x.ak).wf = true
  an : (Lit.int .u64 x.an).wf = true
  ik : x.ik.size ≤ maxLen
  iv : x.iv.size ≤ maxLen
  ifl : (Lit.int .u32 x.ifl).wf = true
  iid : (Lit.int .u64 x.iid).wf = true
  idi : (Lit.int .i64 x.idi).wf = true
  ige : (Lit.int .i64 x.ige).wf = true
  ep : (Lit.int .u64 x.ep).wf = true
  pt : (Lit.int .i64 x.pt).wf = true
def hcLeaves : List Leaf := [.int .i64, .int .u8, .str, .str, .int .u32, .int .i64, .int .u64, .int .u64, .int .i64, .int .i64, .int .u8, .int .u64, .str, .str, .int .u32, .int .u64, .int .i64, .int .i64, .int .u64, .int .i64]
theorem hc_of {w : World} {cs : List Value} (h : Leaf.allHold w hcLeaves cs) : ∃ x : HC, cs = x.cells ∧ x.wf := by
  obtain ⟨c0, r, rfl, g0, h⟩ := allHold_cons h
  obtain ⟨c1, r, rfl, g1, h⟩ := allHold_cons h
  obtain ⟨c2, r, rfl, g2, h⟩ := allHold_cons h
  obtain ⟨c3, r, rfl, g3, h⟩ := allHold_cons h
  obtain ⟨c4, r, rfl, g4, h⟩ := allHold_cons h
  obtain ⟨c5, r, rfl, g5, h⟩ := allHold_cons h
  obtain ⟨c6, r, rfl, g6, h⟩ := allHold_cons h
  obtain ⟨c7, r, rfl, g7, h⟩ := allHold_cons h
  obtain ⟨c8, r, rfl, g8, h⟩ := allHold_cons h
  obtain ⟨c9, r, rfl, g9, h⟩ := allHold_cons h
  obtain ⟨c10, r, rfl, g10, h⟩ := allHold_cons h
  obtain ⟨c11, r, rfl, g11, h⟩ := allHold_cons h
  obtain ⟨c12, r, rfl, g12, h⟩ := allHold_cons h
  obtain ⟨c13, r, rfl, g13, h⟩ := allHold_cons h
  obtain ⟨c14, r, rfl, g14, h⟩ := allHold_cons h
  obtain ⟨c15, r, rfl, g15, h⟩ := allHold_cons h
  obtain ⟨c16, r, rfl, g16, h⟩ := allHold_cons h
  obtain ⟨c17, r, rfl, g17, h⟩ := allHold_cons h
  obtain ⟨c18, r, rfl, g18, h⟩ := allHold_cons h
  obtain ⟨c19, r, rfl, g19, h⟩ := allHold_cons h
  obtain rfl := allHold_nil h
  obtain ⟨n0, rfl, w0⟩ := holds_int g0
  obtain ⟨n1, rfl, w1⟩ := holds_int g1
  obtain ⟨n2, rfl, w2⟩ := holds_str g2
  obtain ⟨n3, rfl, w3⟩ := holds_str g3
  obtain ⟨n4, rfl, w4⟩ := holds_int g4
  obtain ⟨n5, rfl, w5⟩ := holds_int g5
  obtain ⟨n6, rfl, w6⟩ := holds_int g6
  obtain ⟨n7, rfl, w7⟩ := holds_int g7
  obtain ⟨n8, rfl, w8⟩ := holds_int g8
  obtain ⟨n9, rfl, w9⟩ := holds_int g9
  obtain ⟨n10, rfl, w10⟩ := holds_int g10
  obtain ⟨n11, rfl, w11⟩ := holds_int g11
  obtain ⟨n12, rfl, w12⟩ := holds_str g12
  obtain ⟨n13, rfl, w13⟩ := holds_str g13
  obtain ⟨n14, rfl, w14⟩ := holds_int g14
  obtain ⟨n15, rfl, w15⟩ := holds_int g15
  obtain ⟨n16, rfl, w16⟩ := holds_int g16
  obtain ⟨n17, rfl, w17⟩ := holds_int g17
  obtain ⟨n18, rfl, w18⟩ := holds_int g18
  obtain ⟨n19, rfl, w19⟩ := holds_int g19
  exact ⟨⟨n0, n1, n2, n3, n4, n5, n6, n7, n8, n9, n10, n11, n12, n13, n14, n15, n16, n17, n18, n19⟩, rfl, w0, w1, w2, w3, w4, w5, w6, w7, w8, w9, w10, w11, w12, w13, w14, w15, w16, w17, w18, w19⟩
structure HCs (w : World) (a : Option Addr) (cap : Nat) (l : List HC) : Prop where
  le : l.length ≤ cap
  most : cap ≤ maxLen
  nil : a = none → cap = 0
  wf : ∀ x ∈ l, x.wf
  cell : l = [] ∨ ∃ b off, a = some ⟨b, off, none⟩ ∧ ∀ i, (hi : i < l.length) → ∀ j, j < 20 → w.cell? ⟨b, off + (i * 20 + j), none⟩ = (l[i]).cells[j]?
theorem hcs_of {w : World} {v : Value} (h : Leaf.holds w (.sl hcLeaves) v) : ∃ (l : List HC) (a : Option Addr) (cap : Nat), v = .slice a l.length cap ∧ HCs w a cap l := by
  obtain ⟨l, a, cap, rfl, h1, h2, h3, h4, h5⟩ := recs_of h
  obtain ⟨m, hm, hp⟩ := list_of (fun i (x : HC) => l[i]? = some x.cells ∧ x.wf) l.length (fun i hi => by
    obtain ⟨x, hx, hw⟩ := hc_of (h4 _ (List.getElem_mem hi))
    exact ⟨x, by rw [List.getElem?_eq_getElem hi, hx], hw⟩)
  refine ⟨m, a, cap, by rw [hm], by omega, h2, h3, fun x hx => ?_, ?_⟩
  · obtain ⟨i, hi, rfl⟩ := List.mem_iff_getElem.1 hx
    exact (hp i hi).2
  · rcases h5 with rfl | ⟨b, off, rfl, h5⟩
    · left; simpa using hm
    · refine .inr ⟨b, off, rfl, fun i hi j hj => ?_⟩
      have h6 := h5 i (by omega) j hj
      have h7 := (hp i hi).1
      rw [List.getElem?_eq_getElem (by omega)] at h7
      simp only [Option.some.injEq] at h7
      rw [h7] at h6
      exact h6
theorem HCs.at {w : World} {a : Option Addr} {cap : Nat} {l : List HC} (h : HCs w a cap l) (i : Nat) (hi : i < l.length) :
    ∃ b off x, a = some ⟨b, off, none⟩ ∧ l[i]? = some x ∧ x.wf ∧ w.cell? ⟨b, off + i * 20, none⟩ = some (.int .i64 x.th) ∧ w.cell? ⟨b, off + i * 20 + 1, none⟩ = some (.int .u8 x.vb) ∧ w.cell? ⟨b, off + i * 20 + 2, none⟩ = some (.string x.ky) ∧ w.cell? ⟨b, off + i * 20 + 3, none⟩ = some (.string x.vl) ∧ w.cell? ⟨b, off + i * 20 + 4, none⟩ = some (.int .u32 x.fl) ∧ w.cell? ⟨b, off + i * 20 + 5, none⟩ = some (.int .i64 x.ex) ∧ w.cell? ⟨b, off + i * 20 + 6, none⟩ = some (.int .u64 x.ui) ∧ w.cell? ⟨b, off + i * 20 + 7, none⟩ = some (.int .u64 x.bn) ∧ w.cell? ⟨b, off + i * 20 + 8, none⟩ = some (.int .i64 x.fr) ∧ w.cell? ⟨b, off + i * 20 + 9, none⟩ = some (.int .i64 x.to) ∧ w.cell? ⟨b, off + i * 20 + 10, none⟩ = some (.int .u8 x.ak) ∧ w.cell? ⟨b, off + i * 20 + 11, none⟩ = some (.int .u64 x.an) ∧ w.cell? ⟨b, off + i * 20 + 12, none⟩ = some (.string x.ik) ∧ w.cell? ⟨b, off + i * 20 + 13, none⟩ = some (.string x.iv) ∧ w.cell? ⟨b, off + i * 20 + 14, none⟩ = some (.int .u32 x.ifl) ∧ w.cell? ⟨b, off + i * 20 + 15, none⟩ = some (.int .u64 x.iid) ∧ w.cell? ⟨b, off + i * 20 + 16, none⟩ = some (.int .i64 x.idi) ∧ w.cell? ⟨b, off + i * 20 + 17, none⟩ = some (.int .i64 x.ige) ∧ w.cell? ⟨b, off + i * 20 + 18, none⟩ = some (.int .u64 x.ep) ∧ w.cell? ⟨b, off + i * 20 + 19, none⟩ = some (.int .i64 x.pt) := by
  rcases h.cell with rfl | ⟨b, off, rfl, h5⟩
  · simp at hi
  · have h6 := h5 i hi
    refine ⟨b, off, l[i], rfl, List.getElem?_eq_getElem hi, h.wf _ (List.getElem_mem hi), h6 0 (by omega), ?_, ?_, ?_, ?_, ?_, ?_, ?_, ?_, ?_, ?_, ?_, ?_, ?_, ?_, ?_, ?_, ?_, ?_, ?_⟩
    · rw [Nat.add_assoc]; exact h6 1 (by omega)
    · rw [Nat.add_assoc]; exact h6 2 (by omega)
    · rw [Nat.add_assoc]; exact h6 3 (by omega)
    · rw [Nat.add_assoc]; exact h6 4 (by omega)
    · rw [Nat.add_assoc]; exact h6 5 (by omega)
    · rw [Nat.add_assoc]; exact h6 6 (by omega)
    · rw [Nat.add_assoc]; exact h6 7 (by omega)
    · rw [Nat.add_assoc]; exact h6 8 (by omega)
    · rw [Nat.add_assoc]; exact h6 9 (by omega)
    · rw [Nat.add_assoc]; exact h6 10 (by omega)
    · rw [Nat.add_assoc]; exact h6 11 (by omega)
    · rw [Nat.add_assoc]; exact h6 12 (by omega)
    · rw [Nat.add_assoc]; exact h6 13 (by omega)
    · rw [Nat.add_assoc]; exact h6 14 (by omega)
    · rw [Nat.add_assoc]; exact h6 15 (by omega)
    · rw [Nat.add_assoc]; exact h6 16 (by omega)
    · rw [Nat.add_assoc]; exact h6 17 (by omega)
    · rw [Nat.add_assoc]; exact h6 18 (by omega)
    · rw [Nat.add_assoc]; exact h6 19 (by omega)
theorem HCs.below {w w' : World} {a : Option Addr} {cap : Nat} {l : List HC} (h : HCs w a cap l) (hb : Below w.heap.size w w') : HCs w' a cap l := by
  refine ⟨h.le, h.most, h.nil, h.wf, h.cell.imp id fun ⟨b, off, e, h5⟩ => ⟨b, off, e, fun i hi j hj => ?_⟩⟩
  have h6 := h5 i hi j hj
  have hj2 : j < (l[i]).cells.length := by simp [HC.cells]; omega
  rw [List.getElem?_eq_getElem hj2] at h6 ⊢
  exact (hb.cell (World.block_lt_of_cell? _ _ h6)).trans h6
theorem HC.one (x : HC) : (x.cells.toArray).all (·.oneCell') = true := by simp [HC.cells, Value.oneCell']
theorem HCs.whole {w : World} {a : Option Addr} {cap : Nat} {l : List HC} (h : HCs w a cap l) (i : Nat) (hi : i < l.length) :
    ∃ b off x cl, a = some ⟨b, off, none⟩ ∧ l[i]? = some x ∧ cl = x.cells ∧ cl.length = 20 ∧ cl.toArray.all (·.oneCell') = true ∧ w.rangeAt b (off + i * 20) cl := by
  rcases h.cell with rfl | ⟨b, off, rfl, h5⟩
  · simp at hi
  · refine ⟨b, off, l[i], _, rfl, List.getElem?_eq_getElem hi, rfl, rfl, HC.one _, fun j v hv => ?_⟩
    have hj : j < 20 := (List.getElem?_eq_some_iff.1 hv).1
    have h6 := h5 i hi j hj
    rw [Nat.add_assoc, h6]; exact hv
structure HD where
  st : Int
  ik : ByteArray
  iv : ByteArray
  ifl : Int
  iid : Int
  idi : Int
  ige : Int
def HD.cells (x : HD) : List Value := [.int .i64 x.st, .string x.ik, .string x.iv, .int .u32 x.ifl, .int .u64 x.iid, .int .i64 x.idi, .int .i64 x.ige]
structure HD.wf (x : HD) : Prop where
  st : (Lit.int .i64 x.st).wf = true
  ik : x.ik.size ≤ maxLen
  iv : x.iv.size ≤ maxLen
  ifl : (Lit.int .u32 x.ifl).wf = true
  iid : (Lit.int .u64 x.iid).wf = true
  idi : (Lit.int .i64 x.idi).wf = true
  ige : (Lit.int .i64 x.ige).wf = true
def hdLeaves : List Leaf := [.int .i64, .str, .str, .int .u32, .int .u64, .int .i64, .int .i64]
theorem hd_of {w : World} {cs : List Value} (h : Leaf.allHold w hdLeaves cs) : ∃ x : HD, cs = x.cells ∧ x.wf := by
  obtain ⟨c0, r, rfl, g0, h⟩ := allHold_cons h
  obtain ⟨c1, r, rfl, g1, h⟩ := allHold_cons h
  obtain ⟨c2, r, rfl, g2, h⟩ := allHold_cons h
  obtain ⟨c3, r, rfl, g3, h⟩ := allHold_cons h
  obtain ⟨c4, r, rfl, g4, h⟩ := allHold_cons h
  obtain ⟨c5, r, rfl, g5, h⟩ := allHold_cons h
  obtain ⟨c6, r, rfl, g6, h⟩ := allHold_cons h
  obtain rfl := allHold_nil h
  obtain ⟨n0, rfl, w0⟩ := holds_int g0
  obtain ⟨n1, rfl, w1⟩ := holds_str g1
  obtain ⟨n2, rfl, w2⟩ := holds_str g2
  obtain ⟨n3, rfl, w3⟩ := holds_int g3
  obtain ⟨n4, rfl, w4⟩ := holds_int g4
  obtain ⟨n5, rfl, w5⟩ := holds_int g5
  obtain ⟨n6, rfl, w6⟩ := holds_int g6
  exact ⟨⟨n0, n1, n2, n3, n4, n5, n6⟩, rfl, w0, w1, w2, w3, w4, w5, w6⟩
structure HDs (w : World) (a : Option Addr) (cap : Nat) (l : List HD) : Prop where
  le : l.length ≤ cap
  most : cap ≤ maxLen
  nil : a = none → cap = 0
  wf : ∀ x ∈ l, x.wf
  cell : l = [] ∨ ∃ b off, a = some ⟨b, off, none⟩ ∧ ∀ i, (hi : i < l.length) → ∀ j, j < 7 → w.cell? ⟨b, off + (i * 7 + j), none⟩ = (l[i]).cells[j]?
theorem hds_of {w : World} {v : Value} (h : Leaf.holds w (.sl hdLeaves) v) : ∃ (l : List HD) (a : Option Addr) (cap : Nat), v = .slice a l.length cap ∧ HDs w a cap l := by
  obtain ⟨l, a, cap, rfl, h1, h2, h3, h4, h5⟩ := recs_of h
  obtain ⟨m, hm, hp⟩ := list_of (fun i (x : HD) => l[i]? = some x.cells ∧ x.wf) l.length (fun i hi => by
    obtain ⟨x, hx, hw⟩ := hd_of (h4 _ (List.getElem_mem hi))
    exact ⟨x, by rw [List.getElem?_eq_getElem hi, hx], hw⟩)
  refine ⟨m, a, cap, by rw [hm], by omega, h2, h3, fun x hx => ?_, ?_⟩
  · obtain ⟨i, hi, rfl⟩ := List.mem_iff_getElem.1 hx
    exact (hp i hi).2
  · rcases h5 with rfl | ⟨b, off, rfl, h5⟩
    · left; simpa using hm
    · refine .inr ⟨b, off, rfl, fun i hi j hj => ?_⟩
      have h6 := h5 i (by omega) j hj
      have h7 := (hp i hi).1
      rw [List.getElem?_eq_getElem (by omega)] at h7
      simp only [Option.some.injEq] at h7
      rw [h7] at h6
      exact h6
theorem HDs.at {w : World} {a : Option Addr} {cap : Nat} {l : List HD} (h : HDs w a cap l) (i : Nat) (hi : i < l.length) :
    ∃ b off x, a = some ⟨b, off, none⟩ ∧ l[i]? = some x ∧ x.wf ∧ w.cell? ⟨b, off + i * 7, none⟩ = some (.int .i64 x.st) ∧ w.cell? ⟨b, off + i * 7 + 1, none⟩ = some (.string x.ik) ∧ w.cell? ⟨b, off + i * 7 + 2, none⟩ = some (.string x.iv) ∧ w.cell? ⟨b, off + i * 7 + 3, none⟩ = some (.int .u32 x.ifl) ∧ w.cell? ⟨b, off + i * 7 + 4, none⟩ = some (.int .u64 x.iid) ∧ w.cell? ⟨b, off + i * 7 + 5, none⟩ = some (.int .i64 x.idi) ∧ w.cell? ⟨b, off + i * 7 + 6, none⟩ = some (.int .i64 x.ige) := by
  rcases h.cell with rfl | ⟨b, off, rfl, h5⟩
  · simp at hi
  · have h6 := h5 i hi
    refine ⟨b, off, l[i], rfl, List.getElem?_eq_getElem hi, h.wf _ (List.getElem_mem hi), h6 0 (by omega), ?_, ?_, ?_, ?_, ?_, ?_⟩
    · rw [Nat.add_assoc]; exact h6 1 (by omega)
    · rw [Nat.add_assoc]; exact h6 2 (by omega)
    · rw [Nat.add_assoc]; exact h6 3 (by omega)
    · rw [Nat.add_assoc]; exact h6 4 (by omega)
    · rw [Nat.add_assoc]; exact h6 5 (by omega)
    · rw [Nat.add_assoc]; exact h6 6 (by omega)
theorem HDs.below {w w' : World} {a : Option Addr} {cap : Nat} {l : List HD} (h : HDs w a cap l) (hb : Below w.heap.size w w') : HDs w' a cap l := by
  refine ⟨h.le, h.most, h.nil, h.wf, h.cell.imp id fun ⟨b, off, e, h5⟩ => ⟨b, off, e, fun i hi j hj => ?_⟩⟩
  have h6 := h5 i hi j hj
  have hj2 : j < (l[i]).cells.length := by simp [HD.cells]; omega
  rw [List.getElem?_eq_getElem hj2] at h6 ⊢
  exact (hb.cell (World.block_lt_of_cell? _ _ h6)).trans h6
theorem HD.one (x : HD) : (x.cells.toArray).all (·.oneCell') = true := by simp [HD.cells, Value.oneCell']
theorem HDs.whole {w : World} {a : Option Addr} {cap : Nat} {l : List HD} (h : HDs w a cap l) (i : Nat) (hi : i < l.length) :
    ∃ b off x cl, a = some ⟨b, off, none⟩ ∧ l[i]? = some x ∧ cl = x.cells ∧ cl.length = 7 ∧ cl.toArray.all (·.oneCell') = true ∧ w.rangeAt b (off + i * 7) cl := by
  rcases h.cell with rfl | ⟨b, off, rfl, h5⟩
  · simp at hi
  · refine ⟨b, off, l[i], _, rfl, List.getElem?_eq_getElem hi, rfl, rfl, HD.one _, fun j v hv => ?_⟩
    have hj : j < 7 := (List.getElem?_eq_some_iff.1 hv).1
    have h6 := h5 i hi j hj
    rw [Nat.add_assoc, h6]; exact hv

/-- A history that may be read. -/
structure Hst where
  ca : Option Addr
  cc : Nat
  cs : List HC
  da : Option Addr
  dc : Nat
  ds : List HD
def Hst.cells (h : Hst) : Array Value := #[.slice h.ca h.cs.length h.cc, .slice h.da h.ds.length h.dc]
structure HstRd (w : World) (h : Hst) : Prop where
  cs : HCs w h.ca h.cc h.cs
  ds : HDs w h.da h.dc h.ds
theorem HstRd.below {w w' : World} {h : Hst} (r : HstRd w h) (hb : Below w.heap.size w w') : HstRd w' h := ⟨r.cs.below hb, r.ds.below hb⟩
def hstLeaves : List Leaf := [.sl hcLeaves, .sl hdLeaves]
theorem leaves_hist : leaves Try.prog 8 25 = some hstLeaves := by kernel_rfl
set_option maxRecDepth 100000 in
theorem hst_open {H : Type} {w : World} {enc : TypeId × Value → H} {base : Nat} {v : Value} {d : DataW H} {p : List MemPlace} (k : DataW.Trod enc Try.prog w 0 (fun _ => true) true 25 v d p) (o : Value.okWide Try.prog w .any base 25 v) : ∃ h : Hst, v = .agg h.cells ∧ HstRd w h := by
  obtain ⟨cs, rfl, -⟩ := Go.WideShapes.okWide_struct Try.underlying25 o
  have h := opened leaves_hist k
  unfold hstLeaves at h
  obtain ⟨c0, r, h0, g0, h⟩ := allHold_cons h
  obtain ⟨c1, r, rfl, g1, h⟩ := allHold_cons h
  obtain rfl := allHold_nil h
  obtain ⟨l, a, cap, rfl, h1⟩ := hcs_of g0
  obtain ⟨m, b, dap, rfl, h2⟩ := hds_of g1
  refine ⟨⟨a, cap, l, b, dap, m⟩, ?_, h1, h2⟩
  have : cs.toList = [.slice a l.length cap, .slice b m.length dap] := h0
  have e : cs = (⟨a, cap, l, b, dap, m⟩ : Hst).cells := Array.toList_inj.1 this
  rw [e]
end Go.Proofs.Ytmagpbbjjkmbpaa
