/-
  Texts of this prover, merged: NotesOf, RefNote, DropsDo, RDrops, NdActs, PairAllN, RefMay, WActs, WDo, HistDrops.
-/
import Derived.Test.YtdbgfidnccpmdaaGreatP1
import Derived.Test.YtdbgfidnccpmdaaGreatOpen
import Derived.Test.YtdbgfidnccpmdaaGreatP2
import Derived.Test.YtdbgfidnccpmdaaGreatPlacesMay
import Derived.Test.YtdbgfidnccpmdaaGreatItems
import Derived.Test.YtdbgfidnccpmdaaGreatHA
import Derived.Deep.RegionHeld2
import Derived.Deep.RegionHeldLaw
import Derived.Deep.AppendLies
import Derived.Deep.DeepCutAuto
import Derived.Deep.CutBlock
/-
  notes.List.Of: the notes of a kind, in new memory.
-/
namespace Go.Proofs.YtdbgfidnccpmdaaGreat
open Go.RowKit
set_option linter.unusedVariables false

def ofK (l : List Nte) (k : Int) : List Nte := l.filter fun n => n.kind == k
theorem ofK_take (l : List Nte) (kk : Int) (k : Nat) (h : k < l.length) : ofK (l.take (k + 1)) kk = if l[k].kind = kk then ofK (l.take k) kk ++ [l[k]] else ofK (l.take k) kk := by
  unfold ofK
  rw [List.take_add_one, List.getElem?_eq_getElem h]
  simp only [Option.toList, List.filter_append]
  by_cases hh : l[k].kind = kk
  · simp [hh]
  · simp [hh]
theorem ofK_le (l : List Nte) (kk : Int) (k : Nat) (hk : k ≤ l.length) : (ofK (l.take k) kk).length ≤ k := by
  have := List.length_filter_le (fun n : Nte => n.kind == kk) (l.take k)
  unfold ofK; simp at this ⊢; omega
theorem of_ask {w : World} {cb : Nat} {i : Nat} {kk : Int} (n : Nte) (hc : w.cell? ⟨cb, 0, none⟩ = some (.int .u8 kk)) : Calls Tryz.prog 167 #[.int .i64 i, .agg (nteC .u8 n).toArray, .pointer (some ⟨cb, 0, none⟩)] w fun e w' => e = .returned (.bool (n.kind == kk)) ∧ Below w.heap.size w w' := by
  have hb := below_alloc w (.cells (nteC .u8 n).toArray 153)
  have hz := heap_alloc_new w (.cells (nteC .u8 n).toArray 153)
  have hlt := World.block_lt_of_cell? _ _ hc
  have c0 : (w.alloc (.cells (nteC .u8 n).toArray 153)).cell? ⟨cb, 0, none⟩ = some (.int .u8 kk) := by rw [World.cell?_alloc_past _ _ _ hlt]; exact hc
  have z2 : (w.alloc (.cells (nteC .u8 n).toArray 153)).cell? ⟨w.heap.size, 2, none⟩ = some (.int .u8 n.kind) := hcell hz 2
  have HB := Lib.hid hb
  clear hb hc hlt hz
  go_enter Tryz.func167, Tryz.ntmps167
  go_upto_region 1 with (fail)
  change Code.wp _ _ _ _ (w.alloc (.cells (nteC .u8 n).toArray 153))
  generalize w.alloc (.cells (nteC .u8 n).toArray 153) = w1 at *
  go_wp2
  go_ret
  exact ⟨rfl, HB.out⟩
set_option maxRecDepth 10000 in
set_option maxHeartbeats 4000000 in
theorem picked_of {w : World} {base nb cb : Nat} {l : List Nte} {kk : Int} (h : NL w base nb 298 153 .u8 l) (hl : l.length ≤ 1048576) (hc : w.cell? ⟨cb, 0, none⟩ = some (.int .u8 kk)) :
    Calls Tryz.prog 166 #[.pointer (some ⟨nb, 0, none⟩), .func (.func 167) #[] #[.pointer (some ⟨cb, 0, none⟩)]] w fun e w' => ∃ v, e = .returned v ∧ NRow w' w.heap.size v (ofK l kk) ∧ Below w.heap.size w w' := by
  obtain ⟨a, cap, c0, hrow, hn⟩ := lnotes_any h
  obtain ⟨i0, hi0, hz0, hz1, hz2⟩ := info_parts info_note
  have HI := Lib.hid hi0; have HZ0 := Lib.hid hz0; have HZ1 := Lib.hid hz1; have HZ2 := Lib.hid hz2
  have HROW := Lib.hid hrow; have HC := Lib.hid hc; have HL := Lib.hid hl
  clear h hrow hc hl c0 hi0 hz0 hz1 hz2
  go_enter Tryz.func166, Tryz.ntmps166
  go_wp2_with (go_at_call 114; refine hn.mono ?_; rintro e w' ⟨rfl, hw⟩; obtain rfl := hw.symm; clear hn)
  go_loopw [5, 11] (fun v i wr => ∃ k : Nat, k ≤ l.length ∧ i = .int .i64 k ∧ wr.ownsRow w.heap.size 153 8 v (ofK (l.take k) kk).length ((ofK (l.take k) kk).flatMap (nteC .u8)) ∧ Below w.heap.size w wr) (fun _ i _ => l.length - (intOf i).toNat)
  case atStart => exact ⟨0, by omega, rfl, World.ownsRow_nil _ _ _ _, Below.refl _ _⟩
  case round =>
    obtain ⟨k, hk, rfl, hown, hbl⟩ := hrel
    have hl := HL.out
    by_cases hlt : k < l.length
    · have hlt' : (k : Int) < l.length := by omega
      obtain ⟨g, rfl, hcs⟩ := row8_at HROW.out k hlt
      obtain ⟨y, hy⟩ : ∃ y, y = l[k] := ⟨_, rfl⟩
      rw [← hy] at hcs
      have hgl : g < w.heap.size := World.block_lt_of_cell? _ _ ((hcs 0 (by omega)).trans rfl)
      have x : ∀ j, j < 8 → wr.cell? ⟨g, k * 8 + j, none⟩ = (nteC .u8 y)[j]? := fun j hj => (hbl.cell (p := ⟨g, k * 8 + j, none⟩) hgl).trans (hcs j hj)
      have x0 : wr.cell? ⟨g, k * 8, none⟩ = some (.int .i64 y.step) := x 0 (by omega)
      have x1 : wr.cell? ⟨g, k * 8 + 1, none⟩ = some (.int .i64 y.thread) := x 1 (by omega)
      have x2 : wr.cell? ⟨g, k * 8 + 2, none⟩ = some (.int .u8 y.kind) := x 2 (by omega)
      have x3 : wr.cell? ⟨g, k * 8 + 3, none⟩ = some (.int .i64 y.ref) := x 3 (by omega)
      have x4 : wr.cell? ⟨g, k * 8 + 4, none⟩ = some (.int .i64 y.bits) := x 4 (by omega)
      have x5 : wr.cell? ⟨g, k * 8 + 5, none⟩ = some (.int .i64 y.bucket) := x 5 (by omega)
      have x6 : wr.cell? ⟨g, k * 8 + 6, none⟩ = some (.int .i64 y.slot) := x 6 (by omega)
      have x7 : wr.cell? ⟨g, k * 8 + 7, none⟩ = some (.int .i64 y.value) := x 7 (by omega)
      have HOWN := Lib.hid hown; have HBL := Lib.hid hbl; have HY := Lib.hid hy
      clear hown hbl hcs x hy
      go_upto_region 5 with (fail)
      clear x0 x1 x2 x3 x4 x5 x6 x7
      have hb1 := below_alloc wr (.cells #[.int .i64 y.step, .int .i64 y.thread, .int .u8 y.kind, .int .i64 y.ref, .int .i64 y.bits, .int .i64 y.bucket, .int .i64 y.slot, .int .i64 y.value] 153)
      have hz1 := heap_alloc_new wr (.cells #[.int .i64 y.step, .int .i64 y.thread, .int .u8 y.kind, .int .i64 y.ref, .int .i64 y.bits, .int .i64 y.bucket, .int .i64 y.slot, .int .i64 y.value] 153)
      change Code.wp _ _ _ _ (wr.alloc (.cells #[.int .i64 y.step, .int .i64 y.thread, .int .u8 y.kind, .int .i64 y.ref, .int .i64 y.bits, .int .i64 y.bucket, .int .i64 y.slot, .int .i64 y.value] 153))
      generalize wr.alloc (.cells #[.int .i64 y.step, .int .i64 y.thread, .int .u8 y.kind, .int .i64 y.ref, .int .i64 y.bits, .int .i64 y.bucket, .int .i64 y.slot, .int .i64 y.value] 153) = w7 at *
      have hle := HBL.out.size
      have HR0 := Lib.hid (own_fr HOWN.out (below_fr hb1 (fun _ => false) false) rfl)
      generalize wr.heap.size = nq at *
      have x0 := hcell hz1 0; have x1 := hcell hz1 1; have x2 := hcell hz1 2; have x3 := hcell hz1 3
      have x4 := hcell hz1 4; have x5 := hcell hz1 5; have x6 := hcell hz1 6; have x7 := hcell hz1 7
      have hc7 : w7.cell? ⟨cb, 0, none⟩ = some (.int .u8 kk) := by
        have hB : Below w.heap.size w w7 := HBL.out.trans (hb1.mono hle)
        exact (hB.cell (p := ⟨cb, 0, none⟩) (World.block_lt_of_cell? _ _ HC.out)).trans HC.out
      have hask := of_ask (i := k) y hc7
      obtain ⟨bb, hbb⟩ : ∃ bb, bb = (y.kind == kk) := ⟨_, rfl⟩
      rw [← hbb] at hask
      have HBB := Lib.hid hbb
      have hle := ofK_le l kk k hk
      have HLE := Lib.hid hle
      clear hle hbb
      have HB1 : Hid (Below w.heap.size w w7) := HBL.out.trans (hb1.mono hle)
      have HZ := Lib.hid hz1
      clear hb1 hz1 hc7
      cases bb
      · have e1 : ofK (l.take (k + 1)) kk = ofK (l.take k) kk := by
          rw [ofK_take l kk k hlt, ← show y = l[k] from HY.out, if_neg (by simpa using HBB.out.symm)]
        have E1 := Lib.hid e1
        clear e1
        go_wp2_with (go_at_call 167; refine hask.mono ?_; intro e w8 hh; obtain ⟨hh1, b8⟩ := hh; subst hh1; have HB8 : Hid (Below w.heap.size w w8) := HB1.out.trans (b8.mono HB1.out.size); have hr8 := own_fr HR0.out (below_fr b8 (fun _ => false) false) rfl; have hz8 := (b8.block _ (Array.getElem?_eq_some_iff.1 HZ.out).1).trans HZ.out; clear b8 hask)
        go_roundw
        case rel => exact ⟨k + 1, by omega, by go_num, by rw [E1.out]; exact hr8, HB8.out⟩
        case measure => simp [intOf]; omega
      · go_upto_region 6 with (go_at_call 167; refine hask.mono ?_; intro e w8 hh; obtain ⟨hh1, b8⟩ := hh; subst hh1; have HB8 : Hid (Below w.heap.size w w8) := HB1.out.trans (b8.mono HB1.out.size); have hr8 := own_fr HR0.out (below_fr b8 (fun _ => false) false) rfl; have hz8 := (b8.block _ (Array.getElem?_eq_some_iff.1 HZ.out).1).trans HZ.out; clear b8 hask)
        clear x0 x1 x2 x3 x4 x5 x6 x7
        have x0 := hcell hz8 0; have x1 := hcell hz8 1; have x2 := hcell hz8 2; have x3 := hcell hz8 3
        have x4 := hcell hz8 4; have x5 := hcell hz8 5; have x6 := hcell hz8 6; have x7 := hcell hz8 7
        have HR8 := Lib.hid hr8
        clear hz8 hr8
        go_wp2_with (at_builtin; refine wpList_append_own _ rfl _ _ 150 rfl w.heap.size 153 i0 (.agg #[.int .i64 0, .int .i64 0, .int .u8 0, .int .i64 0, .int .i64 0, .int .i64 0, .int .i64 0, .int .i64 0]) 8 64 Tryz.underlying150 HI.out HZ0.out HZ1.out HZ2.out rfl (by decide) _ _ _ rfl (HR8.out.alloc _) ⟨w8.heap.size, 0, none⟩ 1 1 (nteC .u8 y) rfl rfl ?c1 ?c2 ?c3 ?c4 ?c5 ?_)
        case c1 => exact World.news_of_block (heap_alloc_new w8 _)
        case c2 => simp [Value.oneCell', nteC]
        case c3 => have := HLE.out; unfold maxLen; omega
        case c4 => have := HLE.out; omega
        case c5 => have := HB8.out.size; simp; omega
        intro v' w11 hown' hgrow _
        have hb10 := below_alloc w8 (.cells #[.int .i64 y.step, .int .i64 y.thread, .int .u8 y.kind, .int .i64 y.ref, .int .i64 y.bits, .int .i64 y.bucket, .int .i64 y.slot, .int .i64 y.value] 153)
        have hB11 : Below w.heap.size w w11 := grown_below (HR8.out.alloc _) hgrow (HB8.out.trans (hb10.mono HB8.out.size)) (Nat.le_trans HB8.out.size hb10.size) (Nat.le_refl _)
        have e0 : ofK (l.take (k + 1)) kk = ofK (l.take k) kk ++ [y] := by
          rw [ofK_take l kk k hlt, ← show y = l[k] from HY.out, if_pos (by simpa using HBB.out.symm)]
        have e1 : (ofK (l.take (k + 1)) kk).flatMap (nteC .u8) = (ofK (l.take k) kk).flatMap (nteC .u8) ++ nteC .u8 y := by rw [e0]; simp
        have e2 : (ofK (l.take (k + 1)) kk).length = (ofK (l.take k) kk).length + 1 := by rw [e0]; simp
        rw [← e1, ← e2] at hown'
        have HOW := Lib.hid hown'; have HBW := Lib.hid hB11
        clear hown' hB11 hgrow hb10 e0 e1 e2 x0 x1 x2 x3 x4 x5 x6 x7
        go_wp2_with fail
        go_roundw
        case rel => exact ⟨k + 1, by omega, by go_num, HOW.out, HBW.out⟩
        case measure => simp [intOf]; omega
    · obtain rfl : k = l.length := by omega
      rw [List.take_length] at hown
      have hcl := nclip_any hown
      have HBL := Lib.hid hbl
      clear hown hbl
      go_wp2_with (go_at_call 225; refine hcl.mono ?_; intro e w9 hh; obtain ⟨v', hh1, hr, hw⟩ := hh; subst hh1; obtain rfl := hw.symm; have HR := Lib.hid hr; clear hr hcl)
      go_ret
      exact ⟨_, rfl, HR.out, HBL.out⟩
theorem lof_any {w : World} {base nb : Nat} {l : List Nte} (h : NL w base nb 298 153 .u8 l) (hl : l.length ≤ 1048576) (kk : Int) :
    Calls Tryz.prog 81 #[.pointer (some ⟨nb, 0, none⟩), .int .u8 kk] w fun e w' => ∃ v, e = .returned v ∧ NRow w' w.heap.size v (ofK l kk) ∧ Below w.heap.size w w' := by
  have hb := below_alloc w (.cells #[.int .u8 kk] 39)
  have hz := heap_alloc_new w (.cells #[.int .u8 kk] 39)
  have hp := picked_of (cb := w.heap.size) (kk := kk) (h.fr (below_fr hb (fun _ => false) false) rfl rfl) hl (hcell hz 0)
  have HB := Lib.hid hb
  clear h hz hb
  go_enter Tryz.func81, Tryz.ntmps81
  go_wp2_with (go_at_call 166; refine hp.mono ?_; intro e w2 hh; obtain ⟨v, hh1, hr, b2⟩ := hh; subst hh1; have HR := Lib.hid hr; have B2 := Lib.hid b2; clear hr b2 hp)
  go_ret
  refine ⟨_, rfl, ?_, HB.out.trans (B2.out.mono HB.out.size)⟩
  rcases HR.out with h | ⟨g, cur, h1, h2, h3⟩
  · exact .inl h
  · exact .inr ⟨g, cur, h1, Nat.le_trans HB.out.size h2, h3⟩
end Go.Proofs.YtdbgfidnccpmdaaGreat

/-
  The document's notes: List.Add, and its world's note.
-/
namespace Go.Proofs.YtdbgfidnccpmdaaGreat
open Go.RowKit Go.Maps
set_option linter.unusedVariables false

theorem rinfo_note : (Tryz.prog.info? 196).map (fun i => (i.zero, i.size, i.bytes)) = some (some (.agg #[.int .i64 0, .int .i64 0, .int .i64 0, .int .i64 0, .int .i64 0, .int .i64 0, .int .i64 0, .int .i64 0]), 8, 64) := by kernel_rfl
def rnTy (T : TypeId) : Bool := T == 201 || T == 196
theorem rnTy_l (T : TypeId) (h : rnTy T = false) : (T == 201) = false := by unfold rnTy at h; simp only [Bool.or_eq_false_iff] at h; exact h.1
theorem rnTy_n (T : TypeId) (h : rnTy T = false) : (T == 196) = false := by unfold rnTy at h; simp only [Bool.or_eq_false_iff] at h; exact h.2
theorem rnte_at (l : List Nte) (k : Nat) (hk : k < l.length) (j : Nat) (hj : j < 8) : (l.flatMap (nteC .i64))[k * 8 + j]? = (nteC .i64 l[k])[j]? := by
  induction l generalizing k with
  | nil => simp at hk
  | cons x r ih =>
    rw [List.flatMap_cons]
    match k with
    | 0 =>
      rw [List.getElem?_append_left (by simp [nteC]; omega)]
      simp
    | k + 1 =>
      rw [List.getElem?_append_right (by simp [nteC]; omega)]
      have := ih k (by simp at hk; omega)
      simp only [List.getElem_cons_succ]
      rw [← this]
      congr 1
      simp [nteC]; omega
theorem rrow8_at {w : World} {base : Nat} {a : Option Addr} {cap : Nat} {l : List Nte} (h : w.ownsRow base 196 8 (.slice a l.length cap) l.length (l.flatMap (nteC .i64))) (k : Nat) (hk : k < l.length) :
    ∃ g, a = some ⟨g, 0, none⟩ ∧ ∀ j, j < 8 → w.cell? ⟨g, k * 8 + j, none⟩ = (nteC .i64 l[k])[j]? := by
  obtain ⟨h1, ⟨h2, h0⟩ | ⟨g, cap', cur, hv, hb, hg, hn, hm, hs, ht⟩⟩ := h
  · omega
  · simp only [Value.slice.injEq] at hv
    refine ⟨g, hv.1, fun j hj => ?_⟩
    rw [hcell hg, ← rnte_at l k hk j hj, ← ht, List.getElem?_take, if_pos (by omega)]
    simp
set_option maxRecDepth 10000 in
set_option maxHeartbeats 2000000 in
theorem rladd_no {w : World} {nb : Nat} {n : Nte} (hk : n.kind < 1 ∨ 9 < n.kind) :
    Calls Tryz.prog 79 #[.pointer (some ⟨nb, 0, none⟩), .agg (nteC .i64 n).toArray] w fun e w' => (∃ k, e = .returned (.int .i64 k)) ∧ Below w.heap.size w w' := by
  have hb := below_alloc w (.cells (nteC .i64 n).toArray 196)
  have hz := heap_alloc_new w (.cells (nteC .i64 n).toArray 196)
  have HB := Lib.hid hb; have HZ := Lib.hid hz; have HK := Lib.hid hk
  clear hb hz hk
  go_enter Tryz.func79, Tryz.ntmps79
  go_upto_region 1 with (fail)
  change Code.wp _ _ _ _ (w.alloc (.cells (nteC .i64 n).toArray 196))
  generalize w.alloc (.cells (nteC .i64 n).toArray 196) = w1 at *
  have z2 : w1.cell? ⟨w.heap.size, 2, none⟩ = some (.int .i64 n.kind) := hcell HZ.out 2
  rcases HK.out with hk | hk
  · have d1 : decide (n.kind < 1) = true := decide_eq_true hk
    go_wp2
    go_ret
    exact ⟨⟨_, rfl⟩, HB.out⟩
  · have d1 : decide (n.kind < 1) = false := decide_eq_false (by omega)
    have d2 : decide (9 < n.kind) = true := decide_eq_true hk
    go_wp2
    go_ret
    exact ⟨⟨_, rfl⟩, HB.out⟩
set_option maxRecDepth 10000 in
set_option maxHeartbeats 4000000 in
theorem rladd_ok {w0 w : World} {base nb : Nat} {l : List Nte} {n : Nte} (h : NL w base nb 201 196 .i64 l) (hB : Below base w0 w) (hsz : base ≤ w.heap.size) (hl : l.length < 1048576) (hk : 1 ≤ n.kind ∧ n.kind ≤ 9) (hs : ∀ y, l.getLast? = some y → y.step ≤ n.step) :
    Calls Tryz.prog 79 #[.pointer (some ⟨nb, 0, none⟩), .agg (nteC .i64 n).toArray] w fun e w' => (∃ k, e = .returned (.int .i64 k)) ∧ NL w' base nb 201 196 .i64 (l ++ [n]) ∧ Fr rnTy false w w' ∧ Below base w0 w' := by
  obtain ⟨i0, hi0, hz0, hz1, hz2⟩ := info_parts rinfo_note
  have HI := Lib.hid hi0; have HZ0 := Lib.hid hz0; have HZ1 := Lib.hid hz1; have HZ2 := Lib.hid hz2
  have hb := below_alloc w (.cells (nteC .i64 n).toArray 196)
  have hz := heap_alloc_new w (.cells (nteC .i64 n).toArray 196)
  have h1 := h.fr (below_fr hb (fun _ => false) false) rfl rfl
  have HBB : Hid (Below base w0 (w.alloc (.cells (nteC .i64 n).toArray 196))) := hB.trans (hb.mono hsz)
  have HSZ : Hid (base ≤ (w.alloc (.cells (nteC .i64 n).toArray 196)).heap.size) := Nat.le_trans hsz hb.size
  have HB := Lib.hid hb; have H1 := Lib.hid h1; have HZ := Lib.hid hz; have HL := Lib.hid hl; have HK := Lib.hid hk; have HS := Lib.hid hs
  clear h hb hz h1 hl hk hs hi0 hz0 hz1 hz2 hB hsz
  go_enter Tryz.func79, Tryz.ntmps79
  go_upto_region 1 with (fail)
  change Code.wp _ _ _ _ (w.alloc (.cells (nteC .i64 n).toArray 196))
  generalize w.alloc (.cells (nteC .i64 n).toArray 196) = w1 at *
  have z2 := hcell HZ.out 2
  have dk1 : decide (n.kind < 1) = false := decide_eq_false (by have := HK.out; omega)
  have dk2 : decide (9 < n.kind) = false := decide_eq_false (by have := HK.out; omega)
  have z2' : w1.cell? ⟨w.heap.size, 2, none⟩ = some (.int .i64 n.kind) := z2
  clear z2
  go_upto_region 3 with (fail)
  clear dk1 dk2 z2'
  have HFC0 : Hid (Fr rnTy false w w1) := below_fr HB.out _ _
  clear HB
  generalize w.heap.size = nq at *
  go_cut [36] (fun v wx => v = .bool false ∧ Below w1.heap.size w1 wx)
  case first =>
    obtain ⟨v0, hb1, hb2, hrow⟩ := H1.out
    obtain ⟨a, cap, rfl⟩ := own_sl2 hrow
    have c0 := hcell hb1 0
    clear hb1 hb2
    have hk := HK.out
    have hl := HL.out
    have x0 : ∀ st : ExtW w1, st.val.cell? ⟨nq, 0, none⟩ = some (.int .i64 n.step) := fun st => st.cell (hcell HZ.out 0)
    have y0 : ∀ st : ExtW w1, st.val.cell? ⟨nb, 0, none⟩ = some (.slice a l.length cap) := fun st => st.cell c0
    by_cases h0 : l.length = 0
    · have e0 : decide ((0 : Int) < l.length) = false := decide_eq_false (by omega)
      have e0n : decide (0 < l.length) = false := decide_eq_false (by omega)
      clear hrow c0 hk hl h0
      refine wp_region_ext (by kernel_rfl) (by kernel_rfl) ?_
      repeat (go_big_quiet_step (fail))
      refine wpQuiet_nil ?_
      rintro W ⟨⟨W2, hW⟩, rfl⟩
      clear x0 y0
      have HW := Lib.hid hW
      go_wp2_with fail
      go_meet
      case rel => exact ⟨rfl, HW.out⟩
    · obtain ⟨k, hk1⟩ : ∃ k, l.length = k + 1 := ⟨l.length - 1, by omega⟩
      have hkl : k < l.length := by omega
      obtain ⟨g, rfl, hcs⟩ := rrow8_at hrow k hkl
      have hst : (l[k]).step ≤ n.step := HS.out _ (by rw [List.getLast?_eq_getElem?, show l.length - 1 = k by omega]; exact List.getElem?_eq_getElem hkl)
      have y1 : ∀ st : ExtW w1, st.val.cell? ⟨g, k * 8, none⟩ = some (.int .i64 (l[k]).step) := fun st => st.cell (hcs 0 (by omega))
      generalize (l[k]).step = ys at *
      clear hrow c0 hk hcs hkl h0
      generalize l.length = L at *
      subst hk1
      have e0 : decide ((0 : Int) < ((k + 1 : Nat) : Int)) = true := decide_eq_true (by omega)
      have e0n : decide (0 < k + 1) = true := decide_eq_true (by omega)
      have d3 : decide (n.step < ys) = false := decide_eq_false (by omega)
      clear hst
      refine wp_region_ext (by kernel_rfl) (by kernel_rfl) ?_
      repeat (go_big_quiet_step (fail))
      refine wpQuiet_nil ?_
      rintro W ⟨⟨W2, hW⟩, rfl⟩
      clear x0 y0 y1
      have HW := Lib.hid hW
      go_wp2_with fail
      go_meet
      case rel => exact ⟨rfl, HW.out⟩
  case rest =>
  obtain ⟨hcv, hbx⟩ := hcut
  subst hcv
  have hnl := H1.out.fr (below_fr hbx (fun _ => false) false) rfl rfl
  have hnq := (hbx.block _ (Array.getElem?_eq_some_iff.1 HZ.out).1).trans HZ.out
  obtain ⟨v, hl1, hl2, hl3⟩ := hnl
  obtain ⟨ao, cap, rfl⟩ := own_sl2 hl3
  have hqlt := (Array.getElem?_eq_some_iff.1 hl1).1
  have hnlt := (Array.getElem?_eq_some_iff.1 hnq).1
  have l0 := hcell hl1 0
  have lf := hfrz hl1 0
  have l0' : ∀ o, (wc.alloc o).cell? ⟨nb, 0, none⟩ = some (.slice ao l.length cap) := fun o => by rw [World.cell?_alloc_past _ _ _ hqlt]; exact l0
  have lf' : ∀ o, (wc.alloc o).frozen? ⟨nb, 0, none⟩ = false := fun o => by rw [World.frozen?_alloc_past _ _ _ hqlt]; exact lf
  have hl := HL.out
  have dm : decide ((1048576 : Int) ≤ l.length) = false := decide_eq_false (by omega)
  have k0 : wc.cell? ⟨nq, 0, none⟩ = some (.int .i64 n.step) := hcell hnq 0
  have k1 : wc.cell? ⟨nq, 1, none⟩ = some (.int .i64 n.thread) := hcell hnq 1
  have k2 : wc.cell? ⟨nq, 2, none⟩ = some (.int .i64 n.kind) := hcell hnq 2
  have k3 : wc.cell? ⟨nq, 3, none⟩ = some (.int .i64 n.ref) := hcell hnq 3
  have k4 : wc.cell? ⟨nq, 4, none⟩ = some (.int .i64 n.bits) := hcell hnq 4
  have k5 : wc.cell? ⟨nq, 5, none⟩ = some (.int .i64 n.bucket) := hcell hnq 5
  have k6 : wc.cell? ⟨nq, 6, none⟩ = some (.int .i64 n.slot) := hcell hnq 6
  have k7 : wc.cell? ⟨nq, 7, none⟩ = some (.int .i64 n.value) := hcell hnq 7
  have E2 : Hid (l.length + 1 ≤ maxLen) := by unfold maxLen; show l.length + 1 ≤ _; omega
  have E3 : Hid ((l.length + 1) * 64 ≤ 140737488355328) := by show (l.length + 1) * 64 ≤ 140737488355328; omega
  have E4 : Hid (base ≤ wc.heap.size) := Nat.le_trans HSZ.out hbx.size
  have HNW : Hid (((wc.drew).alloc (.cells #[.int .i64 n.step, .int .i64 n.thread, .int .i64 n.kind, .int .i64 n.ref, .int .i64 n.bits, .int .i64 n.bucket, .int .i64 n.slot, .int .i64 n.value] 196)).heap[wc.heap.size]? = some (.cells #[.int .i64 n.step, .int .i64 n.thread, .int .i64 n.kind, .int .i64 n.ref, .int .i64 n.bits, .int .i64 n.bucket, .int .i64 n.slot, .int .i64 n.value] 196 (0, 0))) := heap_alloc_new (wc.drew) _
  have HW0 : Hid (Below wc.heap.size wc ((wc.drew).alloc (.cells #[.int .i64 n.step, .int .i64 n.thread, .int .i64 n.kind, .int .i64 n.ref, .int .i64 n.bits, .int .i64 n.bucket, .int .i64 n.slot, .int .i64 n.value] 196))) := ((Below.refl _ _).drew).alloc (Nat.le_refl _) _
  have HBC : Hid (Below base w0 wc) := HBB.out.trans (hbx.mono HSZ.out)
  have HFC : Hid (Fr rnTy false w wc) := HFC0.out.trans (below_fr hbx _ _)
  have HL1 := Lib.hid hl1; have HL3 := Lib.hid hl3; have HLO := Lib.hid hl2
  clear hl1 hl3 hl2 hnq hbx H1 HS HK
  go_upto_region 7 with (fail)
  clear dm hl
  go_region_law ((refine step_append_lies _ (by rfl) _ _ _ (by rfl) base 196 i0 _ 8 64 Tryz.underlying199 HI.out HZ0.out HZ1.out HZ2.out rfl (by decide) (.slice ao l.length cap) l.length (l.flatMap (nteC .i64)) (by rfl) ((HL3.out.drew).alloc _) ⟨wc.heap.size, 0, none⟩ 1 1 (nteC .i64 n) (by rfl) (by rfl) (World.news_of_block (cs := #[.int .i64 n.step, .int .i64 n.thread, .int .i64 n.kind, .int .i64 n.ref, .int .i64 n.bits, .int .i64 n.bucket, .int .i64 n.slot, .int .i64 n.value]) (t := 196) (fr := (0, 0)) HNW.out) (by simp [Value.oneCell', nteC]) (by omega) E2.out E3.out (by have := E4.out; simp; omega) (wc.heap.size + 1) (by simp) ?_; intro g cap1 w4 hown1 hgrow hat hlt; have HOW := Lib.hid hown1; have HGR := Lib.hid hgrow; have hq4 : w4.heap[nb]? = some (.cells #[.slice ao l.length cap] 201 (0, 0)) := (grown_ty ((HL3.out.drew).alloc _) hgrow).cells _ _ _ _ ((HW0.out.block _ (Array.getElem?_eq_some_iff.1 HL1.out).1).trans HL1.out) rfl; have t0 := hcell hq4 0; have t1 := hfrz hq4 0; have HQ4 := Lib.hid hq4; clear hown1 hgrow hat hlt hq4))
  all_goals
    have hB4 : Below base w0 w4 := grown_below ((HL3.out.drew).alloc _) HGR.out (HBC.out.trans (HW0.out.mono E4.out)) (Nat.le_trans E4.out HW0.out.size) (Nat.le_refl _)
    have f4 : Fr rnTy false wc w4 := (below_fr HW0.out _ _).trans ((grown_ty ((HL3.out.drew).alloc _) HGR.out).mono rnTy_n id)
    have f5 := set_ty HQ4.out 0 (.slice (some ⟨g, 0, none⟩) (l.length + 1) cap1)
    have hB5 := set_below hB4 (Nat.le_trans E4.out f4.size) HLO.out 0 (.slice (some ⟨g, 0, none⟩) (l.length + 1) cap1)
    have hq5 := setCell_same HQ4.out 0 (.slice (some ⟨g, 0, none⟩) (l.length + 1) cap1)
    have h1 := own_fr HOW.out f5 rfl
    have FIN : Hid (NL (w4.setCell ⟨nb, 0, none⟩ (.slice (some ⟨g, 0, none⟩) (l.length + 1) cap1)) base nb 201 196 .i64 (l ++ [n]) ∧ Fr rnTy false w (w4.setCell ⟨nb, 0, none⟩ (.slice (some ⟨g, 0, none⟩) (l.length + 1) cap1)) ∧ Below base w0 (w4.setCell ⟨nb, 0, none⟩ (.slice (some ⟨g, 0, none⟩) (l.length + 1) cap1))) := by
      refine ⟨⟨_, hq5, HLO.out, ?_⟩, (HFC.out.trans f4).trans (f5.mono rnTy_l id), hB5⟩
      rw [List.length_append, List.flatMap_append]
      simpa using h1
    clear hB4 f4 f5 hB5 hq5 h1 HQ4 HGR HOW t0 t1 l0 l0' lf lf' k0 k1 k2 k3 k4 k5 k6 k7
    generalize w4.setCell ⟨nb, 0, none⟩ (.slice (some ⟨g, 0, none⟩) (l.length + 1) cap1) = w5 at *
    go_wp2_with fail
    go_ret
    exact ⟨⟨_, rfl⟩, FIN.out⟩
theorem rnTy_r (T : TypeId) (h : rTy T = false) : rnTy T = false := by
  unfold rTy at h
  simp only [Bool.or_eq_false_iff] at h
  unfold rnTy
  rw [h.1.2, h.2]; rfl
section
variable {w0 w w' : World} {B : WB} {V : WV} {x : RS}
theorem RD.noted (h : RD w0 w B V x) {l : List Nte} (hn : NL w' w0.heap.size B.nb 201 196 .i64 l) (hf : Fr rnTy false w w') (hB : Below w0.heap.size w0 w') : RD w0 w' B { V with nts := l } x := by
  obtain ⟨S, ha⟩ := h.ar
  obtain ⟨lv, hr⟩ := h.ref
  exact ⟨hB, ⟨lv, hf.cells _ _ _ _ hr.hdr rfl, hr.lo, own_fr hr.row hf rfl, hr.wf⟩, hf.cells _ _ _ _ h.blk rfl, h.lo, ⟨S, ha.fr hf rfl rfl⟩, hn, h.tkl⟩
theorem RD.hd5 (h : RD w0 w B V x) : w.cell? ⟨B.wb, 0, none⟩ = some (.pointer (some ⟨B.cb, 0, none⟩)) ∧ w.cell? ⟨B.wb, 1, none⟩ = some (.pointer (some ⟨B.ib, 0, none⟩)) ∧ w.cell? ⟨B.wb, 2, none⟩ = some (.pointer (some ⟨B.nb, 0, none⟩)) ∧ w.cell? ⟨B.wb, 72, none⟩ = some (.int .i64 V.hd) :=
  ⟨h.c0, (h.cell 1).trans (val_at B V h.tkl).2.1, (h.cell 2).trans (val_at B V h.tkl).2.2.1, (h.cell 72).trans (val_at B V h.tkl).2.2.2.2.2⟩
theorem rwladd (h : RD w0 w B V x) (n : Nte) (hl : V.nts.length < 1048576) (hs : Nsteps V.nts n.step) :
    Calls Tryz.prog 79 #[.pointer (some ⟨B.nb, 0, none⟩), .agg (nteC .i64 n).toArray] w fun e w' => (∃ k, e = .returned (.int .i64 k)) ∧ RD w0 w' B { V with nts := nadd V.nts n } x ∧ Fr rnTy false w w' := by
  by_cases hk : 1 ≤ n.kind ∧ n.kind ≤ 9
  · refine (rladd_ok h.nt h.below h.below.size hl hk (fun y hy => hs y (List.mem_of_getLast? hy))).mono fun e w' ⟨h1, h2, h3, h4⟩ => ⟨h1, ?_, h3⟩
    have : nadd V.nts n = V.nts ++ [n] := by unfold nadd; rw [if_pos hk]
    rw [this]
    exact h.noted h2 h3 h4
  · refine (rladd_no (by omega)).mono fun e w' ⟨h1, h2⟩ => ⟨h1, ?_, below_fr h2 _ _⟩
    have : nadd V.nts n = V.nts := by unfold nadd; rw [if_neg hk]
    rw [this]
    exact h.keep h2
set_option maxRecDepth 10000 in
set_option maxHeartbeats 2000000 in
theorem rnote_any (h : RD w0 w B V x) (k r b u sl v : Int) (hl : V.nts.length < 1048576) (hs : Nsteps V.nts x.cnt) :
    Calls Tryz.prog 15 #[.pointer (some ⟨B.wb, 0, none⟩), .int .i64 k, .int .i64 r, .agg #[.int .i64 b, .int .i64 u, .int .i64 sl], .int .i64 v] w fun e w' => e = .returned (.tuple #[]) ∧ RD w0 w' B { V with nts := nadd V.nts ⟨x.cnt, V.hd, k, r, b, u, sl, v⟩ } x ∧ Fr rTy false w w' := by
  have hb := below_alloc w (.cells #[.int .i64 b, .int .i64 u, .int .i64 sl] 43)
  have hz := heap_alloc_new w (.cells #[.int .i64 b, .int .i64 u, .int .i64 sl] 43)
  have h1 := h.keep hb
  have HB := Lib.hid hb; have HZ := Lib.hid hz; have H1 := Lib.hid h1; have HL := Lib.hid hl; have HS := Lib.hid hs
  clear h hb hz h1 hl hs
  go_enter Tryz.func15, Tryz.ntmps15
  go_upto_region 1 with (fail)
  change Code.wp _ _ _ _ (w.alloc (.cells #[.int .i64 b, .int .i64 u, .int .i64 sl] 43))
  generalize w.alloc (.cells #[.int .i64 b, .int .i64 u, .int .i64 sl] 43) = w1 at *
  have HB0 : Hid (Fr rTy false w w1) := below_fr HB.out _ _
  clear HB
  generalize w.heap.size = nq at *
  have x2 : ∀ st : ExtW w1, st.val.cell? ⟨B.wb, 2, none⟩ = some (.pointer (some ⟨B.nb, 0, none⟩)) := fun st => st.cell H1.out.hd5.2.2.1
  have x72 : ∀ st : ExtW w1, st.val.cell? ⟨B.wb, 72, none⟩ = some (.int .i64 V.hd) := fun st => st.cell H1.out.hd5.2.2.2
  have z0 : ∀ st : ExtW w1, st.val.cell? ⟨nq, 0, none⟩ = some (.int .i64 b) := fun st => st.cell (hcell HZ.out 0)
  have z1 : ∀ st : ExtW w1, st.val.cell? ⟨nq, 1, none⟩ = some (.int .i64 u) := fun st => st.cell (hcell HZ.out 1)
  have z2 : ∀ st : ExtW w1, st.val.cell? ⟨nq, 2, none⟩ = some (.int .i64 sl) := fun st => st.cell (hcell HZ.out 2)
  have m1 : ∀ st : ExtW w1, Calls Tryz.prog 80 #[.pointer (some ⟨B.wb, 0, none⟩)] st.val fun e w' => e = .returned (.int .i64 x.cnt) ∧ st.val = w' := fun st => (rwsteps (H1.out.keep st.below)).mono fun e w' ⟨h1, h2⟩ => ⟨h1, h2.symm⟩
  refine wp_region_ext_tail 15 (by kernel_rfl) (by kernel_rfl) ?_
  simp only [List.take_succ_cons, List.take_zero, List.drop_succ_cons, List.drop_zero]
  repeat (go_big_quiet_step ((go_at_call 80; with_reducible refine calls_ext_same (m1 _))))
  refine wpQuiet_nil ?_
  rintro W ⟨⟨W2, hW⟩, rfl⟩
  clear x2 x72 z0 z1 z2 m1
  have hadd := rwladd (H1.out.keep hW) ⟨x.cnt, V.hd, k, r, b, u, sl, v⟩ HL.out HS.out
  have HW := Lib.hid hW
  clear hW
  go_wp2_with (go_at_call 79; refine hadd.mono ?_; intro e w3 hh; obtain ⟨⟨kk, hh1⟩, h3, f3⟩ := hh; subst hh1; have H3 := Lib.hid h3; have F3 := Lib.hid f3; clear h3 f3 hadd)
  go_end0
  exact ⟨rfl, H3.out, (HB0.out.trans (below_fr HW.out _ _)).trans (F3.out.mono rnTy_r id)⟩
end
end Go.Proofs.YtdbgfidnccpmdaaGreat

/-
  hists.Drops and the document's: the drops of a world, by its notes.
-/
namespace Go.Proofs.YtdbgfidnccpmdaaGreat
open Go.RowKit
set_option linter.unusedVariables false

def drC (its : List Itm) (n : Nte) : List Value := .int .i64 n.step :: (atOf its n.ref).1.cells
theorem drC_len (its : List Itm) (n : Nte) : (drC its n).length = 7 := rfl
theorem drC_one (its : List Itm) (n : Nte) : ∀ u ∈ drC its n, u.oneCell' = true := by
  intro u hu
  simp only [drC, Itm.cells, List.mem_cons, List.not_mem_nil, or_false] at hu
  rcases hu with rfl | rfl | rfl | rfl | rfl | rfl | rfl <;> rfl
theorem dr_at (its : List Itm) (l : List Nte) (k : Nat) (hk : k < l.length) (j : Nat) (hj : j < 7) : (l.flatMap (drC its))[k * 7 + j]? = (drC its l[k])[j]? := by
  induction l generalizing k with
  | nil => simp at hk
  | cons x r ih =>
    rw [List.flatMap_cons]
    match k with
    | 0 =>
      rw [List.getElem?_append_left (by rw [drC_len]; omega)]
      simp
    | k + 1 =>
      rw [List.getElem?_append_right (by rw [drC_len]; omega)]
      have := ih k (by simp at hk; omega)
      simp only [List.getElem_cons_succ]
      rw [← this, drC_len]
      congr 1
      omega
theorem dr_take (its : List Itm) (l : List Nte) (k : Nat) (h : k < l.length) : (l.take (k + 1)).flatMap (drC its) = (l.take k).flatMap (drC its) ++ drC its l[k] := by
  rw [List.take_add_one, List.getElem?_eq_getElem h, List.flatMap_append]; simp
theorem info_drop : (Tryz.prog.info? 54).map (fun i => (i.zero, i.size, i.bytes)) = some (some (.agg #[.int .i64 0, .string ⟨#[]⟩, .string ⟨#[]⟩, .int .u32 0, .int .u64 0, .int .i64 0, .int .i64 0]), 7, 72) := by kernel_rfl
theorem info_rdrop : (Tryz.prog.info? 55).map (fun i => (i.zero, i.size, i.bytes)) = some (some (.agg #[.int .i64 0, .string ⟨#[]⟩, .string ⟨#[]⟩, .int .u32 0, .int .u64 0, .int .i64 0, .int .i64 0]), 7, 72) := by kernel_rfl
/-- A row of drops that the call made, without room behind it. -/
def DRow (w : World) (base T : Nat) (v : Value) (its : List Itm) (l : List Nte) : Prop :=
  (v = .slice none 0 0 ∧ l = []) ∨ ∃ g cap cur, v = .slice (some ⟨g, 0, none⟩) l.length cap ∧ base ≤ g ∧ w.heap[g]? = some (.cells cur T (0, 0)) ∧ l.length ≤ cap ∧ cap ≤ maxLen ∧ cur.toList.take (l.length * 7) = l.flatMap (drC its)
theorem drow_own {w : World} {base T : Nat} {v : Value} {its : List Itm} {l : List Nte} (h : w.ownsRow base T 7 v l.length (l.flatMap (drC its))) : DRow w base T v its l := by
  obtain ⟨h1, ⟨rfl, h0⟩ | ⟨g, cap, cur, rfl, hb, hg, hn, hm, hs, ht⟩⟩ := h
  · exact .inl ⟨rfl, List.length_eq_zero_iff.1 h0⟩
  · exact .inr ⟨g, cap, cur, rfl, hb, hg, hn, hm, ht⟩
theorem DRow.below {w w' : World} {base T : Nat} {v : Value} {its : List Itm} {l : List Nte} (h : DRow w base T v its l) (hb : Below w.heap.size w w') : DRow w' base T v its l :=
  h.imp id fun ⟨g, cap, cur, hv, h1, h2, h3⟩ => ⟨g, cap, cur, hv, h1, (hb.block _ (Array.getElem?_eq_some_iff.1 h2).1).trans h2, h3⟩
theorem DRow.at {w : World} {base T : Nat} {v : Value} {its : List Itm} {l : List Nte} (h : DRow w base T v its l) (k : Nat) (hk : k < l.length) : ∃ g cap, v = .slice (some ⟨g, 0, none⟩) l.length cap ∧ ∀ j, j < 7 → w.cell? ⟨g, k * 7 + j, none⟩ = (drC its l[k])[j]? := by
  rcases h with ⟨-, h0⟩ | ⟨g, cap, cur, hv, hb, hg, hn, hm, ht⟩
  · subst h0; simp at hk
  · refine ⟨g, cap, hv, fun j hj => ?_⟩
    rw [hcell hg, ← dr_at its l k hk j hj, ← ht, List.getElem?_take, if_pos (by omega)]
    simp
theorem dclip_any {w : World} {base : Nat} {v : Value} {its : List Itm} {l : List Nte} (h : w.ownsRow base 54 7 v l.length (l.flatMap (drC its))) : Calls Tryz.prog 82 #[v] w fun e w' => (∃ a, e = .returned (.slice a l.length l.length) ∧ DRow w base 54 (.slice a l.length l.length) its l) ∧ w' = w := by
  obtain ⟨h1, ⟨rfl, h0⟩ | ⟨g, cap, cur, rfl, hb, hg, hn, hm, hs, ht⟩⟩ := h
  · have : l = [] := List.length_eq_zero_iff.1 h0
    subst this
    clear h1 h0
    go_enter Tryz.func82, Tryz.ntmps82
    go_wp2
    go_ret
    exact ⟨⟨_, rfl, .inl ⟨rfl, rfl⟩⟩, rfl⟩
  · have hm2 := Nat.le_trans hn hm
    have H : Hid (DRow w base 54 (.slice (some ⟨g, 0, none⟩) l.length l.length) its l) := .inr ⟨g, _, cur, rfl, hb, hg, Nat.le_refl _, hm2, ht⟩
    unfold maxLen at hm hm2
    clear h1 hb hg hs ht
    go_enter Tryz.func82, Tryz.ntmps82
    go_wp2
    go_ret
    exact ⟨⟨_, rfl, H.out⟩, rfl⟩
theorem drops_nil (w : World) : Calls Tryz.prog 16 #[.pointer none] w fun e w' => e = .returned (.slice none 0 0) ∧ w' = w := by
  go_enter Tryz.func16, Tryz.ntmps16
  go_wp2
  go_ret
  exact ⟨rfl, rfl⟩
abbrev TDr (wb ib nq : Nat) (r : Int) (W : World) : Prop := W.cell? ⟨wb, 1, none⟩ = some (.pointer (some ⟨ib, 0, none⟩)) ∧ W.cell? ⟨nq, 3, none⟩ = some (.int .i64 r)
theorem tdr_al {wb ib nq : Nat} {r : Int} {W : World} (h : TDr wb ib nq r W) (o : Obj) : TDr wb ib nq r (W.alloc o) :=
  ⟨by rw [World.cell?_alloc_past _ _ _ (World.block_lt_of_cell? _ _ h.1)]; exact h.1, by rw [World.cell?_alloc_past _ _ _ (World.block_lt_of_cell? _ _ h.2)]; exact h.2⟩
set_option maxRecDepth 10000 in
set_option maxHeartbeats 4000000 in
theorem drops_any {w0 w : World} {B : WB} {V : WV} {s : CS} (h : WS w0 w B V s) (hn : V.nts.length ≤ 1000) (hi : V.its.length ≤ 1048576) : Calls Tryz.prog 16 #[.pointer (some ⟨B.wb, 0, none⟩)] w fun e w' => (∃ a, e = .returned (.slice a (ofK V.nts 1).length (ofK V.nts 1).length) ∧ DRow w' w.heap.size 54 (.slice a (ofK V.nts 1).length (ofK V.nts 1).length) V.its (ofK V.nts 1)) ∧ Below w.heap.size w w' := by
  obtain ⟨i0, hi0, hz0, hz1, hz2⟩ := info_parts info_drop
  have HI := Lib.hid hi0; have HZ0 := Lib.hid hz0; have HZ1 := Lib.hid hz1; have HZ2 := Lib.hid hz2
  have hof := lof_any h.nt (by omega) 1
  have hle := ofK_le V.nts 1 V.nts.length (Nat.le_refl _)
  rw [List.take_length] at hle
  have hle2 := Nat.le_trans hle hn
  obtain ⟨L, hL⟩ : ∃ L, L = ofK V.nts 1 := ⟨_, rfl⟩
  rw [← hL] at hof hle2 ⊢
  have c2 := h.hd5.2.2.1
  have hq2 : ((B.wb : Int) == (-1)) = false := beq_eq_false_iff_ne.2 (by omega)
  have H := Lib.hid h; have HL := Lib.hid hle2; have HIT := Lib.hid hi
  clear h hi0 hz0 hz1 hz2 hL hle hn hle2 hi hq2
  go_enter Tryz.func16, Tryz.ntmps16
  go_upto_region 5 with (go_at_call 81; refine hof.mono ?_; intro e w2 hh; obtain ⟨v, hh1, hr, b2⟩ := hh; subst hh1; have HR := Lib.hid hr; have B2 := Lib.hid b2; obtain ⟨a, hv⟩ : ∃ a, v = .slice a L.length L.length := by { rcases hr with ⟨hv, h0⟩ | ⟨g, cur, hv, _⟩; exact ⟨none, by rw [hv, h0]; rfl⟩; exact ⟨_, hv⟩ }; have HV := Lib.hid hv; rw [hv]; clear hr b2 hof c2 hv)
  go_loopw [3, 16] (fun o i wr => ∃ k : Nat, k ≤ L.length ∧ i = .int .i64 k ∧ wr.ownsRow w2.heap.size 54 7 o k ((L.take k).flatMap (drC V.its)) ∧ Below w2.heap.size w2 wr) (fun _ i _ => L.length - (intOf i).toNat)
  case atStart => exact ⟨0, by omega, rfl, World.ownsRow_nil _ _ _ _, Below.refl _ _⟩
  case round =>
    obtain ⟨k, hk, rfl, hown, hbl⟩ := hrel
    by_cases hlt : k < L.length
    · have hlt' : (k : Int) < L.length := by omega
      have hle := HL.out
      obtain ⟨g, hv, hcs⟩ := HR.out.at k hlt
      have hv2 := HV.out.symm.trans hv
      simp only [Value.slice.injEq, and_true] at hv2
      subst hv2
      obtain ⟨y, hy⟩ : ∃ y, y = L[k] := ⟨_, rfl⟩
      rw [← hy] at hcs
      have hgl : g < w2.heap.size := World.block_lt_of_cell? _ _ ((hcs 0 (by omega)).trans rfl)
      have x : ∀ j, j < 8 → wr.cell? ⟨g, k * 8 + j, none⟩ = (nteC .u8 y)[j]? := fun j hj => (hbl.cell (p := ⟨g, k * 8 + j, none⟩) hgl).trans (hcs j hj)
      have x0 : wr.cell? ⟨g, k * 8, none⟩ = some (.int .i64 y.step) := x 0 (by omega)
      have x1 : wr.cell? ⟨g, k * 8 + 1, none⟩ = some (.int .i64 y.thread) := x 1 (by omega)
      have x2 : wr.cell? ⟨g, k * 8 + 2, none⟩ = some (.int .u8 y.kind) := x 2 (by omega)
      have x3 : wr.cell? ⟨g, k * 8 + 3, none⟩ = some (.int .i64 y.ref) := x 3 (by omega)
      have x4 : wr.cell? ⟨g, k * 8 + 4, none⟩ = some (.int .i64 y.bits) := x 4 (by omega)
      have x5 : wr.cell? ⟨g, k * 8 + 5, none⟩ = some (.int .i64 y.bucket) := x 5 (by omega)
      have x6 : wr.cell? ⟨g, k * 8 + 6, none⟩ = some (.int .i64 y.slot) := x 6 (by omega)
      have x7 : wr.cell? ⟨g, k * 8 + 7, none⟩ = some (.int .i64 y.value) := x 7 (by omega)
      have HOWN := Lib.hid hown; have HBL := Lib.hid hbl; have HY := Lib.hid (show L[k]? = some y by rw [hy]; exact List.getElem?_eq_getElem hlt); have HLT := Lib.hid hlt
      clear hown hbl hcs x hy hv hlt hk
      go_upto_region 7 with (fail)
      clear x0 x1 x2 x3 x4 x5 x6 x7
      have hb1 := below_alloc wr (.cells #[.int .i64 y.step, .int .i64 y.thread, .int .u8 y.kind, .int .i64 y.ref, .int .i64 y.bits, .int .i64 y.bucket, .int .i64 y.slot, .int .i64 y.value] 153)
      have hz1 := heap_alloc_new wr (.cells #[.int .i64 y.step, .int .i64 y.thread, .int .u8 y.kind, .int .i64 y.ref, .int .i64 y.bits, .int .i64 y.bucket, .int .i64 y.slot, .int .i64 y.value] 153)
      change Code.wp _ _ _ _ (wr.alloc (.cells #[.int .i64 y.step, .int .i64 y.thread, .int .u8 y.kind, .int .i64 y.ref, .int .i64 y.bits, .int .i64 y.bucket, .int .i64 y.slot, .int .i64 y.value] 153))
      generalize wr.alloc (.cells #[.int .i64 y.step, .int .i64 y.thread, .int .u8 y.kind, .int .i64 y.ref, .int .i64 y.bits, .int .i64 y.bucket, .int .i64 y.slot, .int .i64 y.value] 153) = w7 at *
      have hs2 := HBL.out.size
      have HB7 := Lib.hid (HBL.out.trans (hb1.mono hs2))
      have HR0 := Lib.hid (own_fr HOWN.out (below_fr hb1 (fun _ => false) false) rfl)
      generalize wr.heap.size = nq at *
      have HZ := Lib.hid hz1
      clear hb1 hz1 HOWN
      obtain ⟨X, hX⟩ : ∃ X, X = (atOf V.its y.ref).1 := ⟨_, rfl⟩
      have hws : ∀ W, Below w7.heap.size w7 W → WS w0 W B V s := fun W hW => H.out.keep (B2.out.trans ((HB7.out.trans (hW.mono HB7.out.size)).mono B2.out.size))
      have hat : ∀ W, Below w7.heap.size w7 W → Calls Tryz.prog 40 #[.pointer (some ⟨B.ib, 0, none⟩), .int .i64 y.ref] W fun e w' => e = .returned (.tuple #[.agg #[.string (X).key, .string (X).val, .int .u32 (X).flags, .int .u64 (X).id, .int .i64 (X).dies, .int .i64 (X).gen], .bool (atOf V.its y.ref).2]) ∧ Below W.heap.size W w' := fun W hW => by rw [hX]; exact (hws W hW).iat5 HIT.out y.ref
      have HAT := Lib.hid hat; have HX := Lib.hid hX
      have t7 : TDr B.wb B.ib nq y.ref w7.drew := ⟨(hws w7.drew (Below.refl _ _).drew).hd5.2.1, hcell (w := w7.drew) HZ.out 3⟩
      have h78 : ∀ W W', Below w7.heap.size w7 W → Below W.heap.size W W' → Below w7.heap.size w7 W' ∧ TDr B.wb B.ib nq y.ref W' := fun W W' h1 h2 => by
        have h3 := h1.trans (h2.mono h1.size)
        exact ⟨h3, (hws W' h3).hd5.2.1, hcell ((h3.block _ (Array.getElem?_eq_some_iff.1 HZ.out).1).trans HZ.out) 3⟩
      have H78 := Lib.hid h78
      clear hat hX hws h78
      go_cut [6] (fun v6 wx => ∃ xb, v6 = .pointer (some ⟨xb, 0, none⟩) ∧ wx.heap[xb]? = some (.cells X.cells.toArray 52 (0, 0)) ∧ Below w7.heap.size w7 wx)
      case first =>
        have d1 := t7.1; have d3 := t7.2
        have e1 : ∀ o, (w7.alloc o).cell? ⟨B.wb, 1, none⟩ = some (.pointer (some ⟨B.ib, 0, none⟩)) := fun o => (tdr_al t7 o).1
        have e3 : ∀ o, (w7.alloc o).cell? ⟨nq, 3, none⟩ = some (.int .i64 y.ref) := fun o => (tdr_al t7 o).2
        have d1 : w7.cell? ⟨B.wb, 1, none⟩ = some (.pointer (some ⟨B.ib, 0, none⟩)) := t7.1
        have d3 : w7.cell? ⟨nq, 3, none⟩ = some (.int .i64 y.ref) := t7.2
        clear t7
        go_region_with (go_at_call 40; (with_reducible refine (HAT.out _ (by first | exact (Below.refl _ _).drew | exact ((Below.refl _ _).drew).alloc (Nat.le_refl _) _ | exact ((Below.refl _ _).alloc (Nat.le_refl _) _).drew)).mono ?_); intro e w8 hh; obtain ⟨hh1, b8⟩ := hh; subst hh1; obtain ⟨b8', t8⟩ := H78.out _ _ (by first | exact (Below.refl _ _).drew | exact ((Below.refl _ _).drew).alloc (Nat.le_refl _) _ | exact ((Below.refl _ _).alloc (Nat.le_refl _) _).drew) b8; have B8 := Lib.hid b8'; (try (have hz8 : w8.heap[w7.heap.size]? = some (.cells Itm.zero.cells.toArray 52 (0, 0)) := (b8.block w7.heap.size (by simp)).trans (heap_alloc_new w7 _); have HZ8 := Lib.hid hz8; have k0 : w8.cell? ⟨w7.heap.size, 0, none⟩ = some (.string ⟨#[]⟩) := hcell hz8 0; have k1 : w8.cell? ⟨w7.heap.size, 1, none⟩ = some (.string ⟨#[]⟩) := hcell hz8 1; have k2 : w8.cell? ⟨w7.heap.size, 2, none⟩ = some (.int .u32 0) := hcell hz8 2; have k3 : w8.cell? ⟨w7.heap.size, 3, none⟩ = some (.int .u64 0) := hcell hz8 3; have k4 : w8.cell? ⟨w7.heap.size, 4, none⟩ = some (.int .i64 0) := hcell hz8 4; have k5 : w8.cell? ⟨w7.heap.size, 5, none⟩ = some (.int .i64 0) := hcell hz8 5; have f0 := hfrz hz8 0; have f1 := hfrz hz8 1; have f2 := hfrz hz8 2; have f3 := hfrz hz8 3; have f4 := hfrz hz8 4; have f5 := hfrz hz8 5; clear hz8)); clear b8 b8')
        all_goals (try go_wp2_with fail)
        all_goals go_meet
        all_goals (first
          | ((with_reducible refine ⟨w8.heap.size, rfl, ?_, ?_⟩); (exact heap_alloc_new w8 _); (exact B8.out.alloc B8.out.size _))
          | ((with_reducible refine ⟨w7.heap.size, rfl, ?_, ?_⟩); (exact Box.store (k := w7.heap.size) (x := Itm.zero) HZ8.out X); (exact keeps_below (store6_keeps w8 w7.heap.size 0 X) B8.out B8.out.size (fun k e => by omega))))
      case rest =>
        obtain ⟨xb, hv6, hxb, hbx⟩ := hcut
        subst hv6
        have hz2 := (hbx.block _ (Array.getElem?_eq_some_iff.1 HZ.out).1).trans HZ.out
        have HBX := Lib.hid (HB7.out.trans (hbx.mono HB7.out.size))
        have HO := Lib.hid (own_fr HR0.out (below_fr hbx (fun _ => false) false) rfl)
        have q0 : wc.cell? ⟨nq, 0, none⟩ = some (.int .i64 y.step) := hcell hz2 0
        have a0 : wc.cell? ⟨xb, 0, none⟩ = some (.string X.key) := hcell hxb 0
        have a1 : wc.cell? ⟨xb, 1, none⟩ = some (.string X.val) := hcell hxb 1
        have a2 : wc.cell? ⟨xb, 2, none⟩ = some (.int .u32 X.flags) := hcell hxb 2
        have a3 : wc.cell? ⟨xb, 3, none⟩ = some (.int .u64 X.id) := hcell hxb 3
        have a4 : wc.cell? ⟨xb, 4, none⟩ = some (.int .i64 X.dies) := hcell hxb 4
        have a5 : wc.cell? ⟨xb, 5, none⟩ = some (.int .i64 X.gen) := hcell hxb 5
        have hY : drC V.its y = [.int .i64 y.step, .string X.key, .string X.val, .int .u32 X.flags, .int .u64 X.id, .int .i64 X.dies, .int .i64 X.gen] := by rw [HX.out]; rfl
        have HYC := Lib.hid hY
        clear hz2 hxb hbx hY t7 HR0 HB7 HZ
        go_wp2_with (at_builtin; refine wpList_append_own _ rfl _ _ 45 rfl w2.heap.size 54 i0 (.agg #[.int .i64 0, .string ⟨#[]⟩, .string ⟨#[]⟩, .int .u32 0, .int .u64 0, .int .i64 0, .int .i64 0]) 7 72 Tryz.underlying45 HI.out HZ0.out HZ1.out HZ2.out rfl (by decide) _ _ _ rfl (HO.out.alloc _) ⟨wc.heap.size, 0, none⟩ 1 1 (drC V.its y) rfl rfl ?c1 ?c2 ?c3 ?c4 ?c5 ?_)
        case c1 => rw [HYC.out]; exact World.news_of_block (heap_alloc_new wc _)
        case c2 => exact drC_one V.its y
        case c3 => unfold maxLen; omega
        case c4 => omega
        case c5 => have := HBX.out.size; simp; omega
        intro v' w11 hown' hgrow _
        have hb10 := below_alloc wc (.cells #[.int .i64 y.step, .string X.key, .string X.val, .int .u32 X.flags, .int .u64 X.id, .int .i64 X.dies, .int .i64 X.gen] 54)
        have hB11 : Below w2.heap.size w2 w11 := grown_below (HO.out.alloc _) hgrow (HBX.out.trans (hb10.mono HBX.out.size)) (Nat.le_trans HBX.out.size hb10.size) (Nat.le_refl _)
        have e1 : (L.take (k + 1)).flatMap (drC V.its) = (L.take k).flatMap (drC V.its) ++ drC V.its y := by
          rw [dr_take V.its L k HLT.out, ← (List.getElem?_eq_some_iff.1 HY.out).2]
        rw [← e1] at hown'
        have HOW := Lib.hid hown'; have HBW := Lib.hid hB11
        clear hown' hB11 hgrow hb10 e1 q0 a0 a1 a2 a3 a4 a5
        go_wp2_with fail
        go_roundw
        case rel => exact ⟨k + 1, HLT.out, by go_num, HOW.out, HBW.out⟩
        case measure => have := HLT.out; simp [intOf]; omega
    · obtain rfl : k = L.length := by omega
      rw [List.take_length] at hown
      have hcl := dclip_any hown
      have HBL := Lib.hid hbl
      clear hown hbl hlt hk
      go_wp2_with (go_at_call 82; refine hcl.mono ?_; intro e w9 hh; obtain ⟨⟨a9, hh1, hr9⟩, hw⟩ := hh; subst hh1; obtain rfl := hw.symm; have HR9 := Lib.hid hr9; clear hr9 hcl)
      go_ret
      refine ⟨⟨_, rfl, ?_⟩, B2.out.trans (HBL.out.mono B2.out.size)⟩
      rcases HR9.out with h9 | ⟨g9, c9, u9, e9, l9, r9⟩
      · exact .inl h9
      · exact .inr ⟨g9, c9, u9, e9, Nat.le_trans B2.out.size l9, r9⟩
end Go.Proofs.YtdbgfidnccpmdaaGreat

/-
  The document's Drops: the drops of its world, by its notes.
-/
namespace Go.Proofs.YtdbgfidnccpmdaaGreat
open Go.RowKit
set_option linter.unusedVariables false

abbrev TRd (wb nb : Nat) (a : Option Addr) (n c g k : Nat) (st rf : Int) (W : World) : Prop := W.cell? ⟨wb, 2, none⟩ = some (.pointer (some ⟨nb, 0, none⟩)) ∧ W.cell? ⟨nb, 0, none⟩ = some (.slice a n c) ∧ W.cell? ⟨g, k * 8, none⟩ = some (.int .i64 st) ∧ W.cell? ⟨g, k * 8 + 3, none⟩ = some (.int .i64 rf)
theorem TRd.below {wb nb : Nat} {a : Option Addr} {n c g k : Nat} {st rf : Int} {W W' : World} (h : TRd wb nb a n c g k st rf W) (hb : Below W.heap.size W W') : TRd wb nb a n c g k st rf W' := by
  have q : ∀ {b j : Nat} {v : Value}, W.cell? ⟨b, j, none⟩ = some v → W'.cell? ⟨b, j, none⟩ = some v := fun h => (hb.cell (World.block_lt_of_cell? _ _ h)).trans h
  exact ⟨q h.1, q h.2.1, q h.2.2.1, q h.2.2.2⟩
theorem TRd.grown {wb nb : Nat} {a : Option Addr} {n c g k : Nat} {st rf : Int} {W W' : World} {row : Option Nat} (h : TRd wb nb a n c g k st rf W) (hg : W.grownBy W' row) (h1 : some wb ≠ row) (h2 : some nb ≠ row) (h3 : some g ≠ row) : TRd wb nb a n c g k st rf W' := by
  have q : ∀ {b j : Nat} {v : Value}, W.cell? ⟨b, j, none⟩ = some v → some b ≠ row → W'.cell? ⟨b, j, none⟩ = some v := fun h hn => (hg.cell_far _ (World.block_lt_of_cell? _ _ h) hn).trans h
  exact ⟨q h.1 h1, q h.2.1 h2, q h.2.2.1 h3, q h.2.2.2 h3⟩
theorem own_block {w : World} {base e size n : Nat} {v : Value} {xs : List Value} (h : w.ownsRow base e size v n xs) {b : Nat} (hb : b < base) : some b ≠ v.ownBlock := by
  intro c
  obtain ⟨-, ⟨rfl, -⟩ | ⟨g, cap, cur, rfl, hb2, -⟩⟩ := h
  · cases c
  · simp only [Value.ownBlock, Option.some.injEq] at c; omega
set_option maxRecDepth 10000 in
set_option maxHeartbeats 4000000 in
theorem rdrops_any {w0 w : World} {B : WB} {V : WV} {x : RS} (h : RD w0 w B V x) (hn : V.nts.length ≤ 1000) (hi : V.its.length ≤ 1048576) : Calls Tryz.prog 17 #[.pointer (some ⟨B.wb, 0, none⟩)] w fun e w' => (∃ a cap, e = .returned (.slice a (ofK V.nts 1).length cap) ∧ DRow w' w.heap.size 55 (.slice a (ofK V.nts 1).length cap) V.its (ofK V.nts 1)) ∧ Below w.heap.size w w' := by
  obtain ⟨i0, hi0, hz0, hz1, hz2⟩ := info_parts info_rdrop
  have HI := Lib.hid hi0; have HZ0 := Lib.hid hz0; have HZ1 := Lib.hid hz1; have HZ2 := Lib.hid hz2
  have c2 := h.hd5.2.2.1
  obtain ⟨v, hl1, hl2, hl3⟩ := h.nt
  obtain ⟨a, cap, rfl⟩ := own_sl2 hl3
  obtain ⟨l, hl⟩ : ∃ l, l = V.nts := ⟨_, rfl⟩
  rw [← hl] at hl1 hl3 hn ⊢
  have H := Lib.hid h; have HN := Lib.hid hn; have HIT := Lib.hid hi; have L1 := Lib.hid hl1; have L3 := Lib.hid hl3; have C2 := Lib.hid c2
  have HLT := Lib.hid (show B.wb < w.heap.size ∧ B.nb < w.heap.size from ⟨World.block_lt_of_cell? _ _ c2, (Array.getElem?_eq_some_iff.1 hl1).1⟩)
  clear h hn hi hl1 hl2 hl3 c2 hi0 hz0 hz1 hz2 hl
  go_enter Tryz.func17, Tryz.ntmps17
  go_wp2_with fail
  go_loopw [3, 4] (fun o i wr => ∃ k : Nat, k ≤ l.length ∧ i = .int .i64 k ∧ wr.ownsRow w.heap.size 55 7 o (ofK (l.take k) 1).length ((ofK (l.take k) 1).flatMap (drC V.its)) ∧ Below w.heap.size w wr) (fun _ i _ => l.length - (intOf i).toNat)
  case atStart => exact ⟨0, by omega, rfl, World.ownsRow_nil _ _ _ _, Below.refl _ _⟩
  case round =>
    obtain ⟨k, hk, rfl, hown, hbl⟩ := hrel
    have z1 := (hbl.block _ HLT.out.2).trans L1.out
    have c2 : wr.cell? ⟨B.wb, 2, none⟩ = some (.pointer (some ⟨B.nb, 0, none⟩)) := (hbl.cell (p := ⟨B.wb, 2, none⟩) HLT.out.1).trans C2.out
    have l0 : wr.cell? ⟨B.nb, 0, none⟩ = some (.slice a l.length cap) := hcell z1 0
    have hln := HN.out
    by_cases hlt : k < l.length
    · have hlt' : (k : Int) < l.length := by omega
      obtain ⟨g, rfl, hcs⟩ := rrow8_at L3.out k hlt
      obtain ⟨y, hy⟩ : ∃ y, y = l[k] := ⟨_, rfl⟩
      rw [← hy] at hcs
      have hgl : g < w.heap.size := World.block_lt_of_cell? _ _ ((hcs 0 (by omega)).trans rfl)
      have xx : ∀ j, j < 8 → wr.cell? ⟨g, k * 8 + j, none⟩ = (nteC .i64 y)[j]? := fun j hj => (hbl.cell (p := ⟨g, k * 8 + j, none⟩) hgl).trans (hcs j hj)
      have x0 : wr.cell? ⟨g, k * 8, none⟩ = some (.int .i64 y.step) := xx 0 (by omega)
      have x2 : wr.cell? ⟨g, k * 8 + 2, none⟩ = some (.int .i64 y.kind) := xx 2 (by omega)
      have x3 : wr.cell? ⟨g, k * 8 + 3, none⟩ = some (.int .i64 y.ref) := xx 3 (by omega)
      have htk := ofK_take l 1 k hlt
      rw [← hy] at htk
      obtain ⟨kb, hkb⟩ : ∃ kb, (y.kind == 1) = kb := ⟨_, rfl⟩
      have hle := ofK_le l 1 k hk
      obtain ⟨M, hM⟩ : ∃ M, M = (ofK (l.take k) 1).length := ⟨_, rfl⟩
      rw [← hM] at hown hle
      have HOWN := Lib.hid hown; have HBL := Lib.hid hbl; have HLK := Lib.hid hlt; have HKB := Lib.hid hkb; have HTK := Lib.hid htk; have HML := Lib.hid hle; have HMM := Lib.hid hM; have HGL := Lib.hid hgl
      have T0 := Lib.hid (show TRd B.wb B.nb (some ⟨g, 0, none⟩) l.length cap g k y.step y.ref wr from ⟨c2, l0, x0, x3⟩)
      clear hown hbl hcs xx hy hlt hk htk hle hM z1 hgl x0 x3
      go_upto_if 28 with (fail)
      cases kb
      · have e1 : ofK (l.take (k + 1)) 1 = ofK (l.take k) 1 := by rw [HTK.out, if_neg (by have := HKB.out; simpa using this)]
        clear x2 c2 l0
        go_wp2_with fail
        go_roundw
        case rel => exact ⟨k + 1, HLK.out, by go_num, by rw [e1, ← HMM.out]; exact HOWN.out, HBL.out⟩
        case measure => have := HLK.out; simp [intOf]; omega
      · have e1 : ofK (l.take (k + 1)) 1 = ofK (l.take k) 1 ++ [y] := by rw [HTK.out, if_pos (by have := HKB.out; simpa using this)]
        have E1 := Lib.hid e1
        obtain ⟨oa, oc, rfl⟩ := own_sl2 HOWN.out
        obtain ⟨X, hX⟩ : ∃ X, X = (atOf V.its y.ref).1 := ⟨_, rfl⟩
        have hit : ∀ W, Below wr.heap.size wr W → Calls Tryz.prog 83 #[.pointer (some ⟨B.wb, 0, none⟩), .int .i64 y.ref] W fun e w' => e = .returned (.agg #[.string (X).key, .string (X).val, .int .u32 (X).flags, .int .u64 (X).id, .int .i64 (X).dies, .int .i64 (X).gen]) ∧ Below W.heap.size W w' := fun W hW => by rw [hX]; exact rwitem (H.out.keep (HBL.out.trans (hW.mono HBL.out.size))) HIT.out y.ref
        have HITM := Lib.hid hit
        have hY : drC V.its y = [.int .i64 y.step, .string X.key, .string X.val, .int .u32 X.flags, .int .u64 X.id, .int .i64 X.dies, .int .i64 X.gen] := by rw [hX]; rfl
        have HYC := Lib.hid hY
        have t6 : TRd B.wb B.nb (some ⟨g, 0, none⟩) l.length cap g k y.step y.ref wr.drew := T0.out.below (Below.refl _ _).drew
        have E2 : Hid (M + 1 ≤ maxLen) := by unfold maxLen; have := HML.out; have := HLK.out; show M + 1 ≤ _; omega
        have E3 : Hid ((M + 1) * 72 ≤ 140737488355328) := by have := HML.out; have := HLK.out; show (M + 1) * 72 ≤ 140737488355328; omega
        clear hX hit hY e1 x2 c2 l0
        go_upto_region 6 with (fail)
        go_region_held_law (fun W => TRd B.wb B.nb (some ⟨g, 0, none⟩) l.length cap g k y.step y.ref W) (first | assumption | exact t7a _) (first
          | (refine step_append_lies _ (by rfl) _ _ _ (by rfl) w.heap.size 55 i0 _ 7 72 Tryz.underlying47 HI.out HZ0.out HZ1.out HZ2.out rfl (by decide) (.slice oa M oc) M ((ofK (l.take k) 1).flatMap (drC V.its)) (by rfl) (HO2.out.alloc _) ⟨w2.heap.size, 0, none⟩ 1 1 [.int .i64 y.step, .string X.key, .string X.val, .int .u32 X.flags, .int .u64 X.id, .int .i64 X.dies, .int .i64 X.gen] (by rfl) (by rfl) HNW.out (by simp [Value.oneCell']) (by omega) E2.out E3.out HS2.out (w2.heap.size + 1) (by simp) ?_; intro g1 cap1 w4 hown1 hgrow hat hlt; have HOW := Lib.hid hown1; have HGR := Lib.hid hgrow; have t8 : TRd B.wb B.nb (some ⟨g, 0, none⟩) l.length cap g k y.step y.ref w4 := TRd.grown (t7a _) hgrow (own_block HOWN.out HLT.out.1) (own_block HOWN.out HLT.out.2) (own_block HOWN.out HGL.out); clear hown1 hgrow hat hlt)
          | (go_at_call 83; refine (HITM.out _ (Below.refl _ _).drew).mono ?_; intro e w2 hh; obtain ⟨hh1, b2⟩ := hh; subst hh1; have b2' := (Below.refl wr.heap.size wr).drew.trans b2; have t7 : TRd B.wb B.nb (some ⟨g, 0, none⟩) l.length cap g k y.step y.ref w2 := T0.out.below b2'; have t7a : ∀ ob, TRd B.wb B.nb (some ⟨g, 0, none⟩) l.length cap g k y.step y.ref (w2.alloc ob) := fun ob => t7.below (below_alloc w2 ob); have HO2 := Lib.hid (own_fr HOWN.out (below_fr b2' (fun _ => false) false) rfl); have hnw := World.news_of_block (heap_alloc_new w2 (.cells #[.int .i64 y.step, .string X.key, .string X.val, .int .u32 X.flags, .int .u64 X.id, .int .i64 X.dies, .int .i64 X.gen] 55)); have HNW := Lib.hid hnw; have hs2 := Nat.le_trans HBL.out.size b2'.size; have HS2 := Lib.hid (Nat.le_trans hs2 (below_alloc w2 (.cells #[.int .i64 y.step, .string X.key, .string X.val, .int .u32 X.flags, .int .u64 X.id, .int .i64 X.dies, .int .i64 X.gen] 55)).size); have HB2 := Lib.hid (HBL.out.trans (b2'.mono HBL.out.size)); clear b2 b2' hnw hs2 t6))
        all_goals
          have hown2 := HOW.out
          rw [← HYC.out] at hown2
          have hB4 : Below w.heap.size w w4 := grown_below (HO2.out.alloc _) HGR.out (HB2.out.trans ((below_alloc w2 _).mono HB2.out.size)) (Nat.le_trans HB2.out.size (below_alloc w2 (.cells #[.int .i64 y.step, .string X.key, .string X.val, .int .u32 X.flags, .int .u64 X.id, .int .i64 X.dies, .int .i64 X.gen] 55)).size) (Nat.le_refl _)
          have e2 : (ofK (l.take (k + 1)) 1).flatMap (drC V.its) = (ofK (l.take k) 1).flatMap (drC V.its) ++ drC V.its y := by rw [E1.out]; simp
          have e3 : (ofK (l.take (k + 1)) 1).length = M + 1 := by rw [E1.out, List.length_append, ← HMM.out]; rfl
          rw [← e2] at hown2
          have HOW2 := Lib.hid hown2; have HB4 := Lib.hid hB4; have E3L := Lib.hid e3
          clear hown2 hB4 e2 e3 t8 t7 t7a
          go_wp2_with fail
          go_roundw
          case rel => exact ⟨k + 1, HLK.out, by go_num, by rw [E3L.out]; exact HOW2.out, HB4.out⟩
          case measure => have := HLK.out; simp [intOf]; omega
    · obtain rfl : k = l.length := by omega
      rw [List.take_length] at hown
      obtain ⟨oa, oc, rfl⟩ := own_sl2 hown
      have HOWN := Lib.hid (drow_own hown); have HBL := Lib.hid hbl
      clear hown hbl hlt hk z1
      go_wp2_with fail
      go_ret
      exact ⟨⟨_, _, rfl, HOWN.out⟩, HBL.out⟩
end Go.Proofs.YtdbgfidnccpmdaaGreat

/-
  A list of acts that came in. (written by genacts.py)
-/
namespace Go.Proofs.YtdbgfidnccpmdaaGreat
open Go.RowKit Go.Maps
set_option linter.unusedVariables false

structure NdAc where
  k : Int
  r : Int
def NdAc.cells (x : NdAc) : List Value := [.int .u8 x.k, .int .i64 x.r]
structure NdAc.wf (x : NdAc) : Prop where
  k : (Lit.int .u8 x.k).wf = true
  r : (Lit.int .i64 x.r).wf = true
def ndacLeaves : List Leaf := [.int .u8, .int .i64]
theorem ndac_of {w : World} {cs : List Value} (h : Leaf.allHold w ndacLeaves cs) : ∃ x : NdAc, cs = x.cells ∧ x.wf := by
  obtain ⟨c0, r, rfl, g0, h⟩ := allHold_cons h
  obtain ⟨c1, r, rfl, g1, h⟩ := allHold_cons h
  obtain rfl := allHold_nil h
  obtain ⟨n0, rfl, w0⟩ := holds_int g0
  obtain ⟨n1, rfl, w1⟩ := holds_int g1
  exact ⟨⟨n0, n1⟩, rfl, w0, w1⟩
/-- Accesses that may be read. -/
structure NdActs (w : World) (a : Option Addr) (cap : Nat) (l : List NdAc) : Prop where
  le : l.length ≤ cap
  most : cap ≤ maxLen
  nil : a = none → cap = 0
  wf : ∀ x ∈ l, x.wf
  cell : l = [] ∨ ∃ b off, a = some ⟨b, off, none⟩ ∧ ∀ i, (hi : i < l.length) → ∀ j, j < 2 → w.cell? ⟨b, off + (i * 2 + j), none⟩ = (l[i]).cells[j]?
theorem ndacts_of {w : World} {a : Option Addr} {n cap : Nat} (h : Leaf.holds w (.sl ndacLeaves) (.slice a n cap)) : ∃ l, l.length = n ∧ NdActs w a cap l := by
  obtain ⟨l, a', cap', hv, h1, h2, h3, h4, h5⟩ := recs_of h
  simp only [Value.slice.injEq] at hv
  obtain ⟨rfl, rfl, rfl⟩ := hv
  obtain ⟨m, hm, hp⟩ := list_of (fun i (x : NdAc) => l[i]? = some x.cells ∧ x.wf) l.length (fun i hi => by
    obtain ⟨x, hx, hw⟩ := ndac_of (h4 _ (List.getElem_mem hi))
    exact ⟨x, by rw [List.getElem?_eq_getElem hi, hx], hw⟩)
  refine ⟨m, hm, by omega, h2, h3, fun x hx => ?_, ?_⟩
  · obtain ⟨i, hi, rfl⟩ := List.mem_iff_getElem.1 hx
    exact (hp i hi).2
  · rcases h5 with rfl | ⟨b, off, rfl, h5⟩
    · left; simpa using hm
    · refine .inr ⟨b, off, rfl, fun i hi j hj => ?_⟩
      have h6 := h5 i (by omega) j hj
      have h7 := (hp i hi).1
      rw [List.getElem?_eq_getElem (by omega)] at h7
      simp only [Option.some.injEq] at h7
      rw [h7] at h6
      exact h6
theorem NdActs.at {w : World} {a : Option Addr} {cap : Nat} {l : List NdAc} (h : NdActs w a cap l) (i : Nat) (hi : i < l.length) :
    ∃ b off x, a = some ⟨b, off, none⟩ ∧ l[i]? = some x ∧ x.wf ∧ w.cell? ⟨b, off + i * 2, none⟩ = some (.int .u8 x.k) ∧ w.cell? ⟨b, off + i * 2 + 1, none⟩ = some (.int .i64 x.r) := by
  rcases h.cell with rfl | ⟨b, off, rfl, h5⟩
  · simp at hi
  · have h6 := h5 i hi
    refine ⟨b, off, l[i], rfl, List.getElem?_eq_getElem hi, h.wf _ (List.getElem_mem hi), h6 0 (by omega), ?_⟩
    · rw [Nat.add_assoc]; exact h6 1 (by omega)

theorem NdActs.below {w w' : World} {a : Option Addr} {cap : Nat} {l : List NdAc} (h : NdActs w a cap l) (hb : Below w.heap.size w w') : NdActs w' a cap l := by
  refine ⟨h.le, h.most, h.nil, h.wf, h.cell.imp id fun ⟨b, off, e, h5⟩ => ⟨b, off, e, fun i hi j hj => ?_⟩⟩
  have h6 := h5 i hi j hj
  obtain ⟨v, hv⟩ : ∃ v, (l[i]).cells[j]? = some v := by
    match j, hj with
    | 0, _ | 1, _ => exact ⟨_, rfl⟩
  rw [hv] at h6 ⊢
  exact (hb.cell (World.block_lt_of_cell? _ _ h6)).trans h6
end Go.Proofs.YtdbgfidnccpmdaaGreat

/-
  SameAll, with notes.
-/
namespace Go.Proofs.YtdbgfidnccpmdaaGreat
open Go.RowKit Go.Maps
set_option linter.unusedVariables false

/-- Are the notes of kinds? -/
def Nkinds (l : List Nte) : Prop := ∀ y ∈ l, 1 ≤ y.kind ∧ y.kind ≤ 9
theorem Nkinds.add {l : List Nte} {n : Nte} (h : Nkinds l) : Nkinds (nadd l n) := by
  unfold nadd
  split
  · rename_i hk
    intro y hy
    rcases List.mem_append.1 hy with h1 | h1
    · exact h y h1
    · simp only [List.mem_singleton] at h1; subst h1; exact hk
  · exact h
theorem NRow.sl {w : World} {base : Nat} {v : Value} {l : List Nte} (h : NRow w base v l) : ∃ a, v = .slice a l.length l.length := by
  rcases h with ⟨rfl, rfl⟩ | ⟨g, cur, rfl, _⟩
  · exact ⟨none, rfl⟩
  · exact ⟨_, rfl⟩
theorem NRow.below {w w' : World} {base : Nat} {v : Value} {l : List Nte} (h : NRow w base v l) (hb : Below w.heap.size w w') : NRow w' base v l := by
  rcases h with h | ⟨g, cur, hv, h1, h2, h3⟩
  · exact .inl h
  · exact .inr ⟨g, cur, hv, h1, (hb.block _ (Array.getElem?_eq_some_iff.1 h2).1).trans h2, h3⟩
section
variable {w0 w : World} {B R : WB} {V : WV} {s : CS} {x : RS}
set_option maxRecDepth 10000 in
set_option maxHeartbeats 4000000 in
theorem psalln_any (h : Pr w0 w B R V s x) (hnl : V.nts.length ≤ 1000000) (hkd : Nkinds V.nts) (hl : V.its.length ≤ 1000000) (hsn : s.n ≤ 1000000) :
    Calls Tryz.prog 18 #[.agg #[.pointer (some ⟨B.wb, 0, none⟩), .pointer (some ⟨R.wb, 0, none⟩)]] w fun e w' => e = .returned (.bool true) ∧ Below w.heap.size w w' := by
  have hq0 := heap_alloc_new w (.cells #[.pointer (some ⟨B.wb, 0, none⟩), .pointer (some ⟨R.wb, 0, none⟩)] 34)
  have hB1 := below_alloc w (.cells #[.pointer (some ⟨B.wb, 0, none⟩), .pointer (some ⟨R.wb, 0, none⟩)] 34)
  have H1 := Lib.hid (h.keep hB1); have HQ := Lib.hid hq0; have HB1 := Lib.hid hB1; have HNL := Lib.hid hnl; have HKD := Lib.hid hkd; have HL := Lib.hid hl; have HSN := Lib.hid hsn
  clear h hq0 hB1 hnl hkd hl hsn
  go_enter Tryz.func18, Tryz.ntmps18
  go_upto_region 1 with (fail)
  change Code.wp _ _ _ _ (w.alloc (.cells #[.pointer (some ⟨B.wb, 0, none⟩), .pointer (some ⟨R.wb, 0, none⟩)] 34))
  generalize w.alloc (.cells #[.pointer (some ⟨B.wb, 0, none⟩), .pointer (some ⟨R.wb, 0, none⟩)] 34) = w1 at *
  have hq := HQ.out
  have q0 := fun st : ExtW w1 => st.cell (hcell hq 0)
  have q1 := fun st : ExtW w1 => st.cell (hcell hq 1)
  have d0 := fun st : ExtW w1 => st.cell H1.out.ws.hd.1
  have g0 := fun st : ExtW w1 => st.cell H1.out.rd.hd.1
  have hs := fun st : ExtW w1 => psame_any (H1.out.keep st.below)
  have h5 := fun st : ExtW w1 => same05_any (⟨(H1.out.keep st.below).ws.own, (H1.out.keep st.below).rd.ref, (H1.out.keep st.below).al⟩ : Both w0 st.val B.cb R.cb s x) HSN.out
  clear hq
  refine wp_region_ext (by kernel_rfl) (by kernel_rfl) ?_
  repeat (go_big_quiet_step (first
    | (go_at_call 27; with_reducible refine calls_ext (hs _))
    | (go_at_call 84; with_reducible refine calls_ext (h5 _))))
  refine wpQuiet_nil ?_
  rintro W2 ⟨⟨W3, hW⟩, rfl⟩
  have H2 := Lib.hid (H1.out.keep hW)
  have HQ2 := Lib.hid ((hW.block _ (Array.getElem?_eq_some_iff.1 HQ.out).1).trans HQ.out)
  have HB2 : Hid (Below w.heap.size w W2) := HB1.out.trans (hW.mono HB1.out.size)
  clear q0 q1 d0 g0 hs h5 hW H1 HQ HB1
  have p0 := hcell HQ2.out 0
  have p1 := hcell HQ2.out 1
  obtain ⟨c0, c1, c2, c72⟩ := H2.out.ws.hd
  have hal := lall_any H2.out.ws.nt (by have := HNL.out; omega)
  go_upto_region 4 with (go_at_call 64; refine hal.mono ?_; intro e w4 hh; obtain ⟨v, hh1, hr, b4⟩ := hh; subst hh1; have HNR := Lib.hid hr; have H4 := Lib.hid (H2.out.keep b4); have HQ4 := Lib.hid ((b4.block _ (Array.getElem?_eq_some_iff.1 HQ2.out).1).trans HQ2.out); have HB4 : Hid (Below w.heap.size w w4) := HB2.out.trans (b4.mono HB2.out.size); clear hr b4 hal p0 p1 c0 c1 c2 c72)
  clear H2 HQ2 HB2
  obtain ⟨va, rfl⟩ := HNR.out.sl
  have p0 := hcell HQ4.out 0
  have p1 := hcell HQ4.out 1
  obtain ⟨r0, r1, r2, r72⟩ := H4.out.rd.hd
  obtain ⟨nv, hn1, hn2, hn3⟩ := H4.out.rd.nt
  obtain ⟨na, ncap, hnv⟩ := own_sl hn3
  subst hnv
  have n0 : w4.cell? ⟨R.nb, 0, none⟩ = some (.slice na V.nts.length ncap) := hcell hn1 0
  clear hn1 hn2 hn3
  go_wp2_with fail
  clear p0 p1 r0 r1 r2 r72 n0
  go_loopw [4] (fun i wr => ∃ k : Nat, k ≤ V.nts.length ∧ i = .int .i64 k ∧ Pr w0 wr B R V s x ∧ wr.heap[w.heap.size]? = some (.cells #[.pointer (some ⟨B.wb, 0, none⟩), .pointer (some ⟨R.wb, 0, none⟩)] 34 (0, 0)) ∧ NRow wr W2.heap.size (.slice va V.nts.length V.nts.length) V.nts ∧ Below w.heap.size w wr) (fun i _ => V.nts.length - (intOf i).toNat)
  case atStart => exact ⟨0, by omega, rfl, H4.out, HQ4.out, HNR.out, HB4.out⟩
  case round =>
   clear H4 HQ4 HB4 HNR
   obtain ⟨k, hk, rfl, h, hq, hnr, hB⟩ := hrel
   have hnlb := HNL.out
   by_cases hlt : k < V.nts.length
   · have hlt' : (k : Int) < V.nts.length := by omega
     have p0 := hcell hq 0
     have p1 := hcell hq 1
     obtain ⟨r0, r1, r2, r72⟩ := h.rd.hd
     obtain ⟨nv, hn1, hn2, hn3⟩ := h.rd.nt
     obtain ⟨na, ncap, hnv⟩ := own_sl hn3
     subst hnv
     have n0 : wr.cell? ⟨R.nb, 0, none⟩ = some (.slice na V.nts.length ncap) := hcell hn1 0
     obtain ⟨g, hv, hcs⟩ := hnr.at k hlt
     simp only [Value.slice.injEq, and_true] at hv
     obtain ⟨rg, hrv, hrs⟩ := rrow8_at hn3 k hlt
     subst hrv
     obtain ⟨y, hy⟩ : ∃ y, y = V.nts[k]'hlt := ⟨_, rfl⟩
     rw [← hy] at hcs hrs
     have hkk := HKD.out y (by rw [hy]; exact List.getElem_mem hlt)
     have q0 : wr.cell? ⟨rg, k * 8, none⟩ = some (.int .i64 y.step) := hrs 0 (by omega)
     have q1 : wr.cell? ⟨rg, k * 8 + 1, none⟩ = some (.int .i64 y.thread) := hrs 1 (by omega)
     have q2 : wr.cell? ⟨rg, k * 8 + 2, none⟩ = some (.int .i64 y.kind) := hrs 2 (by omega)
     have q3 : wr.cell? ⟨rg, k * 8 + 3, none⟩ = some (.int .i64 y.ref) := hrs 3 (by omega)
     have q4 : wr.cell? ⟨rg, k * 8 + 4, none⟩ = some (.int .i64 y.bits) := hrs 4 (by omega)
     have q5 : wr.cell? ⟨rg, k * 8 + 5, none⟩ = some (.int .i64 y.bucket) := hrs 5 (by omega)
     have q6 : wr.cell? ⟨rg, k * 8 + 6, none⟩ = some (.int .i64 y.slot) := hrs 6 (by omega)
     have q7 : wr.cell? ⟨rg, k * 8 + 7, none⟩ = some (.int .i64 y.value) := hrs 7 (by omega)
     have HR := Lib.hid h; have HQ := Lib.hid hq; have HNRR := Lib.hid hnr; have HB := Lib.hid hB; have HCS := Lib.hid hcs; have HVV := Lib.hid hv; have HKK := Lib.hid hkk
     clear h hq hnr hB hn1 hn2 hn3 hcs hrs hy hv hkk r0 r1 r72
     go_upto_region 10 with (fail)
     have hb5 := below_alloc wr (.cells (nteC .i64 y).toArray 196)
     have hz5 := heap_alloc_new wr (.cells (nteC .i64 y).toArray 196)
     have HB5 := Lib.hid hb5; have HZ5 := Lib.hid hz5
     clear hb5 hz5 p0 p1 r2 n0 q0 q1 q2 q3 q4 q5 q6 q7
     change Code.wp _ _ _ _ (wr.alloc (.cells (nteC .i64 y).toArray 196))
     have x0 : ∀ st : ExtW (wr.alloc (.cells (nteC .i64 y).toArray 196)), st.val.cell? ⟨g, k * 8, none⟩ = some (.int .i64 y.step) := fun st => st.cell ((HB5.out.cell (p := ⟨g, k * 8, none⟩) (World.block_lt_of_cell? _ _ (HCS.out 0 (by omega)))).trans (HCS.out 0 (by omega)))
     have x1 : ∀ st : ExtW (wr.alloc (.cells (nteC .i64 y).toArray 196)), st.val.cell? ⟨g, k * 8 + 1, none⟩ = some (.int .i64 y.thread) := fun st => st.cell ((HB5.out.cell (p := ⟨g, k * 8 + 1, none⟩) (World.block_lt_of_cell? _ _ (HCS.out 1 (by omega)))).trans (HCS.out 1 (by omega)))
     have x2 : ∀ st : ExtW (wr.alloc (.cells (nteC .i64 y).toArray 196)), st.val.cell? ⟨g, k * 8 + 2, none⟩ = some (.int .u8 y.kind) := fun st => st.cell ((HB5.out.cell (p := ⟨g, k * 8 + 2, none⟩) (World.block_lt_of_cell? _ _ (HCS.out 2 (by omega)))).trans (HCS.out 2 (by omega)))
     have x3 : ∀ st : ExtW (wr.alloc (.cells (nteC .i64 y).toArray 196)), st.val.cell? ⟨g, k * 8 + 3, none⟩ = some (.int .i64 y.ref) := fun st => st.cell ((HB5.out.cell (p := ⟨g, k * 8 + 3, none⟩) (World.block_lt_of_cell? _ _ (HCS.out 3 (by omega)))).trans (HCS.out 3 (by omega)))
     have x4 : ∀ st : ExtW (wr.alloc (.cells (nteC .i64 y).toArray 196)), st.val.cell? ⟨g, k * 8 + 4, none⟩ = some (.int .i64 y.bits) := fun st => st.cell ((HB5.out.cell (p := ⟨g, k * 8 + 4, none⟩) (World.block_lt_of_cell? _ _ (HCS.out 4 (by omega)))).trans (HCS.out 4 (by omega)))
     have x5 : ∀ st : ExtW (wr.alloc (.cells (nteC .i64 y).toArray 196)), st.val.cell? ⟨g, k * 8 + 5, none⟩ = some (.int .i64 y.bucket) := fun st => st.cell ((HB5.out.cell (p := ⟨g, k * 8 + 5, none⟩) (World.block_lt_of_cell? _ _ (HCS.out 5 (by omega)))).trans (HCS.out 5 (by omega)))
     have x6 : ∀ st : ExtW (wr.alloc (.cells (nteC .i64 y).toArray 196)), st.val.cell? ⟨g, k * 8 + 6, none⟩ = some (.int .i64 y.slot) := fun st => st.cell ((HB5.out.cell (p := ⟨g, k * 8 + 6, none⟩) (World.block_lt_of_cell? _ _ (HCS.out 6 (by omega)))).trans (HCS.out 6 (by omega)))
     have x7 : ∀ st : ExtW (wr.alloc (.cells (nteC .i64 y).toArray 196)), st.val.cell? ⟨g, k * 8 + 7, none⟩ = some (.int .i64 y.value) := fun st => st.cell ((HB5.out.cell (p := ⟨g, k * 8 + 7, none⟩) (World.block_lt_of_cell? _ _ (HCS.out 7 (by omega)))).trans (HCS.out 7 (by omega)))
     generalize wr.alloc (.cells (nteC .i64 y).toArray 196) = w5 at *
     have HR5 := Lib.hid (HR.out.keep HB5.out)
     have HQ5 := Lib.hid ((HB5.out.block _ (Array.getElem?_eq_some_iff.1 HQ.out).1).trans HQ.out)
     have HN5 := Lib.hid (HNRR.out.below HB5.out)
     have HBB : Hid (Below w.heap.size w w5) := HB.out.trans (HB5.out.mono HB.out.size)
     clear HR HQ HNRR HB HCS HB5
     generalize wr.heap.size = nq at *
     have z0 : ∀ st : ExtW w5, st.val.cell? ⟨nq, 0, none⟩ = some (.int .i64 y.step) := fun st => st.cell (hcell HZ5.out 0)
     have z1 : ∀ st : ExtW w5, st.val.cell? ⟨nq, 1, none⟩ = some (.int .i64 y.thread) := fun st => st.cell (hcell HZ5.out 1)
     have z2 : ∀ st : ExtW w5, st.val.cell? ⟨nq, 2, none⟩ = some (.int .i64 y.kind) := fun st => st.cell (hcell HZ5.out 2)
     have z3 : ∀ st : ExtW w5, st.val.cell? ⟨nq, 3, none⟩ = some (.int .i64 y.ref) := fun st => st.cell (hcell HZ5.out 3)
     have z4 : ∀ st : ExtW w5, st.val.cell? ⟨nq, 4, none⟩ = some (.int .i64 y.bits) := fun st => st.cell (hcell HZ5.out 4)
     have z5 : ∀ st : ExtW w5, st.val.cell? ⟨nq, 5, none⟩ = some (.int .i64 y.bucket) := fun st => st.cell (hcell HZ5.out 5)
     have z6 : ∀ st : ExtW w5, st.val.cell? ⟨nq, 6, none⟩ = some (.int .i64 y.slot) := fun st => st.cell (hcell HZ5.out 6)
     have z7 : ∀ st : ExtW w5, st.val.cell? ⟨nq, 7, none⟩ = some (.int .i64 y.value) := fun st => st.cell (hcell HZ5.out 7)
     have hva := HVV.out
     have hkk := HKK.out
     have ekk : wrap64 y.kind = y.kind := IntWalk.wrap64_in _ (by omega)
     clear hkk
     subst hva
     refine wp_region_ext (by kernel_rfl) (by kernel_rfl) ?_
     repeat (go_big_quiet_step (fail))
     refine wpQuiet_nil ?_
     rintro W9 ⟨⟨W8, hW⟩, rfl⟩
     clear x0 x1 x2 x3 x4 x5 x6 x7 z0 z1 z2 z3 z4 z5 z6 z7 ekk
     have HW := Lib.hid hW
     clear hW
     go_wp2_with fail
     go_roundw
     case rel => exact ⟨k + 1, by omega, by go_num, HR5.out.keep HW.out, (HW.out.block _ (Array.getElem?_eq_some_iff.1 HQ5.out).1).trans HQ5.out, HN5.out.below HW.out, HBB.out.trans (HW.out.mono HBB.out.size)⟩
     case measure => simp [intOf]; omega
   obtain rfl : k = V.nts.length := by omega
   have H4 := Lib.hid h; have HQ4 := Lib.hid hq; have HB4 := Lib.hid hB
   clear h hq hB hnr hlt
   go_wp2_with fail
   go_loopw [6] (fun i wr => ∃ k : Nat, k ≤ V.its.length + 2 ∧ i = .int .i64 k ∧ Pr w0 wr B R V s x ∧ wr.heap[w.heap.size]? = some (.cells #[.pointer (some ⟨B.wb, 0, none⟩), .pointer (some ⟨R.wb, 0, none⟩)] 34 (0, 0)) ∧ Below w.heap.size w wr) (fun i _ => V.its.length + 2 - (intOf i).toNat)
   case atStart => exact ⟨0, by omega, rfl, H4.out, HQ4.out, HB4.out⟩
   case round =>
     clear H4 HQ4 HB4
     obtain ⟨k, hk, rfl, h, hq, hB⟩ := hrel
     have p0 := hcell hq 0
     have p1 := hcell hq 1
     obtain ⟨c0, c1, c2, c72⟩ := h.ws.hd
     obtain ⟨r0, r1, r2, r72⟩ := h.rd.hd
     have hri := h.rd.icount
     have hl := HL.out
     by_cases hlt : k ≤ V.its.length + 1
     · have hlt' : (k : Int) ≤ V.its.length + 1 := by omega
       have hia := h.ws.iat (by omega) k
       obtain ⟨yy, hye⟩ : ∃ yy, atOf V.its k = yy := ⟨_, rfl⟩
       rw [hye] at hia
       have HYE := Lib.hid hye
       clear hye
       have HRI := Lib.hid h; have HQ := Lib.hid hq; have HB := Lib.hid hB
       clear h hq hB
       go_upto_region 16 with (first
         | (go_at_call 85; with_reducible refine hri.mono ?_; rintro e w' ⟨rfl, hw⟩; obtain rfl := hw; clear hri)
         | (go_at_call 40; with_reducible refine hia.mono ?_; rintro e w5 ⟨rfl, b5⟩; clear hia p0 p1 c0 c1 c2 c72 r0 r1 r2 r72; have H5 := Lib.hid b5))
       obtain ⟨y, yb⟩ := yy
       simp only []
       have hb6 := below_alloc w5 (.cells y.cells.toArray 52)
       have hy6 : Box (w5.alloc (.cells y.cells.toArray 52)) w5.heap.size y := heap_alloc_new w5 _
       change Code.wp _ _ _ _ (w5.alloc (.cells y.cells.toArray 52))
       generalize w5.alloc (.cells y.cells.toArray 52) = w6 at *
       have hb16 : Below wr.heap.size wr w6 := H5.out.trans (hb6.mono H5.out.size)
       generalize w5.heap.size = qa at *
       have HY6 := Lib.hid hy6
       have H6 := Lib.hid (HRI.out.keep hb16)
       have HQ6 := Lib.hid ((hb16.block _ (Array.getElem?_eq_some_iff.1 HQ.out).1).trans HQ.out)
       have HB6 : Hid (Below w.heap.size w w6) := HB.out.trans (hb16.mono HB.out.size)
       have p1 := hcell HQ6.out 1
       have r1 := H6.out.rd.hd.2.1
       have hrb := H6.out.rd.iat (by have := HL.out; omega) k
       rw [HYE.out] at hrb
       clear hb6 hy6 hb16 H5 HRI HQ HB
       go_upto_region 17 with (go_at_call 86; with_reducible refine hrb.mono ?_; rintro e w7 ⟨rfl, b7⟩; clear hrb p1 r1; have H7 := Lib.hid b7)
       have hb8 := below_alloc w7 (.cells y.cells.toArray 52)
       have hy8 : Box (w7.alloc (.cells y.cells.toArray 52)) w7.heap.size y := heap_alloc_new w7 _
       change Code.wp _ _ _ _ (w7.alloc (.cells y.cells.toArray 52))
       generalize w7.alloc (.cells y.cells.toArray 52) = w8 at *
       have hb68 : Below w6.heap.size w6 w8 := H7.out.trans (hb8.mono H7.out.size)
       generalize w7.heap.size = qb at *
       have hya : Box w8 qa y := HY6.out.below hb68
       obtain ⟨a0, a1, a2, a3, a4, a5⟩ := hya.cells
       obtain ⟨e0, e1, e2, e3, e4, e5⟩ := hy8.cells
       have H8 := Lib.hid (H6.out.keep hb68)
       have HQ8 := Lib.hid ((hb68.block _ (Array.getElem?_eq_some_iff.1 HQ6.out).1).trans HQ6.out)
       have HB8 : Hid (Below w.heap.size w w8) := HB6.out.trans (hb68.mono HB6.out.size)
       clear hb8 hb68 hya hy8 H6 HQ6 HB6 HY6 H7
       go_wp2_with fail
       go_roundw
       case rel => exact ⟨k + 1, by omega, by go_num, H8.out, HQ8.out, HB8.out⟩
       case measure => simp [intOf]; omega
     · obtain rfl : k = V.its.length + 2 := by omega
       have hlt' : (V.its.length : Int) + 1 < ((V.its.length + 2 : Nat) : Int) := by omega
       have HB9 := Lib.hid hB
       clear h hq hB
       go_wp2_with (go_at_call 85; with_reducible refine hri.mono ?_; rintro e w' ⟨rfl, hw⟩; obtain rfl := hw; clear hri)
       go_ret
       exact ⟨rfl, HB9.out⟩
end
end Go.Proofs.YtdbgfidnccpmdaaGreat

/-
  The document's rule of growing; what both worlds tell.
-/
namespace Go.Proofs.YtdbgfidnccpmdaaGreat
open Go.RowKit Go.Maps
set_option linter.unusedVariables false

theorem tsize_pw (b : Int) (h : 1 ≤ b ∧ b ≤ 12) : 2 ≤ tsize b ∧ tsize b ≤ 4096 := by
  have : b = 1 ∨ b = 2 ∨ b = 3 ∨ b = 4 ∨ b = 5 ∨ b = 6 ∨ b = 7 ∨ b = 8 ∨ b = 9 ∨ b = 10 ∨ b = 11 ∨ b = 12 := by omega
  rcases this with rfl | rfl | rfl | rfl | rfl | rfl | rfl | rfl | rfl | rfl | rfl | rfl <;> decide
theorem pmay_out (f g b : Int) (h : f < 1 ∨ 12 < f ∨ b < 1 ∨ 11 < b) : pmay f g b = false := by
  have : tsize f = 0 ∨ tsize b = 0 ∨ tsize (b + 1) = 0 := by
    rcases h with h | h | h | h
    · exact .inl (tsize_out (.inl h))
    · exact .inl (tsize_out (.inr h))
    · exact .inr (.inl (tsize_out (.inl h)))
    · exact .inr (.inr (tsize_out (.inr (by omega))))
  unfold pmay
  rcases this with h | h | h <;> simp [h]
end Go.Proofs.YtdbgfidnccpmdaaGreat

/-
  A list of a world's acts that came in.
-/
namespace Go.Proofs.YtdbgfidnccpmdaaGreat
open Go.RowKit Go.Maps
set_option linter.unusedVariables false

structure WAc where
  k : Int
  n : Int
  r : Int
  b : Int
  u : Int
  s : Int
  v : Int
  a : Int
  w : Int
  it : Itm
def WAc.cells (x : WAc) : List Value := [.int .u8 x.k, .int .u8 x.n, .int .i64 x.r, .int .i64 x.b, .int .i64 x.u, .int .i64 x.s, .int .i64 x.v, .int .u64 x.a, .int .u64 x.w, .string x.it.key, .string x.it.val, .int .u32 x.it.flags, .int .u64 x.it.id, .int .i64 x.it.dies, .int .i64 x.it.gen]
structure WAc.wf (x : WAc) : Prop where
  k : (Lit.int .u8 x.k).wf = true
  n : (Lit.int .u8 x.n).wf = true
  r : (Lit.int .i64 x.r).wf = true
  b : (Lit.int .i64 x.b).wf = true
  u : (Lit.int .i64 x.u).wf = true
  s : (Lit.int .i64 x.s).wf = true
  v : (Lit.int .i64 x.v).wf = true
  a : (Lit.int .u64 x.a).wf = true
  w : (Lit.int .u64 x.w).wf = true
def wacLeaves : List Leaf := [.int .u8, .int .u8, .int .i64, .int .i64, .int .i64, .int .i64, .int .i64, .int .u64, .int .u64, .str, .str, .int .u32, .int .u64, .int .i64, .int .i64]
theorem wac_of {w : World} {cs : List Value} (h : Leaf.allHold w wacLeaves cs) : ∃ x : WAc, cs = x.cells ∧ x.wf := by
  obtain ⟨c0, r, rfl, g0, h⟩ := allHold_cons h
  obtain ⟨c1, r, rfl, g1, h⟩ := allHold_cons h
  obtain ⟨c2, r, rfl, g2, h⟩ := allHold_cons h
  obtain ⟨c3, r, rfl, g3, h⟩ := allHold_cons h
  obtain ⟨c4, r, rfl, g4, h⟩ := allHold_cons h
  obtain ⟨c5, r, rfl, g5, h⟩ := allHold_cons h
  obtain ⟨c6, r, rfl, g6, h⟩ := allHold_cons h
  obtain ⟨c7, r, rfl, g7, h⟩ := allHold_cons h
  obtain ⟨c8, r, rfl, g8, h⟩ := allHold_cons h
  obtain ⟨c9, r, rfl, g9, h⟩ := allHold_cons h
  obtain ⟨c10, r, rfl, g10, h⟩ := allHold_cons h
  obtain ⟨c11, r, rfl, g11, h⟩ := allHold_cons h
  obtain ⟨c12, r, rfl, g12, h⟩ := allHold_cons h
  obtain ⟨c13, r, rfl, g13, h⟩ := allHold_cons h
  obtain ⟨c14, r, rfl, g14, h⟩ := allHold_cons h
  obtain rfl := allHold_nil h
  obtain ⟨n0, rfl, w0⟩ := holds_int g0
  obtain ⟨n1, rfl, w1⟩ := holds_int g1
  obtain ⟨n2, rfl, w2⟩ := holds_int g2
  obtain ⟨n3, rfl, w3⟩ := holds_int g3
  obtain ⟨n4, rfl, w4⟩ := holds_int g4
  obtain ⟨n5, rfl, w5⟩ := holds_int g5
  obtain ⟨n6, rfl, w6⟩ := holds_int g6
  obtain ⟨n7, rfl, w7⟩ := holds_int g7
  obtain ⟨n8, rfl, w8⟩ := holds_int g8
  obtain ⟨n9, rfl, w9⟩ := holds_str g9
  obtain ⟨n10, rfl, w10⟩ := holds_str g10
  obtain ⟨n11, rfl, w11⟩ := holds_int g11
  obtain ⟨n12, rfl, w12⟩ := holds_int g12
  obtain ⟨n13, rfl, w13⟩ := holds_int g13
  obtain ⟨n14, rfl, w14⟩ := holds_int g14
  exact ⟨⟨n0, n1, n2, n3, n4, n5, n6, n7, n8, ⟨n9, n10, n11, n12, n13, n14⟩⟩, rfl, w0, w1, w2, w3, w4, w5, w6, w7, w8⟩
/-- Accesses that may be read. -/
structure WActs (w : World) (a : Option Addr) (cap : Nat) (l : List WAc) : Prop where
  le : l.length ≤ cap
  most : cap ≤ maxLen
  nil : a = none → cap = 0
  wf : ∀ x ∈ l, x.wf
  cell : l = [] ∨ ∃ b off, a = some ⟨b, off, none⟩ ∧ ∀ i, (hi : i < l.length) → ∀ j, j < 15 → w.cell? ⟨b, off + (i * 15 + j), none⟩ = (l[i]).cells[j]?
theorem wacts_of {w : World} {a : Option Addr} {n cap : Nat} (h : Leaf.holds w (.sl wacLeaves) (.slice a n cap)) : ∃ l, l.length = n ∧ WActs w a cap l := by
  obtain ⟨l, a', cap', hv, h1, h2, h3, h4, h5⟩ := recs_of h
  simp only [Value.slice.injEq] at hv
  obtain ⟨rfl, rfl, rfl⟩ := hv
  obtain ⟨m, hm, hp⟩ := list_of (fun i (x : WAc) => l[i]? = some x.cells ∧ x.wf) l.length (fun i hi => by
    obtain ⟨x, hx, hw⟩ := wac_of (h4 _ (List.getElem_mem hi))
    exact ⟨x, by rw [List.getElem?_eq_getElem hi, hx], hw⟩)
  refine ⟨m, hm, by omega, h2, h3, fun x hx => ?_, ?_⟩
  · obtain ⟨i, hi, rfl⟩ := List.mem_iff_getElem.1 hx
    exact (hp i hi).2
  · rcases h5 with rfl | ⟨b, off, rfl, h5⟩
    · left; simpa using hm
    · refine .inr ⟨b, off, rfl, fun i hi j hj => ?_⟩
      have h6 := h5 i (by omega) j hj
      have h7 := (hp i hi).1
      rw [List.getElem?_eq_getElem (by omega)] at h7
      simp only [Option.some.injEq] at h7
      rw [h7] at h6
      exact h6
theorem WActs.at {w : World} {a : Option Addr} {cap : Nat} {l : List WAc} (h : WActs w a cap l) (i : Nat) (hi : i < l.length) :
    ∃ b off x, a = some ⟨b, off, none⟩ ∧ l[i]? = some x ∧ x.wf ∧ w.cell? ⟨b, off + i * 15, none⟩ = some (.int .u8 x.k) ∧ w.cell? ⟨b, off + i * 15 + 1, none⟩ = some (.int .u8 x.n) ∧ w.cell? ⟨b, off + i * 15 + 2, none⟩ = some (.int .i64 x.r) ∧ w.cell? ⟨b, off + i * 15 + 3, none⟩ = some (.int .i64 x.b) ∧ w.cell? ⟨b, off + i * 15 + 4, none⟩ = some (.int .i64 x.u) ∧ w.cell? ⟨b, off + i * 15 + 5, none⟩ = some (.int .i64 x.s) ∧ w.cell? ⟨b, off + i * 15 + 6, none⟩ = some (.int .i64 x.v) ∧ w.cell? ⟨b, off + i * 15 + 7, none⟩ = some (.int .u64 x.a) ∧ w.cell? ⟨b, off + i * 15 + 8, none⟩ = some (.int .u64 x.w) ∧ w.cell? ⟨b, off + i * 15 + 9, none⟩ = some (.string x.it.key) ∧ w.cell? ⟨b, off + i * 15 + 10, none⟩ = some (.string x.it.val) ∧ w.cell? ⟨b, off + i * 15 + 11, none⟩ = some (.int .u32 x.it.flags) ∧ w.cell? ⟨b, off + i * 15 + 12, none⟩ = some (.int .u64 x.it.id) ∧ w.cell? ⟨b, off + i * 15 + 13, none⟩ = some (.int .i64 x.it.dies) ∧ w.cell? ⟨b, off + i * 15 + 14, none⟩ = some (.int .i64 x.it.gen) := by
  rcases h.cell with rfl | ⟨b, off, rfl, h5⟩
  · simp at hi
  · have h6 := h5 i hi
    refine ⟨b, off, l[i], rfl, List.getElem?_eq_getElem hi, h.wf _ (List.getElem_mem hi), h6 0 (by omega), ?_, ?_, ?_, ?_, ?_, ?_, ?_, ?_, ?_, ?_, ?_, ?_, ?_, ?_⟩
    · rw [Nat.add_assoc]; exact h6 1 (by omega)
    · rw [Nat.add_assoc]; exact h6 2 (by omega)
    · rw [Nat.add_assoc]; exact h6 3 (by omega)
    · rw [Nat.add_assoc]; exact h6 4 (by omega)
    · rw [Nat.add_assoc]; exact h6 5 (by omega)
    · rw [Nat.add_assoc]; exact h6 6 (by omega)
    · rw [Nat.add_assoc]; exact h6 7 (by omega)
    · rw [Nat.add_assoc]; exact h6 8 (by omega)
    · rw [Nat.add_assoc]; exact h6 9 (by omega)
    · rw [Nat.add_assoc]; exact h6 10 (by omega)
    · rw [Nat.add_assoc]; exact h6 11 (by omega)
    · rw [Nat.add_assoc]; exact h6 12 (by omega)
    · rw [Nat.add_assoc]; exact h6 13 (by omega)
    · rw [Nat.add_assoc]; exact h6 14 (by omega)

theorem WActs.below {w w' : World} {a : Option Addr} {cap : Nat} {l : List WAc} (h : WActs w a cap l) (hb : Below w.heap.size w w') : WActs w' a cap l := by
  refine ⟨h.le, h.most, h.nil, h.wf, h.cell.imp id fun ⟨b, off, e, h5⟩ => ⟨b, off, e, fun i hi j hj => ?_⟩⟩
  have h6 := h5 i hi j hj
  obtain ⟨v, hv⟩ : ∃ v, (l[i]).cells[j]? = some v := by
    match j, hj with
    | 0, _ | 1, _ | 2, _ | 3, _ | 4, _ | 5, _ | 6, _ | 7, _ | 8, _ | 9, _ | 10, _ | 11, _ | 12, _ | 13, _ | 14, _ => exact ⟨_, rfl⟩
  rw [hv] at h6 ⊢
  exact (hb.cell (World.block_lt_of_cell? _ _ h6)).trans h6
end Go.Proofs.YtdbgfidnccpmdaaGreat

/-
  WorldsPlay: an act, in both worlds. (written by genwplay.py)
-/
namespace Go.Proofs.YtdbgfidnccpmdaaGreat
open Go.RowKit Go.Maps
set_option linter.unusedVariables false

theorem cbudget {c : Conf} (h : c.ok = true) : (1 ≤ c.budget ∧ c.budget ≤ 65536) ∧ (Lit.int .i64 c.budget).wf = true := by
  unfold Conf.ok at h
  simp only [Bool.and_eq_true, decide_eq_true_eq] at h
  have hb := h.1.1.1.2
  have hmin : IntKind.i64.min = -9223372036854775808 := rfl
  have hmax : IntKind.i64.max = 9223372036854775807 := rfl
  exact ⟨hb, by simp only [Lit.wf, Bool.and_eq_true, decide_eq_true_eq]; omega⟩
/-- What stands between two acts. -/
structure DPS (w0 w : World) (B R : WB) (V : WV) (s : CS) (x : RS) (m : Nat) : Prop where
  pr : Pr w0 w B R V s x
  far : Far s x (300 + m)
  cok : V.c.ok = true
  nn : V.nts.length ≤ m
  ni : V.its.length ≤ 100 + m
  st : Nsteps V.nts s.cnt
  nk : Nkinds V.nts
section
variable {w0 w w' : World} {B R : WB} {V : WV} {s : CS} {x : RS} {m m' : Nat}
theorem DPS.keep (h : DPS w0 w B R V s x m) (hb : Below w.heap.size w w') : DPS w0 w' B R V s x m := ⟨h.pr.keep hb, h.far, h.cok, h.nn, h.ni, h.st, h.nk⟩
theorem DPS.le (h : DPS w0 w B R V s x m) (hm : m ≤ m') : DPS w0 w B R V s x m' := ⟨h.pr, ⟨Nat.le_trans h.far.1 (by omega), Nat.le_trans h.far.2.1 (by omega), Nat.le_trans h.far.2.2 (by omega)⟩, h.cok, Nat.le_trans h.nn hm, by have := h.ni; omega, h.st, h.nk⟩
theorem DPS.acc (h : DPS w0 w B R V s x m) (k a i : Int) (hp : Pr w0 w' B R V (s.acc k a i) (x.acc k a i)) : DPS w0 w' B R V (s.acc k a i) (x.acc k a i) (m + 1) :=
  ⟨hp, by have := h.far.acc h.pr.al k a i; rw [Nat.add_assoc] at this; exact this, h.cok, Nat.le_succ_of_le h.nn, by have := h.ni; omega, h.st.le (by simp only [CS.acc]; omega), h.nk⟩
end
section
variable {w0 w : World} {B R : WB} {V : WV} {s : CS} {x : RS} {m : Nat}
def DoPost (w0 w : World) (B R : WB) (m : Nat) (e : Ending) (w' : World) : Prop := e = .returned (.bool true) ∧ Fr wrTy true w w' ∧ ∃ V s x, DPS w0 w' B R V s x (m + 1)
abbrev SFour (q ab : Nat) (B R : WB) (a : Int) (W : World) : Prop := W.cell? ⟨q, 0, none⟩ = some (.pointer (some ⟨B.wb, 0, none⟩)) ∧ W.cell? ⟨q, 1, none⟩ = some (.pointer (some ⟨R.wb, 0, none⟩)) ∧ W.cell? ⟨B.wb, 0, none⟩ = some (.pointer (some ⟨B.cb, 0, none⟩)) ∧ W.cell? ⟨ab, 7, none⟩ = some (.int .u64 a)
theorem fr_drew {K : TypeId → Bool} {mp : Bool} {w w' : World} (h : Fr K mp w.drew w') : Fr K mp w w' := ⟨h.size, fun k cs T fr hk hT => h.cells k cs T fr hk hT, fun hm k es cl hk => h.map hm k es cl hk⟩
end
end Go.Proofs.YtdbgfidnccpmdaaGreat

/-
  HistsDrops: the drops of a world, by its notes: the walk.
-/
namespace Go.Proofs.YtdbgfidnccpmdaaGreat
open Go.RowKit Go.Maps
set_option linter.unusedVariables false

theorem dps_begin34 {w0 w : World} {B R : WB} {V : WV} {s : CS} {x : RS} {f : Fst} (hpr : Pr w0 w B R V s x) (hV : V = { v0 f.conf with its := f.its }) (hfar : Far s x 300) (hcok : f.conf.ok = true) (hitl : f.its.length ≤ 40) : DPS w0 w B R V s x 0 := by
  refine ⟨hpr, hfar, by rw [hV]; exact hcok, by rw [hV]; exact Nat.zero_le _, by rw [hV]; show f.its.length ≤ _; omega, (by rw [hV]; intro y hy; cases hy), (by rw [hV]; intro y hy; cases hy)⟩
theorem neq_item34 (y : Itm) (W : World) : (binOp .neq 52 (.agg #[.string (y).key, .string (y).val, .int .u32 (y).flags, .int .u64 (y).id, .int .i64 (y).dies, .int .i64 (y).gen]) (.agg #[.string (y).key, .string (y).val, .int .u32 (y).flags, .int .u64 (y).id, .int .i64 (y).dies, .int .i64 (y).gen])).run Tryz.prog W = .ok (.bool false) W := by
  go_simp
set_option maxRecDepth 100000 in
set_option maxHeartbeats 8000000 in
theorem hdrops_any (f : Fst) (l : List NdAc) (al : Option Addr) (capl : Nat) (w : World) (hr : FstRd w f) (hl : NdActs w al capl l) :
    Calls Tryz.prog 3 #[.agg #[.int .i64 f.c.bits, .int .i64 f.c.budget, .int .i64 f.c.tries, .int .i64 f.c.quantum, .int .i64 f.c.way, .bool f.gr, .slice f.ia f.its.length f.ic, .slice f.pa f.puts.length f.pc, .slice f.sa f.sts.length f.sc, .int .i64 f.ticks], .slice al l.length capl] w
    fun e w' => e = .returned (.bool true) ∧ Below w.heap.size w w' := by
  have hml : l.length ≤ maxLen := Nat.le_trans hl.le hl.most
  unfold maxLen at hml
  have hB := below_alloc w (.cells f.cells 28)
  have z := heap_alloc_new w (.cells f.cells 28)
  have HR := Lib.hid (hr.below hB); have HB := Lib.hid hB; have HZ := Lib.hid z; have HLL := Lib.hid hl
  clear hr hB z hl
  go_enter Tryz.func3, Tryz.ntmps3
  go_upto_region 1 with (fail)
  change Code.wp _ _ _ _ (w.alloc (.cells f.cells 28))
  generalize w.alloc (.cells f.cells 28) = w1 at *
  have z := HZ.out
  obtain ⟨e0, e1, e2, e3, e4, e5, e6, e7, e8, e9⟩ := fst_cells z
  clear z
  by_cases h3 : 60 < l.length
  · have d3 : decide ((60 : Int) < l.length) = true := decide_eq_true (by omega)
    clear h3
    go_upto_if 17 with (go_at_call 10; refine (great_any f w1 HR.out).mono ?_; rintro e w2 ⟨g, rfl, b2, hg⟩; have B2 := Lib.hid b2; clear b2 hg e0 e1 e2 e3 e4 e5 e6 e7 e8 e9; cases g)
    all_goals
      go_wp2_with (go_at_call 11; refine (lives34 _).mono ?_; rintro e w3 ⟨rfl, b3⟩)
      go_ret
      have h1 := HB.out.trans (B2.out.mono HB.out.size)
      exact ⟨rfl, h1.trans (b3.mono h1.size)⟩
  have d3 : decide ((60 : Int) < l.length) = false := decide_eq_false (by omega)
  have HL3 : Hid (l.length ≤ 60) := by show l.length ≤ 60; omega
  clear h3
  go_upto_if 17 with (go_at_call 10; refine (great_any f w1 HR.out).mono ?_; rintro e w2 ⟨g, rfl, b2, hg⟩; have B2 := Lib.hid b2; have HG := Lib.hid hg; clear b2 hg e0 e1 e2 e3 e4 e5 e6 e7 e8 e9; cases g)
  rotate_left
  · go_wp2_with (go_at_call 11; refine (lives34 _).mono ?_; rintro e w3 ⟨rfl, b3⟩)
    go_ret
    have h1 := HB.out.trans (B2.out.mono HB.out.size)
    exact ⟨rfl, h1.trans (b3.mono h1.size)⟩
  obtain ⟨hin, hsz⟩ := HG.out trivial
  have HIN := Lib.hid (hin.below B2.out)
  have hitl : f.its.length ≤ 40 := hin.ni
  have HBB : Hid (Below w.heap.size w w2) := HB.out.trans (B2.out.mono HB.out.size)
  have z := (B2.out.block _ (Array.getElem?_eq_some_iff.1 HZ.out).1).trans HZ.out
  obtain ⟨e0, e1, e2, e3, e4, e5, e6, e7, e8, e9⟩ := fst_cells z
  clear z hin hsz
  go_upto_region 4 with (go_at_call 12; refine (begin_any f w2 HIN.out).mono ?_; rintro e w3 ⟨B, R, V, s, x, rfl, hpr, hV, hfar, hcok, -⟩; have HPR := Lib.hid hpr; have hdp := dps_begin34 hpr hV hfar hcok hitl; have HD := Lib.hid hdp; clear hdp; clear hpr hV hfar hcok e0 e1 e2 e3 e4 e5 e6 e7 e8 e9)
  have hq0 := heap_alloc_new w3 (.cells #[.pointer (some ⟨B.wb, 0, none⟩), .pointer (some ⟨R.wb, 0, none⟩)] 34)
  have hB4 := below_alloc w3 (.cells #[.pointer (some ⟨B.wb, 0, none⟩), .pointer (some ⟨R.wb, 0, none⟩)] 34)
  have HD4 := Lib.hid (HD.out.keep hB4)
  change Code.wp _ _ _ _ (w3.alloc (.cells #[.pointer (some ⟨B.wb, 0, none⟩), .pointer (some ⟨R.wb, 0, none⟩)] 34))
  generalize w3.alloc (.cells #[.pointer (some ⟨B.wb, 0, none⟩), .pointer (some ⟨R.wb, 0, none⟩)] 34) = w4 at *
  generalize w3.heap.size = q at *
  have HQ4 := Lib.hid hq0
  clear HPR HD hq0 hB4 d3 hitl HIN B2 HG HZ HR HB
  have HLL2 := Lib.hid (HLL.out.below HBB.out)
  clear HLL
  go_wp2_with fail
  go_loopw [6] (fun i wr => ∃ (k : Nat) (V : WV) (s : CS) (x : RS), k ≤ l.length ∧ i = .int .i64 k ∧ DPS w2 wr B R V s x (2 * k) ∧ wr.heap[q]? = some (.cells #[.pointer (some ⟨B.wb, 0, none⟩), .pointer (some ⟨R.wb, 0, none⟩)] 34 (0, 0))) (fun i _ => l.length - (intOf i).toNat)
  case atStart => exact ⟨0, V, s, x, by omega, rfl, HD4.out, HQ4.out⟩
  case round =>
    clear HD4 HQ4 V s x
    obtain ⟨i, V, s, x, hi, rfl, hT, hq⟩ := hrel
    have hl300 := HL3.out
    by_cases hlt : i < l.length
    · have hlt' : (i : Int) < l.length := by omega
      obtain ⟨b, off, y, rfl, hy, hyw, z0, z1⟩ := HLL2.out.at i hlt
      have HYC := Lib.hid (fun (W : World) (hW : Below w2.heap.size w2 W) => And.intro ((hW.cell (World.block_lt_of_cell? _ _ z0)).trans z0) ((hW.cell (World.block_lt_of_cell? _ _ z1)).trans z1))
      obtain ⟨y0, y1⟩ := HYC.out wr hT.pr.ws.below
      have hkw := wf_u8 hyw.k
      obtain ⟨tb, htb⟩ : ∃ tb, (y.k.tmod 3 == 0) = tb := ⟨_, rfl⟩
      obtain ⟨kd, hkd⟩ : ∃ kd, y.k.tmod 11 = kd := ⟨_, rfl⟩
      have hkb : 0 ≤ kd ∧ kd ≤ 10 := by
        rw [← hkd, Int.tmod_eq_emod_of_nonneg hkw.1]; omega
      have p0 := hcell hq 0
      have p1 := hcell hq 1
      have HT := Lib.hid hT; have HQ := Lib.hid hq; have HTB := Lib.hid htb; have HKD := Lib.hid hkd; have HKB := Lib.hid hkb
      have HLT := Lib.hid hlt
      clear hT hq hyw hkw hlt hy z0 z1 hkd hkb
      go_upto_if 33 with (fail)
      clear y0 y1 htb
      change Code.wp _ _ _ _ wr
      go_cut [] (fun wx => ∃ V s x, DPS w2 wx B R V s x (2 * i + 1) ∧ wx.heap[q]? = some (.cells #[.pointer (some ⟨B.wb, 0, none⟩), .pointer (some ⟨R.wb, 0, none⟩)] 34 (0, 0)))
      case first =>
        cases tb
        · go_wp2_with fail
          go_meet
          case rel => exact ⟨V, s, x, HT.out.le (by omega), HQ.out⟩
        · have htk := ptick_any HT.out.pr (300 + 2 * i) HT.out.far (by omega)
          go_wp2_with (go_at_call 13; refine htk.mono ?_; intro e w7 hh; obtain ⟨hh1, h7, f7⟩ := hh; subst hh1; have H7 := Lib.hid (HT.out.acc 3 8 _ h7); have Z7 := Lib.hid (f7.cells _ _ _ _ HQ.out rfl); clear h7 f7 htk p0 p1)
          go_meet
          case rel => exact ⟨_, _, _, H7.out, Z7.out⟩
      case rest =>
        clear HT HQ p0 p1 V s x HTB
        obtain ⟨V, s, x, hT, hq⟩ := hcut
        have HT := Lib.hid hT; have HQ := Lib.hid hq
        clear hT hq
        obtain ⟨y0, y1⟩ := HYC.out wc HT.out.pr.ws.below
        have x0 : ∀ st : ExtW wc, st.val.cell? ⟨b, off + i * 2, none⟩ = some (.int .u8 y.k) := fun st => st.cell y0
        have x1 : ∀ st : ExtW wc, st.val.cell? ⟨b, off + i * 2 + 1, none⟩ = some (.int .i64 y.r) := fun st => st.cell y1
        have q0 : ∀ st : ExtW wc, st.val.cell? ⟨q, 0, none⟩ = some (.pointer (some ⟨B.wb, 0, none⟩)) := fun st => st.cell (hcell HQ.out 0)
        have hkd := HKD.out
        clear y0 y1
        go_upto_region 9 with (fail)
        refine wp_region_ext_tail 14 (by kernel_rfl) (by kernel_rfl) ?_
        simp only [List.take_succ_cons, List.take_zero, List.drop_succ_cons, List.drop_zero]
        repeat (go_big_quiet_step (fail))
        refine wpQuiet_nil ?_
        rintro W3 ⟨⟨W4, hW3⟩, rfl⟩
        have HT3 := Lib.hid (HT.out.keep hW3); have HQ3 := Lib.hid ((hW3.block _ (Array.getElem?_eq_some_iff.1 HQ.out).1).trans HQ.out)
        clear q0 x0 x1 hW3
        have hkw8 : (Lit.int .u8 kd).wf = true := by
          have := HKB.out
          simp [Lit.wf, IntKind.min, IntKind.max, IntKind.bits, IntKind.signed]; omega
        have hnt := wnote_any HT3.out.pr.ws kd y.r 0 0 0 0 (by have := HT3.out.nn; omega) hkw8 HT3.out.st
        clear hkw8
        go_upto_region 10 with (go_at_call 14; refine hnt.mono ?_; intro e w7 hh; obtain ⟨hh1, h7, f7⟩ := hh; subst hh1; have H7 := Lib.hid h7; have RD7 := Lib.hid (HT3.out.pr.rd.byw f7 h7.below); have Z7 := Lib.hid (f7.cells _ _ _ _ HQ3.out rfl); clear h7 f7 hnt)
        obtain ⟨y0, y1⟩ := HYC.out w7 H7.out.below
        have x0 : ∀ st : ExtW w7, st.val.cell? ⟨b, off + i * 2, none⟩ = some (.int .u8 y.k) := fun st => st.cell y0
        have x1 : ∀ st : ExtW w7, st.val.cell? ⟨b, off + i * 2 + 1, none⟩ = some (.int .i64 y.r) := fun st => st.cell y1
        have q1 : ∀ st : ExtW w7, st.val.cell? ⟨q, 1, none⟩ = some (.pointer (some ⟨R.wb, 0, none⟩)) := fun st => st.cell (hcell Z7.out 1)
        have ek : wrap64 kd = kd := IntWalk.wrap64_in _ (by have := HKB.out; omega)
        have ek2 : IntKind.i64.wrap kd = kd := (IntWalk.i64_left _).trans ek
        clear y0 y1
        refine wp_region_ext_tail 15 (by kernel_rfl) (by kernel_rfl) ?_
        simp only [List.take_succ_cons, List.take_zero, List.drop_succ_cons, List.drop_zero]
        repeat (go_big_quiet_step (fail))
        refine wpQuiet_nil ?_
        rintro W8 ⟨⟨W9, hW8⟩, rfl⟩
        have HB8 := Lib.hid hW8
        clear q1 x0 x1 hW8 ek ek2 hkd
        have hxc : (x.cnt : Int) = (s.cnt : Int) := by rw [HT3.out.pr.al.cnt]
        have hrn := rnote_any (RD7.out.keep HB8.out) kd y.r 0 0 0 0 (by have := HT3.out.nn; omega) (by rw [hxc]; exact HT3.out.st)
        rw [hxc] at hrn
        have hst9 := HT3.out.st.add (n := ⟨s.cnt, V.hd, kd, y.r, 0, 0, 0, 0⟩) rfl
        have hnk9 := HT3.out.nk.add (n := ⟨s.cnt, V.hd, kd, y.r, 0, 0, 0, 0⟩)
        have hln9 := nadd_len V.nts ⟨s.cnt, V.hd, kd, y.r, 0, 0, 0, 0⟩
        have h9 := HT3.out.le (show 2 * i + 1 ≤ 2 * (i + 1) by omega)
        have hnn := HT3.out.nn
        have HFIN := Lib.hid (fun (w8 : World) (h8 : RD w2 w8 R { V with nts := nadd V.nts ⟨s.cnt, V.hd, kd, y.r, 0, 0, 0, 0⟩ } x) (hw : WS w2 w8 B { V with nts := nadd V.nts ⟨s.cnt, V.hd, kd, y.r, 0, 0, 0, 0⟩ } s) => (DPS.mk ⟨hw, h8, HT3.out.pr.al⟩ h9.far h9.cok (show (nadd _ _).length ≤ 2 * (i + 1) by omega) h9.ni hst9 hnk9 : DPS w2 w8 B R { V with nts := nadd V.nts ⟨s.cnt, V.hd, kd, y.r, 0, 0, 0, 0⟩ } s x (2 * (i + 1))))
        clear hst9 hnk9 hln9 h9 hnn hxc
        go_wp2_with (go_at_call 15; refine hrn.mono ?_; intro e w8 hh; obtain ⟨hh1, h8, f8⟩ := hh; subst hh1; have H8 := Lib.hid (HFIN.out w8 h8 ((H7.out.keep HB8.out).byr f8 h8.below)); have Z8 := Lib.hid (f8.cells _ _ _ _ ((HB8.out.block _ (Array.getElem?_eq_some_iff.1 Z7.out).1).trans Z7.out) rfl); clear h8 f8 hrn)
        go_roundw
        case rel => exact ⟨i + 1, _, s, x, HLT.out, by go_num, H8.out, Z8.out⟩
        case measure => have := HLT.out; simp [intOf]; omega
    · obtain rfl : i = l.length := by omega
      have p0 := hcell hq 0
      have p1 := hcell hq 1
      have hdr := drops_any hT.pr.ws (by have := hT.nn; omega) (by have := hT.ni; omega)
      have hle := ofK_le V.nts 1 V.nts.length (Nat.le_refl _)
      rw [List.take_length] at hle
      obtain ⟨L, hL⟩ : ∃ L, L = ofK V.nts 1 := ⟨_, rfl⟩
      rw [← hL] at hdr hle
      have HLL : Hid (L.length ≤ 120) := Lib.hid (by have := hT.nn; omega)
      have HT := Lib.hid hT; have HQ := Lib.hid hq; have HLE := Lib.hid hL
      clear hT hq hlt hle hL hi
      go_upto_region 13 with (go_at_call 16; refine hdr.mono ?_; intro e w5 hh; obtain ⟨⟨a5, hh1, hro⟩, b5⟩ := hh; subst hh1; have T5 := Lib.hid (HT.out.keep b5); have R5 := Lib.hid hro; have Q5 := Lib.hid ((b5.block _ (Array.getElem?_eq_some_iff.1 HQ.out).1).trans HQ.out); clear hro b5 hdr p0 p1)
      have p1 := hcell Q5.out 1
      have hrd := rdrops_any T5.out.pr.rd (by have := T5.out.nn; omega) (by have := T5.out.ni; omega)
      rw [← HLE.out] at hrd
      go_upto_region 14 with (go_at_call 17; refine hrd.mono ?_; intro e w6 hh; obtain ⟨⟨a6, cap6, hh1, hro⟩, b6⟩ := hh; subst hh1; have T6 := Lib.hid (T5.out.keep b6); have R6 := Lib.hid (R5.out.below b6); have S6 := Lib.hid hro; have Q6 := Lib.hid ((b6.block _ (Array.getElem?_eq_some_iff.1 Q5.out).1).trans Q5.out); clear hro b6 hrd p1)
      clear HT HQ T5 R5 Q5
      have hll := HLL.out
      go_wp2_with (go_at_call 16; refine (drops_nil _).mono ?_; intro e w' hh; obtain ⟨hh1, hh2⟩ := hh; subst hh1; obtain rfl := hh2.symm)
      go_loopw [10] (fun i wr => ∃ k : Nat, k ≤ L.length ∧ i = .int .i64 k ∧ Below w6.heap.size w6 wr) (fun i _ => L.length - (intOf i).toNat)
      case atStart => exact ⟨0, by omega, rfl, Below.refl _ _⟩
      case round =>
        obtain ⟨k, hk, rfl, hB⟩ := hrel
        have hll := HLL.out
        by_cases hlt : k < L.length
        · have hlt' : (k : Int) < L.length := by omega
          obtain ⟨g, cap1, hv, hcs⟩ := (R6.out.below hB).at k hlt
          obtain ⟨g2, cap2, hv2, hcs2⟩ := (S6.out.below hB).at k hlt
          simp only [Value.slice.injEq] at hv hv2
          obtain ⟨rfl, -, -⟩ := hv
          obtain ⟨rfl, -, hc2⟩ := hv2
          obtain ⟨X, hX⟩ : ∃ X, X = (atOf V.its (L[k]).ref).1 := ⟨_, rfl⟩
          obtain ⟨st0, hst0⟩ : ∃ st0, st0 = (L[k]).step := ⟨_, rfl⟩
          have hdc : drC V.its L[k] = [.int .i64 st0, .string X.key, .string X.val, .int .u32 X.flags, .int .u64 X.id, .int .i64 X.dies, .int .i64 X.gen] := by rw [hX, hst0]; rfl
          rw [hdc] at hcs hcs2
          have x0 := fun st : ExtW wr => st.cell (show wr.cell? ⟨g, k * 7, none⟩ = some (.int .i64 st0) from hcs 0 (by omega))
          have x1 := fun st : ExtW wr => st.cell (show wr.cell? ⟨g, k * 7 + 1, none⟩ = some (.string X.key) from hcs 1 (by omega))
          have x2 := fun st : ExtW wr => st.cell (show wr.cell? ⟨g, k * 7 + 1 + 1, none⟩ = some (.string X.val) from hcs 2 (by omega))
          have x3 := fun st : ExtW wr => st.cell (show wr.cell? ⟨g, k * 7 + 1 + 2, none⟩ = some (.int .u32 X.flags) from hcs 3 (by omega))
          have x4 := fun st : ExtW wr => st.cell (show wr.cell? ⟨g, k * 7 + 1 + 3, none⟩ = some (.int .u64 X.id) from hcs 4 (by omega))
          have x5 := fun st : ExtW wr => st.cell (show wr.cell? ⟨g, k * 7 + 1 + 4, none⟩ = some (.int .i64 X.dies) from hcs 5 (by omega))
          have x6 := fun st : ExtW wr => st.cell (show wr.cell? ⟨g, k * 7 + 1 + 5, none⟩ = some (.int .i64 X.gen) from hcs 6 (by omega))
          have y0 := fun st : ExtW wr => st.cell (show wr.cell? ⟨g2, k * 7, none⟩ = some (.int .i64 st0) from hcs2 0 (by omega))
          have y1 := fun st : ExtW wr => st.cell (show wr.cell? ⟨g2, k * 7 + 1, none⟩ = some (.string X.key) from hcs2 1 (by omega))
          have y2 := fun st : ExtW wr => st.cell (show wr.cell? ⟨g2, k * 7 + 1 + 1, none⟩ = some (.string X.val) from hcs2 2 (by omega))
          have y3 := fun st : ExtW wr => st.cell (show wr.cell? ⟨g2, k * 7 + 1 + 2, none⟩ = some (.int .u32 X.flags) from hcs2 3 (by omega))
          have y4 := fun st : ExtW wr => st.cell (show wr.cell? ⟨g2, k * 7 + 1 + 3, none⟩ = some (.int .u64 X.id) from hcs2 4 (by omega))
          have y5 := fun st : ExtW wr => st.cell (show wr.cell? ⟨g2, k * 7 + 1 + 4, none⟩ = some (.int .i64 X.dies) from hcs2 5 (by omega))
          have y6 := fun st : ExtW wr => st.cell (show wr.cell? ⟨g2, k * 7 + 1 + 5, none⟩ = some (.int .i64 X.gen) from hcs2 6 (by omega))
          have hnq := fun W => neq_item34 X W
          have HB := Lib.hid hB; have HLT := Lib.hid hlt
          clear hcs hcs2 hdc hX hst0 hB hlt hk hc2
          go_upto_region 19 with (fail)
          refine wp_region_ext (by kernel_rfl) (by kernel_rfl) ?_
          repeat (go_big_quiet_step (fail))
          refine wpQuiet_nil ?_
          rintro W ⟨⟨W2, hW⟩, rfl⟩
          clear x0 x1 x2 x3 x4 x5 x6 y0 y1 y2 y3 y4 y5 y6 hnq
          have HB2 := Lib.hid (HB.out.trans (hW.mono HB.out.size))
          clear hW
          go_wp2_with fail
          go_roundw
          case rel => exact ⟨k + 1, HLT.out, by go_num, HB2.out⟩
          case measure => have := HLT.out; simp [intOf]; omega
        · obtain rfl : k = L.length := by omega
          have HT := Lib.hid (T6.out.keep hB)
          have hq7 := (hB.block _ (Array.getElem?_eq_some_iff.1 Q6.out).1).trans Q6.out
          have p0 := hcell hq7 0
          have p1 := hcell hq7 1
          have o6 := psalln_any HT.out.pr (by have := HT.out.nn; omega) HT.out.nk (by have := HT.out.ni; omega) (by have := HT.out.far.1; omega)
          clear hlt hB hq7 hk
          go_wp2_with (first
            | (go_at_call 18; refine o6.mono ?_; intro e w17 hh; obtain ⟨hh1, b17⟩ := hh; subst hh1; have HB17 := Lib.hid b17; clear o6 b17 p0 p1)
            | (go_at_call 11; refine (lives34 _).mono ?_; rintro e w18 ⟨rfl, b18⟩))
          go_ret
          have h0 := HT.out.pr.ws.below
          have h1 := h0.trans (HB17.out.mono h0.size)
          have h2 := h1.trans (b18.mono h1.size)
          exact ⟨rfl, HBB.out.trans (h2.mono HBB.out.size)⟩
set_option maxRecDepth 10000 in
theorem walkHistsDrops {H1 : Type} (w : World) (enc : TypeId × Value → H1) (base : Nat) (v : Value) (d : DataW H1) (p : List MemPlace) (k : DataW.Trod enc Tryz.prog w 0 (fun _ => true) true 28 v d p) (o : Value.okWide Tryz.prog w .any base 28 v)
    (enc2 : TypeId × Value → H1) (base2 : Nat) (v2 : Value) (d2 : DataW H1) (p2 : List MemPlace) (k2 : DataW.Trod enc2 Tryz.prog w 0 (fun _ => true) true 29 v2 d2 p2) (o2 : Value.okWide Tryz.prog w .any base2 29 v2) :
    Calls Tryz.prog 3 #[v, v2] w fun e w' => e = .returned (.bool true) ∧ Below w.heap.size w w' := by
  have hl : leaves Tryz.prog 6 29 = some [.sl ndacLeaves] := by kernel_rfl
  obtain ⟨f, rfl, hr⟩ := fst_open k o
  obtain ⟨a1, n1, cap1, rfl⟩ := Go.WideShapes.okWide_slice Tryz.underlying29 o2
  obtain ⟨l, hll, hac⟩ := ndacts_of (opened hl k2).1
  subst hll
  exact hdrops_any f l a1 cap1 w hr hac
end Go.Proofs.YtdbgfidnccpmdaaGreat
