/-
  Texts of this prover, merged: OwnRow, Grown, NotesAll, NoteAdd, Tickets, WorldNote, Grows, GrowDo, GrowLives, MapInt, GrowRuns, WMap, GrowOn.
-/
import Derived.Test.YtcihaamjklbdkaaLib
import Derived.Test.YtcihaamjklbdkaaFrame
import Derived.Test.YtcihaamjklbdkaaPairDo
import Derived.Test.YtcihaamjklbdkaaBegin0
import Derived.Test.YtcihaamjklbdkaaMapPtr
import Derived.Deep.AppendLies
import Derived.Laws.EntriesVeiled
import Derived.Deep.DeepCutAuto
import Derived.Maps.Own
import Derived.Maps.RangeWalk
/-
  Rows that the call made.
-/
namespace Go.Proofs.Ytcihaamjklbdkaa
open Go.RowKit
set_option linter.unusedVariables false

/-- A row of pointers that the call made. -/
theorem own_lit (w : World) (base e : Nat) (xs : List Value) (hb : base ≤ w.heap.size) (hn : xs.length ≤ maxLen) : (w.alloc (.cells xs.toArray e)).ownsRow base e 1 (.slice (some ⟨w.heap.size, 0, none⟩) xs.length xs.length) xs.length xs :=
  ⟨by simp, .inr ⟨_, _, _, rfl, hb, heap_alloc_new w _, Nat.le_refl _, hn, by simp, by simp⟩⟩
theorem own_at {w : World} {base e n : Nat} {v : Value} {xs : List Value} (h : w.ownsRow base e 1 v n xs) (i : Nat) (hi : i < n) : ∃ g cap x, v = .slice (some ⟨g, 0, none⟩) n cap ∧ xs[i]? = some x ∧ w.cell? ⟨g, i, none⟩ = some x ∧ base ≤ g := by
  obtain ⟨h1, ⟨rfl, h0⟩ | ⟨g, cap, cur, rfl, hb, hg, hn, hm, hs, ht⟩⟩ := h
  · omega
  · have hx : i < xs.length := by omega
    refine ⟨g, cap, xs[i], rfl, List.getElem?_eq_getElem hx, ?_, hb⟩
    have e1 : xs[i]? = (cur.toList.take (n * 1))[i]? := by rw [ht]
    rw [List.getElem?_take, if_pos (by omega), List.getElem?_eq_getElem hx] at e1
    unfold World.cell?; simp only; rw [hg]
    simpa using e1.symm
end Go.Proofs.Ytcihaamjklbdkaa

/-
  A row that has grown, in a frame by types.
-/
namespace Go.Proofs.Ytcihaamjklbdkaa
open Go.RowKit
set_option linter.unusedVariables false

theorem own_sl2 {w : World} {base e size n : Nat} {v : Value} {xs : List Value} (h : w.ownsRow base e size v n xs) : ∃ a cap, v = .slice a n cap := by
  obtain ⟨-, ⟨rfl, rfl⟩ | ⟨g, cap, cur, rfl, -⟩⟩ := h
  · exact ⟨none, 0, rfl⟩
  · exact ⟨_, cap, rfl⟩
theorem grown_ty {w w' : World} {base e size n : Nat} {v : Value} {xs : List Value} (h : w.ownsRow base e size v n xs) (hg : w.grownBy w' v.ownBlock) : Fr (fun T => T == e) false w w' := by
  obtain ⟨-, ⟨rfl, -⟩ | ⟨g, cap, cur, rfl, -, hb, -⟩⟩ := h
  · exact ⟨hg.size, fun k cs T fr hk _ => (hg.block k (Array.getElem?_eq_some_iff.1 hk).1 (fun c => by simp [Value.ownBlock] at c)).trans hk, fun _ k es cl hk => (hg.block k (Array.getElem?_eq_some_iff.1 hk).1 (fun c => by simp [Value.ownBlock] at c)).trans hk⟩
  · refine ⟨hg.size, fun k cs T fr hk hT => (hg.block k (Array.getElem?_eq_some_iff.1 hk).1 (fun c => ?_)).trans hk, fun _ k es cl hk => (hg.block k (Array.getElem?_eq_some_iff.1 hk).1 (fun c => ?_)).trans hk⟩
    · simp only [Value.ownBlock, Option.some.injEq] at c
      subst c
      have := hb.symm.trans hk; simp only [Option.some.injEq, Obj.cells.injEq] at this
      rw [this.2.1] at hT; simp at hT
    · simp only [Value.ownBlock, Option.some.injEq] at c
      subst c
      have := hb.symm.trans hk; cases this
theorem grown_below {w0 w w' : World} {B : Nat} {base e size n : Nat} {v : Value} {xs : List Value} (h : w.ownsRow base e size v n xs) (hg : w.grownBy w' v.ownBlock) (hB : Below B w0 w) (hs : B ≤ w.heap.size) (hb : B ≤ base) : Below B w0 w' :=
  hB.grown hg hs fun k hk => by
    obtain ⟨-, ⟨rfl, -⟩ | ⟨g, cap, cur, rfl, hb2, -⟩⟩ := h
    · simp [Value.ownBlock] at hk
    · simp only [Value.ownBlock, Option.some.injEq] at hk; omega
theorem set_ty {w : World} {q T : Nat} {cs : Array Value} (h : w.heap[q]? = some (.cells cs T (0, 0))) (o : Nat) (v : Value) : Fr (fun X => X == T) false w (w.setCell ⟨q, o, none⟩ v) :=
  keeps_fr (setCell_keeps w q o v) _ _ fun k e => ⟨_, _, _, e ▸ h, by simp⟩
theorem set_below {w0 w : World} {B q : Nat} (hB : Below B w0 w) (hs : B ≤ w.heap.size) (hq : B ≤ q) (o : Nat) (v : Value) : Below B w0 (w.setCell ⟨q, o, none⟩ v) :=
  keeps_below (setCell_keeps w q o v) hB hs fun k e => e ▸ hq
theorem ty_or {K1 K2 : TypeId → Bool} {w w' w'' : World} (h1 : Fr K1 false w w') (h2 : Fr K2 false w' w'') : Fr (fun T => K1 T || K2 T) false w w'' :=
  (h1.mono (fun T h => by simp only [Bool.or_eq_false_iff] at h; exact h.1) id).trans (h2.mono (fun T h => by simp only [Bool.or_eq_false_iff] at h; exact h.2) id)
end Go.Proofs.Ytcihaamjklbdkaa

/-
  notes.List.All: all notes, in new memory.
-/
namespace Go.Proofs.Ytcihaamjklbdkaa
open Go.RowKit
set_option linter.unusedVariables false

theorem lnotes_any {w : World} {base nb TN : Nat} {l : List Nte} (h : NL w base nb 167 TN .u8 l) : ∃ a cap, w.cell? ⟨nb, 0, none⟩ = some (.slice a l.length cap) ∧ w.ownsRow base TN 8 (.slice a l.length cap) l.length (l.flatMap (nteC .u8)) ∧ Calls Try.prog 42 #[.pointer (some ⟨nb, 0, none⟩)] w fun e w' => e = .returned (.slice a l.length cap) ∧ w' = w := by
  obtain ⟨v, h1, h2, h3⟩ := h
  obtain ⟨a, cap, rfl⟩ := own_sl2 h3
  have c0 : w.cell? ⟨nb, 0, none⟩ = some (.slice a l.length cap) := hcell h1 0
  refine ⟨a, cap, c0, h3, ?_⟩
  clear h1 h2 h3
  go_enter Try.func42, Try.ntmps42
  go_wp2
  go_ret
  exact ⟨rfl, rfl⟩
theorem since_ask {w : World} {cb : Nat} {i : Nat} (n : Nte) (hc : w.cell? ⟨cb, 0, none⟩ = some (.int .i64 0)) : Calls Try.prog 80 #[.int .i64 i, .agg (nteC .u8 n).toArray, .pointer (some ⟨cb, 0, none⟩)] w fun e w' => e = .returned (.bool true) ∧ Below w.heap.size w w' := by
  have hb := below_alloc w (.cells (nteC .u8 n).toArray 67)
  have hlt := World.block_lt_of_cell? _ _ hc
  have c0 : (w.alloc (.cells (nteC .u8 n).toArray 67)).cell? ⟨cb, 0, none⟩ = some (.int .i64 0) := by rw [World.cell?_alloc_past _ _ _ hlt]; exact hc
  have d0 : decide ((0 : Int) ≤ (i : Int)) = true := decide_eq_true (by omega)
  have HB := Lib.hid hb
  clear hb hc hlt
  go_enter Try.func80, Try.ntmps80
  go_upto_region 1 with (fail)
  change Code.wp _ _ _ _ (w.alloc (.cells (nteC .u8 n).toArray 67))
  generalize w.alloc (.cells (nteC .u8 n).toArray 67) = w1 at *
  go_wp2
  go_ret
  exact ⟨rfl, HB.out⟩
theorem info_note : (Try.prog.info? 67).map (fun i => (i.zero, i.size, i.bytes)) = some (some (.agg #[.int .i64 0, .int .i64 0, .int .u8 0, .int .i64 0, .int .i64 0, .int .i64 0, .int .i64 0, .int .i64 0]), 8, 64) := by kernel_rfl
/-- A row of notes that the call made, without room behind it. -/
def NRow (w : World) (base : Nat) (v : Value) (l : List Nte) : Prop :=
  (v = .slice none 0 0 ∧ l = []) ∨ ∃ g cur, v = .slice (some ⟨g, 0, none⟩) l.length l.length ∧ base ≤ g ∧ w.heap[g]? = some (.cells cur 67 (0, 0)) ∧ l.length ≤ maxLen ∧ cur.toList.take (l.length * 8) = l.flatMap (nteC .u8)
theorem nclip_any {w : World} {base : Nat} {v : Value} {l : List Nte} (h : w.ownsRow base 67 8 v l.length (l.flatMap (nteC .u8))) : Calls Try.prog 103 #[v] w fun e w' => ∃ v', e = .returned v' ∧ NRow w base v' l ∧ w' = w := by
  obtain ⟨h1, ⟨rfl, h0⟩ | ⟨g, cap, cur, rfl, hb, hg, hn, hm, hs, ht⟩⟩ := h
  · have : l = [] := List.length_eq_zero_iff.1 h0
    subst this
    clear h1 h0
    go_enter Try.func103, Try.ntmps103
    go_wp2
    go_ret
    exact ⟨_, rfl, .inl ⟨rfl, rfl⟩, rfl⟩
  · have hm2 := Nat.le_trans hn hm
    have H : Hid (NRow w base (.slice (some ⟨g, 0, none⟩) l.length l.length) l) := .inr ⟨g, cur, rfl, hb, hg, hm2, ht⟩
    unfold maxLen at hm hm2
    clear h1 hb hg hs ht
    go_enter Try.func103, Try.ntmps103
    go_wp2
    go_ret
    exact ⟨_, rfl, H.out, rfl⟩
theorem nte_at (l : List Nte) (k : Nat) (hk : k < l.length) (j : Nat) (hj : j < 8) : (l.flatMap (nteC .u8))[k * 8 + j]? = (nteC .u8 l[k])[j]? := by
  induction l generalizing k with
  | nil => simp at hk
  | cons x r ih =>
    rw [List.flatMap_cons]
    match k with
    | 0 =>
      rw [List.getElem?_append_left (by simp [nteC]; omega)]
      simp
    | k + 1 =>
      rw [List.getElem?_append_right (by simp [nteC]; omega)]
      have := ih k (by simp at hk; omega)
      simp only [List.getElem_cons_succ]
      rw [← this]
      congr 1
      simp [nteC]; omega
theorem row8_at {w : World} {base : Nat} {a : Option Addr} {cap : Nat} {l : List Nte} (h : w.ownsRow base 67 8 (.slice a l.length cap) l.length (l.flatMap (nteC .u8))) (k : Nat) (hk : k < l.length) :
    ∃ g, a = some ⟨g, 0, none⟩ ∧ ∀ j, j < 8 → w.cell? ⟨g, k * 8 + j, none⟩ = (nteC .u8 l[k])[j]? := by
  obtain ⟨h1, ⟨h2, h0⟩ | ⟨g, cap', cur, hv, hb, hg, hn, hm, hs, ht⟩⟩ := h
  · omega
  · simp only [Value.slice.injEq] at hv
    refine ⟨g, hv.1, fun j hj => ?_⟩
    rw [hcell hg, ← nte_at l k hk j hj, ← ht, List.getElem?_take, if_pos (by omega)]
    simp
set_option maxRecDepth 10000 in
set_option maxHeartbeats 2000000 in
theorem picked_any {w : World} {base nb cb : Nat} {l : List Nte} (h : NL w base nb 167 67 .u8 l) (hl : l.length ≤ 1048576) (hc : w.cell? ⟨cb, 0, none⟩ = some (.int .i64 0)) :
    Calls Try.prog 79 #[.pointer (some ⟨nb, 0, none⟩), .func (.func 80) #[] #[.pointer (some ⟨cb, 0, none⟩)]] w fun e w' => ∃ v, e = .returned v ∧ NRow w' w.heap.size v l ∧ Below w.heap.size w w' := by
  obtain ⟨a, cap, c0, hrow, hn⟩ := lnotes_any h
  obtain ⟨i0, hi0, hz0, hz1, hz2⟩ := info_parts info_note
  have HI := Lib.hid hi0; have HZ0 := Lib.hid hz0; have HZ1 := Lib.hid hz1; have HZ2 := Lib.hid hz2
  have HROW := Lib.hid hrow; have HC := Lib.hid hc; have HL := Lib.hid hl
  clear h hrow hc hl c0 hi0 hz0 hz1 hz2
  go_enter Try.func79, Try.ntmps79
  go_wp2_with (go_at_call 42; refine hn.mono ?_; rintro e w' ⟨rfl, hw⟩; obtain rfl := hw.symm; clear hn)
  go_loopw [5, 11] (fun v i wr => ∃ k : Nat, k ≤ l.length ∧ i = .int .i64 k ∧ wr.ownsRow w.heap.size 67 8 v k ((l.take k).flatMap (nteC .u8)) ∧ Below w.heap.size w wr) (fun _ i _ => l.length - (intOf i).toNat)
  case atStart => exact ⟨0, by omega, rfl, World.ownsRow_nil _ _ _ _, Below.refl _ _⟩
  case round =>
    obtain ⟨k, hk, rfl, hown, hbl⟩ := hrel
    have hl := HL.out
    by_cases hlt : k < l.length
    · have hlt' : (k : Int) < l.length := by omega
      obtain ⟨g, rfl, hcs⟩ := row8_at HROW.out k hlt
      obtain ⟨y, hy⟩ : ∃ y, y = l[k] := ⟨_, rfl⟩
      rw [← hy] at hcs
      have hgl : g < w.heap.size := World.block_lt_of_cell? _ _ ((hcs 0 (by omega)).trans rfl)
      have x : ∀ j, j < 8 → wr.cell? ⟨g, k * 8 + j, none⟩ = (nteC .u8 y)[j]? := fun j hj => (hbl.cell (p := ⟨g, k * 8 + j, none⟩) hgl).trans (hcs j hj)
      have x0 : wr.cell? ⟨g, k * 8, none⟩ = some (.int .i64 y.step) := x 0 (by omega)
      have x1 : wr.cell? ⟨g, k * 8 + 1, none⟩ = some (.int .i64 y.thread) := x 1 (by omega)
      have x2 : wr.cell? ⟨g, k * 8 + 2, none⟩ = some (.int .u8 y.kind) := x 2 (by omega)
      have x3 : wr.cell? ⟨g, k * 8 + 3, none⟩ = some (.int .i64 y.ref) := x 3 (by omega)
      have x4 : wr.cell? ⟨g, k * 8 + 4, none⟩ = some (.int .i64 y.bits) := x 4 (by omega)
      have x5 : wr.cell? ⟨g, k * 8 + 5, none⟩ = some (.int .i64 y.bucket) := x 5 (by omega)
      have x6 : wr.cell? ⟨g, k * 8 + 6, none⟩ = some (.int .i64 y.slot) := x 6 (by omega)
      have x7 : wr.cell? ⟨g, k * 8 + 7, none⟩ = some (.int .i64 y.value) := x 7 (by omega)
      have HOWN := Lib.hid hown; have HBL := Lib.hid hbl; have HY := Lib.hid hy
      clear hown hbl hcs x hy
      go_upto_region 5 with (fail)
      clear x0 x1 x2 x3 x4 x5 x6 x7
      have hb1 := below_alloc wr (.cells #[.int .i64 y.step, .int .i64 y.thread, .int .u8 y.kind, .int .i64 y.ref, .int .i64 y.bits, .int .i64 y.bucket, .int .i64 y.slot, .int .i64 y.value] 67)
      have hz1 := heap_alloc_new wr (.cells #[.int .i64 y.step, .int .i64 y.thread, .int .u8 y.kind, .int .i64 y.ref, .int .i64 y.bits, .int .i64 y.bucket, .int .i64 y.slot, .int .i64 y.value] 67)
      change Code.wp _ _ _ _ (wr.alloc (.cells #[.int .i64 y.step, .int .i64 y.thread, .int .u8 y.kind, .int .i64 y.ref, .int .i64 y.bits, .int .i64 y.bucket, .int .i64 y.slot, .int .i64 y.value] 67))
      generalize wr.alloc (.cells #[.int .i64 y.step, .int .i64 y.thread, .int .u8 y.kind, .int .i64 y.ref, .int .i64 y.bits, .int .i64 y.bucket, .int .i64 y.slot, .int .i64 y.value] 67) = w7 at *
      have hle := HBL.out.size
      have HR0 := Lib.hid (own_fr HOWN.out (below_fr hb1 (fun _ => false) false) rfl)
      generalize wr.heap.size = nq at *
      have x0 := hcell hz1 0; have x1 := hcell hz1 1; have x2 := hcell hz1 2; have x3 := hcell hz1 3
      have x4 := hcell hz1 4; have x5 := hcell hz1 5; have x6 := hcell hz1 6; have x7 := hcell hz1 7
      have hc7 : w7.cell? ⟨cb, 0, none⟩ = some (.int .i64 0) := by
        have hB : Below w.heap.size w w7 := HBL.out.trans (hb1.mono hle)
        exact (hB.cell (p := ⟨cb, 0, none⟩) (World.block_lt_of_cell? _ _ HC.out)).trans HC.out
      have hask := since_ask (i := k) y hc7
      have HB1 : Hid (Below w.heap.size w w7) := HBL.out.trans (hb1.mono hle)
      have HZ := Lib.hid hz1
      clear hb1 hz1 hc7
      go_upto_region 6 with (go_at_call 80; refine hask.mono ?_; intro e w8 hh; obtain ⟨hh1, b8⟩ := hh; subst hh1; have HB8 : Hid (Below w.heap.size w w8) := HB1.out.trans (b8.mono HB1.out.size); have hr8 := own_fr HR0.out (below_fr b8 (fun _ => false) false) rfl; have hz8 := (b8.block _ (Array.getElem?_eq_some_iff.1 HZ.out).1).trans HZ.out; clear b8 hask)
      clear x0 x1 x2 x3 x4 x5 x6 x7
      have x0 := hcell hz8 0; have x1 := hcell hz8 1; have x2 := hcell hz8 2; have x3 := hcell hz8 3
      have x4 := hcell hz8 4; have x5 := hcell hz8 5; have x6 := hcell hz8 6; have x7 := hcell hz8 7
      have HR8 := Lib.hid hr8
      clear hz8 hr8
      go_wp2_with (at_builtin; refine wpList_append_own _ rfl _ _ 64 rfl w.heap.size 67 i0 (.agg #[.int .i64 0, .int .i64 0, .int .u8 0, .int .i64 0, .int .i64 0, .int .i64 0, .int .i64 0, .int .i64 0]) 8 64 Try.underlying64 HI.out HZ0.out HZ1.out HZ2.out rfl (by decide) _ _ _ rfl (HR8.out.alloc _) ⟨w8.heap.size, 0, none⟩ 1 1 (nteC .u8 y) rfl rfl ?c1 ?c2 ?c3 ?c4 ?c5 ?_)
      case c1 => exact World.news_of_block (heap_alloc_new w8 _)
      case c2 => simp [Value.oneCell', nteC]
      case c3 => unfold maxLen; omega
      case c4 => omega
      case c5 => have := HB8.out.size; simp; omega
      intro v' w11 hown' hgrow _
      have hb10 := below_alloc w8 (.cells #[.int .i64 y.step, .int .i64 y.thread, .int .u8 y.kind, .int .i64 y.ref, .int .i64 y.bits, .int .i64 y.bucket, .int .i64 y.slot, .int .i64 y.value] 67)
      have hB11 : Below w.heap.size w w11 := grown_below (HR8.out.alloc _) hgrow (HB8.out.trans (hb10.mono HB8.out.size)) (Nat.le_trans HB8.out.size hb10.size) (Nat.le_refl _)
      have e1 : (l.take (k + 1)).flatMap (nteC .u8) = (l.take k).flatMap (nteC .u8) ++ nteC .u8 y := by
        rw [List.take_add_one, List.getElem?_eq_getElem hlt, List.flatMap_append, ← show y = l[k] from HY.out]; simp
      rw [← e1] at hown'
      have HOW := Lib.hid hown'; have HBW := Lib.hid hB11
      clear hown' hB11 hgrow hb10 e1 x0 x1 x2 x3 x4 x5 x6 x7
      go_wp2_with fail
      go_roundw
      case rel => exact ⟨k + 1, by omega, by go_num, HOW.out, HBW.out⟩
      case measure => simp [intOf]; omega
    · obtain rfl : k = l.length := by omega
      rw [List.take_length] at hown
      have hcl := nclip_any hown
      have HBL := Lib.hid hbl
      clear hown hbl
      go_wp2_with (go_at_call 103; refine hcl.mono ?_; intro e w9 hh; obtain ⟨v', hh1, hr, hw⟩ := hh; subst hh1; obtain rfl := hw.symm; have HR := Lib.hid hr; clear hr hcl)
      go_ret
      exact ⟨_, rfl, HR.out, HBL.out⟩
theorem lsince_any {w : World} {base nb : Nat} {l : List Nte} (h : NL w base nb 167 67 .u8 l) (hl : l.length ≤ 1048576) :
    Calls Try.prog 49 #[.pointer (some ⟨nb, 0, none⟩), .int .i64 0] w fun e w' => ∃ v, e = .returned v ∧ NRow w' w.heap.size v l ∧ Below w.heap.size w w' := by
  have hb := below_alloc w (.cells #[.int .i64 0] 3)
  have hz := heap_alloc_new w (.cells #[.int .i64 0] 3)
  have hp := picked_any (cb := w.heap.size) (h.fr (below_fr hb (fun _ => false) false) rfl rfl) hl (hcell hz 0)
  have HB := Lib.hid hb
  clear h hz hb
  go_enter Try.func49, Try.ntmps49
  go_wp2_with (go_at_call 79; refine hp.mono ?_; intro e w2 hh; obtain ⟨v, hh1, hr, b2⟩ := hh; subst hh1; have HR := Lib.hid hr; have B2 := Lib.hid b2; clear hr b2 hp)
  go_ret
  refine ⟨_, rfl, ?_, HB.out.trans (B2.out.mono HB.out.size)⟩
  rcases HR.out with h | ⟨g, cur, h1, h2, h3⟩
  · exact .inl h
  · exact .inr ⟨g, cur, h1, Nat.le_trans HB.out.size h2, h3⟩
theorem lall_any {w : World} {base nb : Nat} {l : List Nte} (h : NL w base nb 167 67 .u8 l) (hl : l.length ≤ 1048576) :
    Calls Try.prog 15 #[.pointer (some ⟨nb, 0, none⟩)] w fun e w' => ∃ v, e = .returned v ∧ NRow w' w.heap.size v l ∧ Below w.heap.size w w' := by
  have hp := lsince_any h hl
  clear h
  go_enter Try.func15, Try.ntmps15
  go_wp2_with (go_at_call 49; refine hp.mono ?_; intro e w2 hh; obtain ⟨v, hh1, hr, b2⟩ := hh; subst hh1; have HR := Lib.hid hr; have B2 := Lib.hid b2; clear hr b2 hp)
  go_ret
  exact ⟨_, rfl, HR.out, B2.out⟩
theorem NRow.at {w : World} {base : Nat} {v : Value} {l : List Nte} (h : NRow w base v l) (k : Nat) (hk : k < l.length) : ∃ g, v = .slice (some ⟨g, 0, none⟩) l.length l.length ∧ ∀ j, j < 8 → w.cell? ⟨g, k * 8 + j, none⟩ = (nteC .u8 l[k])[j]? := by
  rcases h with ⟨-, h0⟩ | ⟨g, cur, hv, hb, hg, hm, ht⟩
  · subst h0; simp at hk
  · refine ⟨g, hv, fun j hj => ?_⟩
    rw [hcell hg, ← nte_at l k hk j hj, ← ht, List.getElem?_take, if_pos (by omega)]
    simp
end Go.Proofs.Ytcihaamjklbdkaa

/-
  notes.List.Add, and a world's note.
-/
namespace Go.Proofs.Ytcihaamjklbdkaa
open Go.RowKit
set_option linter.unusedVariables false

theorem lcount_any {w : World} {base nb TN : Nat} {l : List Nte} (h : NL w base nb 167 TN .u8 l) : Calls Try.prog 10 #[.pointer (some ⟨nb, 0, none⟩)] w fun e w' => e = .returned (.int .i64 l.length) ∧ w' = w := by
  obtain ⟨a, cap, -, -, hn⟩ := lnotes_any h
  clear h
  go_enter Try.func10, Try.ntmps10
  go_wp2_with (go_at_call 42; refine hn.mono ?_; rintro e w' ⟨rfl, rfl⟩)
  go_ret
  exact ⟨rfl, rfl⟩
/-- Behind an Add: a note of a kind that is one. -/
def nadd (l : List Nte) (n : Nte) : List Nte := if 1 ≤ n.kind ∧ n.kind ≤ 9 then l ++ [n] else l
def nTy (T : TypeId) : Bool := T == 167 || T == 67
theorem nTy_l (T : TypeId) (h : nTy T = false) : (T == 167) = false := by unfold nTy at h; simp only [Bool.or_eq_false_iff] at h; exact h.1
theorem nTy_n (T : TypeId) (h : nTy T = false) : (T == 67) = false := by unfold nTy at h; simp only [Bool.or_eq_false_iff] at h; exact h.2
set_option maxRecDepth 10000 in
set_option maxHeartbeats 2000000 in
theorem ladd_no {w : World} {base nb : Nat} {l : List Nte} {n : Nte} (h : NL w base nb 167 67 .u8 l) (hk : n.kind = 0 ∨ 9 < n.kind) :
    Calls Try.prog 48 #[.pointer (some ⟨nb, 0, none⟩), .agg (nteC .u8 n).toArray] w fun e w' => (∃ k, e = .returned (.int .i64 k)) ∧ Below w.heap.size w w' := by
  have hb := below_alloc w (.cells (nteC .u8 n).toArray 67)
  have hz := heap_alloc_new w (.cells (nteC .u8 n).toArray 67)
  have h1 := h.fr (below_fr hb (fun _ => false) false) rfl rfl
  have hcn := lcount_any h1
  have HB := Lib.hid hb; have HZ := Lib.hid hz; have HK := Lib.hid hk
  clear h hb hz h1 hk
  go_enter Try.func48, Try.ntmps48
  go_upto_region 1 with (fail)
  change Code.wp _ _ _ _ (w.alloc (.cells (nteC .u8 n).toArray 67))
  generalize w.alloc (.cells (nteC .u8 n).toArray 67) = w1 at *
  go_upto_region 4 with (go_at_call 10; refine hcn.mono ?_; rintro e w2 ⟨rfl, hw⟩; obtain rfl := hw.symm; clear hcn)
  have x2 : ∀ st : ExtW w1, st.val.cell? ⟨w.heap.size, 2, none⟩ = some (.int .u8 n.kind) := fun st => st.cell (hcell HZ.out 2)
  rcases HK.out with hk | hk
  · have d1 : (n.kind == 0) = true := beq_iff_eq.2 hk
    refine wp_region_ext (by kernel_rfl) (by kernel_rfl) ?_
    repeat (go_big_quiet_step (fail))
    refine wpQuiet_nil ?_
    rintro W ⟨⟨W2, hW⟩, rfl⟩
    have HW := Lib.hid hW
    clear x2 hW
    go_wp2
    go_ret
    exact ⟨⟨_, rfl⟩, HB.out.trans (HW.out.mono HB.out.size)⟩
  · have d1 : (n.kind == 0) = false := beq_eq_false_iff_ne.2 (by omega)
    have d2 : decide (9 < n.kind) = true := decide_eq_true hk
    refine wp_region_ext (by kernel_rfl) (by kernel_rfl) ?_
    repeat (go_big_quiet_step (fail))
    refine wpQuiet_nil ?_
    rintro W ⟨⟨W2, hW⟩, rfl⟩
    have HW := Lib.hid hW
    clear x2 hW
    go_wp2
    go_ret
    exact ⟨⟨_, rfl⟩, HB.out.trans (HW.out.mono HB.out.size)⟩
set_option maxRecDepth 10000 in
set_option maxHeartbeats 4000000 in
theorem ladd_ok {w0 w : World} {base nb : Nat} {l : List Nte} {n : Nte} (h : NL w base nb 167 67 .u8 l) (hB : Below base w0 w) (hsz : base ≤ w.heap.size) (hl : l.length < 1048576) (hk : 1 ≤ n.kind ∧ n.kind ≤ 9) (hs : ∀ y, l.getLast? = some y → y.step ≤ n.step) :
    Calls Try.prog 48 #[.pointer (some ⟨nb, 0, none⟩), .agg (nteC .u8 n).toArray] w fun e w' => (∃ k, e = .returned (.int .i64 k)) ∧ NL w' base nb 167 67 .u8 (l ++ [n]) ∧ Fr nTy false w w' ∧ Below base w0 w' := by
  obtain ⟨i0, hi0, hz0, hz1, hz2⟩ := info_parts info_note
  have HI := Lib.hid hi0; have HZ0 := Lib.hid hz0; have HZ1 := Lib.hid hz1; have HZ2 := Lib.hid hz2
  have hb := below_alloc w (.cells (nteC .u8 n).toArray 67)
  have hz := heap_alloc_new w (.cells (nteC .u8 n).toArray 67)
  have h1 := h.fr (below_fr hb (fun _ => false) false) rfl rfl
  have hcn := lcount_any h1
  have HBB : Hid (Below base w0 (w.alloc (.cells (nteC .u8 n).toArray 67))) := hB.trans (hb.mono hsz)
  have HSZ : Hid (base ≤ (w.alloc (.cells (nteC .u8 n).toArray 67)).heap.size) := Nat.le_trans hsz hb.size
  have HB := Lib.hid hb; have H1 := Lib.hid h1; have HZ := Lib.hid hz; have HL := Lib.hid hl; have HK := Lib.hid hk; have HS := Lib.hid hs
  clear h hb hz h1 hl hk hs hi0 hz0 hz1 hz2 hB hsz
  go_enter Try.func48, Try.ntmps48
  go_upto_region 1 with (fail)
  change Code.wp _ _ _ _ (w.alloc (.cells (nteC .u8 n).toArray 67))
  generalize w.alloc (.cells (nteC .u8 n).toArray 67) = w1 at *
  go_upto_region 4 with (go_at_call 10; refine hcn.mono ?_; rintro e w2 ⟨rfl, hw⟩; obtain rfl := hw.symm; clear hcn)
  have HFC0 : Hid (Fr nTy false w w1) := below_fr HB.out _ _
  clear HB
  generalize w.heap.size = nq at *
  go_cut [11] (fun v wx => v = .bool false ∧ Below w1.heap.size w1 wx)
  case first =>
    obtain ⟨a, cap, c0, hrow, -⟩ := lnotes_any H1.out
    have hk := HK.out
    have d1 : (n.kind == 0) = false := beq_eq_false_iff_ne.2 (by omega)
    have d2 : decide (9 < n.kind) = false := decide_eq_false (by omega)
    have hl := HL.out
    have x0 : ∀ st : ExtW w1, st.val.cell? ⟨nq, 0, none⟩ = some (.int .i64 n.step) := fun st => st.cell (hcell HZ.out 0)
    have x2 : ∀ st : ExtW w1, st.val.cell? ⟨nq, 2, none⟩ = some (.int .u8 n.kind) := fun st => st.cell (hcell HZ.out 2)
    have y0 : ∀ st : ExtW w1, st.val.cell? ⟨nb, 0, none⟩ = some (.slice a l.length cap) := fun st => st.cell c0
    by_cases h0 : l.length = 0
    · have e0 : decide ((0 : Int) < l.length) = false := decide_eq_false (by omega)
      have e0n : decide (0 < l.length) = false := decide_eq_false (by omega)
      clear hrow c0 hk hl h0
      refine wp_region_ext (by kernel_rfl) (by kernel_rfl) ?_
      repeat (go_big_quiet_step (fail))
      refine wpQuiet_nil ?_
      rintro W ⟨⟨W2, hW⟩, rfl⟩
      clear x0 x2 y0
      have HW := Lib.hid hW
      go_wp2_with fail
      go_meet
      case rel => exact ⟨rfl, HW.out⟩
    · obtain ⟨k, hk1⟩ : ∃ k, l.length = k + 1 := ⟨l.length - 1, by omega⟩
      have hkl : k < l.length := by omega
      obtain ⟨g, rfl, hcs⟩ := row8_at hrow k hkl
      have hst : (l[k]).step ≤ n.step := HS.out _ (by rw [List.getLast?_eq_getElem?, show l.length - 1 = k by omega]; exact List.getElem?_eq_getElem hkl)
      have y1 : ∀ st : ExtW w1, st.val.cell? ⟨g, k * 8, none⟩ = some (.int .i64 (l[k]).step) := fun st => st.cell (hcs 0 (by omega))
      generalize (l[k]).step = ys at *
      clear hrow c0 hk hcs hkl h0
      generalize l.length = L at *
      subst hk1
      have e0 : decide ((0 : Int) < ((k + 1 : Nat) : Int)) = true := decide_eq_true (by omega)
      have e0n : decide (0 < k + 1) = true := decide_eq_true (by omega)
      have d3 : decide (n.step < ys) = false := decide_eq_false (by omega)
      clear hst
      refine wp_region_ext (by kernel_rfl) (by kernel_rfl) ?_
      repeat (go_big_quiet_step (fail))
      refine wpQuiet_nil ?_
      rintro W ⟨⟨W2, hW⟩, rfl⟩
      clear x0 x2 y0 y1
      have HW := Lib.hid hW
      go_wp2_with fail
      go_meet
      case rel => exact ⟨rfl, HW.out⟩
  case rest =>
  obtain ⟨hcv, hbx⟩ := hcut
  subst hcv
  have hnl := H1.out.fr (below_fr hbx (fun _ => false) false) rfl rfl
  have hnq := (hbx.block _ (Array.getElem?_eq_some_iff.1 HZ.out).1).trans HZ.out
  obtain ⟨v, hl1, hl2, hl3⟩ := hnl
  obtain ⟨ao, cap, rfl⟩ := own_sl2 hl3
  have hqlt := (Array.getElem?_eq_some_iff.1 hl1).1
  have hnlt := (Array.getElem?_eq_some_iff.1 hnq).1
  have l0 := hcell hl1 0
  have lf := hfrz hl1 0
  have l0' : ∀ o, (wc.alloc o).cell? ⟨nb, 0, none⟩ = some (.slice ao l.length cap) := fun o => by rw [World.cell?_alloc_past _ _ _ hqlt]; exact l0
  have lf' : ∀ o, (wc.alloc o).frozen? ⟨nb, 0, none⟩ = false := fun o => by rw [World.frozen?_alloc_past _ _ _ hqlt]; exact lf
  have hl := HL.out
  have dm : decide ((1048576 : Int) ≤ l.length) = false := decide_eq_false (by omega)
  have k0 : wc.cell? ⟨nq, 0, none⟩ = some (.int .i64 n.step) := hcell hnq 0
  have k1 : wc.cell? ⟨nq, 1, none⟩ = some (.int .i64 n.thread) := hcell hnq 1
  have k2 : wc.cell? ⟨nq, 2, none⟩ = some (.int .u8 n.kind) := hcell hnq 2
  have k3 : wc.cell? ⟨nq, 3, none⟩ = some (.int .i64 n.ref) := hcell hnq 3
  have k4 : wc.cell? ⟨nq, 4, none⟩ = some (.int .i64 n.bits) := hcell hnq 4
  have k5 : wc.cell? ⟨nq, 5, none⟩ = some (.int .i64 n.bucket) := hcell hnq 5
  have k6 : wc.cell? ⟨nq, 6, none⟩ = some (.int .i64 n.slot) := hcell hnq 6
  have k7 : wc.cell? ⟨nq, 7, none⟩ = some (.int .i64 n.value) := hcell hnq 7
  have E2 : Hid (l.length + 1 ≤ maxLen) := by unfold maxLen; show l.length + 1 ≤ _; omega
  have E3 : Hid ((l.length + 1) * 64 ≤ 140737488355328) := by show (l.length + 1) * 64 ≤ 140737488355328; omega
  have E4 : Hid (base ≤ wc.heap.size) := Nat.le_trans HSZ.out hbx.size
  have HNW : Hid (((wc.drew).alloc (.cells #[.int .i64 n.step, .int .i64 n.thread, .int .u8 n.kind, .int .i64 n.ref, .int .i64 n.bits, .int .i64 n.bucket, .int .i64 n.slot, .int .i64 n.value] 67)).heap[wc.heap.size]? = some (.cells #[.int .i64 n.step, .int .i64 n.thread, .int .u8 n.kind, .int .i64 n.ref, .int .i64 n.bits, .int .i64 n.bucket, .int .i64 n.slot, .int .i64 n.value] 67 (0, 0))) := heap_alloc_new (wc.drew) _
  have HW0 : Hid (Below wc.heap.size wc ((wc.drew).alloc (.cells #[.int .i64 n.step, .int .i64 n.thread, .int .u8 n.kind, .int .i64 n.ref, .int .i64 n.bits, .int .i64 n.bucket, .int .i64 n.slot, .int .i64 n.value] 67))) := ((Below.refl _ _).drew).alloc (Nat.le_refl _) _
  have HBC : Hid (Below base w0 wc) := HBB.out.trans (hbx.mono HSZ.out)
  have HFC : Hid (Fr nTy false w wc) := HFC0.out.trans (below_fr hbx _ _)
  have HL1 := Lib.hid hl1; have HL3 := Lib.hid hl3; have HLO := Lib.hid hl2
  clear hl1 hl3 hl2 hnq hbx H1 HS HK
  go_upto_region 8 with (fail)
  clear dm hl
  go_region_law ((refine step_append_lies _ (by rfl) _ _ _ (by rfl) base 67 i0 _ 8 64 Try.underlying64 HI.out HZ0.out HZ1.out HZ2.out rfl (by decide) (.slice ao l.length cap) l.length (l.flatMap (nteC .u8)) (by rfl) ((HL3.out.drew).alloc _) ⟨wc.heap.size, 0, none⟩ 1 1 (nteC .u8 n) (by rfl) (by rfl) (World.news_of_block (cs := #[.int .i64 n.step, .int .i64 n.thread, .int .u8 n.kind, .int .i64 n.ref, .int .i64 n.bits, .int .i64 n.bucket, .int .i64 n.slot, .int .i64 n.value]) (t := 67) (fr := (0, 0)) HNW.out) (by simp [Value.oneCell', nteC]) (by omega) E2.out E3.out (by have := E4.out; simp; omega) (wc.heap.size + 1) (by simp) ?_; intro g cap1 w4 hown1 hgrow hat hlt; have HOW := Lib.hid hown1; have HGR := Lib.hid hgrow; have hq4 : w4.heap[nb]? = some (.cells #[.slice ao l.length cap] 167 (0, 0)) := (grown_ty ((HL3.out.drew).alloc _) hgrow).cells _ _ _ _ ((HW0.out.block _ (Array.getElem?_eq_some_iff.1 HL1.out).1).trans HL1.out) rfl; have t0 := hcell hq4 0; have t1 := hfrz hq4 0; have HQ4 := Lib.hid hq4; clear hown1 hgrow hat hlt hq4))
  all_goals
    have hB4 : Below base w0 w4 := grown_below ((HL3.out.drew).alloc _) HGR.out (HBC.out.trans (HW0.out.mono E4.out)) (Nat.le_trans E4.out HW0.out.size) (Nat.le_refl _)
    have f4 : Fr nTy false wc w4 := (below_fr HW0.out _ _).trans ((grown_ty ((HL3.out.drew).alloc _) HGR.out).mono nTy_n id)
    have f5 := set_ty HQ4.out 0 (.slice (some ⟨g, 0, none⟩) (l.length + 1) cap1)
    have hB5 := set_below hB4 (Nat.le_trans E4.out f4.size) HLO.out 0 (.slice (some ⟨g, 0, none⟩) (l.length + 1) cap1)
    have hq5 := setCell_same HQ4.out 0 (.slice (some ⟨g, 0, none⟩) (l.length + 1) cap1)
    have h1 := own_fr HOW.out f5 rfl
    have FIN : Hid (NL (w4.setCell ⟨nb, 0, none⟩ (.slice (some ⟨g, 0, none⟩) (l.length + 1) cap1)) base nb 167 67 .u8 (l ++ [n]) ∧ Fr nTy false w (w4.setCell ⟨nb, 0, none⟩ (.slice (some ⟨g, 0, none⟩) (l.length + 1) cap1)) ∧ Below base w0 (w4.setCell ⟨nb, 0, none⟩ (.slice (some ⟨g, 0, none⟩) (l.length + 1) cap1))) := by
      refine ⟨⟨_, hq5, HLO.out, ?_⟩, (HFC.out.trans f4).trans (f5.mono nTy_l id), hB5⟩
      rw [List.length_append, List.flatMap_append]
      simpa using h1
    clear hB4 f4 f5 hB5 hq5 h1 HQ4 HGR HOW t0 t1 l0 l0' lf lf' k0 k1 k2 k3 k4 k5 k6 k7
    generalize w4.setCell ⟨nb, 0, none⟩ (.slice (some ⟨g, 0, none⟩) (l.length + 1) cap1) = w5 at *
    go_wp2_with fail
    go_ret
    exact ⟨⟨_, rfl⟩, FIN.out⟩
end Go.Proofs.Ytcihaamjklbdkaa

/-
  Tickets: a Take, a Give, who waits.
-/
namespace Go.Proofs.Ytcihaamjklbdkaa
open Go.RowKit
set_option linter.unusedVariables false

/-- Of the old blocks only b, and such of some types, have turned. -/
structure Fx (K : TypeId → Bool) (mp : Bool) (b : Nat) (w w' : World) : Prop where
  size : w.heap.size ≤ w'.heap.size
  cells : ∀ (k : Nat) (cs : Array Value) (T : TypeId) (fr : Nat × Nat), w.heap[k]? = some (.cells cs T fr) → K T = false → k ≠ b → w'.heap[k]? = some (.cells cs T fr)
  map : mp = false → ∀ (k : Nat) (es : Array MapEntry) (cl : Nat), w.heap[k]? = some (.map es cl) → k ≠ b → w'.heap[k]? = some (.map es cl)
theorem Fr.fx {K : TypeId → Bool} {mp : Bool} {w w' : World} (h : Fr K mp w w') (b : Nat) : Fx K mp b w w' := ⟨h.size, fun k cs T fr h1 h2 _ => h.cells k cs T fr h1 h2, fun hm k es cl h1 _ => h.map hm k es cl h1⟩
theorem Fx.trans {K : TypeId → Bool} {mp : Bool} {b : Nat} {a c d : World} (h : Fx K mp b a c) (k : Fx K mp b c d) : Fx K mp b a d :=
  ⟨Nat.le_trans h.size k.size, fun i cs T fr hi hT hb => k.cells i cs T fr (h.cells i cs T fr hi hT hb) hT hb, fun hm i es cl hi hb => k.map hm i es cl (h.map hm i es cl hi hb) hb⟩
theorem set_fx (K : TypeId → Bool) (mp : Bool) (w : World) (b o : Nat) (v : Value) : Fx K mp b w (w.setCell ⟨b, o, none⟩ v) :=
  ⟨by simp [World.setCell], fun k cs T fr h _ hb => (Below.heap_setCell _ _ _ _ hb).trans h, fun _ k es cl h hb => (Below.heap_setCell _ _ _ _ hb).trans h⟩
theorem Fx.fr {K : TypeId → Bool} {mp : Bool} {b : Nat} {w w' : World} (h : Fx K mp b w w') {cs : Array Value} {T : TypeId} {fr : Nat × Nat} (hb : w.heap[b]? = some (.cells cs T fr)) : Fr (fun x => K x || x == T) mp w w' := by
  refine ⟨h.size, fun k cs2 T2 fr2 h2 hT => ?_, fun hm k es cl h2 => h.map hm k es cl h2 fun c => ?_⟩
  · simp only [Bool.or_eq_false_iff] at hT
    refine h.cells k cs2 T2 fr2 h2 hT.1 fun c => ?_
    subst c
    have := hb.symm.trans h2; simp only [Option.some.injEq, Obj.cells.injEq] at this
    have h3 := hT.2; rw [this.2.1] at h3; simp at h3
  · subst c; rw [hb] at h2; cases h2

theorem mkfunc (fn : Fn) (first cap : Array Value) (w : World) : (Instr.makeFunc fn first cap).run Try.prog w = .ok (.func fn first cap) w := rfl
/-- The worlds' types, and a Take's. -/
theorem WS.cellb {w0 w : World} {B : WB} {V : WV} {s : CS} (h : WS w0 w B V s) (t : Nat) (ht : t < 64) : w.cell? ⟨B.wb, 8 + t, none⟩ = some (.int .u64 (V.tk.getD t 0)) := (h.cell (8 + t)).trans (val_tkat B V h.tkl t ht)
theorem WS.hcell' {w0 w : World} {B : WB} {V : WV} {s : CS} (h : WS w0 w B V s) : w.cell? ⟨B.wb, 72, none⟩ = some (.int .i64 V.hd) := (h.cell 72).trans (val_at B V h.tkl).2.2.2.2.2
theorem WS.frz {w0 w : World} {B : WB} {V : WV} {s : CS} (h : WS w0 w B V s) (o : Nat) : w.frozen? ⟨B.wb, o, none⟩ = false := hfrz h.blk o
theorem WS.fx {w0 w w' : World} {B : WB} {V : WV} {s : CS} {K : TypeId → Bool} {b : Nat} (h : WS w0 w B V s) (hf : Fx K false b w w') (hK : ∀ T, wTy T = true → K T = false) {cs : Array Value} {T : TypeId} {fr : Nat × Nat} (hb : w.heap[b]? = some (.cells cs T fr)) (hT : wTy T = false) (hB : Below w0.heap.size w0 w') : WS w0 w' B V s :=
  h.fr (hf.fr hb) (fun x hx => by simp only [Bool.or_eq_false_iff]; exact ⟨hK x hx, by cases hxT : (x == T); rfl; rw [beq_iff_eq] at hxT; subst hxT; rw [hx] at hT; cases hT⟩) hB
theorem set_take {w0 w : World} {B : WB} {V : WV} {s : CS} {b o : Nat} {cs : Array Value} {T : TypeId} (h : WS w0 w B V s) (hb : w.heap[b]? = some (.cells cs T (0, 0))) (hT : wTy T = false) (hlo : w0.heap.size ≤ b) (v : Value) : WS w0 (w.setCell ⟨b, o, none⟩ v) B V s :=
  h.fx (set_fx (fun _ => false) false w b o v) (fun _ _ => rfl) hb hT (keeps_below (setCell_keeps w b o v) h.below h.below.size fun k e => e ▸ hlo)

section
variable {w0 w : World} {B : WB} {V : WV} {s : CS} {b t : Nat} {d : Bool} {k : Int} (h : WS w0 w B V s) (hr : s.room) (hlo : w0.heap.size ≤ b) (ht : t < 64)
include h hr hlo ht
end
end Go.Proofs.Ytcihaamjklbdkaa

/-
  A world's note.
-/
namespace Go.Proofs.Ytcihaamjklbdkaa
open Go.RowKit Go.Maps
set_option linter.unusedVariables false

theorem u8_nn {k : Int} (h : (Lit.int .u8 k).wf = true) : 0 ≤ k ∧ k < 256 := by
  have hmin : IntKind.u8.min = 0 := rfl
  have hmax : IntKind.u8.max = 255 := rfl
  simp only [Lit.wf, Bool.and_eq_true, decide_eq_true_eq] at h; omega
theorem nTy_w (T : TypeId) (h : wTy T = false) : nTy T = false := by
  unfold wTy at h
  simp only [Bool.or_eq_false_iff] at h
  unfold nTy
  rw [h.1.2, h.2]; rfl
section
variable {w0 w w' : World} {B : WB} {V : WV} {s : CS}
theorem WS.noted (h : WS w0 w B V s) {l : List Nte} (hn : NL w' w0.heap.size B.nb 167 67 .u8 l) (hf : Fr nTy false w w') (hB : Below w0.heap.size w0 w') : WS w0 w' B { V with nts := l } s := by
  obtain ⟨S, ha⟩ := h.ar
  exact ⟨h.own.fr hf hB rfl rfl, hf.cells _ _ _ _ h.blk rfl, h.lo, ⟨S, ha.fr hf rfl rfl rfl⟩, hn, h.tkl, h.fmk.fr h.own hf rfl⟩
theorem WS.hd5 (h : WS w0 w B V s) : w.cell? ⟨B.wb, 0, none⟩ = some (.pointer (some ⟨B.cb, 0, none⟩)) ∧ w.cell? ⟨B.wb, 1, none⟩ = some (.pointer (some ⟨B.ib, 0, none⟩)) ∧ w.cell? ⟨B.wb, 2, none⟩ = some (.pointer (some ⟨B.nb, 0, none⟩)) ∧ w.cell? ⟨B.wb, 72, none⟩ = some (.int .i64 V.hd) :=
  ⟨h.c0, (h.cell 1).trans (val_at B V h.tkl).2.1, (h.cell 2).trans (val_at B V h.tkl).2.2.1, (h.cell 72).trans (val_at B V h.tkl).2.2.2.2.2⟩
theorem WS.last5 (h : WS w0 w B V s) : Calls Try.prog 21 #[.pointer (some ⟨B.cb, 0, none⟩)] w fun e w' => e = .returned (.agg #[.int .u8 s.kind, .int .u64 s.addr, .int .u64 s.was, .int .u64 s.is]) ∧ Below w.heap.size w w' := by
  obtain ⟨⟨S, hS⟩, hB⟩ := h.own
  exact last_any w _ B.cb s S hS
theorem WS.iat5 (h : WS w0 w B V s) (hl : V.its.length ≤ 1048576) (r : Int) : Calls Try.prog 13 #[.pointer (some ⟨B.ib, 0, none⟩), .int .i64 r] w fun e w' => e = .returned (.tuple #[.agg #[.string ((atOf V.its r).1).key, .string ((atOf V.its r).1).val, .int .u32 ((atOf V.its r).1).flags, .int .u64 ((atOf V.its r).1).id, .int .i64 ((atOf V.its r).1).dies, .int .i64 ((atOf V.its r).1).gen], .bool (atOf V.its r).2]) ∧ Below w.heap.size w w' := by
  obtain ⟨S, hS⟩ := h.ar
  exact iat_any _ _ _ S r w hS hl
theorem WS.steps5 (h : WS w0 w B V s) : Calls Try.prog 9 #[.pointer (some ⟨B.wb, 0, none⟩)] w fun e w' => e = .returned (.int .i64 s.cnt) ∧ w' = w := steps_any h.wld
/-- Do the notes' steps rise up to what was done? -/
def Nsteps (l : List Nte) (c : Int) : Prop := ∀ y ∈ l, y.step ≤ c
theorem Nsteps.le {l : List Nte} {c d : Int} (h : Nsteps l c) (hc : c ≤ d) : Nsteps l d := fun y hy => Int.le_trans (h y hy) hc
theorem Nsteps.add {l : List Nte} {c : Int} {n : Nte} (h : Nsteps l c) (hn : n.step = c) : Nsteps (nadd l n) c := by
  unfold nadd
  split
  · intro y hy
    rcases List.mem_append.1 hy with h1 | h1
    · exact h y h1
    · simp only [List.mem_singleton] at h1; subst h1; rw [hn]; exact Int.le_refl _
  · exact h
theorem nadd_len (l : List Nte) (n : Nte) : (nadd l n).length ≤ l.length + 1 := by unfold nadd; split <;> simp
theorem wladd (h : WS w0 w B V s) (n : Nte) (hl : V.nts.length < 1048576) (hkb : 0 ≤ n.kind) (hs : Nsteps V.nts n.step) :
    Calls Try.prog 48 #[.pointer (some ⟨B.nb, 0, none⟩), .agg (nteC .u8 n).toArray] w fun e w' => (∃ k, e = .returned (.int .i64 k)) ∧ WS w0 w' B { V with nts := nadd V.nts n } s ∧ Fr nTy false w w' := by
  by_cases hk : 1 ≤ n.kind ∧ n.kind ≤ 9
  · refine (ladd_ok h.nt h.below h.below.size hl hk (fun y hy => hs y (List.mem_of_getLast? hy))).mono fun e w' ⟨h1, h2, h3, h4⟩ => ⟨h1, ?_, h3⟩
    have : nadd V.nts n = V.nts ++ [n] := by unfold nadd; rw [if_pos hk]
    rw [this]
    exact h.noted h2 h3 h4
  · refine (ladd_no h.nt (by omega)).mono fun e w' ⟨h1, h2⟩ => ⟨h1, ?_, below_fr h2 _ _⟩
    have : nadd V.nts n = V.nts := by unfold nadd; rw [if_neg hk]
    rw [this]
    exact h.keep h2
set_option maxRecDepth 10000 in
set_option maxHeartbeats 2000000 in
theorem wnote_any (h : WS w0 w B V s) (k r b u sl v : Int) (hl : V.nts.length < 1048576) (hkb : (Lit.int .u8 k).wf = true) (hs : Nsteps V.nts s.cnt) :
    Calls Try.prog 14 #[.pointer (some ⟨B.wb, 0, none⟩), .int .u8 k, .int .i64 r, .agg #[.int .i64 b, .int .i64 u, .int .i64 sl], .int .i64 v] w fun e w' => e = .returned (.tuple #[]) ∧ WS w0 w' B { V with nts := nadd V.nts ⟨s.cnt, V.hd, k, r, b, u, sl, v⟩ } s ∧ Fr wTy true w w' := by
  have hb := below_alloc w (.cells #[.int .i64 b, .int .i64 u, .int .i64 sl] 46)
  have hz := heap_alloc_new w (.cells #[.int .i64 b, .int .i64 u, .int .i64 sl] 46)
  have h1 := h.keep hb
  have hk0 := (u8_nn hkb).1
  have HB := Lib.hid hb; have HZ := Lib.hid hz; have H1 := Lib.hid h1; have HL := Lib.hid hl; have HS := Lib.hid hs; have HK0 := Lib.hid hk0
  clear h hb hz h1 hl hkb hs hk0
  go_enter Try.func14, Try.ntmps14
  go_upto_region 2 with (fail)
  change Code.wp _ _ _ _ (w.alloc (.cells #[.int .i64 b, .int .i64 u, .int .i64 sl] 46))
  generalize w.alloc (.cells #[.int .i64 b, .int .i64 u, .int .i64 sl] 46) = w1 at *
  have HB0 : Hid (Fr wTy true w w1) := below_fr HB.out _ _
  clear HB
  generalize w.heap.size = nq at *
  have x2 : ∀ st : ExtW w1, st.val.cell? ⟨B.wb, 2, none⟩ = some (.pointer (some ⟨B.nb, 0, none⟩)) := fun st => st.cell H1.out.hd5.2.2.1
  have x72 : ∀ st : ExtW w1, st.val.cell? ⟨B.wb, 72, none⟩ = some (.int .i64 V.hd) := fun st => st.cell H1.out.hd5.2.2.2
  have z0 : ∀ st : ExtW w1, st.val.cell? ⟨nq, 0, none⟩ = some (.int .i64 b) := fun st => st.cell (hcell HZ.out 0)
  have z1 : ∀ st : ExtW w1, st.val.cell? ⟨nq, 1, none⟩ = some (.int .i64 u) := fun st => st.cell (hcell HZ.out 1)
  have z2 : ∀ st : ExtW w1, st.val.cell? ⟨nq, 2, none⟩ = some (.int .i64 sl) := fun st => st.cell (hcell HZ.out 2)
  have m1 : ∀ st : ExtW w1, Calls Try.prog 9 #[.pointer (some ⟨B.wb, 0, none⟩)] st.val fun e w' => e = .returned (.int .i64 s.cnt) ∧ st.val = w' := fun st => (H1.out.keep st.below).steps5.mono fun e w' ⟨h1, h2⟩ => ⟨h1, h2.symm⟩
  refine wp_region_ext_tail 15 (by kernel_rfl) (by kernel_rfl) ?_
  simp only [List.take_succ_cons, List.take_zero, List.drop_succ_cons, List.drop_zero]
  repeat (go_big_quiet_step ((go_at_call 9; with_reducible refine calls_ext_same (m1 _))))
  refine wpQuiet_nil ?_
  rintro W ⟨⟨W2, hW⟩, rfl⟩
  clear x2 x72 z0 z1 z2 m1
  have hadd := wladd (H1.out.keep hW) ⟨s.cnt, V.hd, k, r, b, u, sl, v⟩ HL.out HK0.out HS.out
  have HW := Lib.hid hW
  clear hW
  go_wp2_with (go_at_call 48; refine hadd.mono ?_; intro e w3 hh; obtain ⟨⟨kk, hh1⟩, h3, f3⟩ := hh; subst hh1; have H3 := Lib.hid h3; have F3 := Lib.hid f3; clear h3 f3 hadd)
  go_end0
  exact ⟨rfl, H3.out, (HB0.out.trans (below_fr HW.out _ _)).trans (F3.out.mono nTy_w (fun h => by cases h))⟩
end
end Go.Proofs.Ytcihaamjklbdkaa

/-
  Grows: what is not there, what is over, without a world; the document's; a step.
-/
namespace Go.Proofs.Ytcihaamjklbdkaa
open Go.RowKit Go.Maps
set_option linter.unusedVariables false

/-- What is left of the acts, by how many there are. -/
def LeftV (w : World) (v : Value) : Nat → Prop
  | 0 => ∃ a c, v = .slice a 0 c
  | 1 => ∃ g o cs, v = .slice (some ⟨g, o, none⟩) 1 1 ∧ w.heap[g]? = some (.cells cs 131 (0, 0)) ∧ cs[o]? = some (.int .i64 1)
  | _ + 2 => ∃ g, v = .slice (some ⟨g, 0, none⟩) 2 2 ∧ w.heap[g]? = some (.cells #[.int .i64 0, .int .i64 1] 131 (0, 0))
def GS (w : World) (b T n : Nat) (word bits : Int) : Prop := ∃ v, w.heap[b]? = some (.cells #[v, .int .u64 word, .int .i64 bits] T (0, 0)) ∧ LeftV w v n
theorem LeftV.fr {K : TypeId → Bool} {mp : Bool} {w w' : World} {v : Value} {n : Nat} (h : LeftV w v n) (hf : Fr K mp w w') (h1 : K 131 = false) : LeftV w' v n := by
  match n, h with
  | 0, h => exact h
  | 1, ⟨g, o, cs, h2, h3, h4⟩ => exact ⟨g, o, cs, h2, hf.cells _ _ _ _ h3 h1, h4⟩
  | _ + 2, ⟨g, h2, h3⟩ => exact ⟨g, h2, hf.cells _ _ _ _ h3 h1⟩
theorem GS.fr {K : TypeId → Bool} {mp : Bool} {w w' : World} {b T n : Nat} {word bits : Int} (h : GS w b T n word bits) (hf : Fr K mp w w') (h1 : K 131 = false) (h2 : K T = false) : GS w' b T n word bits := by
  obtain ⟨v, h3, h4⟩ := h
  exact ⟨v, hf.cells _ _ _ _ h3 h2, h4.fr hf h1⟩
theorem GS.below {w w' : World} {b T n : Nat} {word bits : Int} (h : GS w b T n word bits) (hb : Below w.heap.size w w') : GS w' b T n word bits := h.fr (below_fr hb (fun _ => false) false) rfl rfl
theorem LeftV.sl {w : World} {v : Value} {n : Nat} (hn : n ≤ 2) (h : LeftV w v n) : ∃ a c, v = .slice a n c := by
  match n, hn, h with
  | 0, _, ⟨a, c, h⟩ => exact ⟨a, c, h⟩
  | 1, _, ⟨g, o, cs, h, _⟩ => exact ⟨_, _, h⟩
  | 2, _, ⟨g, h, _⟩ => exact ⟨_, _, h⟩
theorem gover_nil (w : World) : Calls Try.prog 29 #[.pointer none] w fun e w' => e = .returned (.bool true) ∧ w' = w := by
  go_enter Try.func29, Try.ntmps29
  go_wp2
  go_ret
  exact ⟨rfl, rfl⟩
theorem sover_nil (w : World) : Calls Try.prog 25 #[.pointer none] w fun e w' => e = .returned (.bool true) ∧ w' = w := by
  go_enter Try.func25, Try.ntmps25
  go_wp2
  go_ret
  exact ⟨rfl, rfl⟩
theorem gover {w : World} {b n : Nat} {word bits : Int} (hn : n ≤ 2) (h : GS w b 138 n word bits) : Calls Try.prog 29 #[.pointer (some ⟨b, 0, none⟩)] w fun e w' => e = .returned (.bool (n == 0)) ∧ w' = w := by
  obtain ⟨v, h1, h2⟩ := h
  obtain ⟨a, c, rfl⟩ := h2.sl hn
  have c0 := hcell h1 0
  have d : ((n : Int) == 0) = (n == 0) := by cases n <;> simp; omega
  generalize (n == 0) = dd at *
  clear h1 h2
  go_enter Try.func29, Try.ntmps29
  go_wp2
  go_ret
  exact ⟨rfl, rfl⟩
theorem sover {w : World} {b n : Nat} {word bits : Int} (hn : n ≤ 2) (h : GS w b 130 n word bits) : Calls Try.prog 25 #[.pointer (some ⟨b, 0, none⟩)] w fun e w' => e = .returned (.bool (n == 0)) ∧ w' = w := by
  obtain ⟨v, h1, h2⟩ := h
  obtain ⟨a, c, rfl⟩ := h2.sl hn
  have c0 := hcell h1 0
  have d : ((n : Int) == 0) = (n == 0) := by cases n <;> simp; omega
  generalize (n == 0) = dd at *
  clear h1 h2
  go_enter Try.func25, Try.ntmps25
  go_wp2
  go_ret
  exact ⟨rfl, rfl⟩
theorem gstep_nil (u : Value) (w : World) : Calls Try.prog 137 #[.pointer none, u] w fun e w' => e = .returned (.bool true) ∧ w' = w := by
  go_enter Try.func137, Try.ntmps137
  go_wp2_with (go_at_call 29; refine (gover_nil _).mono ?_; rintro e w1 ⟨rfl, hw⟩; obtain rfl := hw.symm)
  go_ret
  exact ⟨rfl, rfl⟩
theorem sstep_nil (u : Value) (w : World) : Calls Try.prog 135 #[.pointer none, u] w fun e w' => e = .returned (.bool true) ∧ w' = w := by
  go_enter Try.func135, Try.ntmps135
  go_wp2_with (go_at_call 25; refine (sover_nil _).mono ?_; rintro e w1 ⟨rfl, hw⟩; obtain rfl := hw.symm)
  go_ret
  exact ⟨rfl, rfl⟩
theorem gstep_over {w : World} {b : Nat} {word bits : Int} (h : GS w b 138 0 word bits) (u : Value) : Calls Try.prog 137 #[.pointer (some ⟨b, 0, none⟩), u] w fun e w' => e = .returned (.bool true) ∧ w' = w := by
  have ho := gover (by decide) h
  rw [show ((0 : Nat) == 0) = true from rfl] at ho
  clear h
  go_enter Try.func137, Try.ntmps137
  go_wp2_with (go_at_call 29; refine ho.mono ?_; rintro e w1 ⟨rfl, hw⟩; obtain rfl := hw.symm)
  go_ret
  exact ⟨rfl, rfl⟩
theorem sstep_over {w : World} {b : Nat} {word bits : Int} (h : GS w b 130 0 word bits) (u : Value) : Calls Try.prog 135 #[.pointer (some ⟨b, 0, none⟩), u] w fun e w' => e = .returned (.bool true) ∧ w' = w := by
  have ho := sover (by decide) h
  rw [show ((0 : Nat) == 0) = true from rfl] at ho
  clear h
  go_enter Try.func135, Try.ntmps135
  go_wp2_with (go_at_call 25; refine ho.mono ?_; rintro e w1 ⟨rfl, hw⟩; obtain rfl := hw.symm)
  go_ret
  exact ⟨rfl, rfl⟩
theorem gstep_no {w : World} {b n : Nat} {word bits : Int} (hn : n ≤ 2) (h : GS w b 138 n word bits) : Calls Try.prog 137 #[.pointer (some ⟨b, 0, none⟩), .pointer none] w fun e w' => e = .returned (.bool (n == 0)) ∧ w' = w := by
  have ho := gover hn h
  generalize (n == 0) = dd at *
  clear h hn
  cases dd
  all_goals
    go_enter Try.func137, Try.ntmps137
    go_wp2_with (go_at_call 29; refine ho.mono ?_; rintro e w1 ⟨rfl, hw⟩; obtain rfl := hw.symm)
    go_ret
    exact ⟨rfl, rfl⟩
theorem sstep_no {w : World} {b n : Nat} {word bits : Int} (hn : n ≤ 2) (h : GS w b 130 n word bits) : Calls Try.prog 135 #[.pointer (some ⟨b, 0, none⟩), .pointer none] w fun e w' => e = .returned (.bool (n == 0)) ∧ w' = w := by
  have ho := sover hn h
  generalize (n == 0) = dd at *
  clear h hn
  cases dd
  all_goals
    go_enter Try.func135, Try.ntmps135
    go_wp2_with (go_at_call 25; refine ho.mono ?_; rintro e w1 ⟨rfl, hw⟩; obtain rfl := hw.symm)
    go_ret
    exact ⟨rfl, rfl⟩
/-- Is a Grow, a Swap, of a word over at once? -/
def gdead (t : Int) : Bool := asNow t != 0 || asOld t == 12
def sdead (t : Int) : Bool := asNow t == 0
theorem gnew (t : Int) (ht : (Lit.int .u64 t).wf = true) (w : World) : Calls Try.prog 27 #[.int .u64 t] w fun e w' => ∃ b, e = .returned (.pointer (some ⟨b, 0, none⟩)) ∧ GS w' b 138 (if gdead t then 0 else 2) (if gdead t then 0 else tword (asOld t) (asOld t + 1)) (if gdead t then 0 else asOld t + 1) ∧ w.heap.size ≤ b ∧ Below w.heap.size w w' := by
  have ha := as_any t ht w
  have hw := fun o n W => word_any o n W
  have hob : 0 ≤ asOld t ∧ asOld t < 256 := by unfold asOld; split <;> omega
  unfold gdead
  clear ht
  generalize asOld t = o at *
  generalize asNow t = n at *
  generalize e1 : (n != 0) = d1 at *
  generalize e2 : (o == 12) = d2 at *
  have hb1 := below_alloc w (.cells #[.slice none 0 0, .int .u64 0, .int .i64 0] 138)
  have hz1 : GS (w.alloc (.cells #[.slice none 0 0, .int .u64 0, .int .i64 0] 138)) w.heap.size 138 0 0 0 := ⟨_, heap_alloc_new w _, none, 0, rfl⟩
  have hb2 := below_alloc w (.cells #[.int .i64 0, .int .i64 1] 131)
  have hz2 := heap_alloc_new w (.cells #[.int .i64 0, .int .i64 1] 131)
  have hsz : (w.alloc (.cells #[.int .i64 0, .int .i64 1] 131)).heap.size = w.heap.size + 1 := by simp
  have B1 := Lib.hid hb1; have Z1 := Lib.hid hz1; have B2 := Lib.hid hb2; have Z2 := Lib.hid hz2
  clear hb1 hz1 hb2 hz2
  cases d1 <;> cases d2
  case false.false =>
    go_enter Try.func27, Try.ntmps27
    go_wp2_with (first
      | (go_at_call 28; refine ha.mono ?_; rintro e w1 ⟨rfl, hw1⟩; obtain rfl := hw1.symm; clear ha)
      | (go_at_call 56; refine (hw _ _ _).mono ?_; rintro e w1 ⟨rfl, hw1⟩; obtain rfl := hw1.symm))
    go_ret
    first
      | exact ⟨_, rfl, ⟨_, heap_alloc_new _ _, ⟨_, rfl, heap_alloc_old Z2.out⟩⟩, B2.out.size, B2.out.trans ((below_alloc _ _).mono B2.out.size)⟩
      | exact ⟨_, rfl, ⟨_, heap_alloc_at _ _ hsz.symm, ⟨_, rfl, heap_alloc_old Z2.out⟩⟩, Nat.le_succ _, B2.out.trans ((below_alloc _ _).mono B2.out.size)⟩
  all_goals
    go_enter Try.func27, Try.ntmps27
    go_wp2_with (go_at_call 28; refine ha.mono ?_; rintro e w1 ⟨rfl, hw1⟩; obtain rfl := hw1.symm; clear ha)
    go_ret
    exact ⟨_, rfl, Z1.out, Nat.le_refl _, B1.out⟩
theorem snew (t : Int) (ht : (Lit.int .u64 t).wf = true) (w : World) : Calls Try.prog 24 #[.int .u64 t] w fun e w' => ∃ b, e = .returned (.pointer (some ⟨b, 0, none⟩)) ∧ GS w' b 130 (if sdead t then 0 else 1) (if sdead t then 0 else tword (asNow t) 0) (if sdead t then 0 else asNow t) ∧ w.heap.size ≤ b ∧ Below w.heap.size w w' := by
  have ha := as_any t ht w
  have hw := fun o n W => word_any o n W
  unfold sdead
  clear ht
  generalize asOld t = o at *
  generalize asNow t = n at *
  generalize e1 : (n == 0) = d1 at *
  have hb1 := below_alloc w (.cells #[.slice none 0 0, .int .u64 0, .int .i64 0] 130)
  have hz1 : GS (w.alloc (.cells #[.slice none 0 0, .int .u64 0, .int .i64 0] 130)) w.heap.size 130 0 0 0 := ⟨_, heap_alloc_new w _, none, 0, rfl⟩
  have hb2 := below_alloc w (.cells #[.int .i64 1] 131)
  have hz2 := heap_alloc_new w (.cells #[.int .i64 1] 131)
  have hsz : (w.alloc (.cells #[.int .i64 1] 131)).heap.size = w.heap.size + 1 := by simp
  have B1 := Lib.hid hb1; have Z1 := Lib.hid hz1; have B2 := Lib.hid hb2; have Z2 := Lib.hid hz2
  clear hb1 hz1 hb2 hz2
  cases d1
  case false =>
    go_enter Try.func24, Try.ntmps24
    go_wp2_with (first
      | (go_at_call 28; refine ha.mono ?_; rintro e w1 ⟨rfl, hw1⟩; obtain rfl := hw1.symm; clear ha)
      | (go_at_call 56; refine (hw _ _ _).mono ?_; rintro e w1 ⟨rfl, hw1⟩; obtain rfl := hw1.symm))
    go_ret
    first
      | exact ⟨_, rfl, ⟨_, heap_alloc_new _ _, ⟨_, _, _, rfl, heap_alloc_old Z2.out, rfl⟩⟩, B2.out.size, B2.out.trans ((below_alloc _ _).mono B2.out.size)⟩
      | exact ⟨_, rfl, ⟨_, heap_alloc_at _ _ hsz.symm, ⟨_, _, _, rfl, heap_alloc_old Z2.out, rfl⟩⟩, Nat.le_succ _, B2.out.trans ((below_alloc _ _).mono B2.out.size)⟩
  all_goals
    go_enter Try.func24, Try.ntmps24
    go_wp2_with (go_at_call 28; refine ha.mono ?_; rintro e w1 ⟨rfl, hw1⟩; obtain rfl := hw1.symm; clear ha)
    go_ret
    exact ⟨_, rfl, Z1.out, Nat.le_refl _, B1.out⟩
theorem asNow_nn (t : Int) : 0 ≤ asNow t := by unfold asNow; split <;> omega
end Go.Proofs.Ytcihaamjklbdkaa

/-
  Grows: a step in a world. (written by gengrow.py)
-/
namespace Go.Proofs.Ytcihaamjklbdkaa
open Go.RowKit Go.Maps
set_option linter.unusedVariables false

theorem ws_set4 {w0 w : World} {B : WB} {V : WV} {s : CS} {b o : Nat} {cs : Array Value} {T : TypeId} (h : WS w0 w B V s) (hb : w.heap[b]? = some (.cells cs T (0, 0))) (hT : wTy T = false) (hlo : w0.heap.size ≤ b) (v : Value) : WS w0 (w.setCell ⟨b, o, none⟩ v) B V s :=
  h.fr (set_ty hb o v) (fun X hX => by cases hXT : (X == T); rfl; rw [beq_iff_eq] at hXT; subst hXT; rw [hX] at hT; cases hT) (set_below h.below h.below.size hlo o v)
theorem wu_of_wf {v : Int} (h : 0 ≤ v ∧ v < 18446744073709551616) : (Lit.int .u64 v).wf = true := bd_wf h

set_option maxRecDepth 10000 in
set_option maxHeartbeats 1000000 in
theorem gwork2 {w0 w : World} {B : WB} {V : WV} {s : CS} {b : Nat} {word bits : Int} (h : WS w0 w B V s) (hr : s.room) (hlo : w0.heap.size ≤ b) (hG : GS w b 138 2 word bits) :
    Calls Try.prog 138 #[.pointer (some ⟨b, 0, none⟩), .pointer (some ⟨B.wb, 0, none⟩)] w fun e w' => e = .returned (.tuple #[]) ∧ WS w0 w' B V (s.acc 2 3 0) ∧ GS w' b 138 1 word bits ∧ Fx wTy true b w w' := by
  obtain ⟨v, hb, g, rfl, hg⟩ := hG
  have c0 := hcell hb 0
  have g0 := hcell hg 0
  have x0 := h.hd5.1
  have hst := h.store hr 3 (by decide) 0 (by decide)
  have HB := Lib.hid hb; have HG := Lib.hid hg
  clear h hr hb hg
  go_enter Try.func138, Try.ntmps138
  go_upto_region 7 with (go_at_call 23; refine hst.mono ?_; intro e w2 hh; obtain ⟨hh1, h2, f2⟩ := hh; subst hh1; have H2 := Lib.hid h2; have F2 := Lib.hid f2; clear h2 f2 hst c0 g0 x0)
  have hb2 := F2.out.cells _ _ _ _ HB.out rfl
  have hg2 := F2.out.cells _ _ _ _ HG.out rfl
  have c0 := hcell hb2 0
  have cf := hfrz hb2 0
  have HB2 := Lib.hid hb2; have HG2 := Lib.hid hg2
  clear hb2 hg2
  go_wp2_with fail
  go_end0
  have s1 := setCell_same HB2.out 0 (.slice (some ⟨g, 1, none⟩) 1 1)
  have ft := set_ty HB2.out 0 (.slice (some ⟨g, 1, none⟩) 1 1)
  exact ⟨rfl, ws_set4 H2.out HB2.out rfl hlo _, ⟨_, s1, g, 1, _, rfl, ft.cells _ _ _ _ HG2.out rfl, rfl⟩, (F2.out.fx b).trans (set_fx _ _ _ _ _ _)⟩

theorem gkind (w : World) : Calls Try.prog 144 #[.agg #[]] w fun e w' => e = .returned (.int .u8 4) ∧ Below w.heap.size w w' := by
  have hb := below_alloc w (.cells #[] 223)
  go_enter Try.func144, Try.ntmps144
  go_wp2
  go_ret
  exact ⟨rfl, hb⟩
set_option maxRecDepth 10000 in
set_option maxHeartbeats 2000000 in
theorem gwork1 {w0 w : World} {B : WB} {V : WV} {s : CS} {b : Nat} {word bits : Int} (h : WS w0 w B V s) (hr : s.room) (hlo : w0.heap.size ≤ b) (hwd : (Lit.int .u64 word).wf = true) (hl : V.nts.length < 1048576) (hs : Nsteps V.nts s.cnt) (hG : GS w b 138 1 word bits) :
    Calls Try.prog 138 #[.pointer (some ⟨b, 0, none⟩), .pointer (some ⟨B.wb, 0, none⟩)] w fun e w' => e = .returned (.tuple #[]) ∧ WS w0 w' B { V with nts := nadd V.nts ⟨((s.cnt + 1 : Nat) : Int), V.hd, 4, 0, 0, 0, 0, bits⟩ } (s.acc 2 2 word) ∧ GS w' b 138 0 word bits ∧ Fx wTy true b w w' := by
  obtain ⟨v, hb, g, ofs, cs, rfl, hg, hgo⟩ := hG
  have c0 := hcell hb 0
  have g0 := (hcell hg ofs).trans hgo
  have x0 : ∀ st : ExtW w, st.val.cell? ⟨B.wb, 0, none⟩ = some (.pointer (some ⟨B.cb, 0, none⟩)) := fun st => st.cell h.hd5.1
  have x1 : ∀ st : ExtW w, st.val.cell? ⟨b, 1, none⟩ = some (.int .u64 word) := fun st => st.cell (hcell hb 1)
  have H := Lib.hid h; have HR := Lib.hid hr; have HB := Lib.hid hb; have HW := Lib.hid hwd; have HL := Lib.hid hl; have HS := Lib.hid hs
  clear h hr hb hg hgo hwd hl hs
  go_enter Try.func138, Try.ntmps138
  go_upto_region 4 with (fail)
  clear c0 g0
  refine wp_region_ext_tail 8 (by kernel_rfl) (by kernel_rfl) ?_
  simp only [List.take_succ_cons, List.take_zero, List.drop_succ_cons, List.drop_zero]
  repeat (go_big_quiet_step (fail))
  refine wpQuiet_nil ?_
  rintro W ⟨⟨W2, hW⟩, rfl⟩
  clear x0 x1
  have hst := (H.out.keep hW).store HR.out 2 (by decide) word HW.out
  have hb1 := (hW.block _ (Array.getElem?_eq_some_iff.1 HB.out).1).trans HB.out
  have HB1 := Lib.hid hb1; have HWX := Lib.hid (below_fr hW wTy true)
  clear hW hb1
  go_upto_region 5 with (go_at_call 23; refine hst.mono ?_; intro e w2 hh; obtain ⟨hh1, h2, f2⟩ := hh; subst hh1; have H2 := Lib.hid h2; have F2 := Lib.hid (HWX.out.trans f2); have HB2 := Lib.hid (f2.cells _ _ _ _ HB1.out rfl); clear h2 f2 hst)
  have hba := below_alloc w2 (.cells #[] 223)
  have hza := heap_alloc_new w2 (.cells #[] 223)
  have H3 := Lib.hid (H2.out.keep hba); have F3 := Lib.hid (F2.out.trans (below_fr hba wTy true)); have HB3 := Lib.hid ((hba.block _ (Array.getElem?_eq_some_iff.1 HB2.out).1).trans HB2.out)
  clear hba hza H2 F2 HB2
  go_upto_region 6 with (fail)
  change Code.wp _ _ _ _ (w2.alloc (.cells #[] 223))
  generalize w2.alloc (.cells #[] 223) = w3 at *
  have x2 : ∀ st : ExtW w3, st.val.cell? ⟨b, 2, none⟩ = some (.int .i64 bits) := fun st => st.cell (hcell HB3.out 2)
  have hk : ∀ st : ExtW w3, Calls Try.prog 144 #[.agg #[]] st.val fun e w' => e = .returned (.int .u8 4) ∧ Below st.val.heap.size st.val w' := fun st => gkind st.val
  have hmo : ∀ (n : Nat) (W : World), (Go.method (n + 1) 223 (.agg #[]) "nestbox/grows.kind").run Try.prog W = .ok (144, .agg #[]) W := fun n W => by kernel_rfl
  refine wp_region_ext_tail 9 (by kernel_rfl) (by kernel_rfl) ?_
  simp only [List.take_succ_cons, List.take_zero, List.drop_succ_cons, List.drop_zero]
  repeat (go_big_quiet_step ((go_at_call 144; with_reducible refine calls_ext (hk _))))
  refine wpQuiet_nil ?_
  rintro W4 ⟨⟨W5, hW4⟩, rfl⟩
  clear x2 hk hmo
  have hnt := wnote_any (H3.out.keep hW4) 4 0 0 0 0 bits HL.out (by decide) (HS.out.le (by simp only [CS.acc]; omega))
  have HB4 := Lib.hid ((hW4.block _ (Array.getElem?_eq_some_iff.1 HB3.out).1).trans HB3.out); have F4 := Lib.hid (F3.out.trans (below_fr hW4 wTy true))
  clear hW4
  go_upto_region 7 with (go_at_call 14; refine hnt.mono ?_; intro e w6 hh; obtain ⟨hh1, h6, f6⟩ := hh; subst hh1; have H6 := Lib.hid h6; have F6 := Lib.hid (F4.out.trans f6); have HB6 := Lib.hid (f6.cells _ _ _ _ HB4.out rfl); clear h6 f6 hnt)
  have c0 := hcell HB6.out 0
  have cf := hfrz HB6.out 0
  go_wp2_with fail
  go_end0
  exact ⟨rfl, ws_set4 H6.out HB6.out rfl hlo _, ⟨_, setCell_same HB6.out 0 _, _, _, rfl⟩, (F6.out.fx b).trans (set_fx _ _ _ _ _ _)⟩

theorem skind (w : World) : Calls Try.prog 143 #[.agg #[]] w fun e w' => e = .returned (.int .u8 5) ∧ Below w.heap.size w w' := by
  have hb := below_alloc w (.cells #[] 220)
  go_enter Try.func143, Try.ntmps143
  go_wp2
  go_ret
  exact ⟨rfl, hb⟩
set_option maxRecDepth 10000 in
set_option maxHeartbeats 2000000 in
theorem swork1 {w0 w : World} {B : WB} {V : WV} {s : CS} {b : Nat} {word bits : Int} (h : WS w0 w B V s) (hr : s.room) (hlo : w0.heap.size ≤ b) (hwd : (Lit.int .u64 word).wf = true) (hl : V.nts.length < 1048576) (hs : Nsteps V.nts s.cnt) (hG : GS w b 130 1 word bits) :
    Calls Try.prog 136 #[.pointer (some ⟨b, 0, none⟩), .pointer (some ⟨B.wb, 0, none⟩)] w fun e w' => e = .returned (.tuple #[]) ∧ WS w0 w' B { V with nts := nadd V.nts ⟨((s.cnt + 1 : Nat) : Int), V.hd, 5, 0, 0, 0, 0, bits⟩ } (s.acc 2 2 word) ∧ GS w' b 130 0 word bits ∧ Fx wTy true b w w' := by
  obtain ⟨v, hb, g, ofs, cs, rfl, hg, hgo⟩ := hG
  have c0 := hcell hb 0
  have g0 := (hcell hg ofs).trans hgo
  have x0 : ∀ st : ExtW w, st.val.cell? ⟨B.wb, 0, none⟩ = some (.pointer (some ⟨B.cb, 0, none⟩)) := fun st => st.cell h.hd5.1
  have x1 : ∀ st : ExtW w, st.val.cell? ⟨b, 1, none⟩ = some (.int .u64 word) := fun st => st.cell (hcell hb 1)
  have H := Lib.hid h; have HR := Lib.hid hr; have HB := Lib.hid hb; have HW := Lib.hid hwd; have HL := Lib.hid hl; have HS := Lib.hid hs
  clear h hr hb hg hgo hwd hl hs
  go_enter Try.func136, Try.ntmps136
  go_upto_region 4 with (fail)
  clear c0 g0
  refine wp_region_ext_tail 8 (by kernel_rfl) (by kernel_rfl) ?_
  simp only [List.take_succ_cons, List.take_zero, List.drop_succ_cons, List.drop_zero]
  repeat (go_big_quiet_step (fail))
  refine wpQuiet_nil ?_
  rintro W ⟨⟨W2, hW⟩, rfl⟩
  clear x0 x1
  have hst := (H.out.keep hW).store HR.out 2 (by decide) word HW.out
  have hb1 := (hW.block _ (Array.getElem?_eq_some_iff.1 HB.out).1).trans HB.out
  have HB1 := Lib.hid hb1; have HWX := Lib.hid (below_fr hW wTy true)
  clear hW hb1
  go_upto_region 5 with (go_at_call 23; refine hst.mono ?_; intro e w2 hh; obtain ⟨hh1, h2, f2⟩ := hh; subst hh1; have H2 := Lib.hid h2; have F2 := Lib.hid (HWX.out.trans f2); have HB2 := Lib.hid (f2.cells _ _ _ _ HB1.out rfl); clear h2 f2 hst)
  have hba := below_alloc w2 (.cells #[] 220)
  have hza := heap_alloc_new w2 (.cells #[] 220)
  have H3 := Lib.hid (H2.out.keep hba); have F3 := Lib.hid (F2.out.trans (below_fr hba wTy true)); have HB3 := Lib.hid ((hba.block _ (Array.getElem?_eq_some_iff.1 HB2.out).1).trans HB2.out)
  clear hba hza H2 F2 HB2
  go_upto_region 6 with (fail)
  change Code.wp _ _ _ _ (w2.alloc (.cells #[] 220))
  generalize w2.alloc (.cells #[] 220) = w3 at *
  have x2 : ∀ st : ExtW w3, st.val.cell? ⟨b, 2, none⟩ = some (.int .i64 bits) := fun st => st.cell (hcell HB3.out 2)
  have hk : ∀ st : ExtW w3, Calls Try.prog 143 #[.agg #[]] st.val fun e w' => e = .returned (.int .u8 5) ∧ Below st.val.heap.size st.val w' := fun st => skind st.val
  have hmo : ∀ (n : Nat) (W : World), (Go.method (n + 1) 220 (.agg #[]) "nestbox/grows.kind").run Try.prog W = .ok (143, .agg #[]) W := fun n W => by kernel_rfl
  refine wp_region_ext_tail 9 (by kernel_rfl) (by kernel_rfl) ?_
  simp only [List.take_succ_cons, List.take_zero, List.drop_succ_cons, List.drop_zero]
  repeat (go_big_quiet_step ((go_at_call 143; with_reducible refine calls_ext (hk _))))
  refine wpQuiet_nil ?_
  rintro W4 ⟨⟨W5, hW4⟩, rfl⟩
  clear x2 hk hmo
  have hnt := wnote_any (H3.out.keep hW4) 5 0 0 0 0 bits HL.out (by decide) (HS.out.le (by simp only [CS.acc]; omega))
  have HB4 := Lib.hid ((hW4.block _ (Array.getElem?_eq_some_iff.1 HB3.out).1).trans HB3.out); have F4 := Lib.hid (F3.out.trans (below_fr hW4 wTy true))
  clear hW4
  go_upto_region 7 with (go_at_call 14; refine hnt.mono ?_; intro e w6 hh; obtain ⟨hh1, h6, f6⟩ := hh; subst hh1; have H6 := Lib.hid h6; have F6 := Lib.hid (F4.out.trans f6); have HB6 := Lib.hid (f6.cells _ _ _ _ HB4.out rfl); clear h6 f6 hnt)
  have c0 := hcell HB6.out 0
  have cf := hfrz HB6.out 0
  go_wp2_with fail
  go_end0
  exact ⟨rfl, ws_set4 H6.out HB6.out rfl hlo _, ⟨_, setCell_same HB6.out 0 _, _, _, rfl⟩, (F6.out.fx b).trans (set_fx _ _ _ _ _ _)⟩

set_option maxRecDepth 10000 in
set_option maxHeartbeats 1000000 in
theorem gstep2 {w0 w : World} {B : WB} {V : WV} {s : CS} {b : Nat} {word bits : Int} (h : WS w0 w B V s) (hr : s.room) (hlo : w0.heap.size ≤ b) (hG : GS w b 138 2 word bits) :
    Calls Try.prog 137 #[.pointer (some ⟨b, 0, none⟩), .pointer (some ⟨B.wb, 0, none⟩)] w fun e w' => e = .returned (.bool false) ∧ WS w0 w' B V (s.acc 2 3 0) ∧ GS w' b 138 1 word bits ∧ Fx wTy true b w w' := by
  have ho := gover (by decide) hG
  have hwk := gwork2 h hr hlo hG
  rw [show ((2 : Nat) == 0) = false from rfl] at ho
  clear h hr hG
  go_enter Try.func137, Try.ntmps137
  go_wp2_with (first
    | (go_at_call 29; refine ho.mono ?_; intro e w1 hh; obtain ⟨hh1, hh2⟩ := hh; subst hh1; obtain rfl := hh2.symm; clear ho)
    | (go_at_call 138; refine hwk.mono ?_; intro e w2 hh; obtain ⟨hh1, h2, g2, f2⟩ := hh; subst hh1; have ho2 := gover (by decide) g2; rw [show ((1 : Nat) == 0) = false from rfl] at ho2; have H2 := Lib.hid h2; have G2 := Lib.hid g2; have F2 := Lib.hid f2; clear h2 g2 f2 hwk)
    | (go_at_call 29; refine ho2.mono ?_; intro e w3 hh; obtain ⟨hh1, hh2⟩ := hh; subst hh1; obtain rfl := hh2.symm))
  go_ret
  exact ⟨rfl, H2.out, G2.out, F2.out⟩

set_option maxRecDepth 10000 in
set_option maxHeartbeats 1000000 in
theorem gstep1 {w0 w : World} {B : WB} {V : WV} {s : CS} {b : Nat} {word bits : Int} (h : WS w0 w B V s) (hr : s.room) (hlo : w0.heap.size ≤ b) (hwd : (Lit.int .u64 word).wf = true) (hl : V.nts.length < 1048576) (hs : Nsteps V.nts s.cnt) (hG : GS w b 138 1 word bits) :
    Calls Try.prog 137 #[.pointer (some ⟨b, 0, none⟩), .pointer (some ⟨B.wb, 0, none⟩)] w fun e w' => e = .returned (.bool true) ∧ WS w0 w' B { V with nts := nadd V.nts ⟨((s.cnt + 1 : Nat) : Int), V.hd, 4, 0, 0, 0, 0, bits⟩ } (s.acc 2 2 word) ∧ GS w' b 138 0 word bits ∧ Fx wTy true b w w' := by
  have ho := gover (by decide) hG
  have hwk := gwork1 h hr hlo hwd hl hs hG
  rw [show ((1 : Nat) == 0) = false from rfl] at ho
  clear h hr hG
  go_enter Try.func137, Try.ntmps137
  go_wp2_with (first
    | (go_at_call 29; refine ho.mono ?_; intro e w1 hh; obtain ⟨hh1, hh2⟩ := hh; subst hh1; obtain rfl := hh2.symm; clear ho)
    | (go_at_call 138; refine hwk.mono ?_; intro e w2 hh; obtain ⟨hh1, h2, g2, f2⟩ := hh; subst hh1; have ho2 := gover (by decide) g2; rw [show ((0 : Nat) == 0) = true from rfl] at ho2; have H2 := Lib.hid h2; have G2 := Lib.hid g2; have F2 := Lib.hid f2; clear h2 g2 f2 hwk)
    | (go_at_call 29; refine ho2.mono ?_; intro e w3 hh; obtain ⟨hh1, hh2⟩ := hh; subst hh1; obtain rfl := hh2.symm))
  go_ret
  exact ⟨rfl, H2.out, G2.out, F2.out⟩

set_option maxRecDepth 10000 in
set_option maxHeartbeats 1000000 in
theorem sstep1 {w0 w : World} {B : WB} {V : WV} {s : CS} {b : Nat} {word bits : Int} (h : WS w0 w B V s) (hr : s.room) (hlo : w0.heap.size ≤ b) (hwd : (Lit.int .u64 word).wf = true) (hl : V.nts.length < 1048576) (hs : Nsteps V.nts s.cnt) (hG : GS w b 130 1 word bits) :
    Calls Try.prog 135 #[.pointer (some ⟨b, 0, none⟩), .pointer (some ⟨B.wb, 0, none⟩)] w fun e w' => e = .returned (.bool true) ∧ WS w0 w' B { V with nts := nadd V.nts ⟨((s.cnt + 1 : Nat) : Int), V.hd, 5, 0, 0, 0, 0, bits⟩ } (s.acc 2 2 word) ∧ GS w' b 130 0 word bits ∧ Fx wTy true b w w' := by
  have ho := sover (by decide) hG
  have hwk := swork1 h hr hlo hwd hl hs hG
  rw [show ((1 : Nat) == 0) = false from rfl] at ho
  clear h hr hG
  go_enter Try.func135, Try.ntmps135
  go_wp2_with (first
    | (go_at_call 25; refine ho.mono ?_; intro e w1 hh; obtain ⟨hh1, hh2⟩ := hh; subst hh1; obtain rfl := hh2.symm; clear ho)
    | (go_at_call 136; refine hwk.mono ?_; intro e w2 hh; obtain ⟨hh1, h2, g2, f2⟩ := hh; subst hh1; have ho2 := sover (by decide) g2; rw [show ((0 : Nat) == 0) = true from rfl] at ho2; have H2 := Lib.hid h2; have G2 := Lib.hid g2; have F2 := Lib.hid f2; clear h2 g2 f2 hwk)
    | (go_at_call 25; refine ho2.mono ?_; intro e w3 hh; obtain ⟨hh1, hh2⟩ := hh; subst hh1; obtain rfl := hh2.symm))
  go_ret
  exact ⟨rfl, H2.out, G2.out, F2.out⟩

end Go.Proofs.Ytcihaamjklbdkaa

/-
  Grows: layer 19's examples.
-/
namespace Go.Proofs.Ytcihaamjklbdkaa
open Go.RowKit Go.Maps
set_option linter.unusedVariables false

theorem world12v (b : Int) (hb : 1 ≤ b ∧ b ≤ 12) (w : World) : Calls Try.prog 22 #[.int .i64 b] w fun e w' => ∃ B, e = .returned (.pointer (some ⟨B.wb, 0, none⟩)) ∧ WS w w' B (v0 ⟨b, 8, 3, 1, 16⟩) (CS.init [(2, tword b 0)]) := by
  have hn1 : Calls Try.prog 33 #[.agg #[.int .i64 b, .int .i64 8, .int .i64 3, .int .i64 1, .int .i64 16]] w fun e w' => ∃ B : WB, e = .returned (.tuple #[.pointer (some ⟨B.wb, 0, none⟩), .int .i64 0]) ∧ WS w w' B (v0 ⟨b, 8, 3, 1, 16⟩) (CS.init [(2, tword b 0)]) :=
    (wnew_ok ⟨b, 8, 3, 1, 16⟩ (by simp [Conf.ok]; omega) w).mono fun e w' ⟨wb, cb, ib, nb, he, g1, g2, g3, g4, g5, g6, g7⟩ => ⟨⟨wb, cb, ib, nb⟩, he, ws_of (Below.refl _ w) g1 g2 g3 g4 g5 g6 g7⟩
  clear hb
  go_enter Try.func22, Try.ntmps22
  go_wp2_with (go_at_call 33; with_reducible refine hn1.mono ?_; rintro e w1 ⟨B, rfl, h1⟩)
  go_ret
  exact ⟨_, rfl, h1⟩
theorem WS.slow {w0 w : World} {B : WB} {V : WV} {s : CS} (h : WS w0 w B V s) : w0.heap.size ≤ w.heap.size := h.below.size
set_option maxRecDepth 10000 in
set_option maxHeartbeats 2000000 in
theorem grun {w0 w : World} {B : WB} {V : WV} {s : CS} {b m : Nat} {word bits : Int} (h : WS w0 w B V s) (hm : s.n ≤ m ∧ s.cnt ≤ m) (hml : m ≤ 1000) (hlo : w0.heap.size ≤ b) (hwd : (Lit.int .u64 word).wf = true) (hl : V.nts.length < 1000) (hs : Nsteps V.nts s.cnt) (hG : GS w b 138 2 word bits) :
    Calls Try.prog 26 #[.pointer (some ⟨B.wb, 0, none⟩), .iface 80 (.pointer (some ⟨b, 0, none⟩)), .int .i64 9] w fun e w' => e = .returned (.int .i64 2) ∧ ∃ V', WS w0 w' B V' ((s.acc 2 3 0).acc 2 2 word) ∧ V'.nts.length ≤ V.nts.length + 1 ∧ Nsteps V'.nts ((s.acc 2 3 0).acc 2 2 word).cnt := by
  have r0 : s.room := CS.room_of m hm (by unfold lim; omega)
  have r1 : (s.acc 2 3 0).room := CS.room_of (m + 1) (room_acc m hm) (by unfold lim; omega)
  have hs1 : Nsteps V.nts (s.acc 2 3 0).cnt := hs.le (by simp only [CS.acc]; omega)
  obtain ⟨V1, hV1⟩ : ∃ V1, V1 = { V with nts := nadd V.nts ⟨(((s.acc 2 3 0).cnt + 1 : Nat) : Int), V.hd, 4, 0, 0, 0, 0, bits⟩ } := ⟨_, rfl⟩
  have hfin : V1.nts.length ≤ V.nts.length + 1 ∧ Nsteps V1.nts ((s.acc 2 3 0).acc 2 2 word).cnt := by
    rw [hV1]
    have h2 : Nsteps V.nts (((s.acc 2 3 0).cnt + 1 : Nat) : Int) := hs1.le (by omega)
    have h3 := h2.add (n := ⟨(((s.acc 2 3 0).cnt + 1 : Nat) : Int), V.hd, 4, 0, 0, 0, 0, bits⟩) rfl
    exact ⟨nadd_len V.nts ⟨(((s.acc 2 3 0).cnt + 1 : Nat) : Int), V.hd, 4, 0, 0, 0, 0, bits⟩, h3⟩
  have st2 : ∀ W, WS w0 W B V s → GS W b 138 2 word bits → Calls Try.prog 137 #[.pointer (some ⟨b, 0, none⟩), .pointer (some ⟨B.wb, 0, none⟩)] W fun e w' => e = .returned (.bool false) ∧ WS w0 w' B V (s.acc 2 3 0) ∧ GS w' b 138 1 word bits ∧ Fx wTy true b W w' := fun W h1 h2 => gstep2 h1 r0 hlo h2
  have st1 : ∀ W, WS w0 W B V (s.acc 2 3 0) → GS W b 138 1 word bits → Calls Try.prog 137 #[.pointer (some ⟨b, 0, none⟩), .pointer (some ⟨B.wb, 0, none⟩)] W fun e w' => e = .returned (.bool true) ∧ WS w0 w' B V1 ((s.acc 2 3 0).acc 2 2 word) ∧ GS w' b 138 0 word bits ∧ Fx wTy true b W w' := fun W h1 h2 => by rw [hV1]; exact gstep1 h1 r1 hlo hwd (by omega) hs1 h2
  generalize s.acc 2 3 0 = s1 at *
  generalize s1.acc 2 2 word = s2 at *
  have H := Lib.hid h; have HG := Lib.hid hG; have HF := Lib.hid hfin; have S2 := Lib.hid st2; have S1 := Lib.hid st1
  clear h hm hml hwd hl hs hG r0 r1 hs1 hV1 hfin st2 st1
  go_enter Try.func26, Try.ntmps26
  go_wp2
  go_loopw [7] (fun i wr => (i = .int .i64 0 ∧ WS w0 wr B V s ∧ GS wr b 138 2 word bits) ∨ (i = .int .i64 1 ∧ WS w0 wr B V s1 ∧ GS wr b 138 1 word bits) ∨ (i = .int .i64 2 ∧ WS w0 wr B V1 s2 ∧ GS wr b 138 0 word bits)) (fun i _ => 2 - (intOf i).toNat)
  case atStart => exact .inl ⟨rfl, H.out, HG.out⟩
  case round =>
    clear H HG
    rcases hrel with ⟨rfl, h1, h2⟩ | ⟨rfl, h1, h2⟩ | ⟨rfl, h1, h2⟩
    · have hov := gover (by decide) h2
      rw [show ((2 : Nat) == 0) = false from rfl] at hov
      have hst := S2.out _ h1 h2
      clear h1 h2
      go_wp2_with (first
        | (go_at_call 29; refine hov.mono ?_; intro e w2 hh; obtain ⟨hh1, hh2⟩ := hh; subst hh1; obtain rfl := hh2.symm; clear hov)
        | (go_at_call 137; refine hst.mono ?_; intro e w3 hh; obtain ⟨hh1, g1, g2, -⟩ := hh; subst hh1))
      exact ⟨.inr (.inl ⟨rfl, g1, g2⟩), by simp [intOf]⟩
    · have hov := gover (by decide) h2
      rw [show ((1 : Nat) == 0) = false from rfl] at hov
      have hst := S1.out _ h1 h2
      clear h1 h2
      go_wp2_with (first
        | (go_at_call 29; refine hov.mono ?_; intro e w2 hh; obtain ⟨hh1, hh2⟩ := hh; subst hh1; obtain rfl := hh2.symm; clear hov)
        | (go_at_call 137; refine hst.mono ?_; intro e w3 hh; obtain ⟨hh1, g1, g2, -⟩ := hh; subst hh1))
      exact ⟨.inr (.inr ⟨rfl, g1, g2⟩), by simp [intOf]⟩
    · have hov := gover (by decide) h2
      rw [show ((0 : Nat) == 0) = true from rfl] at hov
      have H1 := Lib.hid h1
      clear h1 h2
      go_wp2_with (go_at_call 29; refine hov.mono ?_; intro e w2 hh; obtain ⟨hh1, hh2⟩ := hh; subst hh1; obtain rfl := hh2.symm; clear hov)
      go_ret
      exact ⟨rfl, V1, H1.out, HF.out⟩
set_option maxRecDepth 10000 in
set_option maxHeartbeats 2000000 in
theorem srun {w0 w : World} {B : WB} {V : WV} {s : CS} {b m : Nat} {word bits : Int} (h : WS w0 w B V s) (hm : s.n ≤ m ∧ s.cnt ≤ m) (hml : m ≤ 1000) (hlo : w0.heap.size ≤ b) (hwd : (Lit.int .u64 word).wf = true) (hl : V.nts.length < 1000) (hs : Nsteps V.nts s.cnt) (hG : GS w b 130 1 word bits) :
    Calls Try.prog 26 #[.pointer (some ⟨B.wb, 0, none⟩), .iface 77 (.pointer (some ⟨b, 0, none⟩)), .int .i64 9] w fun e w' => e = .returned (.int .i64 1) ∧ ∃ V', WS w0 w' B V' (s.acc 2 2 word) := by
  have r0 : s.room := CS.room_of m hm (by unfold lim; omega)
  obtain ⟨V1, hV1⟩ : ∃ V1, V1 = { V with nts := nadd V.nts ⟨((s.cnt + 1 : Nat) : Int), V.hd, 5, 0, 0, 0, 0, bits⟩ } := ⟨_, rfl⟩
  have st1 : ∀ W, WS w0 W B V s → GS W b 130 1 word bits → Calls Try.prog 135 #[.pointer (some ⟨b, 0, none⟩), .pointer (some ⟨B.wb, 0, none⟩)] W fun e w' => e = .returned (.bool true) ∧ WS w0 w' B V1 (s.acc 2 2 word) ∧ GS w' b 130 0 word bits ∧ Fx wTy true b W w' := fun W h1 h2 => by rw [hV1]; exact sstep1 h1 r0 hlo hwd (by omega) hs h2
  generalize s.acc 2 2 word = s2 at *
  have H := Lib.hid h; have HG := Lib.hid hG; have S1 := Lib.hid st1
  clear h hm hml hwd hl hs hG r0 hV1 st1
  go_enter Try.func26, Try.ntmps26
  go_wp2
  go_loopw [7] (fun i wr => (i = .int .i64 0 ∧ WS w0 wr B V s ∧ GS wr b 130 1 word bits) ∨ (i = .int .i64 1 ∧ WS w0 wr B V1 s2 ∧ GS wr b 130 0 word bits)) (fun i _ => 1 - (intOf i).toNat)
  case atStart => exact .inl ⟨rfl, H.out, HG.out⟩
  case round =>
    clear H HG
    rcases hrel with ⟨rfl, h1, h2⟩ | ⟨rfl, h1, h2⟩
    · have hov := sover (by decide) h2
      rw [show ((1 : Nat) == 0) = false from rfl] at hov
      have hst := S1.out _ h1 h2
      clear h1 h2
      go_wp2_with (first
        | (go_at_call 25; refine hov.mono ?_; intro e w2 hh; obtain ⟨hh1, hh2⟩ := hh; subst hh1; obtain rfl := hh2.symm; clear hov)
        | (go_at_call 135; refine hst.mono ?_; intro e w3 hh; obtain ⟨hh1, g1, g2, -⟩ := hh; subst hh1))
      exact ⟨.inr ⟨rfl, g1, g2⟩, by simp [intOf]⟩
    · have hov := sover (by decide) h2
      rw [show ((0 : Nat) == 0) = true from rfl] at hov
      have H1 := Lib.hid h1
      clear h1 h2
      go_wp2_with (go_at_call 25; refine hov.mono ?_; intro e w2 hh; obtain ⟨hh1, hh2⟩ := hh; subst hh1; obtain rfl := hh2.symm; clear hov)
      go_ret
      exact ⟨rfl, V1, H1.out⟩
set_option maxRecDepth 10000 in
set_option maxHeartbeats 4000000 in
theorem lives19 (w : World) : Calls Try.prog 30 #[] w fun e w' => e = .returned (.bool true) ∧ Below w.heap.size w w' := by
  have g2 := fun W => gnew 2 (by decide) W
  rw [show gdead 2 = false by decide] at g2
  have k770 := fun W => gnew 770 (by decide) W
  rw [show gdead 770 = true by decide] at k770
  have k12 := fun W => gnew 12 (by decide) W
  rw [show gdead 12 = true by decide] at k12
  have t770 := fun W => snew 770 (by decide) W
  rw [show sdead 770 = false by decide] at t770
  have t3 := fun W => snew 3 (by decide) W
  rw [show sdead 3 = true by decide] at t3
  have ew1 : tword (asOld 2) (asOld 2 + 1) = 770 := by decide
  have ew2 : tword (asNow 770) 0 = 3 := by decide
  simp only [Bool.false_eq_true, if_false, if_true, ew1, ew2] at g2 k770 k12 t770 t3
  clear ew1 ew2
  go_enter Try.func30, Try.ntmps30
  go_upto_region 4 with (go_at_call 22; refine (world12v 2 (by decide) w).mono ?_; intro e w1 hh; obtain ⟨B, hh1, h1⟩ := hh; subst hh1; have H1 := Lib.hid h1; clear h1)
  have hm0 : (CS.init [(2, tword 2 0)]).n ≤ 1 ∧ (CS.init [(2, tword 2 0)]).cnt ≤ 1 := ⟨by decide, by decide⟩
  have hn0 : (v0 ⟨2, 8, 3, 1, 16⟩).nts = [] := rfl
  generalize CS.init [(2, tword 2 0)] = s at *
  generalize v0 ⟨2, 8, 3, 1, 16⟩ = V at *
  have hrun : ∀ (W : World) (b : Nat) (bits : Int), Below w1.heap.size w1 W → w1.heap.size ≤ b → GS W b 138 2 770 bits → Calls Try.prog 26 #[.pointer (some ⟨B.wb, 0, none⟩), .iface 80 (.pointer (some ⟨b, 0, none⟩)), .int .i64 9] W fun e w' => e = .returned (.int .i64 2) ∧ ∃ V', WS w w' B V' ((s.acc 2 3 0).acc 2 2 770) ∧ V'.nts.length ≤ V.nts.length + 1 ∧ Nsteps V'.nts ((s.acc 2 3 0).acc 2 2 770).cnt := fun W b bits h1 h2 h3 =>
    grun (m := 1) (H1.out.keep h1) hm0 (by decide) (Nat.le_trans H1.out.slow h2) (by decide) (by rw [hn0]; decide) (by rw [hn0]; intro y hy; cases hy) h3
  have HRUN := Lib.hid hrun
  have HM := Lib.hid hm0; have HN := Lib.hid hn0
  clear hm0 hn0 hrun
  go_upto_region 5 with (first
    | (go_at_call 27; with_reducible refine (g2 _).mono ?_; intro e w2 hh; obtain ⟨b, hh1, hG, hlb, hbb⟩ := hh; subst hh1; have hrn := HRUN.out _ _ _ hbb hlb hG; clear hG hlb hbb g2)
    | (go_at_call 26; with_reducible refine hrn.mono ?_; intro e w3 hh; obtain ⟨hh1, V3, h3, hl3, hs3⟩ := hh; subst hh1; have H3 := Lib.hid h3; have HL3 := Lib.hid hl3; have HS3 := Lib.hid hs3; clear h3 hl3 hs3 hrn))
  have v2 : ((s.acc 2 3 0).acc 2 2 770).val 2 = 770 := by simp [CS.acc, upd]
  have v3 : (((s.acc 2 3 0).acc 2 2 770).acc 2 2 3).val 3 = 0 := by simp [CS.acc, upd]
  have v4 : (((s.acc 2 3 0).acc 2 2 770).acc 2 2 3).val 2 = 3 := by simp [CS.acc, upd]
  have hm3 : ((s.acc 2 3 0).acc 2 2 770).n ≤ 3 ∧ ((s.acc 2 3 0).acc 2 2 770).cnt ≤ 3 := by have := HM.out; simp only [CS.acc]; omega
  generalize (s.acc 2 3 0).acc 2 2 770 = s3 at *
  have p2 := H3.out.peek 2 (by decide)
  rw [v2] at p2
  have c3 := H3.out.hd5.1
  have hrun3 : ∀ (W : World) (b : Nat) (bits : Int), Below w3.heap.size w3 W → w3.heap.size ≤ b → GS W b 130 1 3 bits → Calls Try.prog 26 #[.pointer (some ⟨B.wb, 0, none⟩), .iface 77 (.pointer (some ⟨b, 0, none⟩)), .int .i64 9] W fun e w' => e = .returned (.int .i64 1) ∧ ∃ V', WS w w' B V' (s3.acc 2 2 3) := fun W b bits h1 h2 h3 =>
    srun (m := 3) (H3.out.keep h1) hm3 (by decide) (Nat.le_trans H3.out.slow h2) (by decide) (by have h1 := HL3.out; have h2 := congrArg List.length HN.out; simp only [List.length_nil] at h2; omega) HS3.out h3
  have HRUN3 := Lib.hid hrun3
  clear hrun3
  have HV3 := Lib.hid v3; have HV4 := Lib.hid v4
  clear v2 v3 v4 hm3
  go_upto_region 7 with (first
    | (go_at_call 18; with_reducible refine p2.mono ?_; intro e w4 hh; obtain ⟨hh1, hh2⟩ := hh; subst hh1; obtain rfl := hh2.symm; clear p2 c3)
    | (go_at_call 24; with_reducible refine (t770 _).mono ?_; intro e w4 hh; obtain ⟨b4, hh1, hG, hlb, hbb⟩ := hh; subst hh1; have hrn := HRUN3.out _ _ _ hbb hlb hG; clear hG hlb hbb t770)
    | (go_at_call 26; with_reducible refine hrn.mono ?_; intro e w5 hh; obtain ⟨hh1, V5, h5⟩ := hh; subst hh1; have H5 := Lib.hid h5; have p3 := h5.peek 3 (by decide); rw [HV3.out] at p3; have p4 := h5.peek 2 (by decide); rw [HV4.out] at p4; have c5 := h5.hd5.1; clear h5 hrn))
  go_wp2_with (first
    | (go_at_call 18; with_reducible refine p3.mono ?_; intro e w6 hh; obtain ⟨hh1, hh2⟩ := hh; subst hh1; obtain rfl := hh2.symm; clear p3)
    | (go_at_call 18; with_reducible refine p4.mono ?_; intro e w6 hh; obtain ⟨hh1, hh2⟩ := hh; subst hh1; obtain rfl := hh2.symm; clear p4)
    | (go_at_call 27; with_reducible refine (k770 _).mono ?_; intro e w7 hh; obtain ⟨b7, hh1, hG7, -, hb7⟩ := hh; subst hh1; have ho7 := gover (by decide) hG7; rw [show ((0 : Nat) == 0) = true from rfl] at ho7; have B7 := Lib.hid (H5.out.keep hb7); clear hG7 hb7 k770)
    | (go_at_call 29; with_reducible refine ho7.mono ?_; intro e w8 hh; obtain ⟨hh1, hh2⟩ := hh; subst hh1; obtain rfl := hh2.symm; clear ho7)
    | (go_at_call 24; with_reducible refine (t3 _).mono ?_; intro e w9 hh; obtain ⟨b9, hh1, hG9, -, hb9⟩ := hh; subst hh1; have ho9 := sover (by decide) hG9; rw [show ((0 : Nat) == 0) = true from rfl] at ho9; have B9 := Lib.hid (B7.out.keep hb9); clear hG9 hb9 t3)
    | (go_at_call 25; with_reducible refine ho9.mono ?_; intro e w10 hh; obtain ⟨hh1, hh2⟩ := hh; subst hh1; obtain rfl := hh2.symm; clear ho9)
    | (go_at_call 27; with_reducible refine (k12 _).mono ?_; intro e w11 hh; obtain ⟨b11, hh1, hG11, -, hb11⟩ := hh; subst hh1; have ho11 := gover (by decide) hG11; rw [show ((0 : Nat) == 0) = true from rfl] at ho11; have B11 := Lib.hid (B9.out.keep hb11); clear hG11 hb11 k12)
    | (go_at_call 29; with_reducible refine ho11.mono ?_; intro e w12 hh; obtain ⟨hh1, hh2⟩ := hh; subst hh1; obtain rfl := hh2.symm; clear ho11))
  go_ret
  exact ⟨rfl, B11.out.below⟩
end Go.Proofs.Ytcihaamjklbdkaa

/-
  A map from integers to integers that a call made: what it says at each key.
-/
namespace Go.Proofs.Ytcihaamjklbdkaa
open Go.RowKit Go.Maps
set_option linter.unusedVariables false

/-- Block m is a map of at most n entries; at key a it says f a (0 where it has none). -/
def MapI (w : World) (K E : TypeId) (q : IntKind) (m n : Nat) (f : Int → Int) : Prop :=
  ∃ D : DataW Unit, w.ownsMap Try.prog K (plainElem Try.prog E) m n D ∧ ∀ a, D.atKey (kA a) (.lit (.int q 0)) = .lit (.int q (f a))
section
variable {w w' : World} {K E t : TypeId} {q : IntKind} {m n : Nat} {f : Int → Int}
theorem MapI.made (w : World) (K E : TypeId) (q : IntKind) : MapI (w.alloc (.map #[] 0)) K E q w.heap.size 0 fun _ => 0 := ⟨.map [], World.ownsMap_made w _ _ _, fun a => rfl⟩
theorem MapI.lt (h : MapI w K E q m n f) : m < w.heap.size := by obtain ⟨D, h, _⟩ := h; exact h.lt
theorem MapI.keep (h : MapI w K E q m n f) (hk : w'.heap[m]? = w.heap[m]?) : MapI w' K E q m n f := by
  obtain ⟨D, ⟨es, clock, hb, r⟩, hf⟩ := h
  exact ⟨D, ⟨es, clock, hk.trans hb, r⟩, hf⟩
theorem MapI.below (h : MapI w K E q m n f) (hb : Below w.heap.size w w') : MapI w' K E q m n f := h.keep (hb.block _ h.lt)
theorem MapI.look (h : MapI w K E q m n f) (hK : Try.prog.underlying K = some (.int .u64)) (hE : Try.prog.underlying E = some (.int q)) (hz : (zeroValue E).run Try.prog w = .ok (.int q 0) w) (ht : Try.prog.underlying t = some (.map K E)) {a : Int} (ha : (Lit.int .u64 a).wf = true) :
    (Instr.lookup t (.map (some m)) (.int .u64 a) false).run Try.prog w = .ok (.int q (f a)) w ∧ (Lit.int q (f a)).wf = true := by
  obtain ⟨D, h, hf⟩ := h
  obtain ⟨c, hr, hat, hw⟩ := h.lookup_int (int_keyed hK) ht hE hz (keyOf_int_mk hK ha)
  have := hat.symm.trans (hf a)
  simp only [DataW.lit.injEq, Lit.int.injEq, true_and] at this
  subst this
  exact ⟨hr, hw⟩
theorem MapI.put (h : MapI w K E q m n f) (hK : Try.prog.underlying K = some (.int .u64)) (hE : Try.prog.underlying E = some (.int q)) (ht : Try.prog.underlying t = some (.map K E)) {a v : Int} (ha : (Lit.int .u64 a).wf = true) (hv : (Lit.int q v).wf = true) (hn : n < maxLen) :
    ∃ w', (Instr.mapUpdate t (.map (some m)) (.int .u64 a) (.int q v)).run Try.prog w = .ok () w' ∧ MapI w' K E q m (n + 1) (upd f a v) ∧ w.grownBy w' (some m) := by
  obtain ⟨D, h, hf⟩ := h
  obtain ⟨w', hr, ho, hg⟩ := h.update (int_keyed hK) ht hn (keyOf_int_mk hK ha) (plainElem_int hE hv)
  refine ⟨w', hr, ⟨_, ho, fun x => ?_⟩, hg⟩
  by_cases hx : x = a
  · subst hx
    rw [upd_same]; exact atKey_put_same h.isMap (kA_key x) _ _
  · have hne : kA x ≠ kA a := fun c => hx (by simpa [kA] using c)
    have e := atKey_put_other (D := D) (d := .lit (.int q v)) (z := .lit (.int q 0)) hne
    rw [upd_other _ hx]
    exact e.trans (hf x)
end
/-- 'm[a] = v' at the operation. -/
theorem wpList_puti {w : World} {K E t : TypeId} {q : IntKind} {b n : Nat} {f : Int → Int} {ops : Array Oper} {rest : List Oper} {o : Oper} {a : Act} {Q : Exit → Act → World → Prop} (hg : o.guard = none) (m x v : Operand) (hop : o.op = Op.mapUpdate t m x v)
    (hM : MapI w K E q b n f) (hK : Try.prog.underlying K = some (.int .u64)) (hE : Try.prog.underlying E = some (.int q)) (ht : Try.prog.underlying t = some (.map K E)) (hm : a.eval m = .map (some b)) (hn : n < maxLen) (k u : Int) (hx : a.eval x = .int .u64 k) (hv : a.eval v = .int q u) (hk : (Lit.int .u64 k).wf = true) (hu : (Lit.int q u).wf = true)
    (hC : ∀ w', MapI w' K E q b (n + 1) (upd f k u) → w.grownBy w' (some b) → wpList Try.prog ops Q rest (a.put o.dst undef) w') :
    wpList Try.prog ops Q (o :: rest) a w := by
  refine wpList_plain hg fun K' hK' => ?_
  obtain ⟨w', hrun, r1, r2⟩ := hM.put hK hE ht hk hu hn
  unfold Oper.wp
  simp [execOp, hop, hm, hx, hv, hrun, Result.andThen]
  exact hK' _ _ (hC w' r1 r2)
end Go.Proofs.Ytcihaamjklbdkaa

/-
  Grows: a Grow, or a Swap, by itself: just what it leaves.
-/
namespace Go.Proofs.Ytcihaamjklbdkaa
open Go.RowKit Go.Maps
set_option linter.unusedVariables false

theorem nadd_in (l : List Nte) (n : Nte) (h : 1 ≤ n.kind ∧ n.kind ≤ 9) : nadd l n = l ++ [n] := by unfold nadd; rw [if_pos h]
set_option maxRecDepth 10000 in
set_option maxHeartbeats 2000000 in
theorem gruns {w0 w : World} {B : WB} {V : WV} {s : CS} {b m : Nat} {word bits : Int} (h : WS w0 w B V s) (hm : s.n ≤ m ∧ s.cnt ≤ m) (hml : m ≤ 1000) (hlo : w0.heap.size ≤ b) (hwd : (Lit.int .u64 word).wf = true) (hl : V.nts.length < 1000) (hs : Nsteps V.nts s.cnt) (hG : GS w b 138 2 word bits) :
    Calls Try.prog 26 #[.pointer (some ⟨B.wb, 0, none⟩), .iface 80 (.pointer (some ⟨b, 0, none⟩)), .int .i64 9] w fun e w' => e = .returned (.int .i64 2) ∧ WS w0 w' B { V with nts := V.nts ++ [⟨(((s.acc 2 3 0).cnt + 1 : Nat) : Int), V.hd, 4, 0, 0, 0, 0, bits⟩] } ((s.acc 2 3 0).acc 2 2 word) := by
  have r0 : s.room := CS.room_of m hm (by unfold lim; omega)
  have r1 : (s.acc 2 3 0).room := CS.room_of (m + 1) (room_acc m hm) (by unfold lim; omega)
  have hs1 : Nsteps V.nts (s.acc 2 3 0).cnt := hs.le (by simp only [CS.acc]; omega)
  obtain ⟨V1, hV1⟩ : ∃ V1 : WV, V1 = { V with nts := V.nts ++ [⟨(((s.acc 2 3 0).cnt + 1 : Nat) : Int), V.hd, 4, 0, 0, 0, 0, bits⟩] } := ⟨_, rfl⟩
  rw [← hV1]
  have st2 : ∀ W, WS w0 W B V s → GS W b 138 2 word bits → Calls Try.prog 137 #[.pointer (some ⟨b, 0, none⟩), .pointer (some ⟨B.wb, 0, none⟩)] W fun e w' => e = .returned (.bool false) ∧ WS w0 w' B V (s.acc 2 3 0) ∧ GS w' b 138 1 word bits ∧ Fx wTy true b W w' := fun W h1 h2 => gstep2 h1 r0 hlo h2
  have st1 : ∀ W, WS w0 W B V (s.acc 2 3 0) → GS W b 138 1 word bits → Calls Try.prog 137 #[.pointer (some ⟨b, 0, none⟩), .pointer (some ⟨B.wb, 0, none⟩)] W fun e w' => e = .returned (.bool true) ∧ WS w0 w' B V1 ((s.acc 2 3 0).acc 2 2 word) ∧ GS w' b 138 0 word bits ∧ Fx wTy true b W w' := fun W h1 h2 => by
    have q := gstep1 h1 r1 hlo hwd (by omega) hs1 h2
    rw [nadd_in _ _ ⟨by show (1 : Int) ≤ 4; decide, by show (4 : Int) ≤ 9; decide⟩] at q
    rw [hV1]; exact q
  generalize s.acc 2 3 0 = s1 at *
  generalize s1.acc 2 2 word = s2 at *
  have H := Lib.hid h; have HG := Lib.hid hG; have S2 := Lib.hid st2; have S1 := Lib.hid st1
  clear h hm hml hwd hl hs hG r0 r1 hs1 hV1 st2 st1
  go_enter Try.func26, Try.ntmps26
  go_wp2
  go_loopw [7] (fun i wr => (i = .int .i64 0 ∧ WS w0 wr B V s ∧ GS wr b 138 2 word bits) ∨ (i = .int .i64 1 ∧ WS w0 wr B V s1 ∧ GS wr b 138 1 word bits) ∨ (i = .int .i64 2 ∧ WS w0 wr B V1 s2 ∧ GS wr b 138 0 word bits)) (fun i _ => 2 - (intOf i).toNat)
  case atStart => exact .inl ⟨rfl, H.out, HG.out⟩
  case round =>
    clear H HG
    rcases hrel with ⟨rfl, h1, h2⟩ | ⟨rfl, h1, h2⟩ | ⟨rfl, h1, h2⟩
    · have hov := gover (by decide) h2
      rw [show ((2 : Nat) == 0) = false from rfl] at hov
      have hst := S2.out _ h1 h2
      clear h1 h2
      go_wp2_with (first
        | (go_at_call 29; refine hov.mono ?_; intro e w2 hh; obtain ⟨hh1, hh2⟩ := hh; subst hh1; obtain rfl := hh2.symm; clear hov)
        | (go_at_call 137; refine hst.mono ?_; intro e w3 hh; obtain ⟨hh1, g1, g2, -⟩ := hh; subst hh1))
      exact ⟨.inr (.inl ⟨rfl, g1, g2⟩), by simp [intOf]⟩
    · have hov := gover (by decide) h2
      rw [show ((1 : Nat) == 0) = false from rfl] at hov
      have hst := S1.out _ h1 h2
      clear h1 h2
      go_wp2_with (first
        | (go_at_call 29; refine hov.mono ?_; intro e w2 hh; obtain ⟨hh1, hh2⟩ := hh; subst hh1; obtain rfl := hh2.symm; clear hov)
        | (go_at_call 137; refine hst.mono ?_; intro e w3 hh; obtain ⟨hh1, g1, g2, -⟩ := hh; subst hh1))
      exact ⟨.inr (.inr ⟨rfl, g1, g2⟩), by simp [intOf]⟩
    · have hov := gover (by decide) h2
      rw [show ((0 : Nat) == 0) = true from rfl] at hov
      have H1 := Lib.hid h1
      clear h1 h2
      go_wp2_with (go_at_call 29; refine hov.mono ?_; intro e w2 hh; obtain ⟨hh1, hh2⟩ := hh; subst hh1; obtain rfl := hh2.symm; clear hov)
      go_ret
      exact ⟨rfl, H1.out⟩
set_option maxRecDepth 10000 in
set_option maxHeartbeats 2000000 in
theorem sruns {w0 w : World} {B : WB} {V : WV} {s : CS} {b m : Nat} {word bits : Int} (h : WS w0 w B V s) (hm : s.n ≤ m ∧ s.cnt ≤ m) (hml : m ≤ 1000) (hlo : w0.heap.size ≤ b) (hwd : (Lit.int .u64 word).wf = true) (hl : V.nts.length < 1000) (hs : Nsteps V.nts s.cnt) (hG : GS w b 130 1 word bits) :
    Calls Try.prog 26 #[.pointer (some ⟨B.wb, 0, none⟩), .iface 77 (.pointer (some ⟨b, 0, none⟩)), .int .i64 9] w fun e w' => e = .returned (.int .i64 1) ∧ WS w0 w' B { V with nts := V.nts ++ [⟨((s.cnt + 1 : Nat) : Int), V.hd, 5, 0, 0, 0, 0, bits⟩] } (s.acc 2 2 word) := by
  have r0 : s.room := CS.room_of m hm (by unfold lim; omega)
  obtain ⟨V1, hV1⟩ : ∃ V1 : WV, V1 = { V with nts := V.nts ++ [⟨((s.cnt + 1 : Nat) : Int), V.hd, 5, 0, 0, 0, 0, bits⟩] } := ⟨_, rfl⟩
  rw [← hV1]
  have st1 : ∀ W, WS w0 W B V s → GS W b 130 1 word bits → Calls Try.prog 135 #[.pointer (some ⟨b, 0, none⟩), .pointer (some ⟨B.wb, 0, none⟩)] W fun e w' => e = .returned (.bool true) ∧ WS w0 w' B V1 (s.acc 2 2 word) ∧ GS w' b 130 0 word bits ∧ Fx wTy true b W w' := fun W h1 h2 => by
    have q := sstep1 h1 r0 hlo hwd (by omega) hs h2
    rw [nadd_in _ _ ⟨by show (1 : Int) ≤ 5; decide, by show (5 : Int) ≤ 9; decide⟩] at q
    rw [hV1]; exact q
  generalize s.acc 2 2 word = s2 at *
  have H := Lib.hid h; have HG := Lib.hid hG; have S1 := Lib.hid st1
  clear h hm hml hwd hl hs hG r0 hV1 st1
  go_enter Try.func26, Try.ntmps26
  go_wp2
  go_loopw [7] (fun i wr => (i = .int .i64 0 ∧ WS w0 wr B V s ∧ GS wr b 130 1 word bits) ∨ (i = .int .i64 1 ∧ WS w0 wr B V1 s2 ∧ GS wr b 130 0 word bits)) (fun i _ => 1 - (intOf i).toNat)
  case atStart => exact .inl ⟨rfl, H.out, HG.out⟩
  case round =>
    clear H HG
    rcases hrel with ⟨rfl, h1, h2⟩ | ⟨rfl, h1, h2⟩
    · have hov := sover (by decide) h2
      rw [show ((1 : Nat) == 0) = false from rfl] at hov
      have hst := S1.out _ h1 h2
      clear h1 h2
      go_wp2_with (first
        | (go_at_call 25; refine hov.mono ?_; intro e w2 hh; obtain ⟨hh1, hh2⟩ := hh; subst hh1; obtain rfl := hh2.symm; clear hov)
        | (go_at_call 135; refine hst.mono ?_; intro e w3 hh; obtain ⟨hh1, g1, g2, -⟩ := hh; subst hh1))
      exact ⟨.inr ⟨rfl, g1, g2⟩, by simp [intOf]⟩
    · have hov := sover (by decide) h2
      rw [show ((0 : Nat) == 0) = true from rfl] at hov
      have H1 := Lib.hid h1
      clear h1 h2
      go_wp2_with (go_at_call 25; refine hov.mono ?_; intro e w2 hh; obtain ⟨hh1, hh2⟩ := hh; subst hh1; obtain rfl := hh2.symm; clear hov)
      go_ret
      exact ⟨rfl, H1.out⟩
end Go.Proofs.Ytcihaamjklbdkaa

/-
  A world and a map beside it. (As in XTwiceLaw: the two are never in one claim.)
-/
namespace Go.Proofs.Ytcihaamjklbdkaa
open Go.RowKit Go.Maps
set_option linter.unusedVariables false

theorem turn_fr {w w' : World} {m cl : Nat} {es : Array MapEntry} (hm : w.heap[m]? = some (.map es cl)) (hg : w.grownBy w' (some m)) : Fr (fun _ => false) true w w' :=
  ⟨hg.size, fun k cs T fr hk _ => (hg.block k (Array.getElem?_eq_some_iff.1 hk).1 (fun c => by cases c; rw [hm] at hk; cases hk)).trans hk, fun h => by cases h⟩
theorem MapI.blk {w : World} {K E : TypeId} {q : IntKind} {m n : Nat} {f : Int → Int} (h : MapI w K E q m n f) : ∃ es cl, w.heap[m]? = some (.map es cl) := by
  obtain ⟨D, ⟨es, cl, hb, _⟩, _⟩ := h
  exact ⟨es, cl, hb⟩
theorem WS.apartb {w0 w w' : World} {B : WB} {V : WV} {s : CS} (h : WS w0 w B V s) (hb : Below w.heap.size w w') {m : Nat} (hm : w.heap.size ≤ m) : w'.cell? ⟨B.cb, 0, none⟩ ≠ some (.map (some m)) := by
  obtain ⟨cs, hh⟩ := own_hdr h.own
  have e : w'.cell? ⟨B.cb, 0, none⟩ = w.cell? ⟨B.cb, 0, none⟩ := by
    have := (hb.block _ (Array.getElem?_eq_some_iff.1 hh).1).trans hh
    unfold World.cell?; simp only; rw [this, hh]
  rw [e]; exact h.apart hm
/-- A world, and a map that is none of its own. -/
structure WM (w0 w w1 : World) (B : WB) (V : WV) (s : CS) (K E : TypeId) (q : IntKind) (m n : Nat) (f : Int → Int) : Prop where
  ws : WS w0 w1 B V s
  mp : MapI w1 K E q m n f
  ne : w1.cell? ⟨B.cb, 0, none⟩ ≠ some (.map (some m))
  fr : Fr (fun _ => false) true w w1
  lo : w0.heap.size ≤ m
  fm : ∀ q ∈ V.fm, q.1 ≠ m
section
variable {w0 w w1 w2 : World} {B : WB} {V : WV} {s : CS} {K E : TypeId} {q : IntKind} {m n : Nat} {f g : Int → Int}
theorem WM.below (h : WM w0 w w1 B V s K E q m n f) (hb : Below w1.heap.size w1 w2) : WM w0 w w2 B V s K E q m n f := by
  obtain ⟨es, cl, hm⟩ := h.mp.blk
  have h2 := (h.ws.more hm h.ne).keep hb
  exact ⟨h.ws.keep hb, h.mp.below hb, (h2.fmk (m, es, cl) (by simp)).2, h.fr.trans (below_fr hb _ _), h.lo, h.fm⟩
theorem WM.put (h : WM w0 w w1 B V s K E q m n f) (hM : MapI w2 K E q m (n + 1) g) (hg : w1.grownBy w2 (some m)) : WM w0 w w2 B V s K E q m (n + 1) g := by
  obtain ⟨es, cl, hm⟩ := h.mp.blk
  obtain ⟨h1, h2⟩ := h.ws.turn hm h.ne h.lo hg h.fm
  exact ⟨h1, hM, h2, h.fr.trans (turn_fr hm hg), h.lo, h.fm⟩
theorem WM.new (h : WS w0 w B V s) (K E : TypeId) (q : IntKind) : WM w0 (w.alloc (.map #[] 0)) (w.alloc (.map #[] 0)) B V s K E q w.heap.size 0 fun _ => 0 := by
  have hb := below_alloc w (.map #[] 0)
  exact ⟨h.keep hb, MapI.made w K E q, h.apartb hb (Nat.le_refl _), Fr.refl _ _ _, h.below.size, fun q hq => Nat.ne_of_lt (Array.getElem?_eq_some_iff.1 (h.fmk q hq).1).1⟩
theorem WM.start (h : WM w0 w w1 B V s K E q m n f) : WM w0 w1 w1 B V s K E q m n f := ⟨h.ws, h.mp, h.ne, Fr.refl _ _ _, h.lo, h.fm⟩
/-- The map lies beside the world from here on. -/
theorem WM.aside (h : WM w0 w w1 B V s K E q m n f) : ∃ es cl, WS w0 w1 B { V with fm := (m, es, cl) :: V.fm } s ∧ ∀ w2 B2 V2 s2, WS w0 w2 B2 V2 s2 → (m, es, cl) ∈ V2.fm → MapI w2 K E q m n f ∧ w2.cell? ⟨B2.cb, 0, none⟩ ≠ some (.map (some m)) := by
  obtain ⟨es, cl, hm⟩ := h.mp.blk
  exact ⟨es, cl, h.ws.more hm h.ne, fun w2 B2 V2 s2 h2 hq => ⟨h.mp.keep ((h2.fmk _ hq).1.trans hm.symm), (h2.fmk _ hq).2⟩⟩
end
theorem look_i {w : World} {K E t : TypeId} {q : IntKind} {m n : Nat} {f : Int → Int} (h : MapI w K E q m n f) (hK : Try.prog.underlying K = some (.int .u64)) (hE : Try.prog.underlying E = some (.int q)) (hz : ∀ w, (zeroValue E).run Try.prog w = .ok (.int q 0) w) (ht : Try.prog.underlying t = some (.map K E)) {a v : Int} (ha : (Lit.int .u64 a).wf = true) (hv : f a = v) (st : ExtW w) :
    (Instr.lookup t (.map (some m)) (.int .u64 a) false).run Try.prog st.val = .ok (.int q v) st.val := by
  subst hv
  exact ((h.below st.below).look hK hE (hz _) ht ha).1
theorem WM.go {w0 w w1 : World} {B : WB} {V : WV} {s : CS} {K E : TypeId} {q : IntKind} {m n : Nat} {f : Int → Int} (h : WM w0 w w1 B V s K E q m n f) : ∃ es cl, WS w0 w1 B { V with fm := (m, es, cl) :: V.fm } s ∧ ∀ w2 V2 s2, WS w0 w2 B V2 s2 → V2.fm = (m, es, cl) :: V.fm → WM w0 w2 w2 B { V2 with fm := V.fm } s2 K E q m n f := by
  obtain ⟨es, cl, h1, h2⟩ := h.aside
  refine ⟨es, cl, h1, fun w2 V2 s2 h3 h4 => ?_⟩
  obtain ⟨h5, h6⟩ := h2 w2 B V2 s2 h3 (by rw [h4]; simp)
  exact ⟨h3.less V.fm (fun q hq => by rw [h4]; simp [hq]), h5, h6, Fr.refl _ _ _, h.lo, h.fm⟩
/-- What words of tables say, on the way. -/
structure GOn (n : Nat) : Prop where
  g1 : gdead (tword n 0) = false
  s1 : sdead (tword n 0) = true
  o1 : asOld (tword n 0) = n
  g2 : gdead (tword n (n + 1)) = true
  s2 : sdead (tword n (n + 1)) = false
  o2 : asOld (tword n (n + 1)) = n
  w2 : asNow (tword n (n + 1)) = n + 1
  o3 : asOld (tword (n + 1) 0) = n + 1
  w3 : asNow (tword (n + 1) 0) = 0
  f1 : (Lit.int .u64 (tword n 0)).wf = true
  f2 : (Lit.int .u64 (tword n (n + 1))).wf = true
  f3 : (Lit.int .u64 (tword (n + 1) 0)).wf = true
  r1 : tword n 0 % 256 = n
  r2 : tword n (n + 1) % 256 = n
  r3 : tword (n + 1) 0 % 256 = n + 1
  ne : tword n (n + 1) ≠ tword n 0
theorem gon (n : Nat) (h : 1 ≤ n ∧ n < 12) : GOn n := by
  rcases (show n = 1 ∨ n = 2 ∨ n = 3 ∨ n = 4 ∨ n = 5 ∨ n = 6 ∨ n = 7 ∨ n = 8 ∨ n = 9 ∨ n = 10 ∨ n = 11 by omega) with rfl | rfl | rfl | rfl | rfl | rfl | rfl | rfl | rfl | rfl | rfl
  all_goals exact ⟨by decide, by decide, by decide, by decide, by decide, by decide, by decide, by decide, by decide, by decide, by decide, by decide, by decide, by decide, by decide, by decide⟩
theorem gon12 : gdead (tword 12 0) = true ∧ sdead (tword 12 0) = true ∧ (Lit.int .u64 (tword 12 0)).wf = true := by decide
/-- What was seen has bits below n. -/
def Low (f : Int → Int) (n : Nat) : Prop := ∀ x, f x ≠ 0 → x % 256 < n
theorem Low.zero {f : Int → Int} {n : Nat} (h : Low f n) {x : Int} (hx : x % 256 = n) : f x = 0 := by
  by_cases h0 : f x = 0
  · exact h0
  · have := h x h0; omega
theorem Low.upd {f : Int → Int} {n : Nat} (h : Low f n) {x : Int} (v : Int) (hx : x % 256 = n) : Low (Go.Proofs.Ytcihaamjklbdkaa.upd f x v) (n + 1) := by
  intro y hy
  unfold Go.Proofs.Ytcihaamjklbdkaa.upd at hy
  split at hy
  · rename_i e; subst e; omega
  · have := h y hy; omega
theorem Low.two {f : Int → Int} {n : Nat} (h : Low f n) {x y : Int} (hx : x % 256 = n) (hy : y % 256 = n) : Low (Go.Proofs.Ytcihaamjklbdkaa.upd (Go.Proofs.Ytcihaamjklbdkaa.upd f x 1) y 1) (n + 1) := by
  intro z hz
  unfold Go.Proofs.Ytcihaamjklbdkaa.upd at hz
  split at hz
  · rename_i e; subst e; omega
  · split at hz
    · rename_i e; subst e; omega
    · have := h z hz; omega
end Go.Proofs.Ytcihaamjklbdkaa

/-
  GrowsOn: the walk.
-/
namespace Go.Proofs.Ytcihaamjklbdkaa
open Go.RowKit Go.Maps
set_option linter.unusedVariables false

/-- The world at a round's head. -/
structure GO (w wr : World) (B : WB) (mp n : Nat) : Prop where
  ex : ∃ (V : WV) (s : CS) (N : Nat) (f : Int → Int), WM w wr wr B V s 39 3 .i64 mp N f ∧ V.fm = [] ∧ s.val 2 = tword n 0 ∧ V.nts.length ≤ 2 * n ∧ N ≤ 2 * n ∧ (s.n ≤ 4 * n ∧ s.cnt ≤ 4 * n) ∧ Nsteps V.nts s.cnt ∧ Low f n
set_option maxRecDepth 100000 in
set_option maxHeartbeats 8000000 in
theorem growson_any (b : Int) (hb : (Lit.int .u8 b).wf = true) (at_ : Int) (hat : (Lit.int .u64 at_).wf = true) (w : World) :
    Calls Try.prog 4 #[.int .u8 b, .int .u64 at_] w fun e w' => e = .returned (.bool true) ∧ Below w.heap.size w w' := by
  have hbb := u8_nn hb
  obtain ⟨b0, hb0⟩ : ∃ b0 : Int, b0 = b % 12 := ⟨_, rfl⟩
  have hb1 : 0 ≤ b0 ∧ b0 < 12 := by omega
  have q1 : b.tmod 12 = b0 := by rw [hb0]; exact Int.tmod_eq_emod_of_nonneg hbb.1
  have q2 : wrap64 b = b := IntWalk.wrap64_in _ (by omega)
  have q3 : wrap64 b0 = b0 := IntWalk.wrap64_in _ (by omega)
  obtain ⟨n0, hn0⟩ : ∃ n0 : Nat, (n0 : Int) = 1 + b0 := ⟨(1 + b0).toNat, by omega⟩
  have q4 : wrap64 (1 + b0) = n0 := by rw [hn0]; exact IntWalk.wrap64_in _ (by omega)
  have HN0 : Hid (1 ≤ n0 ∧ n0 ≤ 12) := by show _ ∧ _; omega
  have hwn := world12v n0 (by have := HN0.out; omega) w
  have HAT := Lib.hid hat
  clear hbb hb0 hb1 hb hat hn0
  have hmm := @run_makeMap Try.prog
  go_enter Try.func4, Try.ntmps4
  go_upto_region 5 with (go_at_call 22; refine hwn.mono ?_; intro e w1 hh; obtain ⟨B, hh1, h1⟩ := hh; subst hh1; have H1 := Lib.hid h1; clear h1 hwn)
  have hm4 := WM.new H1.out 39 3 .i64
  clear q1 q2 q3 q4
  go_upto_region 6 with (fail)
  change Code.wp _ _ _ _ (w1.alloc (.map #[] 0))
  generalize w1.alloc (.map #[] 0) = w2 at *
  generalize w1.heap.size = mp at *
  have HGO : Hid (GO w w2 B mp n0) := ⟨⟨_, _, 0, _, hm4, rfl, (new1 n0).v2, by simp [v0], by omega, by have := HN0.out; have h2 := (new1 n0).le; omega, (by intro y hy; cases hy), fun x hx => absurd rfl hx⟩⟩
  have HMP : Hid (True) := trivial
  clear hm4 H1
  go_wp2_with fail
  go_loopw [5] (fun i wr => ∃ (n : Nat), n0 ≤ n ∧ n ≤ 12 ∧ i = .int .i64 n ∧ GO w wr B mp n) (fun i _ => 12 - (intOf i).toNat)
  case atStart => exact ⟨n0, by omega, HN0.out.2, rfl, HGO.out⟩
  case round =>
    clear HGO
    obtain ⟨n, hn, hn12, rfl, ⟨V, s, N, f, hM, hV, hs2, hl, hN, hm, hst, hlow⟩⟩ := hrel
    by_cases hlt : n < 12
    · have hn1 : 1 ≤ n := by have := HN0.out; omega
      have hg := gon n ⟨hn1, hlt⟩
      have hlt' : (n : Int) < 12 := by omega
      have G := Lib.hid hg
      obtain ⟨es, cl, hW, hback⟩ := hM.go
      obtain ⟨V1, hV1⟩ : ∃ V1 : WV, V1 = { V with fm := (mp, es, cl) :: V.fm } := ⟨_, rfl⟩
      rw [← hV1] at hW
      have hsr := hW.store (CS.room_of (4 * n) hm (by unfold lim; omega)) 3 (by decide) at_ HAT.out
      have c0 := hW.c0
      have HV1 := Lib.hid hV1; have HB1 := Lib.hid hback; have HM := Lib.hid hm; have HL := Lib.hid hl; have HNN := Lib.hid hN; have HST := Lib.hid hst; have HLOW := Lib.hid hlow; have HV := Lib.hid hV
      have HS2 := Lib.hid hs2
      clear hM hW hback hV1 hm hl hN hst hlow hV hs2 hg
      go_upto_region 9 with (go_at_call 23; refine hsr.mono ?_; intro e w3 hh; obtain ⟨hh1, h3, -⟩ := hh; subst hh1; have H3 := Lib.hid h3; clear h3 hsr c0)
      have hv2 : (s.acc 2 3 at_).val 2 = tword n 0 := (CS.acc_val _ _ _ _ (by decide)).trans HS2.out
      have hle : (s.acc 2 3 at_).n ≤ 4 * n + 1 ∧ (s.acc 2 3 at_).cnt ≤ 4 * n + 1 := room_acc _ HM.out
      have hst : Nsteps V.nts (s.acc 2 3 at_).cnt := HST.out.le (by simp only [CS.acc]; omega)
      have hM3 := HB1.out _ _ _ H3.out (by rw [HV1.out])
      have e3 : ({ V1 with fm := V.fm } : WV) = V := by rw [HV1.out]
      rw [e3] at hM3
      generalize s.acc 2 3 at_ = s3 at *
      have HM3 := Lib.hid hM3; have HLE := Lib.hid hle; have HST3 := Lib.hid hst; have HV2 := Lib.hid hv2
      have hp := hM3.ws.peek 2 (by decide)
      rw [hv2] at hp
      have c0 := hM3.ws.c0
      have f0 : f (tword n 0) = 0 := HLOW.out.zero G.out.r1
      have hlk := hM3.mp.look (t := 76) (a := tword n 0) Try.underlying39 Try.underlying3 (by kernel_rfl) Try.underlying76 G.out.f1
      rw [f0] at hlk
      have hlk := hlk.1
      clear hM3 hle hst hv2 f0 H3 HB1 HV1 e3 HST HM
      go_upto_region 11 with (first
        | (go_at_call 18; refine hp.mono ?_; intro e w' hh; obtain ⟨hh1, hh2⟩ := hh; subst hh1; obtain rfl := hh2.symm; clear hp)
        | (at_mapUpdate; refine wpList_puti rfl _ _ _ rfl HM3.out.mp Try.underlying39 Try.underlying3 Try.underlying76 rfl (by have := HNN.out; unfold maxLen; omega) _ _ rfl rfl G.out.f1 (by decide) ?_; intro w4 hm9 hg9; have HM4 := Lib.hid (HM3.out.put hm9 hg9).start; clear hm9 hg9))
      go_frame
      clear hlk c0
      obtain ⟨es4, cl4, hW4, hback4⟩ := HM4.out.go
      have hns := fun W => snew (tword n 0) G.out.f1 W
      have hng := fun W => gnew (tword n 0) G.out.f1 W
      simp only [G.out.s1, G.out.g1, G.out.o1, if_true, Bool.false_eq_true, if_false] at hns hng
      have HW4 := Lib.hid hW4; have HB4 := Lib.hid hback4
      have HSZ : Hid (w.heap.size ≤ w4.heap.size) := hW4.below.size
      clear hW4 hback4
      go_upto_if 61 with (first
        | (go_at_call 24; with_reducible refine (hns _).mono ?_; intro e w5 hh; obtain ⟨b5, hh1, g5, -, k5⟩ := hh; subst hh1; have H5 := Lib.hid (HW4.out.keep k5); have K5 := Lib.hid k5.size; have hov := sover (by decide) g5; clear g5 k5 hns)
        | (go_at_call 25; with_reducible refine hov.mono ?_; intro e w' hh; obtain ⟨hh1, hh2⟩ := hh; subst hh1; obtain rfl := hh2.symm; clear hov)
        | (go_at_call 27; with_reducible refine (hng _).mono ?_; intro e w6 hh; obtain ⟨b6, hh1, g6, l6, k6⟩ := hh; subst hh1; have hrun := gruns (H5.out.keep k6) HLE.out (by omega) (Nat.le_trans HSZ.out (Nat.le_trans K5.out l6)) G.out.f2 (by have := HL.out; show V.nts.length < 1000; omega) HST3.out g6; clear g6 l6 k6 hng)
        | (go_at_call 26; with_reducible refine hrun.mono ?_; intro e w7 hh; obtain ⟨hh1, h7⟩ := hh; subst hh1; have H7 := Lib.hid h7; have hp3 := h7.peek 3 (by decide); rw [show ((s3.acc 2 3 0).acc 2 2 (tword n (n + 1))).val 3 = 0 from (CS.acc_val _ _ _ _ (by decide)).trans (CS.acc_self _ _ _)] at hp3; have c0 := h7.c0; clear h7 hrun)
        | (go_at_call 18; with_reducible refine hp3.mono ?_; intro e w' hh; obtain ⟨hh1, hh2⟩ := hh; subst hh1; obtain rfl := hh2.symm; clear hp3))
      have hv7 : ((s3.acc 2 3 0).acc 2 2 (tword n (n + 1))).val 2 = tword n (n + 1) := CS.acc_self _ _ _
      have hle7 : ((s3.acc 2 3 0).acc 2 2 (tword n (n + 1))).n ≤ 4 * n + 3 ∧ ((s3.acc 2 3 0).acc 2 2 (tword n (n + 1))).cnt ≤ 4 * n + 3 := room_acc _ (room_acc _ HLE.out)
      have hM7 := HB4.out _ _ _ H7.out rfl
      obtain ⟨na, hna⟩ : ∃ na : Nte, na = ⟨(((s3.acc 2 3 0).cnt + 1 : Nat) : Int), V.hd, 4, 0, 0, 0, 0, (n : Int) + 1⟩ := ⟨_, rfl⟩
      have hM7b : WM w w7 w7 B { V with nts := V.nts ++ [na] } ((s3.acc 2 3 0).acc 2 2 (tword n (n + 1))) 39 3 .i64 mp (N + 1) (upd f (tword n 0) 1) := by rw [hna]; exact hM7
      have hst7 : Nsteps (V.nts ++ [na]) ((s3.acc 2 3 0).acc 2 2 (tword n (n + 1))).cnt := by
        intro y hy
        rcases List.mem_append.1 hy with h | h
        · exact Int.le_trans (HST3.out y h) (by simp only [CS.acc]; omega)
        · simp only [List.mem_singleton] at h; subst h; rw [hna]; simp only [CS.acc]; exact Int.le_refl _
      have hnv : na.value = (n : Int) + 1 := by rw [hna]
      generalize (s3.acc 2 3 0).acc 2 2 (tword n (n + 1)) = s7 at *
      have HM7 := Lib.hid hM7b; have HLE7 := Lib.hid hle7; have HST7 := Lib.hid hst7; have HNV := Lib.hid hnv
      have hp := H7.out.peek 2 (by decide)
      rw [hv7] at hp
      have f0 : upd f (tword n 0) 1 (tword n (n + 1)) = 0 := by rw [upd_other _ G.out.ne]; exact HLOW.out.zero G.out.r2
      have hlk := hM7b.mp.look (t := 76) (a := tword n (n + 1)) Try.underlying39 Try.underlying3 (by kernel_rfl) Try.underlying76 G.out.f2
      rw [f0] at hlk
      have hlk := hlk.1
      clear hM7 hM7b hle7 hst7 hnv hna hv7 f0 H5 K5 HW4 HB4 HLE HST3 HM4 HV2 H7 HM3 HS2
      go_upto_region 15 with (first
        | (go_at_call 18; refine hp.mono ?_; intro e w' hh; obtain ⟨hh1, hh2⟩ := hh; subst hh1; obtain rfl := hh2.symm; clear hp)
        | (at_mapUpdate; refine wpList_puti rfl _ _ _ rfl HM7.out.mp Try.underlying39 Try.underlying3 Try.underlying76 rfl (by have := HNN.out; unfold maxLen; omega) _ _ rfl rfl G.out.f2 (by decide) ?_; intro w8 hm9 hg9; have HM8 := Lib.hid (HM7.out.put hm9 hg9).start; clear hm9 hg9))
      go_frame
      clear hlk c0 HM7
      have hlow2 : Low (upd (upd f (tword n 0) 1) (tword n (n + 1)) 1) (n + 1) := HLOW.out.two G.out.r1 G.out.r2
      have HLOW2 := Lib.hid hlow2
      generalize upd (upd f (tword n 0) 1) (tword n (n + 1)) 1 = f2 at *
      obtain ⟨es8, cl8, hW8, hback8⟩ := HM8.out.go
      have has := fun W => as_any (tword n (n + 1)) G.out.f2 W
      have hns := fun W => snew (tword n (n + 1)) G.out.f2 W
      have hng := fun W => gnew (tword n (n + 1)) G.out.f2 W
      simp only [G.out.o2, G.out.w2] at has
      simp only [G.out.s2, G.out.g2, G.out.w2, if_true, Bool.false_eq_true, if_false] at hns hng
      have q1 : wrap64 ((n : Int) + 1) = (n : Int) + 1 := IntWalk.wrap64_in _ (by omega)
      have HW8 := Lib.hid hW8; have HB8 := Lib.hid hback8
      have HSZ8 : Hid (w.heap.size ≤ w8.heap.size) := hW8.below.size
      clear hW8 hback8 hlow2
      go_upto_if 98 with (first
        | (go_at_call 28; with_reducible refine (has _).mono ?_; intro e w' hh; obtain ⟨hh1, hh2⟩ := hh; subst hh1; obtain rfl := hh2.symm; clear has)
        | (go_at_call 27; with_reducible refine (hng _).mono ?_; intro e w5 hh; obtain ⟨b5, hh1, g5, -, k5⟩ := hh; subst hh1; have H5 := Lib.hid (HW8.out.keep k5); have K5 := Lib.hid k5.size; have hov := gover (by decide) g5; clear g5 k5 hng)
        | (go_at_call 29; with_reducible refine hov.mono ?_; intro e w' hh; obtain ⟨hh1, hh2⟩ := hh; subst hh1; obtain rfl := hh2.symm; clear hov)
        | (go_at_call 24; with_reducible refine (hns _).mono ?_; intro e w6 hh; obtain ⟨b6, hh1, g6, l6, k6⟩ := hh; subst hh1; have hrun := sruns (H5.out.keep k6) HLE7.out (by omega) (Nat.le_trans HSZ8.out (Nat.le_trans K5.out l6)) G.out.f3 (by have := HL.out; show (V.nts ++ [na]).length < 1000; simp; omega) HST7.out g6; clear g6 l6 k6 hns)
        | (go_at_call 26; with_reducible refine hrun.mono ?_; intro e w9 hh; obtain ⟨hh1, h9⟩ := hh; subst hh1; have H9 := Lib.hid h9; clear h9 hrun))
      have hv9 : (s7.acc 2 2 (tword (n + 1) 0)).val 2 = tword (n + 1) 0 := CS.acc_self _ _ _
      have hle9 : (s7.acc 2 2 (tword (n + 1) 0)).n ≤ 4 * n + 4 ∧ (s7.acc 2 2 (tword (n + 1) 0)).cnt ≤ 4 * n + 4 := room_acc _ HLE7.out
      have hM9 := HB8.out _ _ _ H9.out rfl
      obtain ⟨nb, hnb⟩ : ∃ nb : Nte, nb = ⟨((s7.cnt + 1 : Nat) : Int), V.hd, 5, 0, 0, 0, 0, (n : Int) + 1⟩ := ⟨_, rfl⟩
      have hM9b : WM w w9 w9 B { V with nts := V.nts ++ [na] ++ [nb] } (s7.acc 2 2 (tword (n + 1) 0)) 39 3 .i64 mp (N + 1 + 1) f2 := by rw [hnb]; exact hM9
      have hst9 : Nsteps (V.nts ++ [na] ++ [nb]) (s7.acc 2 2 (tword (n + 1) 0)).cnt := by
        intro y hy
        rcases List.mem_append.1 hy with h | h
        · exact Int.le_trans (HST7.out y h) (by simp only [CS.acc]; omega)
        · simp only [List.mem_singleton] at h; subst h; rw [hnb]; simp only [CS.acc]; exact Int.le_refl _
      have hnbv : nb.value = (n : Int) + 1 ∧ nb.step = (s7.acc 2 2 (tword (n + 1) 0)).cnt := by rw [hnb]; exact ⟨rfl, rfl⟩
      generalize s7.acc 2 2 (tword (n + 1) 0) = s9 at *
      obtain ⟨L, hL⟩ : ∃ L, L = V.nts ++ [na] ++ [nb] := ⟨_, rfl⟩
      rw [← hL] at hM9b hst9
      have HLL := Lib.hid hL
      have HM9 := Lib.hid hM9b; have HLE9 := Lib.hid hle9; have HST9 := Lib.hid hst9; have HNBV := Lib.hid hnbv; have HV9 := Lib.hid hv9
      have hp := H9.out.peek 2 (by decide)
      rw [hv9] at hp
      have c0 := H9.out.c0
      have c2 := H9.out.hd5.2.2.1
      have has := fun W => as_any (tword (n + 1) 0) G.out.f3 W
      simp only [G.out.o3, G.out.w3] at has
      have hall := lall_any hM9b.ws.nt (by have := HL.out; show L.length ≤ 1048576; rw [hL]; simp; omega)
      have HML := Lib.hid HL.out
      clear hM9 hM9b hle9 hst9 hnbv hnb hv9 hL H5 K5 HW8 HB8 HLE7 HST7 HM8 H9
      go_upto_region 22 with (first
        | (go_at_call 18; with_reducible refine hp.mono ?_; intro e w' hh; obtain ⟨hh1, hh2⟩ := hh; subst hh1; obtain rfl := hh2.symm; clear hp)
        | (go_at_call 28; with_reducible refine (has _).mono ?_; intro e w' hh; obtain ⟨hh1, hh2⟩ := hh; subst hh1; obtain rfl := hh2.symm; clear has)
        | (go_at_call 15; refine hall.mono ?_; intro e w11 hh; obtain ⟨vl, hh1, hrow, b11⟩ := hh; subst hh1; have HM11 := Lib.hid (HM9.out.below b11).start; have e1 := hrow.at (V.nts.length + 1) (by show _ < L.length; rw [HLL.out]; simp); have e2 := hrow.at V.nts.length (by show _ < L.length; rw [HLL.out]; simp); have E1 := Lib.hid e1; have E2 := Lib.hid e2; obtain ⟨g, rfl, -⟩ := e1; clear e2 hrow b11 hall c0 c2))
      obtain ⟨M, hM⟩ : ∃ M, M = V.nts.length := ⟨_, rfl⟩
      obtain ⟨K, hK⟩ : ∃ K, K = M + 1 := ⟨_, rfl⟩
      have hlen : L.length = M + 2 := by rw [hM, HLL.out]; simp
      have e1 := E1.out
      have e2 := E2.out
      have ha : ∀ h, L[V.nts.length]'h = na := by rw [HLL.out]; intro h; simp
      have hb : ∀ h, L[V.nts.length + 1]'h = nb := by rw [HLL.out]; intro h; simp
      rw [hb] at e1
      rw [ha] at e2
      clear E1 E2 ha hb
      rw [← hM, ← hK] at e1
      rw [← hM] at e2
      have hlenI : (L.length : Int) = M + 2 := by rw [hlen]; omega
      obtain ⟨g1, hg1, e1⟩ := e1
      obtain ⟨g2, hg2, e2⟩ := e2
      simp only [Value.slice.injEq, Option.some.injEq, Addr.mk.injEq, and_true] at hg1 hg2
      subst hg1; subst hg2
      have c15 := (e1 7 (by decide)).trans (show _ = some (Value.int .i64 nb.value) from rfl)
      have c10 : w11.cell? ⟨g, K * 8, none⟩ = _ := (e1 0 (by decide)).trans (show _ = some (Value.int .i64 nb.step) from rfl)
      have c05 := (e2 7 (by decide)).trans (show _ = some (Value.int .i64 na.value) from rfl)
      rw [HNBV.out.1] at c15
      rw [HNBV.out.2] at c10
      rw [HNV.out] at c05
      have hml := HML.out
      have hlt48 : (M : Int) < 1000 := by omega
      have i1 : wrap64 ((L.length : Int) - 1) = K := by rw [hlenI, hK]; rw [show ((M : Int) + 2 - 1) = ((M + 1 : Nat) : Int) by omega]; exact IntWalk.wrap64_in _ (by omega)
      have i2 : wrap64 ((L.length : Int) - 2) = M := by rw [hlenI]; rw [show ((M : Int) + 2 - 2) = (M : Int) by omega]; exact IntWalk.wrap64_in _ (by omega)
      have i3 : decide ((L.length : Int) < 2) = false := decide_eq_false (by omega)
      have i4 : (K : Int) < L.length := by rw [hlenI, hK]; omega
      have i5 : (M : Int) < L.length := by rw [hlenI]; omega
      have i6 : K < L.length := by omega
      have i7 : M < L.length := by omega
      have x1 := fun st : ExtW w11 => st.cell c15
      have x2 := fun st : ExtW w11 => st.cell c10
      have x3 := fun st : ExtW w11 => st.cell c05
      have hlk := look_i (t := 76) (a := tword (n + 1) 0) HM11.out.mp Try.underlying39 Try.underlying3 (fun W => by kernel_rfl) Try.underlying76 G.out.f3 (HLOW2.out.zero (by rw [G.out.r3]; omega))
      have hsp : ∀ st : ExtW w11, Calls Try.prog 9 #[.pointer (some ⟨B.wb, 0, none⟩)] st.val fun e w' => e = .returned (.int .i64 s9.cnt) ∧ st.val = w' := fun st => (HM11.out.ws.keep st.below).steps5.mono fun e w' ⟨h1, h2⟩ => ⟨h1, h2.symm⟩
      have HLEN := Lib.hid hlen
      have HMM := Lib.hid hM
      clear c15 c10 c05 e1 e2 hlen hlenI hM hK hml hlt48 HNBV HNV
      refine wp_region_ext (by kernel_rfl) (by kernel_rfl) ?_
      repeat (go_big_quiet_step ((go_at_call 9; with_reducible refine calls_ext_same (hsp _))))
      refine wpQuiet_nil ?_
      rintro W ⟨⟨W2, hW⟩, rfl⟩
      clear x1 x2 x3 hlk hsp i1 i2 i3 i4 i5 i6 i7
      have HM12 := Lib.hid (HM11.out.below hW).start
      clear hW
      go_wp2_with fail
      go_roundw
      case rel => exact ⟨n + 1, by omega, by omega, by go_num, ⟨⟨_, s9, N + 1 + 1, f2, HM12.out, HV.out, by rw [HV9.out]; norm_cast, by have h1 := HLEN.out; have h2 := HMM.out; have h3 := HL.out; show L.length ≤ _; omega, by have := HNN.out; omega, by have := HLE9.out; omega, HST9.out, HLOW2.out⟩⟩⟩
      case measure => simp [intOf]; omega
    · obtain rfl : n = 12 := by omega
      have hp := hM.ws.peek 2 (by decide)
      rw [hs2] at hp
      have c0 := hM.ws.c0
      have hng := fun W => gnew (tword 12 0) gon12.2.2 W
      have hns := fun W => snew (tword 12 0) gon12.2.2 W
      simp only [gon12.1, gon12.2.1, if_true] at hng hns
      have HB := Lib.hid hM.ws.below
      clear hM hs2 hl hN hm hst hlow hlt hn hn12 hV
      go_wp2_with (first
        | (go_at_call 18; refine hp.mono ?_; intro e w' hh; obtain ⟨hh1, hh2⟩ := hh; subst hh1; obtain rfl := hh2.symm; clear hp)
        | (go_at_call 27; with_reducible refine (hng _).mono ?_; intro e w5 hh; obtain ⟨b5, hh1, g5, -, k5⟩ := hh; subst hh1; have K5 := Lib.hid (HB.out.trans (k5.mono HB.out.size)); have hov := gover (by decide) g5; clear g5 k5 hng)
        | (go_at_call 29; with_reducible refine hov.mono ?_; intro e w' hh; obtain ⟨hh1, hh2⟩ := hh; subst hh1; obtain rfl := hh2.symm; clear hov)
        | (go_at_call 24; with_reducible refine (hns _).mono ?_; intro e w6 hh; obtain ⟨b6, hh1, g6, -, k6⟩ := hh; subst hh1; have K6 := Lib.hid (K5.out.trans (k6.mono K5.out.size)); have hov2 := sover (by decide) g6; clear g6 k6 hns)
        | (go_at_call 25; with_reducible refine hov2.mono ?_; intro e w' hh; obtain ⟨hh1, hh2⟩ := hh; subst hh1; obtain rfl := hh2.symm; clear hov2)
        | (go_at_call 30; refine (lives19 _).mono ?_; intro e w13 hh; obtain ⟨hh1, b13⟩ := hh; subst hh1; have B13 := Lib.hid (K6.out.trans (b13.mono K6.out.size)); clear b13))
      go_ret
      exact ⟨rfl, B13.out⟩
theorem walkGrowsOn (b : Int) (hb : (Lit.int .u8 b).wf = true) (t : Int) (ht : (Lit.int .u64 t).wf = true) (w : World) : Calls Try.prog 4 #[.int .u8 b, .int .u64 t] w fun e w' => e = .returned (.bool true) ∧ Below w.heap.size w w' := growson_any b hb t ht w
end Go.Proofs.Ytcihaamjklbdkaa
