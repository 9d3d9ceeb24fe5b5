/-
  Texts of this prover, merged: OwnRow, Grown, NotesAll, NoteAdd, Tickets, WorldNote, Grows, GrowDo, GrowLives, MapInt, GrowRuns, Hash, PlacesFn, GrowKeep.
-/
import Derived.Test.YtcihaamjklbdkaaLib
import Derived.Test.YtcihaamjklbdkaaFrame
import Derived.Test.YtcihaamjklbdkaaPairDo
import Derived.Test.YtcihaamjklbdkaaBegin0
import Derived.Test.YtcihaamjklbdkaaMapPtr
import Derived.Test.YtcihaamjklbdkaaRefPlaces
import Derived.Deep.AppendLies
import Derived.Laws.EntriesVeiled
import Derived.Deep.DeepCutAuto
import Derived.Maps.Own
import Derived.Maps.RangeWalk
import Derived.Laws.AppendOwnNone
/-
  Rows that the call made.
-/
namespace Go.Proofs.Ytcihaamjklbdkaa
open Go.RowKit
set_option linter.unusedVariables false

/-- A row of pointers that the call made. -/
theorem own_lit (w : World) (base e : Nat) (xs : List Value) (hb : base ≤ w.heap.size) (hn : xs.length ≤ maxLen) : (w.alloc (.cells xs.toArray e)).ownsRow base e 1 (.slice (some ⟨w.heap.size, 0, none⟩) xs.length xs.length) xs.length xs :=
  ⟨by simp, .inr ⟨_, _, _, rfl, hb, heap_alloc_new w _, Nat.le_refl _, hn, by simp, by simp⟩⟩
theorem own_at {w : World} {base e n : Nat} {v : Value} {xs : List Value} (h : w.ownsRow base e 1 v n xs) (i : Nat) (hi : i < n) : ∃ g cap x, v = .slice (some ⟨g, 0, none⟩) n cap ∧ xs[i]? = some x ∧ w.cell? ⟨g, i, none⟩ = some x ∧ base ≤ g := by
  obtain ⟨h1, ⟨rfl, h0⟩ | ⟨g, cap, cur, rfl, hb, hg, hn, hm, hs, ht⟩⟩ := h
  · omega
  · have hx : i < xs.length := by omega
    refine ⟨g, cap, xs[i], rfl, List.getElem?_eq_getElem hx, ?_, hb⟩
    have e1 : xs[i]? = (cur.toList.take (n * 1))[i]? := by rw [ht]
    rw [List.getElem?_take, if_pos (by omega), List.getElem?_eq_getElem hx] at e1
    unfold World.cell?; simp only; rw [hg]
    simpa using e1.symm
end Go.Proofs.Ytcihaamjklbdkaa

/-
  A row that has grown, in a frame by types.
-/
namespace Go.Proofs.Ytcihaamjklbdkaa
open Go.RowKit
set_option linter.unusedVariables false

theorem own_sl2 {w : World} {base e size n : Nat} {v : Value} {xs : List Value} (h : w.ownsRow base e size v n xs) : ∃ a cap, v = .slice a n cap := by
  obtain ⟨-, ⟨rfl, rfl⟩ | ⟨g, cap, cur, rfl, -⟩⟩ := h
  · exact ⟨none, 0, rfl⟩
  · exact ⟨_, cap, rfl⟩
theorem grown_ty {w w' : World} {base e size n : Nat} {v : Value} {xs : List Value} (h : w.ownsRow base e size v n xs) (hg : w.grownBy w' v.ownBlock) : Fr (fun T => T == e) false w w' := by
  obtain ⟨-, ⟨rfl, -⟩ | ⟨g, cap, cur, rfl, -, hb, -⟩⟩ := h
  · exact ⟨hg.size, fun k cs T fr hk _ => (hg.block k (Array.getElem?_eq_some_iff.1 hk).1 (fun c => by simp [Value.ownBlock] at c)).trans hk, fun _ k es cl hk => (hg.block k (Array.getElem?_eq_some_iff.1 hk).1 (fun c => by simp [Value.ownBlock] at c)).trans hk⟩
  · refine ⟨hg.size, fun k cs T fr hk hT => (hg.block k (Array.getElem?_eq_some_iff.1 hk).1 (fun c => ?_)).trans hk, fun _ k es cl hk => (hg.block k (Array.getElem?_eq_some_iff.1 hk).1 (fun c => ?_)).trans hk⟩
    · simp only [Value.ownBlock, Option.some.injEq] at c
      subst c
      have := hb.symm.trans hk; simp only [Option.some.injEq, Obj.cells.injEq] at this
      rw [this.2.1] at hT; simp at hT
    · simp only [Value.ownBlock, Option.some.injEq] at c
      subst c
      have := hb.symm.trans hk; cases this
theorem grown_below {w0 w w' : World} {B : Nat} {base e size n : Nat} {v : Value} {xs : List Value} (h : w.ownsRow base e size v n xs) (hg : w.grownBy w' v.ownBlock) (hB : Below B w0 w) (hs : B ≤ w.heap.size) (hb : B ≤ base) : Below B w0 w' :=
  hB.grown hg hs fun k hk => by
    obtain ⟨-, ⟨rfl, -⟩ | ⟨g, cap, cur, rfl, hb2, -⟩⟩ := h
    · simp [Value.ownBlock] at hk
    · simp only [Value.ownBlock, Option.some.injEq] at hk; omega
theorem set_ty {w : World} {q T : Nat} {cs : Array Value} (h : w.heap[q]? = some (.cells cs T (0, 0))) (o : Nat) (v : Value) : Fr (fun X => X == T) false w (w.setCell ⟨q, o, none⟩ v) :=
  keeps_fr (setCell_keeps w q o v) _ _ fun k e => ⟨_, _, _, e ▸ h, by simp⟩
theorem set_below {w0 w : World} {B q : Nat} (hB : Below B w0 w) (hs : B ≤ w.heap.size) (hq : B ≤ q) (o : Nat) (v : Value) : Below B w0 (w.setCell ⟨q, o, none⟩ v) :=
  keeps_below (setCell_keeps w q o v) hB hs fun k e => e ▸ hq
theorem ty_or {K1 K2 : TypeId → Bool} {w w' w'' : World} (h1 : Fr K1 false w w') (h2 : Fr K2 false w' w'') : Fr (fun T => K1 T || K2 T) false w w'' :=
  (h1.mono (fun T h => by simp only [Bool.or_eq_false_iff] at h; exact h.1) id).trans (h2.mono (fun T h => by simp only [Bool.or_eq_false_iff] at h; exact h.2) id)
end Go.Proofs.Ytcihaamjklbdkaa

/-
  notes.List.All: all notes, in new memory.
-/
namespace Go.Proofs.Ytcihaamjklbdkaa
open Go.RowKit
set_option linter.unusedVariables false

theorem lnotes_any {w : World} {base nb TN : Nat} {l : List Nte} (h : NL w base nb 167 TN .u8 l) : ∃ a cap, w.cell? ⟨nb, 0, none⟩ = some (.slice a l.length cap) ∧ w.ownsRow base TN 8 (.slice a l.length cap) l.length (l.flatMap (nteC .u8)) ∧ Calls Try.prog 42 #[.pointer (some ⟨nb, 0, none⟩)] w fun e w' => e = .returned (.slice a l.length cap) ∧ w' = w := by
  obtain ⟨v, h1, h2, h3⟩ := h
  obtain ⟨a, cap, rfl⟩ := own_sl2 h3
  have c0 : w.cell? ⟨nb, 0, none⟩ = some (.slice a l.length cap) := hcell h1 0
  refine ⟨a, cap, c0, h3, ?_⟩
  clear h1 h2 h3
  go_enter Try.func42, Try.ntmps42
  go_wp2
  go_ret
  exact ⟨rfl, rfl⟩
theorem since_ask {w : World} {cb : Nat} {i : Nat} (n : Nte) (hc : w.cell? ⟨cb, 0, none⟩ = some (.int .i64 0)) : Calls Try.prog 80 #[.int .i64 i, .agg (nteC .u8 n).toArray, .pointer (some ⟨cb, 0, none⟩)] w fun e w' => e = .returned (.bool true) ∧ Below w.heap.size w w' := by
  have hb := below_alloc w (.cells (nteC .u8 n).toArray 67)
  have hlt := World.block_lt_of_cell? _ _ hc
  have c0 : (w.alloc (.cells (nteC .u8 n).toArray 67)).cell? ⟨cb, 0, none⟩ = some (.int .i64 0) := by rw [World.cell?_alloc_past _ _ _ hlt]; exact hc
  have d0 : decide ((0 : Int) ≤ (i : Int)) = true := decide_eq_true (by omega)
  have HB := Lib.hid hb
  clear hb hc hlt
  go_enter Try.func80, Try.ntmps80
  go_upto_region 1 with (fail)
  change Code.wp _ _ _ _ (w.alloc (.cells (nteC .u8 n).toArray 67))
  generalize w.alloc (.cells (nteC .u8 n).toArray 67) = w1 at *
  go_wp2
  go_ret
  exact ⟨rfl, HB.out⟩
theorem info_note : (Try.prog.info? 67).map (fun i => (i.zero, i.size, i.bytes)) = some (some (.agg #[.int .i64 0, .int .i64 0, .int .u8 0, .int .i64 0, .int .i64 0, .int .i64 0, .int .i64 0, .int .i64 0]), 8, 64) := by kernel_rfl
/-- A row of notes that the call made, without room behind it. -/
def NRow (w : World) (base : Nat) (v : Value) (l : List Nte) : Prop :=
  (v = .slice none 0 0 ∧ l = []) ∨ ∃ g cur, v = .slice (some ⟨g, 0, none⟩) l.length l.length ∧ base ≤ g ∧ w.heap[g]? = some (.cells cur 67 (0, 0)) ∧ l.length ≤ maxLen ∧ cur.toList.take (l.length * 8) = l.flatMap (nteC .u8)
theorem nclip_any {w : World} {base : Nat} {v : Value} {l : List Nte} (h : w.ownsRow base 67 8 v l.length (l.flatMap (nteC .u8))) : Calls Try.prog 103 #[v] w fun e w' => ∃ v', e = .returned v' ∧ NRow w base v' l ∧ w' = w := by
  obtain ⟨h1, ⟨rfl, h0⟩ | ⟨g, cap, cur, rfl, hb, hg, hn, hm, hs, ht⟩⟩ := h
  · have : l = [] := List.length_eq_zero_iff.1 h0
    subst this
    clear h1 h0
    go_enter Try.func103, Try.ntmps103
    go_wp2
    go_ret
    exact ⟨_, rfl, .inl ⟨rfl, rfl⟩, rfl⟩
  · have hm2 := Nat.le_trans hn hm
    have H : Hid (NRow w base (.slice (some ⟨g, 0, none⟩) l.length l.length) l) := .inr ⟨g, cur, rfl, hb, hg, hm2, ht⟩
    unfold maxLen at hm hm2
    clear h1 hb hg hs ht
    go_enter Try.func103, Try.ntmps103
    go_wp2
    go_ret
    exact ⟨_, rfl, H.out, rfl⟩
theorem nte_at (l : List Nte) (k : Nat) (hk : k < l.length) (j : Nat) (hj : j < 8) : (l.flatMap (nteC .u8))[k * 8 + j]? = (nteC .u8 l[k])[j]? := by
  induction l generalizing k with
  | nil => simp at hk
  | cons x r ih =>
    rw [List.flatMap_cons]
    match k with
    | 0 =>
      rw [List.getElem?_append_left (by simp [nteC]; omega)]
      simp
    | k + 1 =>
      rw [List.getElem?_append_right (by simp [nteC]; omega)]
      have := ih k (by simp at hk; omega)
      simp only [List.getElem_cons_succ]
      rw [← this]
      congr 1
      simp [nteC]; omega
theorem row8_at {w : World} {base : Nat} {a : Option Addr} {cap : Nat} {l : List Nte} (h : w.ownsRow base 67 8 (.slice a l.length cap) l.length (l.flatMap (nteC .u8))) (k : Nat) (hk : k < l.length) :
    ∃ g, a = some ⟨g, 0, none⟩ ∧ ∀ j, j < 8 → w.cell? ⟨g, k * 8 + j, none⟩ = (nteC .u8 l[k])[j]? := by
  obtain ⟨h1, ⟨h2, h0⟩ | ⟨g, cap', cur, hv, hb, hg, hn, hm, hs, ht⟩⟩ := h
  · omega
  · simp only [Value.slice.injEq] at hv
    refine ⟨g, hv.1, fun j hj => ?_⟩
    rw [hcell hg, ← nte_at l k hk j hj, ← ht, List.getElem?_take, if_pos (by omega)]
    simp
set_option maxRecDepth 10000 in
set_option maxHeartbeats 2000000 in
theorem picked_any {w : World} {base nb cb : Nat} {l : List Nte} (h : NL w base nb 167 67 .u8 l) (hl : l.length ≤ 1048576) (hc : w.cell? ⟨cb, 0, none⟩ = some (.int .i64 0)) :
    Calls Try.prog 79 #[.pointer (some ⟨nb, 0, none⟩), .func (.func 80) #[] #[.pointer (some ⟨cb, 0, none⟩)]] w fun e w' => ∃ v, e = .returned v ∧ NRow w' w.heap.size v l ∧ Below w.heap.size w w' := by
  obtain ⟨a, cap, c0, hrow, hn⟩ := lnotes_any h
  obtain ⟨i0, hi0, hz0, hz1, hz2⟩ := info_parts info_note
  have HI := Lib.hid hi0; have HZ0 := Lib.hid hz0; have HZ1 := Lib.hid hz1; have HZ2 := Lib.hid hz2
  have HROW := Lib.hid hrow; have HC := Lib.hid hc; have HL := Lib.hid hl
  clear h hrow hc hl c0 hi0 hz0 hz1 hz2
  go_enter Try.func79, Try.ntmps79
  go_wp2_with (go_at_call 42; refine hn.mono ?_; rintro e w' ⟨rfl, hw⟩; obtain rfl := hw.symm; clear hn)
  go_loopw [5, 11] (fun v i wr => ∃ k : Nat, k ≤ l.length ∧ i = .int .i64 k ∧ wr.ownsRow w.heap.size 67 8 v k ((l.take k).flatMap (nteC .u8)) ∧ Below w.heap.size w wr) (fun _ i _ => l.length - (intOf i).toNat)
  case atStart => exact ⟨0, by omega, rfl, World.ownsRow_nil _ _ _ _, Below.refl _ _⟩
  case round =>
    obtain ⟨k, hk, rfl, hown, hbl⟩ := hrel
    have hl := HL.out
    by_cases hlt : k < l.length
    · have hlt' : (k : Int) < l.length := by omega
      obtain ⟨g, rfl, hcs⟩ := row8_at HROW.out k hlt
      obtain ⟨y, hy⟩ : ∃ y, y = l[k] := ⟨_, rfl⟩
      rw [← hy] at hcs
      have hgl : g < w.heap.size := World.block_lt_of_cell? _ _ ((hcs 0 (by omega)).trans rfl)
      have x : ∀ j, j < 8 → wr.cell? ⟨g, k * 8 + j, none⟩ = (nteC .u8 y)[j]? := fun j hj => (hbl.cell (p := ⟨g, k * 8 + j, none⟩) hgl).trans (hcs j hj)
      have x0 : wr.cell? ⟨g, k * 8, none⟩ = some (.int .i64 y.step) := x 0 (by omega)
      have x1 : wr.cell? ⟨g, k * 8 + 1, none⟩ = some (.int .i64 y.thread) := x 1 (by omega)
      have x2 : wr.cell? ⟨g, k * 8 + 2, none⟩ = some (.int .u8 y.kind) := x 2 (by omega)
      have x3 : wr.cell? ⟨g, k * 8 + 3, none⟩ = some (.int .i64 y.ref) := x 3 (by omega)
      have x4 : wr.cell? ⟨g, k * 8 + 4, none⟩ = some (.int .i64 y.bits) := x 4 (by omega)
      have x5 : wr.cell? ⟨g, k * 8 + 5, none⟩ = some (.int .i64 y.bucket) := x 5 (by omega)
      have x6 : wr.cell? ⟨g, k * 8 + 6, none⟩ = some (.int .i64 y.slot) := x 6 (by omega)
      have x7 : wr.cell? ⟨g, k * 8 + 7, none⟩ = some (.int .i64 y.value) := x 7 (by omega)
      have HOWN := Lib.hid hown; have HBL := Lib.hid hbl; have HY := Lib.hid hy
      clear hown hbl hcs x hy
      go_upto_region 5 with (fail)
      clear x0 x1 x2 x3 x4 x5 x6 x7
      have hb1 := below_alloc wr (.cells #[.int .i64 y.step, .int .i64 y.thread, .int .u8 y.kind, .int .i64 y.ref, .int .i64 y.bits, .int .i64 y.bucket, .int .i64 y.slot, .int .i64 y.value] 67)
      have hz1 := heap_alloc_new wr (.cells #[.int .i64 y.step, .int .i64 y.thread, .int .u8 y.kind, .int .i64 y.ref, .int .i64 y.bits, .int .i64 y.bucket, .int .i64 y.slot, .int .i64 y.value] 67)
      change Code.wp _ _ _ _ (wr.alloc (.cells #[.int .i64 y.step, .int .i64 y.thread, .int .u8 y.kind, .int .i64 y.ref, .int .i64 y.bits, .int .i64 y.bucket, .int .i64 y.slot, .int .i64 y.value] 67))
      generalize wr.alloc (.cells #[.int .i64 y.step, .int .i64 y.thread, .int .u8 y.kind, .int .i64 y.ref, .int .i64 y.bits, .int .i64 y.bucket, .int .i64 y.slot, .int .i64 y.value] 67) = w7 at *
      have hle := HBL.out.size
      have HR0 := Lib.hid (own_fr HOWN.out (below_fr hb1 (fun _ => false) false) rfl)
      generalize wr.heap.size = nq at *
      have x0 := hcell hz1 0; have x1 := hcell hz1 1; have x2 := hcell hz1 2; have x3 := hcell hz1 3
      have x4 := hcell hz1 4; have x5 := hcell hz1 5; have x6 := hcell hz1 6; have x7 := hcell hz1 7
      have hc7 : w7.cell? ⟨cb, 0, none⟩ = some (.int .i64 0) := by
        have hB : Below w.heap.size w w7 := HBL.out.trans (hb1.mono hle)
        exact (hB.cell (p := ⟨cb, 0, none⟩) (World.block_lt_of_cell? _ _ HC.out)).trans HC.out
      have hask := since_ask (i := k) y hc7
      have HB1 : Hid (Below w.heap.size w w7) := HBL.out.trans (hb1.mono hle)
      have HZ := Lib.hid hz1
      clear hb1 hz1 hc7
      go_upto_region 6 with (go_at_call 80; refine hask.mono ?_; intro e w8 hh; obtain ⟨hh1, b8⟩ := hh; subst hh1; have HB8 : Hid (Below w.heap.size w w8) := HB1.out.trans (b8.mono HB1.out.size); have hr8 := own_fr HR0.out (below_fr b8 (fun _ => false) false) rfl; have hz8 := (b8.block _ (Array.getElem?_eq_some_iff.1 HZ.out).1).trans HZ.out; clear b8 hask)
      clear x0 x1 x2 x3 x4 x5 x6 x7
      have x0 := hcell hz8 0; have x1 := hcell hz8 1; have x2 := hcell hz8 2; have x3 := hcell hz8 3
      have x4 := hcell hz8 4; have x5 := hcell hz8 5; have x6 := hcell hz8 6; have x7 := hcell hz8 7
      have HR8 := Lib.hid hr8
      clear hz8 hr8
      go_wp2_with (at_builtin; refine wpList_append_own _ rfl _ _ 64 rfl w.heap.size 67 i0 (.agg #[.int .i64 0, .int .i64 0, .int .u8 0, .int .i64 0, .int .i64 0, .int .i64 0, .int .i64 0, .int .i64 0]) 8 64 Try.underlying64 HI.out HZ0.out HZ1.out HZ2.out rfl (by decide) _ _ _ rfl (HR8.out.alloc _) ⟨w8.heap.size, 0, none⟩ 1 1 (nteC .u8 y) rfl rfl ?c1 ?c2 ?c3 ?c4 ?c5 ?_)
      case c1 => exact World.news_of_block (heap_alloc_new w8 _)
      case c2 => simp [Value.oneCell', nteC]
      case c3 => unfold maxLen; omega
      case c4 => omega
      case c5 => have := HB8.out.size; simp; omega
      intro v' w11 hown' hgrow _
      have hb10 := below_alloc w8 (.cells #[.int .i64 y.step, .int .i64 y.thread, .int .u8 y.kind, .int .i64 y.ref, .int .i64 y.bits, .int .i64 y.bucket, .int .i64 y.slot, .int .i64 y.value] 67)
      have hB11 : Below w.heap.size w w11 := grown_below (HR8.out.alloc _) hgrow (HB8.out.trans (hb10.mono HB8.out.size)) (Nat.le_trans HB8.out.size hb10.size) (Nat.le_refl _)
      have e1 : (l.take (k + 1)).flatMap (nteC .u8) = (l.take k).flatMap (nteC .u8) ++ nteC .u8 y := by
        rw [List.take_add_one, List.getElem?_eq_getElem hlt, List.flatMap_append, ← show y = l[k] from HY.out]; simp
      rw [← e1] at hown'
      have HOW := Lib.hid hown'; have HBW := Lib.hid hB11
      clear hown' hB11 hgrow hb10 e1 x0 x1 x2 x3 x4 x5 x6 x7
      go_wp2_with fail
      go_roundw
      case rel => exact ⟨k + 1, by omega, by go_num, HOW.out, HBW.out⟩
      case measure => simp [intOf]; omega
    · obtain rfl : k = l.length := by omega
      rw [List.take_length] at hown
      have hcl := nclip_any hown
      have HBL := Lib.hid hbl
      clear hown hbl
      go_wp2_with (go_at_call 103; refine hcl.mono ?_; intro e w9 hh; obtain ⟨v', hh1, hr, hw⟩ := hh; subst hh1; obtain rfl := hw.symm; have HR := Lib.hid hr; clear hr hcl)
      go_ret
      exact ⟨_, rfl, HR.out, HBL.out⟩
theorem lsince_any {w : World} {base nb : Nat} {l : List Nte} (h : NL w base nb 167 67 .u8 l) (hl : l.length ≤ 1048576) :
    Calls Try.prog 49 #[.pointer (some ⟨nb, 0, none⟩), .int .i64 0] w fun e w' => ∃ v, e = .returned v ∧ NRow w' w.heap.size v l ∧ Below w.heap.size w w' := by
  have hb := below_alloc w (.cells #[.int .i64 0] 3)
  have hz := heap_alloc_new w (.cells #[.int .i64 0] 3)
  have hp := picked_any (cb := w.heap.size) (h.fr (below_fr hb (fun _ => false) false) rfl rfl) hl (hcell hz 0)
  have HB := Lib.hid hb
  clear h hz hb
  go_enter Try.func49, Try.ntmps49
  go_wp2_with (go_at_call 79; refine hp.mono ?_; intro e w2 hh; obtain ⟨v, hh1, hr, b2⟩ := hh; subst hh1; have HR := Lib.hid hr; have B2 := Lib.hid b2; clear hr b2 hp)
  go_ret
  refine ⟨_, rfl, ?_, HB.out.trans (B2.out.mono HB.out.size)⟩
  rcases HR.out with h | ⟨g, cur, h1, h2, h3⟩
  · exact .inl h
  · exact .inr ⟨g, cur, h1, Nat.le_trans HB.out.size h2, h3⟩
theorem lall_any {w : World} {base nb : Nat} {l : List Nte} (h : NL w base nb 167 67 .u8 l) (hl : l.length ≤ 1048576) :
    Calls Try.prog 15 #[.pointer (some ⟨nb, 0, none⟩)] w fun e w' => ∃ v, e = .returned v ∧ NRow w' w.heap.size v l ∧ Below w.heap.size w w' := by
  have hp := lsince_any h hl
  clear h
  go_enter Try.func15, Try.ntmps15
  go_wp2_with (go_at_call 49; refine hp.mono ?_; intro e w2 hh; obtain ⟨v, hh1, hr, b2⟩ := hh; subst hh1; have HR := Lib.hid hr; have B2 := Lib.hid b2; clear hr b2 hp)
  go_ret
  exact ⟨_, rfl, HR.out, B2.out⟩
theorem NRow.at {w : World} {base : Nat} {v : Value} {l : List Nte} (h : NRow w base v l) (k : Nat) (hk : k < l.length) : ∃ g, v = .slice (some ⟨g, 0, none⟩) l.length l.length ∧ ∀ j, j < 8 → w.cell? ⟨g, k * 8 + j, none⟩ = (nteC .u8 l[k])[j]? := by
  rcases h with ⟨-, h0⟩ | ⟨g, cur, hv, hb, hg, hm, ht⟩
  · subst h0; simp at hk
  · refine ⟨g, hv, fun j hj => ?_⟩
    rw [hcell hg, ← nte_at l k hk j hj, ← ht, List.getElem?_take, if_pos (by omega)]
    simp
end Go.Proofs.Ytcihaamjklbdkaa

/-
  notes.List.Add, and a world's note.
-/
namespace Go.Proofs.Ytcihaamjklbdkaa
open Go.RowKit
set_option linter.unusedVariables false

theorem lcount_any {w : World} {base nb TN : Nat} {l : List Nte} (h : NL w base nb 167 TN .u8 l) : Calls Try.prog 10 #[.pointer (some ⟨nb, 0, none⟩)] w fun e w' => e = .returned (.int .i64 l.length) ∧ w' = w := by
  obtain ⟨a, cap, -, -, hn⟩ := lnotes_any h
  clear h
  go_enter Try.func10, Try.ntmps10
  go_wp2_with (go_at_call 42; refine hn.mono ?_; rintro e w' ⟨rfl, rfl⟩)
  go_ret
  exact ⟨rfl, rfl⟩
/-- Behind an Add: a note of a kind that is one. -/
def nadd (l : List Nte) (n : Nte) : List Nte := if 1 ≤ n.kind ∧ n.kind ≤ 9 then l ++ [n] else l
def nTy (T : TypeId) : Bool := T == 167 || T == 67
theorem nTy_l (T : TypeId) (h : nTy T = false) : (T == 167) = false := by unfold nTy at h; simp only [Bool.or_eq_false_iff] at h; exact h.1
theorem nTy_n (T : TypeId) (h : nTy T = false) : (T == 67) = false := by unfold nTy at h; simp only [Bool.or_eq_false_iff] at h; exact h.2
set_option maxRecDepth 10000 in
set_option maxHeartbeats 2000000 in
theorem ladd_no {w : World} {base nb : Nat} {l : List Nte} {n : Nte} (h : NL w base nb 167 67 .u8 l) (hk : n.kind = 0 ∨ 9 < n.kind) :
    Calls Try.prog 48 #[.pointer (some ⟨nb, 0, none⟩), .agg (nteC .u8 n).toArray] w fun e w' => (∃ k, e = .returned (.int .i64 k)) ∧ Below w.heap.size w w' := by
  have hb := below_alloc w (.cells (nteC .u8 n).toArray 67)
  have hz := heap_alloc_new w (.cells (nteC .u8 n).toArray 67)
  have h1 := h.fr (below_fr hb (fun _ => false) false) rfl rfl
  have hcn := lcount_any h1
  have HB := Lib.hid hb; have HZ := Lib.hid hz; have HK := Lib.hid hk
  clear h hb hz h1 hk
  go_enter Try.func48, Try.ntmps48
  go_upto_region 1 with (fail)
  change Code.wp _ _ _ _ (w.alloc (.cells (nteC .u8 n).toArray 67))
  generalize w.alloc (.cells (nteC .u8 n).toArray 67) = w1 at *
  go_upto_region 4 with (go_at_call 10; refine hcn.mono ?_; rintro e w2 ⟨rfl, hw⟩; obtain rfl := hw.symm; clear hcn)
  have x2 : ∀ st : ExtW w1, st.val.cell? ⟨w.heap.size, 2, none⟩ = some (.int .u8 n.kind) := fun st => st.cell (hcell HZ.out 2)
  rcases HK.out with hk | hk
  · have d1 : (n.kind == 0) = true := beq_iff_eq.2 hk
    refine wp_region_ext (by kernel_rfl) (by kernel_rfl) ?_
    repeat (go_big_quiet_step (fail))
    refine wpQuiet_nil ?_
    rintro W ⟨⟨W2, hW⟩, rfl⟩
    have HW := Lib.hid hW
    clear x2 hW
    go_wp2
    go_ret
    exact ⟨⟨_, rfl⟩, HB.out.trans (HW.out.mono HB.out.size)⟩
  · have d1 : (n.kind == 0) = false := beq_eq_false_iff_ne.2 (by omega)
    have d2 : decide (9 < n.kind) = true := decide_eq_true hk
    refine wp_region_ext (by kernel_rfl) (by kernel_rfl) ?_
    repeat (go_big_quiet_step (fail))
    refine wpQuiet_nil ?_
    rintro W ⟨⟨W2, hW⟩, rfl⟩
    have HW := Lib.hid hW
    clear x2 hW
    go_wp2
    go_ret
    exact ⟨⟨_, rfl⟩, HB.out.trans (HW.out.mono HB.out.size)⟩
set_option maxRecDepth 10000 in
set_option maxHeartbeats 4000000 in
theorem ladd_ok {w0 w : World} {base nb : Nat} {l : List Nte} {n : Nte} (h : NL w base nb 167 67 .u8 l) (hB : Below base w0 w) (hsz : base ≤ w.heap.size) (hl : l.length < 1048576) (hk : 1 ≤ n.kind ∧ n.kind ≤ 9) (hs : ∀ y, l.getLast? = some y → y.step ≤ n.step) :
    Calls Try.prog 48 #[.pointer (some ⟨nb, 0, none⟩), .agg (nteC .u8 n).toArray] w fun e w' => (∃ k, e = .returned (.int .i64 k)) ∧ NL w' base nb 167 67 .u8 (l ++ [n]) ∧ Fr nTy false w w' ∧ Below base w0 w' := by
  obtain ⟨i0, hi0, hz0, hz1, hz2⟩ := info_parts info_note
  have HI := Lib.hid hi0; have HZ0 := Lib.hid hz0; have HZ1 := Lib.hid hz1; have HZ2 := Lib.hid hz2
  have hb := below_alloc w (.cells (nteC .u8 n).toArray 67)
  have hz := heap_alloc_new w (.cells (nteC .u8 n).toArray 67)
  have h1 := h.fr (below_fr hb (fun _ => false) false) rfl rfl
  have hcn := lcount_any h1
  have HBB : Hid (Below base w0 (w.alloc (.cells (nteC .u8 n).toArray 67))) := hB.trans (hb.mono hsz)
  have HSZ : Hid (base ≤ (w.alloc (.cells (nteC .u8 n).toArray 67)).heap.size) := Nat.le_trans hsz hb.size
  have HB := Lib.hid hb; have H1 := Lib.hid h1; have HZ := Lib.hid hz; have HL := Lib.hid hl; have HK := Lib.hid hk; have HS := Lib.hid hs
  clear h hb hz h1 hl hk hs hi0 hz0 hz1 hz2 hB hsz
  go_enter Try.func48, Try.ntmps48
  go_upto_region 1 with (fail)
  change Code.wp _ _ _ _ (w.alloc (.cells (nteC .u8 n).toArray 67))
  generalize w.alloc (.cells (nteC .u8 n).toArray 67) = w1 at *
  go_upto_region 4 with (go_at_call 10; refine hcn.mono ?_; rintro e w2 ⟨rfl, hw⟩; obtain rfl := hw.symm; clear hcn)
  have HFC0 : Hid (Fr nTy false w w1) := below_fr HB.out _ _
  clear HB
  generalize w.heap.size = nq at *
  go_cut [11] (fun v wx => v = .bool false ∧ Below w1.heap.size w1 wx)
  case first =>
    obtain ⟨a, cap, c0, hrow, -⟩ := lnotes_any H1.out
    have hk := HK.out
    have d1 : (n.kind == 0) = false := beq_eq_false_iff_ne.2 (by omega)
    have d2 : decide (9 < n.kind) = false := decide_eq_false (by omega)
    have hl := HL.out
    have x0 : ∀ st : ExtW w1, st.val.cell? ⟨nq, 0, none⟩ = some (.int .i64 n.step) := fun st => st.cell (hcell HZ.out 0)
    have x2 : ∀ st : ExtW w1, st.val.cell? ⟨nq, 2, none⟩ = some (.int .u8 n.kind) := fun st => st.cell (hcell HZ.out 2)
    have y0 : ∀ st : ExtW w1, st.val.cell? ⟨nb, 0, none⟩ = some (.slice a l.length cap) := fun st => st.cell c0
    by_cases h0 : l.length = 0
    · have e0 : decide ((0 : Int) < l.length) = false := decide_eq_false (by omega)
      have e0n : decide (0 < l.length) = false := decide_eq_false (by omega)
      clear hrow c0 hk hl h0
      refine wp_region_ext (by kernel_rfl) (by kernel_rfl) ?_
      repeat (go_big_quiet_step (fail))
      refine wpQuiet_nil ?_
      rintro W ⟨⟨W2, hW⟩, rfl⟩
      clear x0 x2 y0
      have HW := Lib.hid hW
      go_wp2_with fail
      go_meet
      case rel => exact ⟨rfl, HW.out⟩
    · obtain ⟨k, hk1⟩ : ∃ k, l.length = k + 1 := ⟨l.length - 1, by omega⟩
      have hkl : k < l.length := by omega
      obtain ⟨g, rfl, hcs⟩ := row8_at hrow k hkl
      have hst : (l[k]).step ≤ n.step := HS.out _ (by rw [List.getLast?_eq_getElem?, show l.length - 1 = k by omega]; exact List.getElem?_eq_getElem hkl)
      have y1 : ∀ st : ExtW w1, st.val.cell? ⟨g, k * 8, none⟩ = some (.int .i64 (l[k]).step) := fun st => st.cell (hcs 0 (by omega))
      generalize (l[k]).step = ys at *
      clear hrow c0 hk hcs hkl h0
      generalize l.length = L at *
      subst hk1
      have e0 : decide ((0 : Int) < ((k + 1 : Nat) : Int)) = true := decide_eq_true (by omega)
      have e0n : decide (0 < k + 1) = true := decide_eq_true (by omega)
      have d3 : decide (n.step < ys) = false := decide_eq_false (by omega)
      clear hst
      refine wp_region_ext (by kernel_rfl) (by kernel_rfl) ?_
      repeat (go_big_quiet_step (fail))
      refine wpQuiet_nil ?_
      rintro W ⟨⟨W2, hW⟩, rfl⟩
      clear x0 x2 y0 y1
      have HW := Lib.hid hW
      go_wp2_with fail
      go_meet
      case rel => exact ⟨rfl, HW.out⟩
  case rest =>
  obtain ⟨hcv, hbx⟩ := hcut
  subst hcv
  have hnl := H1.out.fr (below_fr hbx (fun _ => false) false) rfl rfl
  have hnq := (hbx.block _ (Array.getElem?_eq_some_iff.1 HZ.out).1).trans HZ.out
  obtain ⟨v, hl1, hl2, hl3⟩ := hnl
  obtain ⟨ao, cap, rfl⟩ := own_sl2 hl3
  have hqlt := (Array.getElem?_eq_some_iff.1 hl1).1
  have hnlt := (Array.getElem?_eq_some_iff.1 hnq).1
  have l0 := hcell hl1 0
  have lf := hfrz hl1 0
  have l0' : ∀ o, (wc.alloc o).cell? ⟨nb, 0, none⟩ = some (.slice ao l.length cap) := fun o => by rw [World.cell?_alloc_past _ _ _ hqlt]; exact l0
  have lf' : ∀ o, (wc.alloc o).frozen? ⟨nb, 0, none⟩ = false := fun o => by rw [World.frozen?_alloc_past _ _ _ hqlt]; exact lf
  have hl := HL.out
  have dm : decide ((1048576 : Int) ≤ l.length) = false := decide_eq_false (by omega)
  have k0 : wc.cell? ⟨nq, 0, none⟩ = some (.int .i64 n.step) := hcell hnq 0
  have k1 : wc.cell? ⟨nq, 1, none⟩ = some (.int .i64 n.thread) := hcell hnq 1
  have k2 : wc.cell? ⟨nq, 2, none⟩ = some (.int .u8 n.kind) := hcell hnq 2
  have k3 : wc.cell? ⟨nq, 3, none⟩ = some (.int .i64 n.ref) := hcell hnq 3
  have k4 : wc.cell? ⟨nq, 4, none⟩ = some (.int .i64 n.bits) := hcell hnq 4
  have k5 : wc.cell? ⟨nq, 5, none⟩ = some (.int .i64 n.bucket) := hcell hnq 5
  have k6 : wc.cell? ⟨nq, 6, none⟩ = some (.int .i64 n.slot) := hcell hnq 6
  have k7 : wc.cell? ⟨nq, 7, none⟩ = some (.int .i64 n.value) := hcell hnq 7
  have E2 : Hid (l.length + 1 ≤ maxLen) := by unfold maxLen; show l.length + 1 ≤ _; omega
  have E3 : Hid ((l.length + 1) * 64 ≤ 140737488355328) := by show (l.length + 1) * 64 ≤ 140737488355328; omega
  have E4 : Hid (base ≤ wc.heap.size) := Nat.le_trans HSZ.out hbx.size
  have HNW : Hid (((wc.drew).alloc (.cells #[.int .i64 n.step, .int .i64 n.thread, .int .u8 n.kind, .int .i64 n.ref, .int .i64 n.bits, .int .i64 n.bucket, .int .i64 n.slot, .int .i64 n.value] 67)).heap[wc.heap.size]? = some (.cells #[.int .i64 n.step, .int .i64 n.thread, .int .u8 n.kind, .int .i64 n.ref, .int .i64 n.bits, .int .i64 n.bucket, .int .i64 n.slot, .int .i64 n.value] 67 (0, 0))) := heap_alloc_new (wc.drew) _
  have HW0 : Hid (Below wc.heap.size wc ((wc.drew).alloc (.cells #[.int .i64 n.step, .int .i64 n.thread, .int .u8 n.kind, .int .i64 n.ref, .int .i64 n.bits, .int .i64 n.bucket, .int .i64 n.slot, .int .i64 n.value] 67))) := ((Below.refl _ _).drew).alloc (Nat.le_refl _) _
  have HBC : Hid (Below base w0 wc) := HBB.out.trans (hbx.mono HSZ.out)
  have HFC : Hid (Fr nTy false w wc) := HFC0.out.trans (below_fr hbx _ _)
  have HL1 := Lib.hid hl1; have HL3 := Lib.hid hl3; have HLO := Lib.hid hl2
  clear hl1 hl3 hl2 hnq hbx H1 HS HK
  go_upto_region 8 with (fail)
  clear dm hl
  go_region_law ((refine step_append_lies _ (by rfl) _ _ _ (by rfl) base 67 i0 _ 8 64 Try.underlying64 HI.out HZ0.out HZ1.out HZ2.out rfl (by decide) (.slice ao l.length cap) l.length (l.flatMap (nteC .u8)) (by rfl) ((HL3.out.drew).alloc _) ⟨wc.heap.size, 0, none⟩ 1 1 (nteC .u8 n) (by rfl) (by rfl) (World.news_of_block (cs := #[.int .i64 n.step, .int .i64 n.thread, .int .u8 n.kind, .int .i64 n.ref, .int .i64 n.bits, .int .i64 n.bucket, .int .i64 n.slot, .int .i64 n.value]) (t := 67) (fr := (0, 0)) HNW.out) (by simp [Value.oneCell', nteC]) (by omega) E2.out E3.out (by have := E4.out; simp; omega) (wc.heap.size + 1) (by simp) ?_; intro g cap1 w4 hown1 hgrow hat hlt; have HOW := Lib.hid hown1; have HGR := Lib.hid hgrow; have hq4 : w4.heap[nb]? = some (.cells #[.slice ao l.length cap] 167 (0, 0)) := (grown_ty ((HL3.out.drew).alloc _) hgrow).cells _ _ _ _ ((HW0.out.block _ (Array.getElem?_eq_some_iff.1 HL1.out).1).trans HL1.out) rfl; have t0 := hcell hq4 0; have t1 := hfrz hq4 0; have HQ4 := Lib.hid hq4; clear hown1 hgrow hat hlt hq4))
  all_goals
    have hB4 : Below base w0 w4 := grown_below ((HL3.out.drew).alloc _) HGR.out (HBC.out.trans (HW0.out.mono E4.out)) (Nat.le_trans E4.out HW0.out.size) (Nat.le_refl _)
    have f4 : Fr nTy false wc w4 := (below_fr HW0.out _ _).trans ((grown_ty ((HL3.out.drew).alloc _) HGR.out).mono nTy_n id)
    have f5 := set_ty HQ4.out 0 (.slice (some ⟨g, 0, none⟩) (l.length + 1) cap1)
    have hB5 := set_below hB4 (Nat.le_trans E4.out f4.size) HLO.out 0 (.slice (some ⟨g, 0, none⟩) (l.length + 1) cap1)
    have hq5 := setCell_same HQ4.out 0 (.slice (some ⟨g, 0, none⟩) (l.length + 1) cap1)
    have h1 := own_fr HOW.out f5 rfl
    have FIN : Hid (NL (w4.setCell ⟨nb, 0, none⟩ (.slice (some ⟨g, 0, none⟩) (l.length + 1) cap1)) base nb 167 67 .u8 (l ++ [n]) ∧ Fr nTy false w (w4.setCell ⟨nb, 0, none⟩ (.slice (some ⟨g, 0, none⟩) (l.length + 1) cap1)) ∧ Below base w0 (w4.setCell ⟨nb, 0, none⟩ (.slice (some ⟨g, 0, none⟩) (l.length + 1) cap1))) := by
      refine ⟨⟨_, hq5, HLO.out, ?_⟩, (HFC.out.trans f4).trans (f5.mono nTy_l id), hB5⟩
      rw [List.length_append, List.flatMap_append]
      simpa using h1
    clear hB4 f4 f5 hB5 hq5 h1 HQ4 HGR HOW t0 t1 l0 l0' lf lf' k0 k1 k2 k3 k4 k5 k6 k7
    generalize w4.setCell ⟨nb, 0, none⟩ (.slice (some ⟨g, 0, none⟩) (l.length + 1) cap1) = w5 at *
    go_wp2_with fail
    go_ret
    exact ⟨⟨_, rfl⟩, FIN.out⟩
end Go.Proofs.Ytcihaamjklbdkaa

/-
  Tickets: a Take, a Give, who waits.
-/
namespace Go.Proofs.Ytcihaamjklbdkaa
open Go.RowKit
set_option linter.unusedVariables false

/-- Of the old blocks only b, and such of some types, have turned. -/
structure Fx (K : TypeId → Bool) (mp : Bool) (b : Nat) (w w' : World) : Prop where
  size : w.heap.size ≤ w'.heap.size
  cells : ∀ (k : Nat) (cs : Array Value) (T : TypeId) (fr : Nat × Nat), w.heap[k]? = some (.cells cs T fr) → K T = false → k ≠ b → w'.heap[k]? = some (.cells cs T fr)
  map : mp = false → ∀ (k : Nat) (es : Array MapEntry) (cl : Nat), w.heap[k]? = some (.map es cl) → k ≠ b → w'.heap[k]? = some (.map es cl)
theorem Fr.fx {K : TypeId → Bool} {mp : Bool} {w w' : World} (h : Fr K mp w w') (b : Nat) : Fx K mp b w w' := ⟨h.size, fun k cs T fr h1 h2 _ => h.cells k cs T fr h1 h2, fun hm k es cl h1 _ => h.map hm k es cl h1⟩
theorem Fx.trans {K : TypeId → Bool} {mp : Bool} {b : Nat} {a c d : World} (h : Fx K mp b a c) (k : Fx K mp b c d) : Fx K mp b a d :=
  ⟨Nat.le_trans h.size k.size, fun i cs T fr hi hT hb => k.cells i cs T fr (h.cells i cs T fr hi hT hb) hT hb, fun hm i es cl hi hb => k.map hm i es cl (h.map hm i es cl hi hb) hb⟩
theorem set_fx (K : TypeId → Bool) (mp : Bool) (w : World) (b o : Nat) (v : Value) : Fx K mp b w (w.setCell ⟨b, o, none⟩ v) :=
  ⟨by simp [World.setCell], fun k cs T fr h _ hb => (Below.heap_setCell _ _ _ _ hb).trans h, fun _ k es cl h hb => (Below.heap_setCell _ _ _ _ hb).trans h⟩
theorem Fx.fr {K : TypeId → Bool} {mp : Bool} {b : Nat} {w w' : World} (h : Fx K mp b w w') {cs : Array Value} {T : TypeId} {fr : Nat × Nat} (hb : w.heap[b]? = some (.cells cs T fr)) : Fr (fun x => K x || x == T) mp w w' := by
  refine ⟨h.size, fun k cs2 T2 fr2 h2 hT => ?_, fun hm k es cl h2 => h.map hm k es cl h2 fun c => ?_⟩
  · simp only [Bool.or_eq_false_iff] at hT
    refine h.cells k cs2 T2 fr2 h2 hT.1 fun c => ?_
    subst c
    have := hb.symm.trans h2; simp only [Option.some.injEq, Obj.cells.injEq] at this
    have h3 := hT.2; rw [this.2.1] at h3; simp at h3
  · subst c; rw [hb] at h2; cases h2

theorem mkfunc (fn : Fn) (first cap : Array Value) (w : World) : (Instr.makeFunc fn first cap).run Try.prog w = .ok (.func fn first cap) w := rfl
/-- The worlds' types, and a Take's. -/
theorem WS.cellb {w0 w : World} {B : WB} {V : WV} {s : CS} (h : WS w0 w B V s) (t : Nat) (ht : t < 64) : w.cell? ⟨B.wb, 8 + t, none⟩ = some (.int .u64 (V.tk.getD t 0)) := (h.cell (8 + t)).trans (val_tkat B V h.tkl t ht)
theorem WS.hcell' {w0 w : World} {B : WB} {V : WV} {s : CS} (h : WS w0 w B V s) : w.cell? ⟨B.wb, 72, none⟩ = some (.int .i64 V.hd) := (h.cell 72).trans (val_at B V h.tkl).2.2.2.2.2
theorem WS.frz {w0 w : World} {B : WB} {V : WV} {s : CS} (h : WS w0 w B V s) (o : Nat) : w.frozen? ⟨B.wb, o, none⟩ = false := hfrz h.blk o
theorem WS.fx {w0 w w' : World} {B : WB} {V : WV} {s : CS} {K : TypeId → Bool} {b : Nat} (h : WS w0 w B V s) (hf : Fx K false b w w') (hK : ∀ T, wTy T = true → K T = false) {cs : Array Value} {T : TypeId} {fr : Nat × Nat} (hb : w.heap[b]? = some (.cells cs T fr)) (hT : wTy T = false) (hB : Below w0.heap.size w0 w') : WS w0 w' B V s :=
  h.fr (hf.fr hb) (fun x hx => by simp only [Bool.or_eq_false_iff]; exact ⟨hK x hx, by cases hxT : (x == T); rfl; rw [beq_iff_eq] at hxT; subst hxT; rw [hx] at hT; cases hT⟩) hB
theorem set_take {w0 w : World} {B : WB} {V : WV} {s : CS} {b o : Nat} {cs : Array Value} {T : TypeId} (h : WS w0 w B V s) (hb : w.heap[b]? = some (.cells cs T (0, 0))) (hT : wTy T = false) (hlo : w0.heap.size ≤ b) (v : Value) : WS w0 (w.setCell ⟨b, o, none⟩ v) B V s :=
  h.fx (set_fx (fun _ => false) false w b o v) (fun _ _ => rfl) hb hT (keeps_below (setCell_keeps w b o v) h.below h.below.size fun k e => e ▸ hlo)

section
variable {w0 w : World} {B : WB} {V : WV} {s : CS} {b t : Nat} {d : Bool} {k : Int} (h : WS w0 w B V s) (hr : s.room) (hlo : w0.heap.size ≤ b) (ht : t < 64)
include h hr hlo ht
end
end Go.Proofs.Ytcihaamjklbdkaa

/-
  A world's note.
-/
namespace Go.Proofs.Ytcihaamjklbdkaa
open Go.RowKit Go.Maps
set_option linter.unusedVariables false

theorem u8_nn {k : Int} (h : (Lit.int .u8 k).wf = true) : 0 ≤ k ∧ k < 256 := by
  have hmin : IntKind.u8.min = 0 := rfl
  have hmax : IntKind.u8.max = 255 := rfl
  simp only [Lit.wf, Bool.and_eq_true, decide_eq_true_eq] at h; omega
theorem nTy_w (T : TypeId) (h : wTy T = false) : nTy T = false := by
  unfold wTy at h
  simp only [Bool.or_eq_false_iff] at h
  unfold nTy
  rw [h.1.2, h.2]; rfl
section
variable {w0 w w' : World} {B : WB} {V : WV} {s : CS}
theorem WS.noted (h : WS w0 w B V s) {l : List Nte} (hn : NL w' w0.heap.size B.nb 167 67 .u8 l) (hf : Fr nTy false w w') (hB : Below w0.heap.size w0 w') : WS w0 w' B { V with nts := l } s := by
  obtain ⟨S, ha⟩ := h.ar
  exact ⟨h.own.fr hf hB rfl rfl, hf.cells _ _ _ _ h.blk rfl, h.lo, ⟨S, ha.fr hf rfl rfl rfl⟩, hn, h.tkl, h.fmk.fr h.own hf rfl⟩
theorem WS.hd5 (h : WS w0 w B V s) : w.cell? ⟨B.wb, 0, none⟩ = some (.pointer (some ⟨B.cb, 0, none⟩)) ∧ w.cell? ⟨B.wb, 1, none⟩ = some (.pointer (some ⟨B.ib, 0, none⟩)) ∧ w.cell? ⟨B.wb, 2, none⟩ = some (.pointer (some ⟨B.nb, 0, none⟩)) ∧ w.cell? ⟨B.wb, 72, none⟩ = some (.int .i64 V.hd) :=
  ⟨h.c0, (h.cell 1).trans (val_at B V h.tkl).2.1, (h.cell 2).trans (val_at B V h.tkl).2.2.1, (h.cell 72).trans (val_at B V h.tkl).2.2.2.2.2⟩
theorem WS.last5 (h : WS w0 w B V s) : Calls Try.prog 21 #[.pointer (some ⟨B.cb, 0, none⟩)] w fun e w' => e = .returned (.agg #[.int .u8 s.kind, .int .u64 s.addr, .int .u64 s.was, .int .u64 s.is]) ∧ Below w.heap.size w w' := by
  obtain ⟨⟨S, hS⟩, hB⟩ := h.own
  exact last_any w _ B.cb s S hS
theorem WS.iat5 (h : WS w0 w B V s) (hl : V.its.length ≤ 1048576) (r : Int) : Calls Try.prog 13 #[.pointer (some ⟨B.ib, 0, none⟩), .int .i64 r] w fun e w' => e = .returned (.tuple #[.agg #[.string ((atOf V.its r).1).key, .string ((atOf V.its r).1).val, .int .u32 ((atOf V.its r).1).flags, .int .u64 ((atOf V.its r).1).id, .int .i64 ((atOf V.its r).1).dies, .int .i64 ((atOf V.its r).1).gen], .bool (atOf V.its r).2]) ∧ Below w.heap.size w w' := by
  obtain ⟨S, hS⟩ := h.ar
  exact iat_any _ _ _ S r w hS hl
theorem WS.steps5 (h : WS w0 w B V s) : Calls Try.prog 9 #[.pointer (some ⟨B.wb, 0, none⟩)] w fun e w' => e = .returned (.int .i64 s.cnt) ∧ w' = w := steps_any h.wld
/-- Do the notes' steps rise up to what was done? -/
def Nsteps (l : List Nte) (c : Int) : Prop := ∀ y ∈ l, y.step ≤ c
theorem Nsteps.le {l : List Nte} {c d : Int} (h : Nsteps l c) (hc : c ≤ d) : Nsteps l d := fun y hy => Int.le_trans (h y hy) hc
theorem Nsteps.add {l : List Nte} {c : Int} {n : Nte} (h : Nsteps l c) (hn : n.step = c) : Nsteps (nadd l n) c := by
  unfold nadd
  split
  · intro y hy
    rcases List.mem_append.1 hy with h1 | h1
    · exact h y h1
    · simp only [List.mem_singleton] at h1; subst h1; rw [hn]; exact Int.le_refl _
  · exact h
theorem nadd_len (l : List Nte) (n : Nte) : (nadd l n).length ≤ l.length + 1 := by unfold nadd; split <;> simp
theorem wladd (h : WS w0 w B V s) (n : Nte) (hl : V.nts.length < 1048576) (hkb : 0 ≤ n.kind) (hs : Nsteps V.nts n.step) :
    Calls Try.prog 48 #[.pointer (some ⟨B.nb, 0, none⟩), .agg (nteC .u8 n).toArray] w fun e w' => (∃ k, e = .returned (.int .i64 k)) ∧ WS w0 w' B { V with nts := nadd V.nts n } s ∧ Fr nTy false w w' := by
  by_cases hk : 1 ≤ n.kind ∧ n.kind ≤ 9
  · refine (ladd_ok h.nt h.below h.below.size hl hk (fun y hy => hs y (List.mem_of_getLast? hy))).mono fun e w' ⟨h1, h2, h3, h4⟩ => ⟨h1, ?_, h3⟩
    have : nadd V.nts n = V.nts ++ [n] := by unfold nadd; rw [if_pos hk]
    rw [this]
    exact h.noted h2 h3 h4
  · refine (ladd_no h.nt (by omega)).mono fun e w' ⟨h1, h2⟩ => ⟨h1, ?_, below_fr h2 _ _⟩
    have : nadd V.nts n = V.nts := by unfold nadd; rw [if_neg hk]
    rw [this]
    exact h.keep h2
set_option maxRecDepth 10000 in
set_option maxHeartbeats 2000000 in
theorem wnote_any (h : WS w0 w B V s) (k r b u sl v : Int) (hl : V.nts.length < 1048576) (hkb : (Lit.int .u8 k).wf = true) (hs : Nsteps V.nts s.cnt) :
    Calls Try.prog 14 #[.pointer (some ⟨B.wb, 0, none⟩), .int .u8 k, .int .i64 r, .agg #[.int .i64 b, .int .i64 u, .int .i64 sl], .int .i64 v] w fun e w' => e = .returned (.tuple #[]) ∧ WS w0 w' B { V with nts := nadd V.nts ⟨s.cnt, V.hd, k, r, b, u, sl, v⟩ } s ∧ Fr wTy true w w' := by
  have hb := below_alloc w (.cells #[.int .i64 b, .int .i64 u, .int .i64 sl] 46)
  have hz := heap_alloc_new w (.cells #[.int .i64 b, .int .i64 u, .int .i64 sl] 46)
  have h1 := h.keep hb
  have hk0 := (u8_nn hkb).1
  have HB := Lib.hid hb; have HZ := Lib.hid hz; have H1 := Lib.hid h1; have HL := Lib.hid hl; have HS := Lib.hid hs; have HK0 := Lib.hid hk0
  clear h hb hz h1 hl hkb hs hk0
  go_enter Try.func14, Try.ntmps14
  go_upto_region 2 with (fail)
  change Code.wp _ _ _ _ (w.alloc (.cells #[.int .i64 b, .int .i64 u, .int .i64 sl] 46))
  generalize w.alloc (.cells #[.int .i64 b, .int .i64 u, .int .i64 sl] 46) = w1 at *
  have HB0 : Hid (Fr wTy true w w1) := below_fr HB.out _ _
  clear HB
  generalize w.heap.size = nq at *
  have x2 : ∀ st : ExtW w1, st.val.cell? ⟨B.wb, 2, none⟩ = some (.pointer (some ⟨B.nb, 0, none⟩)) := fun st => st.cell H1.out.hd5.2.2.1
  have x72 : ∀ st : ExtW w1, st.val.cell? ⟨B.wb, 72, none⟩ = some (.int .i64 V.hd) := fun st => st.cell H1.out.hd5.2.2.2
  have z0 : ∀ st : ExtW w1, st.val.cell? ⟨nq, 0, none⟩ = some (.int .i64 b) := fun st => st.cell (hcell HZ.out 0)
  have z1 : ∀ st : ExtW w1, st.val.cell? ⟨nq, 1, none⟩ = some (.int .i64 u) := fun st => st.cell (hcell HZ.out 1)
  have z2 : ∀ st : ExtW w1, st.val.cell? ⟨nq, 2, none⟩ = some (.int .i64 sl) := fun st => st.cell (hcell HZ.out 2)
  have m1 : ∀ st : ExtW w1, Calls Try.prog 9 #[.pointer (some ⟨B.wb, 0, none⟩)] st.val fun e w' => e = .returned (.int .i64 s.cnt) ∧ st.val = w' := fun st => (H1.out.keep st.below).steps5.mono fun e w' ⟨h1, h2⟩ => ⟨h1, h2.symm⟩
  refine wp_region_ext_tail 15 (by kernel_rfl) (by kernel_rfl) ?_
  simp only [List.take_succ_cons, List.take_zero, List.drop_succ_cons, List.drop_zero]
  repeat (go_big_quiet_step ((go_at_call 9; with_reducible refine calls_ext_same (m1 _))))
  refine wpQuiet_nil ?_
  rintro W ⟨⟨W2, hW⟩, rfl⟩
  clear x2 x72 z0 z1 z2 m1
  have hadd := wladd (H1.out.keep hW) ⟨s.cnt, V.hd, k, r, b, u, sl, v⟩ HL.out HK0.out HS.out
  have HW := Lib.hid hW
  clear hW
  go_wp2_with (go_at_call 48; refine hadd.mono ?_; intro e w3 hh; obtain ⟨⟨kk, hh1⟩, h3, f3⟩ := hh; subst hh1; have H3 := Lib.hid h3; have F3 := Lib.hid f3; clear h3 f3 hadd)
  go_end0
  exact ⟨rfl, H3.out, (HB0.out.trans (below_fr HW.out _ _)).trans (F3.out.mono nTy_w (fun h => by cases h))⟩
end
end Go.Proofs.Ytcihaamjklbdkaa

/-
  Grows: what is not there, what is over, without a world; the document's; a step.
-/
namespace Go.Proofs.Ytcihaamjklbdkaa
open Go.RowKit Go.Maps
set_option linter.unusedVariables false

/-- What is left of the acts, by how many there are. -/
def LeftV (w : World) (v : Value) : Nat → Prop
  | 0 => ∃ a c, v = .slice a 0 c
  | 1 => ∃ g o cs, v = .slice (some ⟨g, o, none⟩) 1 1 ∧ w.heap[g]? = some (.cells cs 131 (0, 0)) ∧ cs[o]? = some (.int .i64 1)
  | _ + 2 => ∃ g, v = .slice (some ⟨g, 0, none⟩) 2 2 ∧ w.heap[g]? = some (.cells #[.int .i64 0, .int .i64 1] 131 (0, 0))
def GS (w : World) (b T n : Nat) (word bits : Int) : Prop := ∃ v, w.heap[b]? = some (.cells #[v, .int .u64 word, .int .i64 bits] T (0, 0)) ∧ LeftV w v n
theorem LeftV.fr {K : TypeId → Bool} {mp : Bool} {w w' : World} {v : Value} {n : Nat} (h : LeftV w v n) (hf : Fr K mp w w') (h1 : K 131 = false) : LeftV w' v n := by
  match n, h with
  | 0, h => exact h
  | 1, ⟨g, o, cs, h2, h3, h4⟩ => exact ⟨g, o, cs, h2, hf.cells _ _ _ _ h3 h1, h4⟩
  | _ + 2, ⟨g, h2, h3⟩ => exact ⟨g, h2, hf.cells _ _ _ _ h3 h1⟩
theorem GS.fr {K : TypeId → Bool} {mp : Bool} {w w' : World} {b T n : Nat} {word bits : Int} (h : GS w b T n word bits) (hf : Fr K mp w w') (h1 : K 131 = false) (h2 : K T = false) : GS w' b T n word bits := by
  obtain ⟨v, h3, h4⟩ := h
  exact ⟨v, hf.cells _ _ _ _ h3 h2, h4.fr hf h1⟩
theorem GS.below {w w' : World} {b T n : Nat} {word bits : Int} (h : GS w b T n word bits) (hb : Below w.heap.size w w') : GS w' b T n word bits := h.fr (below_fr hb (fun _ => false) false) rfl rfl
theorem LeftV.sl {w : World} {v : Value} {n : Nat} (hn : n ≤ 2) (h : LeftV w v n) : ∃ a c, v = .slice a n c := by
  match n, hn, h with
  | 0, _, ⟨a, c, h⟩ => exact ⟨a, c, h⟩
  | 1, _, ⟨g, o, cs, h, _⟩ => exact ⟨_, _, h⟩
  | 2, _, ⟨g, h, _⟩ => exact ⟨_, _, h⟩
theorem gover_nil (w : World) : Calls Try.prog 29 #[.pointer none] w fun e w' => e = .returned (.bool true) ∧ w' = w := by
  go_enter Try.func29, Try.ntmps29
  go_wp2
  go_ret
  exact ⟨rfl, rfl⟩
theorem sover_nil (w : World) : Calls Try.prog 25 #[.pointer none] w fun e w' => e = .returned (.bool true) ∧ w' = w := by
  go_enter Try.func25, Try.ntmps25
  go_wp2
  go_ret
  exact ⟨rfl, rfl⟩
theorem gover {w : World} {b n : Nat} {word bits : Int} (hn : n ≤ 2) (h : GS w b 138 n word bits) : Calls Try.prog 29 #[.pointer (some ⟨b, 0, none⟩)] w fun e w' => e = .returned (.bool (n == 0)) ∧ w' = w := by
  obtain ⟨v, h1, h2⟩ := h
  obtain ⟨a, c, rfl⟩ := h2.sl hn
  have c0 := hcell h1 0
  have d : ((n : Int) == 0) = (n == 0) := by cases n <;> simp; omega
  generalize (n == 0) = dd at *
  clear h1 h2
  go_enter Try.func29, Try.ntmps29
  go_wp2
  go_ret
  exact ⟨rfl, rfl⟩
theorem sover {w : World} {b n : Nat} {word bits : Int} (hn : n ≤ 2) (h : GS w b 130 n word bits) : Calls Try.prog 25 #[.pointer (some ⟨b, 0, none⟩)] w fun e w' => e = .returned (.bool (n == 0)) ∧ w' = w := by
  obtain ⟨v, h1, h2⟩ := h
  obtain ⟨a, c, rfl⟩ := h2.sl hn
  have c0 := hcell h1 0
  have d : ((n : Int) == 0) = (n == 0) := by cases n <;> simp; omega
  generalize (n == 0) = dd at *
  clear h1 h2
  go_enter Try.func25, Try.ntmps25
  go_wp2
  go_ret
  exact ⟨rfl, rfl⟩
theorem gstep_nil (u : Value) (w : World) : Calls Try.prog 137 #[.pointer none, u] w fun e w' => e = .returned (.bool true) ∧ w' = w := by
  go_enter Try.func137, Try.ntmps137
  go_wp2_with (go_at_call 29; refine (gover_nil _).mono ?_; rintro e w1 ⟨rfl, hw⟩; obtain rfl := hw.symm)
  go_ret
  exact ⟨rfl, rfl⟩
theorem sstep_nil (u : Value) (w : World) : Calls Try.prog 135 #[.pointer none, u] w fun e w' => e = .returned (.bool true) ∧ w' = w := by
  go_enter Try.func135, Try.ntmps135
  go_wp2_with (go_at_call 25; refine (sover_nil _).mono ?_; rintro e w1 ⟨rfl, hw⟩; obtain rfl := hw.symm)
  go_ret
  exact ⟨rfl, rfl⟩
theorem gstep_over {w : World} {b : Nat} {word bits : Int} (h : GS w b 138 0 word bits) (u : Value) : Calls Try.prog 137 #[.pointer (some ⟨b, 0, none⟩), u] w fun e w' => e = .returned (.bool true) ∧ w' = w := by
  have ho := gover (by decide) h
  rw [show ((0 : Nat) == 0) = true from rfl] at ho
  clear h
  go_enter Try.func137, Try.ntmps137
  go_wp2_with (go_at_call 29; refine ho.mono ?_; rintro e w1 ⟨rfl, hw⟩; obtain rfl := hw.symm)
  go_ret
  exact ⟨rfl, rfl⟩
theorem sstep_over {w : World} {b : Nat} {word bits : Int} (h : GS w b 130 0 word bits) (u : Value) : Calls Try.prog 135 #[.pointer (some ⟨b, 0, none⟩), u] w fun e w' => e = .returned (.bool true) ∧ w' = w := by
  have ho := sover (by decide) h
  rw [show ((0 : Nat) == 0) = true from rfl] at ho
  clear h
  go_enter Try.func135, Try.ntmps135
  go_wp2_with (go_at_call 25; refine ho.mono ?_; rintro e w1 ⟨rfl, hw⟩; obtain rfl := hw.symm)
  go_ret
  exact ⟨rfl, rfl⟩
theorem gstep_no {w : World} {b n : Nat} {word bits : Int} (hn : n ≤ 2) (h : GS w b 138 n word bits) : Calls Try.prog 137 #[.pointer (some ⟨b, 0, none⟩), .pointer none] w fun e w' => e = .returned (.bool (n == 0)) ∧ w' = w := by
  have ho := gover hn h
  generalize (n == 0) = dd at *
  clear h hn
  cases dd
  all_goals
    go_enter Try.func137, Try.ntmps137
    go_wp2_with (go_at_call 29; refine ho.mono ?_; rintro e w1 ⟨rfl, hw⟩; obtain rfl := hw.symm)
    go_ret
    exact ⟨rfl, rfl⟩
theorem sstep_no {w : World} {b n : Nat} {word bits : Int} (hn : n ≤ 2) (h : GS w b 130 n word bits) : Calls Try.prog 135 #[.pointer (some ⟨b, 0, none⟩), .pointer none] w fun e w' => e = .returned (.bool (n == 0)) ∧ w' = w := by
  have ho := sover hn h
  generalize (n == 0) = dd at *
  clear h hn
  cases dd
  all_goals
    go_enter Try.func135, Try.ntmps135
    go_wp2_with (go_at_call 25; refine ho.mono ?_; rintro e w1 ⟨rfl, hw⟩; obtain rfl := hw.symm)
    go_ret
    exact ⟨rfl, rfl⟩
/-- Is a Grow, a Swap, of a word over at once? -/
def gdead (t : Int) : Bool := asNow t != 0 || asOld t == 12
def sdead (t : Int) : Bool := asNow t == 0
theorem gnew (t : Int) (ht : (Lit.int .u64 t).wf = true) (w : World) : Calls Try.prog 27 #[.int .u64 t] w fun e w' => ∃ b, e = .returned (.pointer (some ⟨b, 0, none⟩)) ∧ GS w' b 138 (if gdead t then 0 else 2) (if gdead t then 0 else tword (asOld t) (asOld t + 1)) (if gdead t then 0 else asOld t + 1) ∧ w.heap.size ≤ b ∧ Below w.heap.size w w' := by
  have ha := as_any t ht w
  have hw := fun o n W => word_any o n W
  have hob : 0 ≤ asOld t ∧ asOld t < 256 := by unfold asOld; split <;> omega
  unfold gdead
  clear ht
  generalize asOld t = o at *
  generalize asNow t = n at *
  generalize e1 : (n != 0) = d1 at *
  generalize e2 : (o == 12) = d2 at *
  have hb1 := below_alloc w (.cells #[.slice none 0 0, .int .u64 0, .int .i64 0] 138)
  have hz1 : GS (w.alloc (.cells #[.slice none 0 0, .int .u64 0, .int .i64 0] 138)) w.heap.size 138 0 0 0 := ⟨_, heap_alloc_new w _, none, 0, rfl⟩
  have hb2 := below_alloc w (.cells #[.int .i64 0, .int .i64 1] 131)
  have hz2 := heap_alloc_new w (.cells #[.int .i64 0, .int .i64 1] 131)
  have hsz : (w.alloc (.cells #[.int .i64 0, .int .i64 1] 131)).heap.size = w.heap.size + 1 := by simp
  have B1 := Lib.hid hb1; have Z1 := Lib.hid hz1; have B2 := Lib.hid hb2; have Z2 := Lib.hid hz2
  clear hb1 hz1 hb2 hz2
  cases d1 <;> cases d2
  case false.false =>
    go_enter Try.func27, Try.ntmps27
    go_wp2_with (first
      | (go_at_call 28; refine ha.mono ?_; rintro e w1 ⟨rfl, hw1⟩; obtain rfl := hw1.symm; clear ha)
      | (go_at_call 56; refine (hw _ _ _).mono ?_; rintro e w1 ⟨rfl, hw1⟩; obtain rfl := hw1.symm))
    go_ret
    first
      | exact ⟨_, rfl, ⟨_, heap_alloc_new _ _, ⟨_, rfl, heap_alloc_old Z2.out⟩⟩, B2.out.size, B2.out.trans ((below_alloc _ _).mono B2.out.size)⟩
      | exact ⟨_, rfl, ⟨_, heap_alloc_at _ _ hsz.symm, ⟨_, rfl, heap_alloc_old Z2.out⟩⟩, Nat.le_succ _, B2.out.trans ((below_alloc _ _).mono B2.out.size)⟩
  all_goals
    go_enter Try.func27, Try.ntmps27
    go_wp2_with (go_at_call 28; refine ha.mono ?_; rintro e w1 ⟨rfl, hw1⟩; obtain rfl := hw1.symm; clear ha)
    go_ret
    exact ⟨_, rfl, Z1.out, Nat.le_refl _, B1.out⟩
theorem snew (t : Int) (ht : (Lit.int .u64 t).wf = true) (w : World) : Calls Try.prog 24 #[.int .u64 t] w fun e w' => ∃ b, e = .returned (.pointer (some ⟨b, 0, none⟩)) ∧ GS w' b 130 (if sdead t then 0 else 1) (if sdead t then 0 else tword (asNow t) 0) (if sdead t then 0 else asNow t) ∧ w.heap.size ≤ b ∧ Below w.heap.size w w' := by
  have ha := as_any t ht w
  have hw := fun o n W => word_any o n W
  unfold sdead
  clear ht
  generalize asOld t = o at *
  generalize asNow t = n at *
  generalize e1 : (n == 0) = d1 at *
  have hb1 := below_alloc w (.cells #[.slice none 0 0, .int .u64 0, .int .i64 0] 130)
  have hz1 : GS (w.alloc (.cells #[.slice none 0 0, .int .u64 0, .int .i64 0] 130)) w.heap.size 130 0 0 0 := ⟨_, heap_alloc_new w _, none, 0, rfl⟩
  have hb2 := below_alloc w (.cells #[.int .i64 1] 131)
  have hz2 := heap_alloc_new w (.cells #[.int .i64 1] 131)
  have hsz : (w.alloc (.cells #[.int .i64 1] 131)).heap.size = w.heap.size + 1 := by simp
  have B1 := Lib.hid hb1; have Z1 := Lib.hid hz1; have B2 := Lib.hid hb2; have Z2 := Lib.hid hz2
  clear hb1 hz1 hb2 hz2
  cases d1
  case false =>
    go_enter Try.func24, Try.ntmps24
    go_wp2_with (first
      | (go_at_call 28; refine ha.mono ?_; rintro e w1 ⟨rfl, hw1⟩; obtain rfl := hw1.symm; clear ha)
      | (go_at_call 56; refine (hw _ _ _).mono ?_; rintro e w1 ⟨rfl, hw1⟩; obtain rfl := hw1.symm))
    go_ret
    first
      | exact ⟨_, rfl, ⟨_, heap_alloc_new _ _, ⟨_, _, _, rfl, heap_alloc_old Z2.out, rfl⟩⟩, B2.out.size, B2.out.trans ((below_alloc _ _).mono B2.out.size)⟩
      | exact ⟨_, rfl, ⟨_, heap_alloc_at _ _ hsz.symm, ⟨_, _, _, rfl, heap_alloc_old Z2.out, rfl⟩⟩, Nat.le_succ _, B2.out.trans ((below_alloc _ _).mono B2.out.size)⟩
  all_goals
    go_enter Try.func24, Try.ntmps24
    go_wp2_with (go_at_call 28; refine ha.mono ?_; rintro e w1 ⟨rfl, hw1⟩; obtain rfl := hw1.symm; clear ha)
    go_ret
    exact ⟨_, rfl, Z1.out, Nat.le_refl _, B1.out⟩
theorem asNow_nn (t : Int) : 0 ≤ asNow t := by unfold asNow; split <;> omega
end Go.Proofs.Ytcihaamjklbdkaa

/-
  Grows: a step in a world. (written by gengrow.py)
-/
namespace Go.Proofs.Ytcihaamjklbdkaa
open Go.RowKit Go.Maps
set_option linter.unusedVariables false

theorem ws_set4 {w0 w : World} {B : WB} {V : WV} {s : CS} {b o : Nat} {cs : Array Value} {T : TypeId} (h : WS w0 w B V s) (hb : w.heap[b]? = some (.cells cs T (0, 0))) (hT : wTy T = false) (hlo : w0.heap.size ≤ b) (v : Value) : WS w0 (w.setCell ⟨b, o, none⟩ v) B V s :=
  h.fr (set_ty hb o v) (fun X hX => by cases hXT : (X == T); rfl; rw [beq_iff_eq] at hXT; subst hXT; rw [hX] at hT; cases hT) (set_below h.below h.below.size hlo o v)
theorem wu_of_wf {v : Int} (h : 0 ≤ v ∧ v < 18446744073709551616) : (Lit.int .u64 v).wf = true := bd_wf h

set_option maxRecDepth 10000 in
set_option maxHeartbeats 1000000 in
theorem gwork2 {w0 w : World} {B : WB} {V : WV} {s : CS} {b : Nat} {word bits : Int} (h : WS w0 w B V s) (hr : s.room) (hlo : w0.heap.size ≤ b) (hG : GS w b 138 2 word bits) :
    Calls Try.prog 138 #[.pointer (some ⟨b, 0, none⟩), .pointer (some ⟨B.wb, 0, none⟩)] w fun e w' => e = .returned (.tuple #[]) ∧ WS w0 w' B V (s.acc 2 3 0) ∧ GS w' b 138 1 word bits ∧ Fx wTy true b w w' := by
  obtain ⟨v, hb, g, rfl, hg⟩ := hG
  have c0 := hcell hb 0
  have g0 := hcell hg 0
  have x0 := h.hd5.1
  have hst := h.store hr 3 (by decide) 0 (by decide)
  have HB := Lib.hid hb; have HG := Lib.hid hg
  clear h hr hb hg
  go_enter Try.func138, Try.ntmps138
  go_upto_region 7 with (go_at_call 23; refine hst.mono ?_; intro e w2 hh; obtain ⟨hh1, h2, f2⟩ := hh; subst hh1; have H2 := Lib.hid h2; have F2 := Lib.hid f2; clear h2 f2 hst c0 g0 x0)
  have hb2 := F2.out.cells _ _ _ _ HB.out rfl
  have hg2 := F2.out.cells _ _ _ _ HG.out rfl
  have c0 := hcell hb2 0
  have cf := hfrz hb2 0
  have HB2 := Lib.hid hb2; have HG2 := Lib.hid hg2
  clear hb2 hg2
  go_wp2_with fail
  go_end0
  have s1 := setCell_same HB2.out 0 (.slice (some ⟨g, 1, none⟩) 1 1)
  have ft := set_ty HB2.out 0 (.slice (some ⟨g, 1, none⟩) 1 1)
  exact ⟨rfl, ws_set4 H2.out HB2.out rfl hlo _, ⟨_, s1, g, 1, _, rfl, ft.cells _ _ _ _ HG2.out rfl, rfl⟩, (F2.out.fx b).trans (set_fx _ _ _ _ _ _)⟩

theorem gkind (w : World) : Calls Try.prog 144 #[.agg #[]] w fun e w' => e = .returned (.int .u8 4) ∧ Below w.heap.size w w' := by
  have hb := below_alloc w (.cells #[] 223)
  go_enter Try.func144, Try.ntmps144
  go_wp2
  go_ret
  exact ⟨rfl, hb⟩
set_option maxRecDepth 10000 in
set_option maxHeartbeats 2000000 in
theorem gwork1 {w0 w : World} {B : WB} {V : WV} {s : CS} {b : Nat} {word bits : Int} (h : WS w0 w B V s) (hr : s.room) (hlo : w0.heap.size ≤ b) (hwd : (Lit.int .u64 word).wf = true) (hl : V.nts.length < 1048576) (hs : Nsteps V.nts s.cnt) (hG : GS w b 138 1 word bits) :
    Calls Try.prog 138 #[.pointer (some ⟨b, 0, none⟩), .pointer (some ⟨B.wb, 0, none⟩)] w fun e w' => e = .returned (.tuple #[]) ∧ WS w0 w' B { V with nts := nadd V.nts ⟨((s.cnt + 1 : Nat) : Int), V.hd, 4, 0, 0, 0, 0, bits⟩ } (s.acc 2 2 word) ∧ GS w' b 138 0 word bits ∧ Fx wTy true b w w' := by
  obtain ⟨v, hb, g, ofs, cs, rfl, hg, hgo⟩ := hG
  have c0 := hcell hb 0
  have g0 := (hcell hg ofs).trans hgo
  have x0 : ∀ st : ExtW w, st.val.cell? ⟨B.wb, 0, none⟩ = some (.pointer (some ⟨B.cb, 0, none⟩)) := fun st => st.cell h.hd5.1
  have x1 : ∀ st : ExtW w, st.val.cell? ⟨b, 1, none⟩ = some (.int .u64 word) := fun st => st.cell (hcell hb 1)
  have H := Lib.hid h; have HR := Lib.hid hr; have HB := Lib.hid hb; have HW := Lib.hid hwd; have HL := Lib.hid hl; have HS := Lib.hid hs
  clear h hr hb hg hgo hwd hl hs
  go_enter Try.func138, Try.ntmps138
  go_upto_region 4 with (fail)
  clear c0 g0
  refine wp_region_ext_tail 8 (by kernel_rfl) (by kernel_rfl) ?_
  simp only [List.take_succ_cons, List.take_zero, List.drop_succ_cons, List.drop_zero]
  repeat (go_big_quiet_step (fail))
  refine wpQuiet_nil ?_
  rintro W ⟨⟨W2, hW⟩, rfl⟩
  clear x0 x1
  have hst := (H.out.keep hW).store HR.out 2 (by decide) word HW.out
  have hb1 := (hW.block _ (Array.getElem?_eq_some_iff.1 HB.out).1).trans HB.out
  have HB1 := Lib.hid hb1; have HWX := Lib.hid (below_fr hW wTy true)
  clear hW hb1
  go_upto_region 5 with (go_at_call 23; refine hst.mono ?_; intro e w2 hh; obtain ⟨hh1, h2, f2⟩ := hh; subst hh1; have H2 := Lib.hid h2; have F2 := Lib.hid (HWX.out.trans f2); have HB2 := Lib.hid (f2.cells _ _ _ _ HB1.out rfl); clear h2 f2 hst)
  have hba := below_alloc w2 (.cells #[] 223)
  have hza := heap_alloc_new w2 (.cells #[] 223)
  have H3 := Lib.hid (H2.out.keep hba); have F3 := Lib.hid (F2.out.trans (below_fr hba wTy true)); have HB3 := Lib.hid ((hba.block _ (Array.getElem?_eq_some_iff.1 HB2.out).1).trans HB2.out)
  clear hba hza H2 F2 HB2
  go_upto_region 6 with (fail)
  change Code.wp _ _ _ _ (w2.alloc (.cells #[] 223))
  generalize w2.alloc (.cells #[] 223) = w3 at *
  have x2 : ∀ st : ExtW w3, st.val.cell? ⟨b, 2, none⟩ = some (.int .i64 bits) := fun st => st.cell (hcell HB3.out 2)
  have hk : ∀ st : ExtW w3, Calls Try.prog 144 #[.agg #[]] st.val fun e w' => e = .returned (.int .u8 4) ∧ Below st.val.heap.size st.val w' := fun st => gkind st.val
  have hmo : ∀ (n : Nat) (W : World), (Go.method (n + 1) 223 (.agg #[]) "nestbox/grows.kind").run Try.prog W = .ok (144, .agg #[]) W := fun n W => by kernel_rfl
  refine wp_region_ext_tail 9 (by kernel_rfl) (by kernel_rfl) ?_
  simp only [List.take_succ_cons, List.take_zero, List.drop_succ_cons, List.drop_zero]
  repeat (go_big_quiet_step ((go_at_call 144; with_reducible refine calls_ext (hk _))))
  refine wpQuiet_nil ?_
  rintro W4 ⟨⟨W5, hW4⟩, rfl⟩
  clear x2 hk hmo
  have hnt := wnote_any (H3.out.keep hW4) 4 0 0 0 0 bits HL.out (by decide) (HS.out.le (by simp only [CS.acc]; omega))
  have HB4 := Lib.hid ((hW4.block _ (Array.getElem?_eq_some_iff.1 HB3.out).1).trans HB3.out); have F4 := Lib.hid (F3.out.trans (below_fr hW4 wTy true))
  clear hW4
  go_upto_region 7 with (go_at_call 14; refine hnt.mono ?_; intro e w6 hh; obtain ⟨hh1, h6, f6⟩ := hh; subst hh1; have H6 := Lib.hid h6; have F6 := Lib.hid (F4.out.trans f6); have HB6 := Lib.hid (f6.cells _ _ _ _ HB4.out rfl); clear h6 f6 hnt)
  have c0 := hcell HB6.out 0
  have cf := hfrz HB6.out 0
  go_wp2_with fail
  go_end0
  exact ⟨rfl, ws_set4 H6.out HB6.out rfl hlo _, ⟨_, setCell_same HB6.out 0 _, _, _, rfl⟩, (F6.out.fx b).trans (set_fx _ _ _ _ _ _)⟩

theorem skind (w : World) : Calls Try.prog 143 #[.agg #[]] w fun e w' => e = .returned (.int .u8 5) ∧ Below w.heap.size w w' := by
  have hb := below_alloc w (.cells #[] 220)
  go_enter Try.func143, Try.ntmps143
  go_wp2
  go_ret
  exact ⟨rfl, hb⟩
set_option maxRecDepth 10000 in
set_option maxHeartbeats 2000000 in
theorem swork1 {w0 w : World} {B : WB} {V : WV} {s : CS} {b : Nat} {word bits : Int} (h : WS w0 w B V s) (hr : s.room) (hlo : w0.heap.size ≤ b) (hwd : (Lit.int .u64 word).wf = true) (hl : V.nts.length < 1048576) (hs : Nsteps V.nts s.cnt) (hG : GS w b 130 1 word bits) :
    Calls Try.prog 136 #[.pointer (some ⟨b, 0, none⟩), .pointer (some ⟨B.wb, 0, none⟩)] w fun e w' => e = .returned (.tuple #[]) ∧ WS w0 w' B { V with nts := nadd V.nts ⟨((s.cnt + 1 : Nat) : Int), V.hd, 5, 0, 0, 0, 0, bits⟩ } (s.acc 2 2 word) ∧ GS w' b 130 0 word bits ∧ Fx wTy true b w w' := by
  obtain ⟨v, hb, g, ofs, cs, rfl, hg, hgo⟩ := hG
  have c0 := hcell hb 0
  have g0 := (hcell hg ofs).trans hgo
  have x0 : ∀ st : ExtW w, st.val.cell? ⟨B.wb, 0, none⟩ = some (.pointer (some ⟨B.cb, 0, none⟩)) := fun st => st.cell h.hd5.1
  have x1 : ∀ st : ExtW w, st.val.cell? ⟨b, 1, none⟩ = some (.int .u64 word) := fun st => st.cell (hcell hb 1)
  have H := Lib.hid h; have HR := Lib.hid hr; have HB := Lib.hid hb; have HW := Lib.hid hwd; have HL := Lib.hid hl; have HS := Lib.hid hs
  clear h hr hb hg hgo hwd hl hs
  go_enter Try.func136, Try.ntmps136
  go_upto_region 4 with (fail)
  clear c0 g0
  refine wp_region_ext_tail 8 (by kernel_rfl) (by kernel_rfl) ?_
  simp only [List.take_succ_cons, List.take_zero, List.drop_succ_cons, List.drop_zero]
  repeat (go_big_quiet_step (fail))
  refine wpQuiet_nil ?_
  rintro W ⟨⟨W2, hW⟩, rfl⟩
  clear x0 x1
  have hst := (H.out.keep hW).store HR.out 2 (by decide) word HW.out
  have hb1 := (hW.block _ (Array.getElem?_eq_some_iff.1 HB.out).1).trans HB.out
  have HB1 := Lib.hid hb1; have HWX := Lib.hid (below_fr hW wTy true)
  clear hW hb1
  go_upto_region 5 with (go_at_call 23; refine hst.mono ?_; intro e w2 hh; obtain ⟨hh1, h2, f2⟩ := hh; subst hh1; have H2 := Lib.hid h2; have F2 := Lib.hid (HWX.out.trans f2); have HB2 := Lib.hid (f2.cells _ _ _ _ HB1.out rfl); clear h2 f2 hst)
  have hba := below_alloc w2 (.cells #[] 220)
  have hza := heap_alloc_new w2 (.cells #[] 220)
  have H3 := Lib.hid (H2.out.keep hba); have F3 := Lib.hid (F2.out.trans (below_fr hba wTy true)); have HB3 := Lib.hid ((hba.block _ (Array.getElem?_eq_some_iff.1 HB2.out).1).trans HB2.out)
  clear hba hza H2 F2 HB2
  go_upto_region 6 with (fail)
  change Code.wp _ _ _ _ (w2.alloc (.cells #[] 220))
  generalize w2.alloc (.cells #[] 220) = w3 at *
  have x2 : ∀ st : ExtW w3, st.val.cell? ⟨b, 2, none⟩ = some (.int .i64 bits) := fun st => st.cell (hcell HB3.out 2)
  have hk : ∀ st : ExtW w3, Calls Try.prog 143 #[.agg #[]] st.val fun e w' => e = .returned (.int .u8 5) ∧ Below st.val.heap.size st.val w' := fun st => skind st.val
  have hmo : ∀ (n : Nat) (W : World), (Go.method (n + 1) 220 (.agg #[]) "nestbox/grows.kind").run Try.prog W = .ok (143, .agg #[]) W := fun n W => by kernel_rfl
  refine wp_region_ext_tail 9 (by kernel_rfl) (by kernel_rfl) ?_
  simp only [List.take_succ_cons, List.take_zero, List.drop_succ_cons, List.drop_zero]
  repeat (go_big_quiet_step ((go_at_call 143; with_reducible refine calls_ext (hk _))))
  refine wpQuiet_nil ?_
  rintro W4 ⟨⟨W5, hW4⟩, rfl⟩
  clear x2 hk hmo
  have hnt := wnote_any (H3.out.keep hW4) 5 0 0 0 0 bits HL.out (by decide) (HS.out.le (by simp only [CS.acc]; omega))
  have HB4 := Lib.hid ((hW4.block _ (Array.getElem?_eq_some_iff.1 HB3.out).1).trans HB3.out); have F4 := Lib.hid (F3.out.trans (below_fr hW4 wTy true))
  clear hW4
  go_upto_region 7 with (go_at_call 14; refine hnt.mono ?_; intro e w6 hh; obtain ⟨hh1, h6, f6⟩ := hh; subst hh1; have H6 := Lib.hid h6; have F6 := Lib.hid (F4.out.trans f6); have HB6 := Lib.hid (f6.cells _ _ _ _ HB4.out rfl); clear h6 f6 hnt)
  have c0 := hcell HB6.out 0
  have cf := hfrz HB6.out 0
  go_wp2_with fail
  go_end0
  exact ⟨rfl, ws_set4 H6.out HB6.out rfl hlo _, ⟨_, setCell_same HB6.out 0 _, _, _, rfl⟩, (F6.out.fx b).trans (set_fx _ _ _ _ _ _)⟩

set_option maxRecDepth 10000 in
set_option maxHeartbeats 1000000 in
theorem gstep2 {w0 w : World} {B : WB} {V : WV} {s : CS} {b : Nat} {word bits : Int} (h : WS w0 w B V s) (hr : s.room) (hlo : w0.heap.size ≤ b) (hG : GS w b 138 2 word bits) :
    Calls Try.prog 137 #[.pointer (some ⟨b, 0, none⟩), .pointer (some ⟨B.wb, 0, none⟩)] w fun e w' => e = .returned (.bool false) ∧ WS w0 w' B V (s.acc 2 3 0) ∧ GS w' b 138 1 word bits ∧ Fx wTy true b w w' := by
  have ho := gover (by decide) hG
  have hwk := gwork2 h hr hlo hG
  rw [show ((2 : Nat) == 0) = false from rfl] at ho
  clear h hr hG
  go_enter Try.func137, Try.ntmps137
  go_wp2_with (first
    | (go_at_call 29; refine ho.mono ?_; intro e w1 hh; obtain ⟨hh1, hh2⟩ := hh; subst hh1; obtain rfl := hh2.symm; clear ho)
    | (go_at_call 138; refine hwk.mono ?_; intro e w2 hh; obtain ⟨hh1, h2, g2, f2⟩ := hh; subst hh1; have ho2 := gover (by decide) g2; rw [show ((1 : Nat) == 0) = false from rfl] at ho2; have H2 := Lib.hid h2; have G2 := Lib.hid g2; have F2 := Lib.hid f2; clear h2 g2 f2 hwk)
    | (go_at_call 29; refine ho2.mono ?_; intro e w3 hh; obtain ⟨hh1, hh2⟩ := hh; subst hh1; obtain rfl := hh2.symm))
  go_ret
  exact ⟨rfl, H2.out, G2.out, F2.out⟩

set_option maxRecDepth 10000 in
set_option maxHeartbeats 1000000 in
theorem gstep1 {w0 w : World} {B : WB} {V : WV} {s : CS} {b : Nat} {word bits : Int} (h : WS w0 w B V s) (hr : s.room) (hlo : w0.heap.size ≤ b) (hwd : (Lit.int .u64 word).wf = true) (hl : V.nts.length < 1048576) (hs : Nsteps V.nts s.cnt) (hG : GS w b 138 1 word bits) :
    Calls Try.prog 137 #[.pointer (some ⟨b, 0, none⟩), .pointer (some ⟨B.wb, 0, none⟩)] w fun e w' => e = .returned (.bool true) ∧ WS w0 w' B { V with nts := nadd V.nts ⟨((s.cnt + 1 : Nat) : Int), V.hd, 4, 0, 0, 0, 0, bits⟩ } (s.acc 2 2 word) ∧ GS w' b 138 0 word bits ∧ Fx wTy true b w w' := by
  have ho := gover (by decide) hG
  have hwk := gwork1 h hr hlo hwd hl hs hG
  rw [show ((1 : Nat) == 0) = false from rfl] at ho
  clear h hr hG
  go_enter Try.func137, Try.ntmps137
  go_wp2_with (first
    | (go_at_call 29; refine ho.mono ?_; intro e w1 hh; obtain ⟨hh1, hh2⟩ := hh; subst hh1; obtain rfl := hh2.symm; clear ho)
    | (go_at_call 138; refine hwk.mono ?_; intro e w2 hh; obtain ⟨hh1, h2, g2, f2⟩ := hh; subst hh1; have ho2 := gover (by decide) g2; rw [show ((0 : Nat) == 0) = true from rfl] at ho2; have H2 := Lib.hid h2; have G2 := Lib.hid g2; have F2 := Lib.hid f2; clear h2 g2 f2 hwk)
    | (go_at_call 29; refine ho2.mono ?_; intro e w3 hh; obtain ⟨hh1, hh2⟩ := hh; subst hh1; obtain rfl := hh2.symm))
  go_ret
  exact ⟨rfl, H2.out, G2.out, F2.out⟩

set_option maxRecDepth 10000 in
set_option maxHeartbeats 1000000 in
theorem sstep1 {w0 w : World} {B : WB} {V : WV} {s : CS} {b : Nat} {word bits : Int} (h : WS w0 w B V s) (hr : s.room) (hlo : w0.heap.size ≤ b) (hwd : (Lit.int .u64 word).wf = true) (hl : V.nts.length < 1048576) (hs : Nsteps V.nts s.cnt) (hG : GS w b 130 1 word bits) :
    Calls Try.prog 135 #[.pointer (some ⟨b, 0, none⟩), .pointer (some ⟨B.wb, 0, none⟩)] w fun e w' => e = .returned (.bool true) ∧ WS w0 w' B { V with nts := nadd V.nts ⟨((s.cnt + 1 : Nat) : Int), V.hd, 5, 0, 0, 0, 0, bits⟩ } (s.acc 2 2 word) ∧ GS w' b 130 0 word bits ∧ Fx wTy true b w w' := by
  have ho := sover (by decide) hG
  have hwk := swork1 h hr hlo hwd hl hs hG
  rw [show ((1 : Nat) == 0) = false from rfl] at ho
  clear h hr hG
  go_enter Try.func135, Try.ntmps135
  go_wp2_with (first
    | (go_at_call 25; refine ho.mono ?_; intro e w1 hh; obtain ⟨hh1, hh2⟩ := hh; subst hh1; obtain rfl := hh2.symm; clear ho)
    | (go_at_call 136; refine hwk.mono ?_; intro e w2 hh; obtain ⟨hh1, h2, g2, f2⟩ := hh; subst hh1; have ho2 := sover (by decide) g2; rw [show ((0 : Nat) == 0) = true from rfl] at ho2; have H2 := Lib.hid h2; have G2 := Lib.hid g2; have F2 := Lib.hid f2; clear h2 g2 f2 hwk)
    | (go_at_call 25; refine ho2.mono ?_; intro e w3 hh; obtain ⟨hh1, hh2⟩ := hh; subst hh1; obtain rfl := hh2.symm))
  go_ret
  exact ⟨rfl, H2.out, G2.out, F2.out⟩

end Go.Proofs.Ytcihaamjklbdkaa

/-
  Grows: layer 19's examples.
-/
namespace Go.Proofs.Ytcihaamjklbdkaa
open Go.RowKit Go.Maps
set_option linter.unusedVariables false

theorem world12v (b : Int) (hb : 1 ≤ b ∧ b ≤ 12) (w : World) : Calls Try.prog 22 #[.int .i64 b] w fun e w' => ∃ B, e = .returned (.pointer (some ⟨B.wb, 0, none⟩)) ∧ WS w w' B (v0 ⟨b, 8, 3, 1, 16⟩) (CS.init [(2, tword b 0)]) := by
  have hn1 : Calls Try.prog 33 #[.agg #[.int .i64 b, .int .i64 8, .int .i64 3, .int .i64 1, .int .i64 16]] w fun e w' => ∃ B : WB, e = .returned (.tuple #[.pointer (some ⟨B.wb, 0, none⟩), .int .i64 0]) ∧ WS w w' B (v0 ⟨b, 8, 3, 1, 16⟩) (CS.init [(2, tword b 0)]) :=
    (wnew_ok ⟨b, 8, 3, 1, 16⟩ (by simp [Conf.ok]; omega) w).mono fun e w' ⟨wb, cb, ib, nb, he, g1, g2, g3, g4, g5, g6, g7⟩ => ⟨⟨wb, cb, ib, nb⟩, he, ws_of (Below.refl _ w) g1 g2 g3 g4 g5 g6 g7⟩
  clear hb
  go_enter Try.func22, Try.ntmps22
  go_wp2_with (go_at_call 33; with_reducible refine hn1.mono ?_; rintro e w1 ⟨B, rfl, h1⟩)
  go_ret
  exact ⟨_, rfl, h1⟩
theorem WS.slow {w0 w : World} {B : WB} {V : WV} {s : CS} (h : WS w0 w B V s) : w0.heap.size ≤ w.heap.size := h.below.size
set_option maxRecDepth 10000 in
set_option maxHeartbeats 2000000 in
theorem grun {w0 w : World} {B : WB} {V : WV} {s : CS} {b m : Nat} {word bits : Int} (h : WS w0 w B V s) (hm : s.n ≤ m ∧ s.cnt ≤ m) (hml : m ≤ 1000) (hlo : w0.heap.size ≤ b) (hwd : (Lit.int .u64 word).wf = true) (hl : V.nts.length < 1000) (hs : Nsteps V.nts s.cnt) (hG : GS w b 138 2 word bits) :
    Calls Try.prog 26 #[.pointer (some ⟨B.wb, 0, none⟩), .iface 80 (.pointer (some ⟨b, 0, none⟩)), .int .i64 9] w fun e w' => e = .returned (.int .i64 2) ∧ ∃ V', WS w0 w' B V' ((s.acc 2 3 0).acc 2 2 word) ∧ V'.nts.length ≤ V.nts.length + 1 ∧ Nsteps V'.nts ((s.acc 2 3 0).acc 2 2 word).cnt := by
  have r0 : s.room := CS.room_of m hm (by unfold lim; omega)
  have r1 : (s.acc 2 3 0).room := CS.room_of (m + 1) (room_acc m hm) (by unfold lim; omega)
  have hs1 : Nsteps V.nts (s.acc 2 3 0).cnt := hs.le (by simp only [CS.acc]; omega)
  obtain ⟨V1, hV1⟩ : ∃ V1, V1 = { V with nts := nadd V.nts ⟨(((s.acc 2 3 0).cnt + 1 : Nat) : Int), V.hd, 4, 0, 0, 0, 0, bits⟩ } := ⟨_, rfl⟩
  have hfin : V1.nts.length ≤ V.nts.length + 1 ∧ Nsteps V1.nts ((s.acc 2 3 0).acc 2 2 word).cnt := by
    rw [hV1]
    have h2 : Nsteps V.nts (((s.acc 2 3 0).cnt + 1 : Nat) : Int) := hs1.le (by omega)
    have h3 := h2.add (n := ⟨(((s.acc 2 3 0).cnt + 1 : Nat) : Int), V.hd, 4, 0, 0, 0, 0, bits⟩) rfl
    exact ⟨nadd_len V.nts ⟨(((s.acc 2 3 0).cnt + 1 : Nat) : Int), V.hd, 4, 0, 0, 0, 0, bits⟩, h3⟩
  have st2 : ∀ W, WS w0 W B V s → GS W b 138 2 word bits → Calls Try.prog 137 #[.pointer (some ⟨b, 0, none⟩), .pointer (some ⟨B.wb, 0, none⟩)] W fun e w' => e = .returned (.bool false) ∧ WS w0 w' B V (s.acc 2 3 0) ∧ GS w' b 138 1 word bits ∧ Fx wTy true b W w' := fun W h1 h2 => gstep2 h1 r0 hlo h2
  have st1 : ∀ W, WS w0 W B V (s.acc 2 3 0) → GS W b 138 1 word bits → Calls Try.prog 137 #[.pointer (some ⟨b, 0, none⟩), .pointer (some ⟨B.wb, 0, none⟩)] W fun e w' => e = .returned (.bool true) ∧ WS w0 w' B V1 ((s.acc 2 3 0).acc 2 2 word) ∧ GS w' b 138 0 word bits ∧ Fx wTy true b W w' := fun W h1 h2 => by rw [hV1]; exact gstep1 h1 r1 hlo hwd (by omega) hs1 h2
  generalize s.acc 2 3 0 = s1 at *
  generalize s1.acc 2 2 word = s2 at *
  have H := Lib.hid h; have HG := Lib.hid hG; have HF := Lib.hid hfin; have S2 := Lib.hid st2; have S1 := Lib.hid st1
  clear h hm hml hwd hl hs hG r0 r1 hs1 hV1 hfin st2 st1
  go_enter Try.func26, Try.ntmps26
  go_wp2
  go_loopw [7] (fun i wr => (i = .int .i64 0 ∧ WS w0 wr B V s ∧ GS wr b 138 2 word bits) ∨ (i = .int .i64 1 ∧ WS w0 wr B V s1 ∧ GS wr b 138 1 word bits) ∨ (i = .int .i64 2 ∧ WS w0 wr B V1 s2 ∧ GS wr b 138 0 word bits)) (fun i _ => 2 - (intOf i).toNat)
  case atStart => exact .inl ⟨rfl, H.out, HG.out⟩
  case round =>
    clear H HG
    rcases hrel with ⟨rfl, h1, h2⟩ | ⟨rfl, h1, h2⟩ | ⟨rfl, h1, h2⟩
    · have hov := gover (by decide) h2
      rw [show ((2 : Nat) == 0) = false from rfl] at hov
      have hst := S2.out _ h1 h2
      clear h1 h2
      go_wp2_with (first
        | (go_at_call 29; refine hov.mono ?_; intro e w2 hh; obtain ⟨hh1, hh2⟩ := hh; subst hh1; obtain rfl := hh2.symm; clear hov)
        | (go_at_call 137; refine hst.mono ?_; intro e w3 hh; obtain ⟨hh1, g1, g2, -⟩ := hh; subst hh1))
      exact ⟨.inr (.inl ⟨rfl, g1, g2⟩), by simp [intOf]⟩
    · have hov := gover (by decide) h2
      rw [show ((1 : Nat) == 0) = false from rfl] at hov
      have hst := S1.out _ h1 h2
      clear h1 h2
      go_wp2_with (first
        | (go_at_call 29; refine hov.mono ?_; intro e w2 hh; obtain ⟨hh1, hh2⟩ := hh; subst hh1; obtain rfl := hh2.symm; clear hov)
        | (go_at_call 137; refine hst.mono ?_; intro e w3 hh; obtain ⟨hh1, g1, g2, -⟩ := hh; subst hh1))
      exact ⟨.inr (.inr ⟨rfl, g1, g2⟩), by simp [intOf]⟩
    · have hov := gover (by decide) h2
      rw [show ((0 : Nat) == 0) = true from rfl] at hov
      have H1 := Lib.hid h1
      clear h1 h2
      go_wp2_with (go_at_call 29; refine hov.mono ?_; intro e w2 hh; obtain ⟨hh1, hh2⟩ := hh; subst hh1; obtain rfl := hh2.symm; clear hov)
      go_ret
      exact ⟨rfl, V1, H1.out, HF.out⟩
set_option maxRecDepth 10000 in
set_option maxHeartbeats 2000000 in
theorem srun {w0 w : World} {B : WB} {V : WV} {s : CS} {b m : Nat} {word bits : Int} (h : WS w0 w B V s) (hm : s.n ≤ m ∧ s.cnt ≤ m) (hml : m ≤ 1000) (hlo : w0.heap.size ≤ b) (hwd : (Lit.int .u64 word).wf = true) (hl : V.nts.length < 1000) (hs : Nsteps V.nts s.cnt) (hG : GS w b 130 1 word bits) :
    Calls Try.prog 26 #[.pointer (some ⟨B.wb, 0, none⟩), .iface 77 (.pointer (some ⟨b, 0, none⟩)), .int .i64 9] w fun e w' => e = .returned (.int .i64 1) ∧ ∃ V', WS w0 w' B V' (s.acc 2 2 word) := by
  have r0 : s.room := CS.room_of m hm (by unfold lim; omega)
  obtain ⟨V1, hV1⟩ : ∃ V1, V1 = { V with nts := nadd V.nts ⟨((s.cnt + 1 : Nat) : Int), V.hd, 5, 0, 0, 0, 0, bits⟩ } := ⟨_, rfl⟩
  have st1 : ∀ W, WS w0 W B V s → GS W b 130 1 word bits → Calls Try.prog 135 #[.pointer (some ⟨b, 0, none⟩), .pointer (some ⟨B.wb, 0, none⟩)] W fun e w' => e = .returned (.bool true) ∧ WS w0 w' B V1 (s.acc 2 2 word) ∧ GS w' b 130 0 word bits ∧ Fx wTy true b W w' := fun W h1 h2 => by rw [hV1]; exact sstep1 h1 r0 hlo hwd (by omega) hs h2
  generalize s.acc 2 2 word = s2 at *
  have H := Lib.hid h; have HG := Lib.hid hG; have S1 := Lib.hid st1
  clear h hm hml hwd hl hs hG r0 hV1 st1
  go_enter Try.func26, Try.ntmps26
  go_wp2
  go_loopw [7] (fun i wr => (i = .int .i64 0 ∧ WS w0 wr B V s ∧ GS wr b 130 1 word bits) ∨ (i = .int .i64 1 ∧ WS w0 wr B V1 s2 ∧ GS wr b 130 0 word bits)) (fun i _ => 1 - (intOf i).toNat)
  case atStart => exact .inl ⟨rfl, H.out, HG.out⟩
  case round =>
    clear H HG
    rcases hrel with ⟨rfl, h1, h2⟩ | ⟨rfl, h1, h2⟩
    · have hov := sover (by decide) h2
      rw [show ((1 : Nat) == 0) = false from rfl] at hov
      have hst := S1.out _ h1 h2
      clear h1 h2
      go_wp2_with (first
        | (go_at_call 25; refine hov.mono ?_; intro e w2 hh; obtain ⟨hh1, hh2⟩ := hh; subst hh1; obtain rfl := hh2.symm; clear hov)
        | (go_at_call 135; refine hst.mono ?_; intro e w3 hh; obtain ⟨hh1, g1, g2, -⟩ := hh; subst hh1))
      exact ⟨.inr ⟨rfl, g1, g2⟩, by simp [intOf]⟩
    · have hov := sover (by decide) h2
      rw [show ((0 : Nat) == 0) = true from rfl] at hov
      have H1 := Lib.hid h1
      clear h1 h2
      go_wp2_with (go_at_call 25; refine hov.mono ?_; intro e w2 hh; obtain ⟨hh1, hh2⟩ := hh; subst hh1; obtain rfl := hh2.symm; clear hov)
      go_ret
      exact ⟨rfl, V1, H1.out⟩
set_option maxRecDepth 10000 in
set_option maxHeartbeats 4000000 in
theorem lives19 (w : World) : Calls Try.prog 30 #[] w fun e w' => e = .returned (.bool true) ∧ Below w.heap.size w w' := by
  have g2 := fun W => gnew 2 (by decide) W
  rw [show gdead 2 = false by decide] at g2
  have k770 := fun W => gnew 770 (by decide) W
  rw [show gdead 770 = true by decide] at k770
  have k12 := fun W => gnew 12 (by decide) W
  rw [show gdead 12 = true by decide] at k12
  have t770 := fun W => snew 770 (by decide) W
  rw [show sdead 770 = false by decide] at t770
  have t3 := fun W => snew 3 (by decide) W
  rw [show sdead 3 = true by decide] at t3
  have ew1 : tword (asOld 2) (asOld 2 + 1) = 770 := by decide
  have ew2 : tword (asNow 770) 0 = 3 := by decide
  simp only [Bool.false_eq_true, if_false, if_true, ew1, ew2] at g2 k770 k12 t770 t3
  clear ew1 ew2
  go_enter Try.func30, Try.ntmps30
  go_upto_region 4 with (go_at_call 22; refine (world12v 2 (by decide) w).mono ?_; intro e w1 hh; obtain ⟨B, hh1, h1⟩ := hh; subst hh1; have H1 := Lib.hid h1; clear h1)
  have hm0 : (CS.init [(2, tword 2 0)]).n ≤ 1 ∧ (CS.init [(2, tword 2 0)]).cnt ≤ 1 := ⟨by decide, by decide⟩
  have hn0 : (v0 ⟨2, 8, 3, 1, 16⟩).nts = [] := rfl
  generalize CS.init [(2, tword 2 0)] = s at *
  generalize v0 ⟨2, 8, 3, 1, 16⟩ = V at *
  have hrun : ∀ (W : World) (b : Nat) (bits : Int), Below w1.heap.size w1 W → w1.heap.size ≤ b → GS W b 138 2 770 bits → Calls Try.prog 26 #[.pointer (some ⟨B.wb, 0, none⟩), .iface 80 (.pointer (some ⟨b, 0, none⟩)), .int .i64 9] W fun e w' => e = .returned (.int .i64 2) ∧ ∃ V', WS w w' B V' ((s.acc 2 3 0).acc 2 2 770) ∧ V'.nts.length ≤ V.nts.length + 1 ∧ Nsteps V'.nts ((s.acc 2 3 0).acc 2 2 770).cnt := fun W b bits h1 h2 h3 =>
    grun (m := 1) (H1.out.keep h1) hm0 (by decide) (Nat.le_trans H1.out.slow h2) (by decide) (by rw [hn0]; decide) (by rw [hn0]; intro y hy; cases hy) h3
  have HRUN := Lib.hid hrun
  have HM := Lib.hid hm0; have HN := Lib.hid hn0
  clear hm0 hn0 hrun
  go_upto_region 5 with (first
    | (go_at_call 27; with_reducible refine (g2 _).mono ?_; intro e w2 hh; obtain ⟨b, hh1, hG, hlb, hbb⟩ := hh; subst hh1; have hrn := HRUN.out _ _ _ hbb hlb hG; clear hG hlb hbb g2)
    | (go_at_call 26; with_reducible refine hrn.mono ?_; intro e w3 hh; obtain ⟨hh1, V3, h3, hl3, hs3⟩ := hh; subst hh1; have H3 := Lib.hid h3; have HL3 := Lib.hid hl3; have HS3 := Lib.hid hs3; clear h3 hl3 hs3 hrn))
  have v2 : ((s.acc 2 3 0).acc 2 2 770).val 2 = 770 := by simp [CS.acc, upd]
  have v3 : (((s.acc 2 3 0).acc 2 2 770).acc 2 2 3).val 3 = 0 := by simp [CS.acc, upd]
  have v4 : (((s.acc 2 3 0).acc 2 2 770).acc 2 2 3).val 2 = 3 := by simp [CS.acc, upd]
  have hm3 : ((s.acc 2 3 0).acc 2 2 770).n ≤ 3 ∧ ((s.acc 2 3 0).acc 2 2 770).cnt ≤ 3 := by have := HM.out; simp only [CS.acc]; omega
  generalize (s.acc 2 3 0).acc 2 2 770 = s3 at *
  have p2 := H3.out.peek 2 (by decide)
  rw [v2] at p2
  have c3 := H3.out.hd5.1
  have hrun3 : ∀ (W : World) (b : Nat) (bits : Int), Below w3.heap.size w3 W → w3.heap.size ≤ b → GS W b 130 1 3 bits → Calls Try.prog 26 #[.pointer (some ⟨B.wb, 0, none⟩), .iface 77 (.pointer (some ⟨b, 0, none⟩)), .int .i64 9] W fun e w' => e = .returned (.int .i64 1) ∧ ∃ V', WS w w' B V' (s3.acc 2 2 3) := fun W b bits h1 h2 h3 =>
    srun (m := 3) (H3.out.keep h1) hm3 (by decide) (Nat.le_trans H3.out.slow h2) (by decide) (by have h1 := HL3.out; have h2 := congrArg List.length HN.out; simp only [List.length_nil] at h2; omega) HS3.out h3
  have HRUN3 := Lib.hid hrun3
  clear hrun3
  have HV3 := Lib.hid v3; have HV4 := Lib.hid v4
  clear v2 v3 v4 hm3
  go_upto_region 7 with (first
    | (go_at_call 18; with_reducible refine p2.mono ?_; intro e w4 hh; obtain ⟨hh1, hh2⟩ := hh; subst hh1; obtain rfl := hh2.symm; clear p2 c3)
    | (go_at_call 24; with_reducible refine (t770 _).mono ?_; intro e w4 hh; obtain ⟨b4, hh1, hG, hlb, hbb⟩ := hh; subst hh1; have hrn := HRUN3.out _ _ _ hbb hlb hG; clear hG hlb hbb t770)
    | (go_at_call 26; with_reducible refine hrn.mono ?_; intro e w5 hh; obtain ⟨hh1, V5, h5⟩ := hh; subst hh1; have H5 := Lib.hid h5; have p3 := h5.peek 3 (by decide); rw [HV3.out] at p3; have p4 := h5.peek 2 (by decide); rw [HV4.out] at p4; have c5 := h5.hd5.1; clear h5 hrn))
  go_wp2_with (first
    | (go_at_call 18; with_reducible refine p3.mono ?_; intro e w6 hh; obtain ⟨hh1, hh2⟩ := hh; subst hh1; obtain rfl := hh2.symm; clear p3)
    | (go_at_call 18; with_reducible refine p4.mono ?_; intro e w6 hh; obtain ⟨hh1, hh2⟩ := hh; subst hh1; obtain rfl := hh2.symm; clear p4)
    | (go_at_call 27; with_reducible refine (k770 _).mono ?_; intro e w7 hh; obtain ⟨b7, hh1, hG7, -, hb7⟩ := hh; subst hh1; have ho7 := gover (by decide) hG7; rw [show ((0 : Nat) == 0) = true from rfl] at ho7; have B7 := Lib.hid (H5.out.keep hb7); clear hG7 hb7 k770)
    | (go_at_call 29; with_reducible refine ho7.mono ?_; intro e w8 hh; obtain ⟨hh1, hh2⟩ := hh; subst hh1; obtain rfl := hh2.symm; clear ho7)
    | (go_at_call 24; with_reducible refine (t3 _).mono ?_; intro e w9 hh; obtain ⟨b9, hh1, hG9, -, hb9⟩ := hh; subst hh1; have ho9 := sover (by decide) hG9; rw [show ((0 : Nat) == 0) = true from rfl] at ho9; have B9 := Lib.hid (B7.out.keep hb9); clear hG9 hb9 t3)
    | (go_at_call 25; with_reducible refine ho9.mono ?_; intro e w10 hh; obtain ⟨hh1, hh2⟩ := hh; subst hh1; obtain rfl := hh2.symm; clear ho9)
    | (go_at_call 27; with_reducible refine (k12 _).mono ?_; intro e w11 hh; obtain ⟨b11, hh1, hG11, -, hb11⟩ := hh; subst hh1; have ho11 := gover (by decide) hG11; rw [show ((0 : Nat) == 0) = true from rfl] at ho11; have B11 := Lib.hid (B9.out.keep hb11); clear hG11 hb11 k12)
    | (go_at_call 29; with_reducible refine ho11.mono ?_; intro e w12 hh; obtain ⟨hh1, hh2⟩ := hh; subst hh1; obtain rfl := hh2.symm; clear ho11))
  go_ret
  exact ⟨rfl, B11.out.below⟩
end Go.Proofs.Ytcihaamjklbdkaa

/-
  A map from integers to integers that a call made: what it says at each key.
-/
namespace Go.Proofs.Ytcihaamjklbdkaa
open Go.RowKit Go.Maps
set_option linter.unusedVariables false

/-- Block m is a map of at most n entries; at key a it says f a (0 where it has none). -/
def MapI (w : World) (K E : TypeId) (q : IntKind) (m n : Nat) (f : Int → Int) : Prop :=
  ∃ D : DataW Unit, w.ownsMap Try.prog K (plainElem Try.prog E) m n D ∧ ∀ a, D.atKey (kA a) (.lit (.int q 0)) = .lit (.int q (f a))
section
variable {w w' : World} {K E t : TypeId} {q : IntKind} {m n : Nat} {f : Int → Int}
theorem MapI.made (w : World) (K E : TypeId) (q : IntKind) : MapI (w.alloc (.map #[] 0)) K E q w.heap.size 0 fun _ => 0 := ⟨.map [], World.ownsMap_made w _ _ _, fun a => rfl⟩
theorem MapI.lt (h : MapI w K E q m n f) : m < w.heap.size := by obtain ⟨D, h, _⟩ := h; exact h.lt
theorem MapI.keep (h : MapI w K E q m n f) (hk : w'.heap[m]? = w.heap[m]?) : MapI w' K E q m n f := by
  obtain ⟨D, ⟨es, clock, hb, r⟩, hf⟩ := h
  exact ⟨D, ⟨es, clock, hk.trans hb, r⟩, hf⟩
theorem MapI.below (h : MapI w K E q m n f) (hb : Below w.heap.size w w') : MapI w' K E q m n f := h.keep (hb.block _ h.lt)
theorem MapI.look (h : MapI w K E q m n f) (hK : Try.prog.underlying K = some (.int .u64)) (hE : Try.prog.underlying E = some (.int q)) (hz : (zeroValue E).run Try.prog w = .ok (.int q 0) w) (ht : Try.prog.underlying t = some (.map K E)) {a : Int} (ha : (Lit.int .u64 a).wf = true) :
    (Instr.lookup t (.map (some m)) (.int .u64 a) false).run Try.prog w = .ok (.int q (f a)) w ∧ (Lit.int q (f a)).wf = true := by
  obtain ⟨D, h, hf⟩ := h
  obtain ⟨c, hr, hat, hw⟩ := h.lookup_int (int_keyed hK) ht hE hz (keyOf_int_mk hK ha)
  have := hat.symm.trans (hf a)
  simp only [DataW.lit.injEq, Lit.int.injEq, true_and] at this
  subst this
  exact ⟨hr, hw⟩
theorem MapI.put (h : MapI w K E q m n f) (hK : Try.prog.underlying K = some (.int .u64)) (hE : Try.prog.underlying E = some (.int q)) (ht : Try.prog.underlying t = some (.map K E)) {a v : Int} (ha : (Lit.int .u64 a).wf = true) (hv : (Lit.int q v).wf = true) (hn : n < maxLen) :
    ∃ w', (Instr.mapUpdate t (.map (some m)) (.int .u64 a) (.int q v)).run Try.prog w = .ok () w' ∧ MapI w' K E q m (n + 1) (upd f a v) ∧ w.grownBy w' (some m) := by
  obtain ⟨D, h, hf⟩ := h
  obtain ⟨w', hr, ho, hg⟩ := h.update (int_keyed hK) ht hn (keyOf_int_mk hK ha) (plainElem_int hE hv)
  refine ⟨w', hr, ⟨_, ho, fun x => ?_⟩, hg⟩
  by_cases hx : x = a
  · subst hx
    rw [upd_same]; exact atKey_put_same h.isMap (kA_key x) _ _
  · have hne : kA x ≠ kA a := fun c => hx (by simpa [kA] using c)
    have e := atKey_put_other (D := D) (d := .lit (.int q v)) (z := .lit (.int q 0)) hne
    rw [upd_other _ hx]
    exact e.trans (hf x)
end
/-- 'm[a] = v' at the operation. -/
theorem wpList_puti {w : World} {K E t : TypeId} {q : IntKind} {b n : Nat} {f : Int → Int} {ops : Array Oper} {rest : List Oper} {o : Oper} {a : Act} {Q : Exit → Act → World → Prop} (hg : o.guard = none) (m x v : Operand) (hop : o.op = Op.mapUpdate t m x v)
    (hM : MapI w K E q b n f) (hK : Try.prog.underlying K = some (.int .u64)) (hE : Try.prog.underlying E = some (.int q)) (ht : Try.prog.underlying t = some (.map K E)) (hm : a.eval m = .map (some b)) (hn : n < maxLen) (k u : Int) (hx : a.eval x = .int .u64 k) (hv : a.eval v = .int q u) (hk : (Lit.int .u64 k).wf = true) (hu : (Lit.int q u).wf = true)
    (hC : ∀ w', MapI w' K E q b (n + 1) (upd f k u) → w.grownBy w' (some b) → wpList Try.prog ops Q rest (a.put o.dst undef) w') :
    wpList Try.prog ops Q (o :: rest) a w := by
  refine wpList_plain hg fun K' hK' => ?_
  obtain ⟨w', hrun, r1, r2⟩ := hM.put hK hE ht hk hu hn
  unfold Oper.wp
  simp [execOp, hop, hm, hx, hv, hrun, Result.andThen]
  exact hK' _ _ (hC w' r1 r2)
end Go.Proofs.Ytcihaamjklbdkaa

/-
  Grows: a Grow, or a Swap, by itself: just what it leaves.
-/
namespace Go.Proofs.Ytcihaamjklbdkaa
open Go.RowKit Go.Maps
set_option linter.unusedVariables false

theorem nadd_in (l : List Nte) (n : Nte) (h : 1 ≤ n.kind ∧ n.kind ≤ 9) : nadd l n = l ++ [n] := by unfold nadd; rw [if_pos h]
set_option maxRecDepth 10000 in
set_option maxHeartbeats 2000000 in
theorem gruns {w0 w : World} {B : WB} {V : WV} {s : CS} {b m : Nat} {word bits : Int} (h : WS w0 w B V s) (hm : s.n ≤ m ∧ s.cnt ≤ m) (hml : m ≤ 1000) (hlo : w0.heap.size ≤ b) (hwd : (Lit.int .u64 word).wf = true) (hl : V.nts.length < 1000) (hs : Nsteps V.nts s.cnt) (hG : GS w b 138 2 word bits) :
    Calls Try.prog 26 #[.pointer (some ⟨B.wb, 0, none⟩), .iface 80 (.pointer (some ⟨b, 0, none⟩)), .int .i64 9] w fun e w' => e = .returned (.int .i64 2) ∧ WS w0 w' B { V with nts := V.nts ++ [⟨(((s.acc 2 3 0).cnt + 1 : Nat) : Int), V.hd, 4, 0, 0, 0, 0, bits⟩] } ((s.acc 2 3 0).acc 2 2 word) ∧ Fx wTy true b w w' := by
  have r0 : s.room := CS.room_of m hm (by unfold lim; omega)
  have r1 : (s.acc 2 3 0).room := CS.room_of (m + 1) (room_acc m hm) (by unfold lim; omega)
  have hs1 : Nsteps V.nts (s.acc 2 3 0).cnt := hs.le (by simp only [CS.acc]; omega)
  obtain ⟨V1, hV1⟩ : ∃ V1 : WV, V1 = { V with nts := V.nts ++ [⟨(((s.acc 2 3 0).cnt + 1 : Nat) : Int), V.hd, 4, 0, 0, 0, 0, bits⟩] } := ⟨_, rfl⟩
  rw [← hV1]
  have st2 : ∀ W, WS w0 W B V s → GS W b 138 2 word bits → Calls Try.prog 137 #[.pointer (some ⟨b, 0, none⟩), .pointer (some ⟨B.wb, 0, none⟩)] W fun e w' => e = .returned (.bool false) ∧ WS w0 w' B V (s.acc 2 3 0) ∧ GS w' b 138 1 word bits ∧ Fx wTy true b W w' := fun W h1 h2 => gstep2 h1 r0 hlo h2
  have st1 : ∀ W, WS w0 W B V (s.acc 2 3 0) → GS W b 138 1 word bits → Calls Try.prog 137 #[.pointer (some ⟨b, 0, none⟩), .pointer (some ⟨B.wb, 0, none⟩)] W fun e w' => e = .returned (.bool true) ∧ WS w0 w' B V1 ((s.acc 2 3 0).acc 2 2 word) ∧ GS w' b 138 0 word bits ∧ Fx wTy true b W w' := fun W h1 h2 => by
    have q := gstep1 h1 r1 hlo hwd (by omega) hs1 h2
    rw [nadd_in _ _ ⟨by show (1 : Int) ≤ 4; decide, by show (4 : Int) ≤ 9; decide⟩] at q
    rw [hV1]; exact q
  generalize s.acc 2 3 0 = s1 at *
  generalize s1.acc 2 2 word = s2 at *
  have H := Lib.hid h; have HG := Lib.hid hG; have S2 := Lib.hid st2; have S1 := Lib.hid st1
  clear h hm hml hwd hl hs hG r0 r1 hs1 hV1 st2 st1
  go_enter Try.func26, Try.ntmps26
  go_wp2
  go_loopw [7] (fun i wr => (i = .int .i64 0 ∧ WS w0 wr B V s ∧ GS wr b 138 2 word bits ∧ Fx wTy true b w wr) ∨ (i = .int .i64 1 ∧ WS w0 wr B V s1 ∧ GS wr b 138 1 word bits ∧ Fx wTy true b w wr) ∨ (i = .int .i64 2 ∧ WS w0 wr B V1 s2 ∧ GS wr b 138 0 word bits ∧ Fx wTy true b w wr)) (fun i _ => 2 - (intOf i).toNat)
  case atStart => exact .inl ⟨rfl, H.out, HG.out, (below_fr (Below.refl _ w) wTy true).fx b⟩
  case round =>
    clear H HG
    rcases hrel with ⟨rfl, h1, h2, h3⟩ | ⟨rfl, h1, h2, h3⟩ | ⟨rfl, h1, h2, h3⟩
    · have hov := gover (by decide) h2
      rw [show ((2 : Nat) == 0) = false from rfl] at hov
      have hst := S2.out _ h1 h2
      have H3 := Lib.hid h3
      clear h1 h2 h3
      go_wp2_with (first
        | (go_at_call 29; refine hov.mono ?_; intro e w2 hh; obtain ⟨hh1, hh2⟩ := hh; subst hh1; obtain rfl := hh2.symm; clear hov)
        | (go_at_call 137; refine hst.mono ?_; intro e w3 hh; obtain ⟨hh1, g1, g2, g3⟩ := hh; subst hh1))
      exact ⟨.inr (.inl ⟨rfl, g1, g2, H3.out.trans g3⟩), by simp [intOf]⟩
    · have hov := gover (by decide) h2
      rw [show ((1 : Nat) == 0) = false from rfl] at hov
      have hst := S1.out _ h1 h2
      have H3 := Lib.hid h3
      clear h1 h2 h3
      go_wp2_with (first
        | (go_at_call 29; refine hov.mono ?_; intro e w2 hh; obtain ⟨hh1, hh2⟩ := hh; subst hh1; obtain rfl := hh2.symm; clear hov)
        | (go_at_call 137; refine hst.mono ?_; intro e w3 hh; obtain ⟨hh1, g1, g2, g3⟩ := hh; subst hh1))
      exact ⟨.inr (.inr ⟨rfl, g1, g2, H3.out.trans g3⟩), by simp [intOf]⟩
    · have hov := gover (by decide) h2
      rw [show ((0 : Nat) == 0) = true from rfl] at hov
      have H1 := Lib.hid h1; have H3 := Lib.hid h3
      clear h1 h2 h3
      go_wp2_with (go_at_call 29; refine hov.mono ?_; intro e w2 hh; obtain ⟨hh1, hh2⟩ := hh; subst hh1; obtain rfl := hh2.symm; clear hov)
      go_ret
      exact ⟨rfl, H1.out, H3.out⟩
set_option maxRecDepth 10000 in
set_option maxHeartbeats 2000000 in
theorem sruns {w0 w : World} {B : WB} {V : WV} {s : CS} {b m : Nat} {word bits : Int} (h : WS w0 w B V s) (hm : s.n ≤ m ∧ s.cnt ≤ m) (hml : m ≤ 1000) (hlo : w0.heap.size ≤ b) (hwd : (Lit.int .u64 word).wf = true) (hl : V.nts.length < 1000) (hs : Nsteps V.nts s.cnt) (hG : GS w b 130 1 word bits) :
    Calls Try.prog 26 #[.pointer (some ⟨B.wb, 0, none⟩), .iface 77 (.pointer (some ⟨b, 0, none⟩)), .int .i64 9] w fun e w' => e = .returned (.int .i64 1) ∧ WS w0 w' B { V with nts := V.nts ++ [⟨((s.cnt + 1 : Nat) : Int), V.hd, 5, 0, 0, 0, 0, bits⟩] } (s.acc 2 2 word) ∧ Fx wTy true b w w' := by
  have r0 : s.room := CS.room_of m hm (by unfold lim; omega)
  obtain ⟨V1, hV1⟩ : ∃ V1 : WV, V1 = { V with nts := V.nts ++ [⟨((s.cnt + 1 : Nat) : Int), V.hd, 5, 0, 0, 0, 0, bits⟩] } := ⟨_, rfl⟩
  rw [← hV1]
  have st1 : ∀ W, WS w0 W B V s → GS W b 130 1 word bits → Calls Try.prog 135 #[.pointer (some ⟨b, 0, none⟩), .pointer (some ⟨B.wb, 0, none⟩)] W fun e w' => e = .returned (.bool true) ∧ WS w0 w' B V1 (s.acc 2 2 word) ∧ GS w' b 130 0 word bits ∧ Fx wTy true b W w' := fun W h1 h2 => by
    have q := sstep1 h1 r0 hlo hwd (by omega) hs h2
    rw [nadd_in _ _ ⟨by show (1 : Int) ≤ 5; decide, by show (5 : Int) ≤ 9; decide⟩] at q
    rw [hV1]; exact q
  generalize s.acc 2 2 word = s2 at *
  have H := Lib.hid h; have HG := Lib.hid hG; have S1 := Lib.hid st1
  clear h hm hml hwd hl hs hG r0 hV1 st1
  go_enter Try.func26, Try.ntmps26
  go_wp2
  go_loopw [7] (fun i wr => (i = .int .i64 0 ∧ WS w0 wr B V s ∧ GS wr b 130 1 word bits ∧ Fx wTy true b w wr) ∨ (i = .int .i64 1 ∧ WS w0 wr B V1 s2 ∧ GS wr b 130 0 word bits ∧ Fx wTy true b w wr)) (fun i _ => 1 - (intOf i).toNat)
  case atStart => exact .inl ⟨rfl, H.out, HG.out, (below_fr (Below.refl _ w) wTy true).fx b⟩
  case round =>
    clear H HG
    rcases hrel with ⟨rfl, h1, h2, h3⟩ | ⟨rfl, h1, h2, h3⟩
    · have hov := sover (by decide) h2
      rw [show ((1 : Nat) == 0) = false from rfl] at hov
      have hst := S1.out _ h1 h2
      have H3 := Lib.hid h3
      clear h1 h2 h3
      go_wp2_with (first
        | (go_at_call 25; refine hov.mono ?_; intro e w2 hh; obtain ⟨hh1, hh2⟩ := hh; subst hh1; obtain rfl := hh2.symm; clear hov)
        | (go_at_call 135; refine hst.mono ?_; intro e w3 hh; obtain ⟨hh1, g1, g2, g3⟩ := hh; subst hh1))
      exact ⟨.inr ⟨rfl, g1, g2, H3.out.trans g3⟩, by simp [intOf]⟩
    · have hov := sover (by decide) h2
      rw [show ((0 : Nat) == 0) = true from rfl] at hov
      have H1 := Lib.hid h1; have H3 := Lib.hid h3
      clear h1 h2 h3
      go_wp2_with (go_at_call 25; refine hov.mono ?_; intro e w2 hh; obtain ⟨hh1, hh2⟩ := hh; subst hh1; obtain rfl := hh2.symm; clear hov)
      go_ret
      exact ⟨rfl, H1.out, H3.out⟩
end Go.Proofs.Ytcihaamjklbdkaa

/-
  Hashes, tags, buckets of the program.
-/
namespace Go.Proofs.Ytcihaamjklbdkaa
open Go.RowKit
set_option linter.unusedVariables false

def hstep (s c : Int) : Int := IntKind.u64.wrap (bits .xor .u64 s c * 1099511628211)
theorem hstep_bd (s c : Int) : 0 ≤ hstep s c ∧ hstep s c < 18446744073709551616 := u64_bd _
def hbyte (key : ByteArray) (k : Nat) : Int := if h : k < key.size then (key[k].toNat : Int) else 0
def hfold (key : ByteArray) : Nat → Int
  | 0 => 14695981039346656037
  | k + 1 => hstep (hfold key k) (hbyte key k)
def hashOf (key : ByteArray) : Int := hfold key key.size
theorem hfold_bd (key : ByteArray) (k : Nat) : 0 ≤ hfold key k ∧ hfold key k < 18446744073709551616 := by
  cases k with
  | zero => exact ⟨by show (0 : Int) ≤ 14695981039346656037; decide, by show (14695981039346656037 : Int) < 18446744073709551616; decide⟩
  | succ k => exact hstep_bd _ _
theorem sumadd (p : Nat) (s c : Int) (hc : 0 ≤ c ∧ c < 256) (w : World) (h : w.heap[p]? = some (.cells #[.int .u64 s] 140 (0, 0))) : Calls Try.prog 59 #[.pointer (some ⟨p, 0, none⟩), .int .u8 c] w fun e w' => e = .returned (.tuple #[]) ∧ w'.heap[p]? = some (.cells #[.int .u64 (hstep s c)] 140 (0, 0)) ∧ Keeps (· = p) w w' := by
  have c0 := hcell h 0
  have f0 := hfrz h 0
  have k1 : IntKind.u64.wrap c = c := by rw [IntKind.wrap_u64]; omega
  have s1 := setCell_same h 0 (.int .u64 (hstep s c))
  have s2 := setCell_keeps w p 0 (.int .u64 (hstep s c))
  clear h hc
  go_enter Try.func59, Try.ntmps59
  go_wp2
  go_end0
  exact ⟨rfl, s1, s2⟩
theorem each_any (key : ByteArray) (hk : key.size ≤ 1000000) (p : Nat) (w : World) (h : w.heap[p]? = some (.cells #[.int .u64 14695981039346656037] 140 (0, 0))) : Calls Try.prog 58 #[.string key, .func (.func 59) #[.pointer (some ⟨p, 0, none⟩)] #[]] w fun e w' => e = .returned (.tuple #[]) ∧ w'.heap[p]? = some (.cells #[.int .u64 (hashOf key)] 140 (0, 0)) ∧ Keeps (· = p) w w' := by
  go_enter Try.func58, Try.ntmps58
  go_wp2
  go_loopw [7] (fun i wr => ∃ (k : Nat), k ≤ key.size ∧ i = .int .i64 k ∧ wr.heap[p]? = some (.cells #[.int .u64 (hfold key k)] 140 (0, 0)) ∧ Keeps (· = p) w wr) (fun i _ => key.size - (intOf i).toNat)
  case atStart => exact ⟨0, by omega, rfl, h, below_keeps (Below.refl _ _) _⟩
  case round =>
    obtain ⟨k, hk2, rfl, hz, hK⟩ := hrel
    by_cases hlt : k < key.size
    · have hlt' : (k : Int) < key.size := by omega
      have hby : hbyte key k = (key[k].toNat : Int) := by unfold hbyte; rw [dif_pos hlt]
      have hbb : 0 ≤ (key[k].toNat : Int) ∧ (key[k].toNat : Int) < 256 := by have := UInt8.toNat_lt key[k]; omega
      have hadd := sumadd p (hfold key k) (key[k].toNat : Int) hbb wr hz
      have HB := Lib.hid hby; have HK := Lib.hid hK
      clear hby hbb hz hK h
      go_wp2_with (go_at_call 59; refine hadd.mono ?_; intro e w2 hh; obtain ⟨hh1, h2, k2⟩ := hh; subst hh1; have H2 := Lib.hid h2; have K2 := Lib.hid k2; clear h2 k2 hadd)
      go_roundw
      case rel => exact ⟨k + 1, by omega, by go_num, by show _ = some (Obj.cells #[.int .u64 (hstep (hfold key k) (hbyte key k))] _ _); rw [HB.out]; exact H2.out, HK.out.again K2.out⟩
      case measure => simp [intOf]; omega
    · obtain rfl : k = key.size := by omega
      have HZ := Lib.hid hz; have HK := Lib.hid hK
      clear hz hK h
      go_wp2
      go_end0
      exact ⟨rfl, HZ.out, HK.out⟩
theorem hash_any (key : ByteArray) (hk : key.size ≤ 1000000) (w : World) : Calls Try.prog 31 #[.string key] w fun e w' => e = .returned (.int .u64 (hashOf key)) ∧ Below w.heap.size w w' := by
  have hz := heap_alloc_new w (.cells #[.int .u64 14695981039346656037] 140)
  have hb := below_alloc w (.cells #[.int .u64 14695981039346656037] 140)
  have he := each_any key hk w.heap.size _ hz
  have HB := Lib.hid hb
  clear hz hb
  go_enter Try.func31, Try.ntmps31
  go_wp2_with (go_at_call 58; refine he.mono ?_; intro e w2 hh; obtain ⟨hh1, h2, k2⟩ := hh; subst hh1; have c0 := hcell h2 0; have K2 := Lib.hid k2; clear h2 k2 he)
  go_ret
  exact ⟨rfl, keeps_below K2.out HB.out HB.out.size (fun k e => by omega)⟩
theorem tag_fn (x : Int) (h0 : 0 ≤ x) (h1 : x < 18446744073709551616) (w : World) : Calls Try.prog 111 #[.int .u64 x] w fun e w' => e = .returned (.int .i64 (tag01 x)) ∧ w' = w := by
  obtain ⟨q, hq⟩ : ∃ q, q = x / 72057594037927936 := ⟨_, rfl⟩
  have e3 : wrap64 (x / 72057594037927936) = x / 72057594037927936 := IntWalk.wrap64_in _ (by omega)
  by_cases hz : q < 1
  · have ht : Hid (tag01 x = 1) := by show tag01 x = 1; unfold tag01; rw [← hq, if_pos (by omega)]
    have e1 : x / 72057594037927936 < 1 := by omega
    have e2 : decide (x / 72057594037927936 < 1) = true := decide_eq_true e1
    clear hz hq
    go_enter Try.func111, Try.ntmps111
    go_wp2
    all_goals go_ret
    all_goals exact ⟨ret_i64 (by first | exact ht.out.symm | (rw [ht.out]; omega)), rfl⟩
  · have ht : Hid (tag01 x = x / 72057594037927936) := by show tag01 x = _; unfold tag01; rw [if_neg (by omega)]
    have e1 : ¬ x / 72057594037927936 < 1 := by omega
    have e2 : decide (x / 72057594037927936 < 1) = false := decide_eq_false e1
    clear hq hz
    go_enter Try.func111, Try.ntmps111
    go_wp2
    all_goals go_ret
    all_goals exact ⟨ret_i64 (by first | exact ht.out.symm | (rw [ht.out]; omega)), rfl⟩
/-- A hash's bucket. -/
def bk (h b : Int) : Int := h % tsize b
theorem tsize_pos {b : Int} (hb : 1 ≤ b ∧ b ≤ 12) : 2 ≤ tsize b ∧ tsize b ≤ 4096 := by
  rcases twelve hb with rfl | rfl | rfl | rfl | rfl | rfl | rfl | rfl | rfl | rfl | rfl | rfl <;> decide
theorem bk_bd (h b : Int) (hb : 1 ≤ b ∧ b ≤ 12) : 0 ≤ bk h b ∧ bk h b < tsize b := by
  have := tsize_pos hb
  unfold bk; exact ⟨Int.emod_nonneg _ (by omega), Int.emod_lt_of_pos _ (by omega)⟩
theorem bucket_fn (x b : Int) (h0 : 0 ≤ x) (h1 : x < 18446744073709551616) (hb : 1 ≤ b ∧ b ≤ 12) (w : World) : Calls Try.prog 109 #[.int .u64 x, .int .i64 b] w fun e w' => e = .returned (.int .i64 (bk x b)) ∧ w' = w := by
  have hs := fun w => size_any b w
  have hp := tsize_pos hb
  have hbd := bk_bd x b hb
  have hm : bits .and .u64 x (tsize b - 1) = bk x b := by
    unfold bk; rw [tsize_in hb]
    rcases twelve hb with rfl | rfl | rfl | rfl | rfl | rfl | rfl | rfl | rfl | rfl | rfl | rfl
    all_goals (first
      | exact mask_u64 x 1 1 rfl (by decide) h0 h1 | exact mask_u64 x 3 2 rfl (by decide) h0 h1 | exact mask_u64 x 7 3 rfl (by decide) h0 h1 | exact mask_u64 x 15 4 rfl (by decide) h0 h1 | exact mask_u64 x 31 5 rfl (by decide) h0 h1 | exact mask_u64 x 63 6 rfl (by decide) h0 h1 | exact mask_u64 x 127 7 rfl (by decide) h0 h1 | exact mask_u64 x 255 8 rfl (by decide) h0 h1 | exact mask_u64 x 511 9 rfl (by decide) h0 h1 | exact mask_u64 x 1023 10 rfl (by decide) h0 h1 | exact mask_u64 x 2047 11 rfl (by decide) h0 h1 | exact mask_u64 x 4095 12 rfl (by decide) h0 h1)
  generalize bk x b = B at *
  generalize tsize b = S at *
  have e0 : decide (0 < S) = true := decide_eq_true (by omega)
  obtain ⟨S1, hS1⟩ : ∃ S1, S1 = S - 1 := ⟨_, rfl⟩
  rw [← hS1] at hm
  have e1 : wrap64 (S - 1) = S1 := by rw [hS1]; exact IntWalk.wrap64_in _ (by omega)
  have e2 : IntKind.u64.wrap S1 = S1 := by rw [IntKind.wrap_u64]; omega
  have e3 : wrap64 B = B := IntWalk.wrap64_in _ (by omega)
  clear hS1 hbd hp hb
  go_enter Try.func109, Try.ntmps109
  go_wp2_with (go_at_call 57; refine (hs _).mono ?_; rintro e w1 ⟨rfl, rfl⟩)
  go_ret
  exact ⟨ret_i64 e3, rfl⟩
theorem bucket_no (x : Int) (w : World) : Calls Try.prog 109 #[.int .u64 x, .int .i64 0] w fun e w' => e = .returned (.int .i64 (-1)) ∧ w' = w := by
  have hs := fun w => size_any 0 w
  rw [show tsize 0 = 0 by decide] at hs
  go_enter Try.func109, Try.ntmps109
  go_wp2_with (go_at_call 57; refine (hs _).mono ?_; rintro e w1 ⟨rfl, rfl⟩)
  go_ret
  exact ⟨rfl, rfl⟩
/-- The other bucket of a tag. -/
def oth (k t b : Int) : Int := bits .xor .i64 k (bits .and .i64 (t * 1540483477) (tsize b - 1))
theorem tag01_bd (x : Int) (h0 : 0 ≤ x) (h1 : x < 18446744073709551616) : 1 ≤ tag01 x ∧ tag01 x ≤ 255 := by
  unfold tag01; split <;> omega
theorem other_fn (k t b : Int) (hb : 1 ≤ b ∧ b ≤ 12) (hk : 0 ≤ k ∧ k < tsize b) (ht : 1 ≤ t ∧ t ≤ 255) (w : World) : Calls Try.prog 110 #[.int .i64 k, .int .i64 t, .int .i64 b] w fun e w' => e = .returned (.int .i64 (oth k t b)) ∧ w' = w := by
  have hs := fun w => size_any b w
  have hp := tsize_pos hb
  unfold oth
  generalize tsize b = S at *
  have e0 : decide (k < 0) = false := decide_eq_false (by omega)
  have e1 : decide (S ≤ k) = false := decide_eq_false (by omega)
  have e2 : decide (t < 1) = false := decide_eq_false (by omega)
  have e3 : decide (255 < t) = false := decide_eq_false (by omega)
  obtain ⟨S1, hS1⟩ : ∃ S1, S1 = S - 1 := ⟨_, rfl⟩
  have e4 : wrap64 (S - 1) = S1 := by rw [hS1]; exact IntWalk.wrap64_in _ (by omega)
  obtain ⟨t1, ht1⟩ : ∃ t1, t1 = t * 1540483477 := ⟨_, rfl⟩
  have e5 : wrap64 (t * 1540483477) = t1 := by rw [ht1]; exact IntWalk.wrap64_in _ (by omega)
  rw [← hS1, ← ht1]
  clear hS1 ht1 hp hb hk ht
  go_enter Try.func110, Try.ntmps110
  go_wp2_with (go_at_call 57; refine (hs _).mono ?_; rintro e w1 ⟨rfl, rfl⟩)
  go_ret
  exact ⟨rfl, rfl⟩
end Go.Proofs.Ytcihaamjklbdkaa

/-
  Places of a hash: the program's.
-/
namespace Go.Proofs.Ytcihaamjklbdkaa
open Go.RowKit
set_option linter.unusedVariables false

/-- Each once. -/
def dedup (l : List (Int × Int)) : List (Int × Int) := l.foldl (fun out p => if p ∈ out then out else out ++ [p]) []
theorem dedup_take {l : List (Int × Int)} {k : Nat} (h : k < l.length) : dedup (l.take (k + 1)) = if l[k] ∈ dedup (l.take k) then dedup (l.take k) else dedup (l.take k) ++ [l[k]] := by
  unfold dedup; rw [List.take_add_one, List.getElem?_eq_getElem h, List.foldl_append]; rfl
theorem dedup_len (l : List (Int × Int)) : (dedup l).length ≤ l.length := by
  have key : ∀ (l o : List (Int × Int)), (l.foldl (fun out p => if p ∈ out then out else out ++ [p]) o).length ≤ o.length + l.length := by
    intro l
    induction l with
    | nil => intro o; simp
    | cons p l ih =>
      intro o
      rw [List.foldl_cons]
      split
      · have := ih o; simp only [List.length_cons]; omega
      · have := ih (o ++ [p]); simp only [List.length_cons, List.length_append, List.length_nil] at this ⊢; omega
  have := key l []
  unfold dedup; simp only [List.length_nil, Nat.zero_add] at this; exact this
theorem info_plcf : (Try.prog.info? 44).map (fun i => (i.zero, i.size, i.bytes)) = some (some (.agg #[.int .i64 0, .int .i64 0]), 2, 16) := by kernel_rfl
theorem eql_place (a b x y : Int) (W : World) : (binOp .eql 44 (.agg #[.int .i64 a, .int .i64 b]) (.agg #[.int .i64 x, .int .i64 y])).run Try.prog W = .ok (.bool (a == x && b == y)) W := by
  cases h1 : a == x <;> cases h2 : b == y <;> go_simp
theorem neq_place (a b x y : Int) (W : World) : (binOp .neq 44 (.agg #[.int .i64 a, .int .i64 b]) (.agg #[.int .i64 x, .int .i64 y])).run Try.prog W = .ok (.bool (!(a == x && b == y))) W := by
  cases h1 : a == x <;> cases h2 : b == y <;> go_simp
theorem once1 (a b x y : Int) (pb : Nat) (w : World) (h : w.heap[pb]? = some (.cells #[.int .i64 x, .int .i64 y] 44 (0, 0))) : Calls Try.prog 107 #[.agg #[.int .i64 a, .int .i64 b], .pointer (some ⟨pb, 0, none⟩)] w fun e w' => e = .returned (.bool (a == x && b == y)) ∧ Below w.heap.size w w' := by
  have hb := below_alloc w (.cells #[.int .i64 a, .int .i64 b] 44)
  have hz := heap_alloc_new w (.cells #[.int .i64 a, .int .i64 b] 44)
  have h2 := (hb.block _ (Array.getElem?_eq_some_iff.1 h).1).trans h
  have c0 := hcell hz 0
  have c1 := hcell hz 1
  have d0 := hcell h2 0
  have d1 := hcell h2 1
  have he := fun W => eql_place a b x y W
  have HB := Lib.hid hb
  clear h h2 hz hb
  go_enter Try.func107, Try.ntmps107
  go_upto_region 1 with (fail)
  change Code.wp _ _ _ _ (w.alloc (.cells #[.int .i64 a, .int .i64 b] 44))
  generalize w.alloc (.cells #[.int .i64 a, .int .i64 b] 44) = w1 at *
  go_wp2
  go_ret
  exact ⟨rfl, HB.out⟩
set_option maxHeartbeats 1000000 in
theorem index_places (l : List (Int × Int)) (ao : Option Addr) (cap : Nat) (x y : Int) (pb : Nat) (w : World) (hl : Plc w ao cap l) (h : w.heap[pb]? = some (.cells #[.int .i64 x, .int .i64 y] 44 (0, 0))) :
    Calls Try.prog 119 #[.slice ao l.length cap, .func (.func 107) #[] #[.pointer (some ⟨pb, 0, none⟩)]] w fun e w' => (∃ i, e = .returned (.int .i64 i) ∧ decide (0 ≤ i) = decide ((x, y) ∈ l)) ∧ Below w.heap.size w w' := by
  have hml : l.length ≤ maxLen := Nat.le_trans hl.le hl.most
  unfold maxLen at hml
  have HL := Lib.hid hl; have HP := Lib.hid h
  clear hl h
  go_enter Try.func119, Try.ntmps119
  go_wp2
  go_loopw [8] (fun i wr => ∃ (k : Nat), k ≤ l.length ∧ i = .int .i64 k ∧ Below w.heap.size w wr ∧ (x, y) ∉ l.take k) (fun i _ => l.length - (intOf i).toNat)
  case atStart => exact ⟨0, by omega, rfl, Below.refl _ _, by simp⟩
  case round =>
    obtain ⟨k, hk, rfl, hB, hno⟩ := hrel
    by_cases hlt : k < l.length
    · have hlt' : (k : Int) < l.length := by omega
      obtain ⟨b, off, a0, b0, rfl, hlk, g0, g1⟩ := (HL.out.below hB).at k hlt
      have hlk' : l[k] = (a0, b0) := by rw [List.getElem?_eq_getElem hlt] at hlk; exact Option.some.inj hlk
      clear hlk
      have hz := (hB.block _ (Array.getElem?_eq_some_iff.1 HP.out).1).trans HP.out
      have ho := once1 a0 b0 x y pb wr hz
      have hstep : (x, y) ∈ l.take (k + 1) ↔ ((x, y) ∈ l.take k ∨ (x, y) = l[k]) := by
        rw [List.take_add_one, List.getElem?_eq_getElem hlt, List.mem_append]
        simp only [Option.toList_some, List.mem_singleton]
      obtain ⟨d, hd⟩ : ∃ d, d = (a0 == x && b0 == y) := ⟨_, rfl⟩
      have hde : d = true ↔ l[k] = (x, y) := by rw [hd, hlk', Bool.and_eq_true, beq_iff_eq, beq_iff_eq, Prod.mk.injEq]
      rw [← hd] at ho
      have hmem : l[k] ∈ l := List.getElem_mem hlt
      have HD := Lib.hid hde; have HST := Lib.hid hstep; have HNO := Lib.hid hno; have HB := Lib.hid hB; have HME := Lib.hid hmem
      clear hd hde hstep hno hB hz hmem hlk'
      cases d
      all_goals go_wp2_with (go_at_call 107; refine ho.mono ?_; intro e w2 hh; obtain ⟨hh1, b2⟩ := hh; subst hh1; have B2 := Lib.hid (HB.out.trans (b2.mono HB.out.size)); clear b2 ho)
      · go_roundw
        case rel => exact ⟨k + 1, by omega, by go_num, B2.out, fun c => by
          rcases HST.out.1 c with c | c
          · exact HNO.out c
          · have := HD.out.2 c.symm; cases this⟩
        case measure => simp [intOf]; omega
      · go_ret
        refine ⟨⟨k, rfl, ?_⟩, B2.out⟩
        have h1 := HD.out.1 (by first | rfl | trivial)
        have h2 := HME.out
        rw [h1] at h2
        rw [decide_eq_true h2]
        exact decide_eq_true (by omega)
    · obtain rfl : k = l.length := by omega
      rw [List.take_length] at hno
      have HNO := Lib.hid hno; have HB := Lib.hid hB
      clear hno hB
      go_wp2
      go_ret
      exact ⟨⟨-1, rfl, by rw [decide_eq_false HNO.out]; rfl⟩, HB.out⟩
theorem contains_places (l : List (Int × Int)) (ao : Option Addr) (cap : Nat) (x y : Int) (pb : Nat) (w : World) (hl : Plc w ao cap l) (h : w.heap[pb]? = some (.cells #[.int .i64 x, .int .i64 y] 44 (0, 0))) :
    Calls Try.prog 106 #[.slice ao l.length cap, .func (.func 107) #[] #[.pointer (some ⟨pb, 0, none⟩)]] w fun e w' => e = .returned (.bool (decide ((x, y) ∈ l))) ∧ Below w.heap.size w w' := by
  have hi := index_places l ao cap x y pb w hl h
  clear hl h
  go_enter Try.func106, Try.ntmps106
  go_wp2_with (go_at_call 119; refine hi.mono ?_; intro e w2 hh; obtain ⟨⟨i, hh1, hd⟩, b2⟩ := hh; subst hh1; have HB := Lib.hid b2; clear b2 hi)
  go_ret
  first
    | exact ⟨rfl, HB.out⟩
    | exact ⟨conf_b hd, HB.out⟩
/-- A list of places that the call made, without room. -/
def PlN (w : World) (base : Nat) (v : Value) (l : List (Int × Int)) : Prop :=
  (v = .slice none 0 0 ∧ l = []) ∨ ∃ g cur, v = .slice (some ⟨g, 0, none⟩) l.length l.length ∧ base ≤ g ∧ w.heap[g]? = some (.cells cur 44 (0, 0)) ∧ l.length ≤ maxLen ∧ cur.toList.take (l.length * 2) = flatP l
theorem clip_places (v : Value) (base : Nat) (l : List (Int × Int)) (w : World) (h : w.ownsRow base 44 2 v l.length (flatP l)) :
    Calls Try.prog 108 #[v] w fun e w' => ∃ v', e = .returned v' ∧ PlN w' base v' l ∧ w' = w := by
  obtain ⟨h1, ⟨rfl, h0⟩ | ⟨g, cap, cur, rfl, hb, hg, hn, hm, hs, ht⟩⟩ := h
  · have : l = [] := by cases l with | nil => rfl | cons x r => simp at h0
    subst this
    clear h1 h0
    go_enter Try.func108, Try.ntmps108
    go_wp2
    go_ret
    exact ⟨_, rfl, .inl ⟨rfl, rfl⟩, rfl⟩
  · have hm2 := Nat.le_trans hn hm
    unfold maxLen at hm hm2
    have HT := Lib.hid ht; have HG := Lib.hid hg
    clear ht hg hs h1
    go_enter Try.func108, Try.ntmps108
    go_wp2
    go_ret
    exact ⟨_, rfl, .inr ⟨g, cur, rfl, hb, HG.out, by unfold maxLen; omega, HT.out⟩, rfl⟩
theorem PlN.below {w w' : World} {base : Nat} {v : Value} {l : List (Int × Int)} (h : PlN w base v l) (hb : Below w.heap.size w w') : PlN w' base v l := by
  rcases h with h | ⟨g, cur, h1, h2, h3, h4⟩
  · exact .inl h
  · exact .inr ⟨g, cur, h1, h2, (hb.block _ (Array.getElem?_eq_some_iff.1 h3).1).trans h3, h4⟩
theorem PlN.plc {w : World} {base : Nat} {v : Value} {l : List (Int × Int)} (h : PlN w base v l) : ∃ ao, v = .slice ao l.length l.length ∧ Plc w ao l.length l := by
  rcases h with ⟨rfl, rfl⟩ | ⟨g, cur, rfl, h1, h2, h3, h4⟩
  · exact ⟨none, rfl, Nat.le_refl _, Nat.zero_le _, fun _ => rfl, .inl rfl⟩
  · refine ⟨_, rfl, Nat.le_refl _, h3, fun h => (by cases h), .inr ⟨g, 0, rfl, fun i hi => ?_⟩⟩
    obtain ⟨f1, f2⟩ := flatP_at l i hi
    rw [← h4, List.getElem?_take, if_pos (by omega), Array.getElem?_toList] at f1 f2
    rw [hcell h2, hcell h2, Nat.zero_add]
    exact ⟨f1, f2⟩
theorem own_plc {w : World} {base : Nat} {v : Value} {l : List (Int × Int)} (h : w.ownsRow base 44 2 v l.length (flatP l)) : ∃ ao cap, v = .slice ao l.length cap ∧ Plc w ao cap l := by
  obtain ⟨h1, ⟨rfl, h0⟩ | ⟨g, cap, cur, rfl, hb, hg, hn, hm, hs, ht⟩⟩ := h
  · have : l = [] := by cases l with | nil => rfl | cons x r => simp at h0
    subst this
    exact ⟨none, 0, rfl, Nat.le_refl _, Nat.zero_le _, fun _ => rfl, .inl rfl⟩
  · refine ⟨_, cap, rfl, hn, hm, fun h => (by cases h), .inr ⟨g, 0, rfl, fun i hi => ?_⟩⟩
    obtain ⟨f1, f2⟩ := flatP_at l i hi
    rw [← ht, List.getElem?_take, if_pos (by omega), Array.getElem?_toList] at f1 f2
    rw [hcell hg, hcell hg, Nat.zero_add]
    exact ⟨f1, f2⟩
set_option maxRecDepth 10000 in
set_option maxHeartbeats 2000000 in
theorem once_any (l : List (Int × Int)) (ao : Option Addr) (cap : Nat) (w : World) (hl : Plc w ao cap l) (hn : l.length ≤ 1000) :
    Calls Try.prog 87 #[.slice ao l.length cap] w fun e w' => ∃ v, e = .returned v ∧ PlN w' w.heap.size v (dedup l) ∧ Below w.heap.size w w' := by
  obtain ⟨i0, hi0, hz0, hz1, hz2⟩ := info_parts info_plcf
  have HI := Lib.hid hi0; have HZ0 := Lib.hid hz0; have HZ1 := Lib.hid hz1; have HZ2 := Lib.hid hz2
  have HL := Lib.hid hl
  clear hl hi0 hz0 hz1 hz2
  go_enter Try.func87, Try.ntmps87
  go_wp2
  go_loopw [2, 7] (fun v i wr => ∃ (k : Nat), k ≤ l.length ∧ i = .int .i64 k ∧ wr.ownsRow w.heap.size 44 2 v (dedup (l.take k)).length (flatP (dedup (l.take k))) ∧ Below w.heap.size w wr) (fun _ i _ => l.length - (intOf i).toNat)
  case atStart => exact ⟨0, by omega, rfl, World.ownsRow_nil _ _ _ _, Below.refl _ _⟩
  case round =>
    obtain ⟨k, hk, rfl, hown, hB⟩ := hrel
    by_cases hlt : k < l.length
    · have hlt' : (k : Int) < l.length := by omega
      obtain ⟨b, off, a0, b0, rfl, hlk, g0, g1⟩ := (HL.out.below hB).at k hlt
      have hlk' : l[k] = (a0, b0) := by rw [List.getElem?_eq_getElem hlt] at hlk; exact Option.some.inj hlk
      have hdt := dedup_take hlt
      rw [hlk'] at hdt
      have hdl : (dedup (l.take k)).length ≤ 1000 := by have := dedup_len (l.take k); rw [List.length_take] at this; omega
      have hba := below_alloc wr (.cells #[.int .i64 a0, .int .i64 b0] 44)
      have hza := heap_alloc_new wr (.cells #[.int .i64 a0, .int .i64 b0] 44)
      have hB2 := hB.trans (hba.mono hB.size)
      have hown2 := own_below hown hba
      generalize dedup (l.take k) = D at *
      have HPB := Lib.hid hB.size
      have HDT := Lib.hid hdt; have HB := Lib.hid hB2; have HOWN := Lib.hid hown2; have HZA := Lib.hid hza
      clear hdt hB hown hlk hlk' hba hza hB2 hown2
      go_upto_region 4 with (fail)
      change Code.wp _ _ _ _ (wr.alloc (.cells #[.int .i64 a0, .int .i64 b0] 44))
      generalize wr.alloc (.cells #[.int .i64 a0, .int .i64 b0] 44) = w3 at *
      generalize wr.heap.size = pb at *
      obtain ⟨ao2, cap2, rfl, hpl⟩ := own_plc HOWN.out
      have hc := contains_places D ao2 cap2 a0 b0 pb w3 hpl HZA.out
      clear hpl g0 g1
      obtain ⟨d, hd⟩ : ∃ d, d = decide ((a0, b0) ∈ D) := ⟨_, rfl⟩
      rw [← hd] at hc
      have HD := Lib.hid hd
      clear hd
      cases d
      · go_upto_region 5 with (go_at_call 106; refine hc.mono ?_; intro e w4 hh; obtain ⟨hh1, b4⟩ := hh; subst hh1; have B4 := Lib.hid (HB.out.trans (b4.mono HB.out.size)); have O4 := Lib.hid (own_below HOWN.out b4); have hz4 := (b4.block _ (Array.getElem?_eq_some_iff.1 HZA.out).1).trans HZA.out; have c0 := hcell hz4 0; have c1 := hcell hz4 1; clear b4 hc hz4)
        have hnot : (a0, b0) ∉ D := by have := HD.out; intro c; rw [decide_eq_true c] at this; cases this
        have hdt : dedup (l.take (k + 1)) = D ++ [(a0, b0)] := by rw [HDT.out, if_neg hnot]
        have HDT2 := Lib.hid hdt
        clear hnot hdt
        go_wp2_with (at_builtin; refine wpList_append_own _ rfl _ _ 86 rfl w.heap.size 44 i0 (.agg #[.int .i64 0, .int .i64 0]) 2 16 Try.underlying86 HI.out HZ0.out HZ1.out HZ2.out rfl (by decide) _ _ _ rfl (O4.out.alloc _) ⟨w4.heap.size, 0, none⟩ 1 1 [.int .i64 a0, .int .i64 b0] rfl rfl ?c1 ?c2 ?c3 ?c4 ?c5 ?_)
        case c1 => exact World.news_of_block (heap_alloc_new w4 _)
        case c2 => simp [Value.oneCell']
        case c3 => unfold maxLen; omega
        case c4 => omega
        case c5 => have := B4.out.size; simp; omega
        intro v' w5 hown' hgrow _
        have hb5 := (B4.out.alloc B4.out.size (.cells #[.int .i64 a0, .int .i64 b0] 44)).grown hgrow (by simp; have := B4.out.size; omega) (fun j hj => by have := (O4.out.lt j hj).1; omega)
        have HB5 := Lib.hid hb5; have HO5 := Lib.hid hown'
        clear hb5 hown' hgrow c0 c1
        go_wp2
        go_roundw
        case rel => exact ⟨k + 1, by omega, by go_num, by rw [HDT2.out, flatP_snoc, show (D ++ [(a0, b0)]).length = D.length + 1 by simp]; exact HO5.out, HB5.out⟩
        case measure => simp [intOf]; omega
      · have hin : (a0, b0) ∈ D := by have := HD.out; exact of_decide_eq_true this.symm
        have hdt : dedup (l.take (k + 1)) = D := by rw [HDT.out, if_pos hin]
        have HDT2 := Lib.hid hdt
        clear hin hdt
        go_wp2_with (go_at_call 106; refine hc.mono ?_; intro e w4 hh; obtain ⟨hh1, b4⟩ := hh; subst hh1; have B4 := Lib.hid (HB.out.trans (b4.mono HB.out.size)); have O4 := Lib.hid (own_below HOWN.out b4); clear b4 hc)
        go_roundw
        case rel => exact ⟨k + 1, by omega, by go_num, by rw [HDT2.out]; exact O4.out, B4.out⟩
        case measure => simp [intOf]; omega
    · obtain rfl : k = l.length := by omega
      rw [List.take_length] at hown
      have hcl := clip_places _ _ (dedup l) wr hown
      have HB := Lib.hid hB
      clear hown hB
      go_wp2_with (go_at_call 108; refine hcl.mono ?_; intro e w4 hh; obtain ⟨v', hh1, hp, hh2⟩ := hh; subst hh1; obtain rfl := hh2.symm; have HP := Lib.hid hp; clear hp hcl)
      go_ret
      exact ⟨_, rfl, HP.out, HB.out⟩
/-- The places of a hash in a table. -/
def pairOf (h b : Int) : List (Int × Int) := if b = 0 then [] else [(b, bk h b), (b, oth (bk h b) (tag01 h) b)]
theorem flat_four (a b c d : Int) : flatP [(a, b), (c, d)] = [.int .i64 a, .int .i64 b, .int .i64 c, .int .i64 d] := rfl
theorem pair_no (h : Int) (w : World) : Calls Try.prog 88 #[.int .u64 h, .int .i64 0] w fun e w' => e = .returned (.slice none 0 0) ∧ w' = w := by
  have hbn := fun w => bucket_no h w
  go_enter Try.func88, Try.ntmps88
  go_wp2_with (go_at_call 109; refine (hbn _).mono ?_; rintro e w1 ⟨rfl, hw⟩; obtain rfl := hw.symm)
  go_ret
  exact ⟨rfl, rfl⟩
theorem pair_in (h b : Int) (h0 : 0 ≤ h) (h1 : h < 18446744073709551616) (hb : 1 ≤ b ∧ b ≤ 12) (w : World) : Calls Try.prog 88 #[.int .u64 h, .int .i64 b] w fun e w' => ∃ g, e = .returned (.slice (some ⟨g, 0, none⟩) 2 2) ∧ w'.heap[g]? = some (.cells #[.int .i64 b, .int .i64 (bk h b), .int .i64 b, .int .i64 (oth (bk h b) (tag01 h) b)] 44 (0, 0)) ∧ w.heap.size ≤ g ∧ Below w.heap.size w w' := by
  have hbf := fun w => bucket_fn h b h0 h1 hb w
  have htf := fun w => tag_fn h h0 h1 w
  have hkb := bk_bd h b hb
  have hof := fun w => other_fn (bk h b) (tag01 h) b hb hkb (tag01_bd h h0 h1) w
  generalize oth (bk h b) (tag01 h) b = O at *
  generalize bk h b = K at *
  generalize tag01 h = T at *
  have e1 : decide (K < 0) = false := decide_eq_false (by omega)
  have HZ := Lib.hid (heap_alloc_new w (.cells #[.int .i64 b, .int .i64 K, .int .i64 b, .int .i64 O] 44))
  have HB := Lib.hid (below_alloc w (.cells #[.int .i64 b, .int .i64 K, .int .i64 b, .int .i64 O] 44))
  clear hkb hb
  go_enter Try.func88, Try.ntmps88
  go_wp2_with (first
    | (go_at_call 109; refine (hbf _).mono ?_; rintro e w1 ⟨rfl, hw⟩; obtain rfl := hw.symm)
    | (go_at_call 111; refine (htf _).mono ?_; rintro e w1 ⟨rfl, hw⟩; obtain rfl := hw.symm)
    | (go_at_call 110; refine (hof _).mono ?_; rintro e w1 ⟨rfl, hw⟩; obtain rfl := hw.symm))
  go_ret
  exact ⟨_, rfl, HZ.out, Nat.le_refl _, HB.out⟩
/-- The places of a hash in tables. -/
def plist (h v : Int) : List (Int × Int) := dedup (pairOf h (asOld v) ++ pairOf h (asNow v))
theorem as_in12 (v : Int) : (1 ≤ asOld v ∧ asOld v ≤ 12) ∧ (asNow v = 0 ∨ (1 ≤ asNow v ∧ asNow v ≤ 12)) := by
  have key : ∀ b : Int, ¬ tsize b = 0 → 1 ≤ b ∧ b ≤ 12 := fun b h => by
    rcases (show (b < 1 ∨ 12 < b) ∨ (1 ≤ b ∧ b ≤ 12) by omega) with h1 | h1
    · exact absurd (tsize_out h1) h
    · exact h1
  refine ⟨?_, ?_⟩
  · unfold asOld; split
    · omega
    · rename_i h; exact key _ h
  · unfold asNow; split
    · exact .inl rfl
    · rename_i h; exact .inr (key _ (fun c => h (.inr c)))
theorem pairOf_in (h b : Int) (hb : 1 ≤ b ∧ b ≤ 12) : pairOf h b = [(b, bk h b), (b, oth (bk h b) (tag01 h) b)] := by unfold pairOf; rw [if_neg (by omega)]
theorem pair_own {w : World} {base g : Nat} {a b c d : Int} (hz : w.heap[g]? = some (.cells #[.int .i64 a, .int .i64 b, .int .i64 c, .int .i64 d] 44 (0, 0))) (hlo : base ≤ g) : w.ownsRow base 44 2 (.slice (some ⟨g, 0, none⟩) 2 2) 2 (flatP [(a, b), (c, d)]) :=
  ⟨rfl, .inr ⟨g, 2, _, rfl, hlo, hz, Nat.le_refl _, by unfold maxLen; omega, rfl, rfl⟩⟩
theorem pair_plc {w : World} {base g : Nat} {a b c d : Int} (h : w.ownsRow base 44 2 (.slice (some ⟨g, 0, none⟩) 2 2) 2 (flatP [(a, b), (c, d)])) : Plc w (some ⟨g, 0, none⟩) 2 [(a, b), (c, d)] := by
  obtain ⟨ao, cap, hv, hp⟩ := own_plc (l := [(a, b), (c, d)]) h
  simp only [List.length_cons, List.length_nil, Value.slice.injEq] at hv
  obtain ⟨h1, -, h2⟩ := hv
  rw [h1, h2]; exact hp
set_option maxHeartbeats 2000000 in
theorem places_any (h v : Int) (h0 : 0 ≤ h) (h1 : h < 18446744073709551616) (hv : (Lit.int .u64 v).wf = true) (w : World) : Calls Try.prog 60 #[.int .u64 h, .int .u64 v] w fun e w' => ∃ pv, e = .returned pv ∧ PlN w' w.heap.size pv (plist h v) ∧ Below w.heap.size w w' := by
  have has := fun w => as_any v hv w
  obtain ⟨hin1, hin2⟩ := as_in12 v
  have hp1 := fun w => pair_in h (asOld v) h0 h1 hin1 w
  have hpo := pairOf_in h (asOld v) hin1
  obtain ⟨i0, hi0, hz0, hz1, hz2⟩ := info_parts info_plcf
  have HI := Lib.hid hi0; have HZ0 := Lib.hid hz0; have HZ1 := Lib.hid hz1; have HZ2 := Lib.hid hz2
  clear hi0 hz0 hz1 hz2
  unfold plist
  rcases hin2 with hz | hin2
  · have hpn : pairOf h (asNow v) = [] := by unfold pairOf; rw [if_pos hz]
    have hp2 := fun w => pair_no h w
    rw [hz] at has
    rw [hpn, hpo, List.append_nil]
    generalize oth (bk h (asOld v)) (tag01 h) (asOld v) = O at *
    generalize bk h (asOld v) = K at *
    generalize asOld v = b at *
    clear hpn hpo hz hin1
    go_enter Try.func60, Try.ntmps60
    go_upto_region 2 with (go_at_call 28; refine (has _).mono ?_; rintro e w1 ⟨rfl, hw⟩; obtain rfl := hw.symm; clear has)
    go_wp2_with (first
      | (go_at_call 88; with_reducible refine (hp1 _).mono ?_; intro e w2 hh; obtain ⟨g, hh1, hz2, hlo, b2⟩ := hh; subst hh1; have B2 := Lib.hid b2; have HOWN := Lib.hid (pair_own hz2 hlo); clear b2 hz2 hlo hp1)
      | (go_at_call 88; with_reducible refine (hp2 _).mono ?_; intro e w3 hh; obtain ⟨hh1, hh2⟩ := hh; subst hh1; obtain rfl := hh2.symm; clear hp2)
      | (at_builtin; refine wpList_append_own_none rfl _ _ 86 rfl w.heap.size 44 i0 2 Try.underlying86 HI.out _ 2 _ rfl HOWN.out rfl ?_; have hpl := pair_plc HOWN.out; have honce := once_any _ _ _ _ hpl (by simp))
      | (go_at_call 87; refine honce.mono ?_; intro e w4 hh; obtain ⟨v4, hh1, hp4, b4⟩ := hh; subst hh1; have HP4 := Lib.hid hp4; have B4 := Lib.hid b4; clear hp4 b4 honce hpl))
    go_ret
    refine ⟨_, rfl, ?_, B2.out.trans (B4.out.mono B2.out.size)⟩
    rcases HP4.out with h | ⟨g, cur, e1, e2, e3⟩
    · exact .inl h
    · exact .inr ⟨g, cur, e1, Nat.le_trans B2.out.size e2, e3⟩
  · have hp2 := fun w => pair_in h (asNow v) h0 h1 hin2 w
    have hpo2 := pairOf_in h (asNow v) hin2
    rw [hpo, hpo2]
    generalize oth (bk h (asOld v)) (tag01 h) (asOld v) = O at *
    generalize bk h (asOld v) = K at *
    generalize asOld v = b at *
    generalize oth (bk h (asNow v)) (tag01 h) (asNow v) = O2 at *
    generalize bk h (asNow v) = K2 at *
    generalize asNow v = b2 at *
    clear hpo hpo2 hin1 hin2
    go_enter Try.func60, Try.ntmps60
    go_upto_region 2 with (go_at_call 28; refine (has _).mono ?_; rintro e w1 ⟨rfl, hw⟩; obtain rfl := hw.symm; clear has)
    go_wp2_with (first
      | (go_at_call 88; with_reducible refine (hp1 _).mono ?_; intro e w2 hh; obtain ⟨g, hh1, hz2, hlo, k2⟩ := hh; subst hh1; have B2 := Lib.hid k2; have HOWN := Lib.hid (pair_own hz2 hlo); clear k2 hz2 hlo hp1)
      | (go_at_call 88; with_reducible refine (hp2 _).mono ?_; intro e w3 hh; obtain ⟨g2, hh1, hz3, hlo3, k3⟩ := hh; subst hh1; have B3 := Lib.hid (B2.out.trans (k3.mono B2.out.size)); have HOWN3 := Lib.hid (own_below HOWN.out k3); have HZ3 := Lib.hid hz3; clear k3 hz3 hlo3 hp2)
      | (at_builtin; refine wpList_append_own _ rfl _ _ 86 rfl w.heap.size 44 i0 (.agg #[.int .i64 0, .int .i64 0]) 2 16 Try.underlying86 HI.out HZ0.out HZ1.out HZ2.out rfl (by decide) _ 2 _ rfl HOWN3.out ⟨g2, 0, none⟩ 2 2 (flatP [(b2, K2), (b2, O2)]) rfl rfl ?c1 ?c2 ?c3 ?c4 ?c5 ?_))
    case c1 =>
      intro j u hj
      have e := hcell HZ3.out j
      rw [show (⟨g2, 0, none⟩ : Addr).add j = ⟨g2, j, none⟩ by first | (simp [Addr.add]; done) | (simp [Addr.add]; omega)]
      rw [e]
      rcases (show j = 0 ∨ j = 1 ∨ j = 2 ∨ j = 3 ∨ 4 ≤ j by omega) with rfl | rfl | rfl | rfl | h4
      · exact hj
      · exact hj
      · exact hj
      · exact hj
      · rw [List.getElem?_eq_none (by rw [flatP_len]; simp; omega)] at hj; cases hj
    case c2 => simp [flatP, Value.oneCell']
    case c3 => unfold maxLen; omega
    case c4 => omega
    case c5 => exact B3.out.size
    intro v' w5 hown' hgrow _
    have hb5 := B3.out.grown hgrow B3.out.size (fun j hj => (HOWN3.out.lt j hj).1)
    have hl4 : flatP [(b, K), (b, O)] ++ flatP [(b2, K2), (b2, O2)] = flatP ([(b, K), (b, O)] ++ [(b2, K2), (b2, O2)]) := rfl
    rw [hl4] at hown'
    obtain ⟨ao, cap, rfl, hpl⟩ := own_plc (l := [(b, K), (b, O)] ++ [(b2, K2), (b2, O2)]) hown'
    have honce := once_any _ _ _ _ hpl (by simp)
    have HB5 := Lib.hid hb5
    clear hb5 hown' hgrow hpl hl4
    go_wp2_with (go_at_call 87; refine honce.mono ?_; intro e w4 hh; obtain ⟨v4, hh1, hp4, b4⟩ := hh; subst hh1; have HP4 := Lib.hid hp4; have B4 := Lib.hid b4; clear hp4 b4 honce)
    go_ret
    refine ⟨_, rfl, ?_, HB5.out.trans (B4.out.mono HB5.out.size)⟩
    rcases HP4.out with h | ⟨g, cur, e1, e2, e3⟩
    · exact .inl h
    · exact .inr ⟨g, cur, e1, Nat.le_trans HB5.out.size e2, e3⟩
/-! ## Places of one table, and of two. -/
theorem dedup_append (l m : List (Int × Int)) (h : ∀ p ∈ l, ∀ q ∈ m, p ≠ q) : dedup (l ++ m) = dedup l ++ dedup m := by
  have mem : ∀ (l o : List (Int × Int)) (p : Int × Int), p ∈ l.foldl (fun out p => if p ∈ out then out else out ++ [p]) o → p ∈ o ∨ p ∈ l := by
    intro l
    induction l with
    | nil => intro o p hp; exact .inl hp
    | cons q l ih =>
      intro o p hp
      rw [List.foldl_cons] at hp
      split at hp
      · rcases ih _ _ hp with h | h
        · exact .inl h
        · exact .inr (by simp [h])
      · rcases ih _ _ hp with h | h
        · rcases List.mem_append.1 h with h | h
          · exact .inl h
          · exact .inr (by simp at h; simp [h])
        · exact .inr (by simp [h])
  have key : ∀ (m a o : List (Int × Int)), (∀ p ∈ a, ∀ q ∈ m, p ≠ q) → m.foldl (fun out p => if p ∈ out then out else out ++ [p]) (a ++ o) = a ++ m.foldl (fun out p => if p ∈ out then out else out ++ [p]) o := by
    intro m
    induction m with
    | nil => intro a o _; rfl
    | cons q m ih =>
      intro a o ha
      have hqa : q ∉ a := fun c => ha q c q (by simp) rfl
      have ha2 : ∀ p ∈ a, ∀ q ∈ m, p ≠ q := fun p hp r hr => ha p hp r (by simp [hr])
      rw [List.foldl_cons, List.foldl_cons]
      by_cases hqo : q ∈ o
      · rw [if_pos (List.mem_append.2 (.inr hqo)), if_pos hqo]; exact ih a o ha2
      · rw [if_neg (fun c => by rcases List.mem_append.1 c with c | c; exact hqa c; exact hqo c), if_neg hqo, List.append_assoc]
        exact ih a (o ++ [q]) ha2
  unfold dedup
  rw [List.foldl_append]
  have := key m (l.foldl (fun out p => if p ∈ out then out else out ++ [p]) []) [] (fun p hp q hq => by
    rcases mem l [] p hp with c | c
    · cases c
    · exact h p c q hq)
  rw [List.append_nil] at this
  exact this
theorem dedup_pair (a b : Int × Int) : dedup [a, b] = if b = a then [a] else [a, b] := by
  unfold dedup
  simp only [List.foldl_cons, List.foldl_nil, List.not_mem_nil, if_false, List.nil_append, List.mem_singleton]
  split <;> simp
end Go.Proofs.Ytcihaamjklbdkaa

/-
  GrowsKeeps: the walk.
-/
namespace Go.Proofs.Ytcihaamjklbdkaa
open Go.RowKit Go.Maps
set_option linter.unusedVariables false

theorem all19 {w0 w : World} {B : WB} {V : WV} {s : CS} (h : WS w0 w B V s) (x : Int) (h0 : 0 ≤ x) (h1 : x < 18446744073709551616) : Calls Try.prog 32 #[.pointer (some ⟨B.wb, 0, none⟩), .int .u64 x] w fun e w' => ∃ pv, e = .returned pv ∧ PlN w' w.heap.size pv (plist x (s.val 2)) ∧ Below w.heap.size w w' := by
  have hp := h.peek 2 (by decide)
  have hpl := fun W => places_any x (s.val 2) h0 h1 (h.own.wf 2) W
  have c0 := h.c0
  clear h
  go_enter Try.func32, Try.ntmps32
  go_wp2_with (first
    | (go_at_call 18; refine hp.mono ?_; intro e w' hh; obtain ⟨hh1, hh2⟩ := hh; subst hh1; obtain rfl := hh2.symm; clear hp)
    | (go_at_call 60; refine (hpl _).mono ?_; intro e w2 hh; obtain ⟨v, hh1, hv, b2⟩ := hh; subst hh1; have HV := Lib.hid hv; have HB := Lib.hid b2; clear hv b2 hpl))
  go_ret
  exact ⟨_, rfl, HV.out, HB.out⟩
/-- Three lists of places: of the old table, of both, of the new one. -/
structure KL (n : Nat) (l m k : List (Int × Int)) : Prop where
  eq : m = l ++ k
  l0 : ∃ a r, l = ((n : Int), a) :: r
  k0 : ∃ a r, k = ((n : Int) + 1, a) :: r
  len : m.length ≤ 4
structure GKp (n : Nat) : Prop where
  g1 : gdead (tword n 0) = false
  o1 : asOld (tword n 0) = n
  w1 : asNow (tword n 0) = 0
  s2 : sdead (tword n (n + 1)) = false
  o2 : asOld (tword n (n + 1)) = n
  w2 : asNow (tword n (n + 1)) = n + 1
  o3 : asOld (tword (n + 1) 0) = n + 1
  w3 : asNow (tword (n + 1) 0) = 0
  f1 : (Lit.int .u64 (tword n 0)).wf = true
  f2 : (Lit.int .u64 (tword n (n + 1))).wf = true
  f3 : (Lit.int .u64 (tword (n + 1) 0)).wf = true
theorem gkp (n : Nat) (h : 1 ≤ n ∧ n < 12) : GKp n := by
  rcases (show n = 1 ∨ n = 2 ∨ n = 3 ∨ n = 4 ∨ n = 5 ∨ n = 6 ∨ n = 7 ∨ n = 8 ∨ n = 9 ∨ n = 10 ∨ n = 11 by omega) with rfl | rfl | rfl | rfl | rfl | rfl | rfl | rfl | rfl | rfl | rfl
  all_goals exact ⟨by decide, by decide, by decide, by decide, by decide, by decide, by decide, by decide, by decide, by decide, by decide⟩
theorem dedup_first (a b : Int × Int) : ∃ r, dedup [a, b] = a :: r ∧ r.length ≤ 1 := by
  rw [dedup_pair]; split
  · exact ⟨[], rfl, by simp⟩
  · exact ⟨[b], rfl, by simp⟩
theorem kl_of (x : Int) (n : Nat) (h : 1 ≤ n ∧ n < 12) : KL n (plist x (tword n 0)) (plist x (tword n (n + 1))) (plist x (tword (n + 1) 0)) := by
  have g := gkp n h
  unfold plist
  rw [g.o1, g.w1, g.o2, g.w2, g.o3, g.w3]
  have e0 : pairOf x 0 = [] := by unfold pairOf; rw [if_pos rfl]
  rw [e0, List.append_nil, List.append_nil, pairOf_in x n (by omega), pairOf_in x (n + 1) (by omega)]
  obtain ⟨r1, h1, h2⟩ := dedup_first ((n : Int), bk x n) ((n : Int), oth (bk x n) (tag01 x) n)
  obtain ⟨r3, h3, h4⟩ := dedup_first ((n : Int) + 1, bk x (n + 1)) ((n : Int) + 1, oth (bk x (n + 1)) (tag01 x) (n + 1))
  have e := dedup_append [((n : Int), bk x n), ((n : Int), oth (bk x n) (tag01 x) n)] [((n : Int) + 1, bk x (n + 1)), ((n : Int) + 1, oth (bk x (n + 1)) (tag01 x) (n + 1))] (by
    intro p hp q hq c
    have e1 : p.1 = n := by simp at hp; rcases hp with h | h <;> rw [h]
    have e2 : q.1 = n + 1 := by simp at hq; rcases hq with h | h <;> rw [h]
    rw [c] at e1; omega)
  refine ⟨e, ⟨_, _, h1⟩, ⟨_, _, h3⟩, ?_⟩
  rw [e, h1, h3]; simp; omega
theorem PlN.at {w w' : World} {base : Nat} {v : Value} {l : List (Int × Int)} (h : PlN w base v l) (hf : Fr wTy true w w') : PlN w' base v l := by
  rcases h with h | ⟨g, cur, h1, h2, h3, h4⟩
  · exact .inl h
  · exact .inr ⟨g, cur, h1, h2, hf.cells _ _ _ _ h3 rfl, h4⟩
theorem Fr.fxk {K : TypeId → Bool} {mp : Bool} {x : Nat} {a b c : World} (h : Fr K mp a b) (k : Fx K mp x b c) (hx : a.heap.size ≤ x) : Fr K mp a c :=
  ⟨Nat.le_trans h.size k.size, fun i cs T fr hi hT => k.cells i cs T fr (h.cells i cs T fr hi hT) hT (fun e => by have := (Array.getElem?_eq_some_iff.1 hi).1; omega),
    fun hm i es cl hi => k.map hm i es cl (h.map hm i es cl hi) (fun e => by have := (Array.getElem?_eq_some_iff.1 hi).1; omega)⟩
set_option maxRecDepth 100000 in
set_option maxHeartbeats 8000000 in
theorem gkeeps_any (key : ByteArray) (hks : key.size ≤ maxLen) (b : Int) (hb : (Lit.int .u8 b).wf = true) (w : World) :
    Calls Try.prog 5 #[.string key, .int .u8 b] w fun e w' => e = .returned (.bool true) ∧ Below w.heap.size w w' := by
  have hbb := u8_nn hb
  unfold maxLen at hks
  obtain ⟨b0, hb0⟩ : ∃ b0 : Int, b0 = b % 11 := ⟨_, rfl⟩
  have hb1 : 0 ≤ b0 ∧ b0 < 11 := by omega
  have q1 : b.tmod 11 = b0 := by rw [hb0]; exact Int.tmod_eq_emod_of_nonneg hbb.1
  have q2 : wrap64 b = b := IntWalk.wrap64_in _ (by omega)
  have q3 : wrap64 b0 = b0 := IntWalk.wrap64_in _ (by omega)
  obtain ⟨n, hn⟩ : ∃ n : Nat, (n : Int) = 1 + b0 := ⟨(1 + b0).toNat, by omega⟩
  have q4 : wrap64 (1 + b0) = n := by rw [hn]; exact IntWalk.wrap64_in _ (by omega)
  have HN : Hid (1 ≤ n ∧ n < 12) := by show _ ∧ _; omega
  have hwn := world12v n (by have := HN.out; omega) w
  clear hbb hb0 hb1 hb hn
  by_cases h2000 : 2000 < key.size
  · have d1 : decide ((2000 : Int) < key.size) = true := decide_eq_true (by omega)
    go_enter Try.func5, Try.ntmps5
    go_wp2_with (first
      | (go_at_call 22; refine hwn.mono ?_; intro e w1 hh; obtain ⟨B, hh1, h1⟩ := hh; subst hh1; have H1 := Lib.hid h1; clear h1 hwn)
      | (go_at_call 30; refine (lives19 _).mono ?_; intro e w13 hh; obtain ⟨hh1, b13⟩ := hh; subst hh1; have B13 := Lib.hid b13; clear b13))
    go_ret
    exact ⟨rfl, H1.out.below.trans (B13.out.mono H1.out.below.size)⟩
  have d1 : decide ((2000 : Int) < key.size) = false := decide_eq_false (by omega)
  have hh0 := fun W => hash_any key (by omega) W
  have hhb := hfold_bd key key.size
  change 0 ≤ hashOf key ∧ hashOf key < 18446744073709551616 at hhb
  have HHB := Lib.hid hhb
  clear hhb h2000 hks
  generalize hashOf key = x at *
  have hkl := kl_of x n HN.out
  have HKL := Lib.hid hkl
  have G := Lib.hid (gkp n HN.out)
  clear hkl
  go_enter Try.func5, Try.ntmps5
  go_upto_region 6 with (first
    | (go_at_call 22; refine hwn.mono ?_; intro e w1 hh; obtain ⟨B, hh1, h1⟩ := hh; subst hh1; have H1 := Lib.hid h1; clear h1 hwn)
    | (go_at_call 31; refine (hh0 _).mono ?_; intro e w2 hh; obtain ⟨hh1, b2⟩ := hh; subst hh1; have H2 := Lib.hid (H1.out.keep b2); clear b2 hh0))
  clear q1 q2 q3 q4 d1 H1
  have hv2 : (CS.init [(2, tword n 0)]).val 2 = tword n 0 := (new1 n).v2
  have hle2 : (CS.init [(2, tword n 0)]).n ≤ 1 ∧ (CS.init [(2, tword n 0)]).cnt ≤ 1 := (new1 n).le
  have hnt : (v0 ⟨n, 8, 3, 1, 16⟩).nts = [] := rfl
  generalize CS.init [(2, tword n 0)] = s2 at *
  generalize v0 ⟨n, 8, 3, 1, 16⟩ = V at *
  have ha1 := all19 H2.out x HHB.out.1 HHB.out.2
  rw [hv2] at ha1
  have hng := fun W => gnew (tword n 0) G.out.f1 W
  simp only [G.out.g1, G.out.o1, Bool.false_eq_true, if_false] at hng
  have hp2 := fun (W : World) (hW : Below w2.heap.size w2 W) => (H2.out.keep hW).peek 2 (by decide)
  rw [hv2] at hp2
  have HV2 := Lib.hid hv2; have HLE2 := Lib.hid hle2; have HNT := Lib.hid hnt; have HP2 := Lib.hid hp2
  clear hv2 hle2 hnt hp2
  go_upto_region 8 with (first
    | (go_at_call 32; (with_reducible refine ha1.mono ?_); intro e w3 hh; obtain ⟨pv, hh1, hpv, b3⟩ := hh; subst hh1; have HPV := Lib.hid hpv; have H3 := Lib.hid (H2.out.keep b3); have hp3 := HP2.out _ b3; have c0 := H3.out.c0; clear hpv b3 ha1)
    | (go_at_call 18; (with_reducible refine hp3.mono ?_); intro e w' hh; obtain ⟨hh1, hh2⟩ := hh; subst hh1; obtain rfl := hh2.symm; clear hp3)
    | (go_at_call 27; (with_reducible refine (hng _).mono ?_); intro e w4 hh; obtain ⟨g4, hh1, hG, hlo, b4⟩ := hh; subst hh1; have hrun := gruns (H3.out.keep b4) HLE2.out (by decide) (Nat.le_trans H3.out.below.size hlo) G.out.f2 (by rw [HNT.out]; decide) (by rw [HNT.out]; intro y hy; cases hy) hG; have F4 := Lib.hid (below_fr b4 wTy true); have L4 := Lib.hid hlo; clear hG hlo b4 hng c0)
    | (go_at_call 26; (with_reducible refine hrun.mono ?_); intro e w5 hh; obtain ⟨hh1, h5, f5⟩ := hh; subst hh1; have H5 := Lib.hid h5; have HPV5 := Lib.hid (HPV.out.at (F4.out.fxk f5 L4.out)); clear h5 f5 hrun))
  have hv5 : ((s2.acc 2 3 0).acc 2 2 (tword n (n + 1))).val 2 = tword n (n + 1) := CS.acc_self _ _ _
  have hle5 : ((s2.acc 2 3 0).acc 2 2 (tword n (n + 1))).n ≤ 3 ∧ ((s2.acc 2 3 0).acc 2 2 (tword n (n + 1))).cnt ≤ 3 := room_acc _ (room_acc _ HLE2.out)
  have hst5 : Nsteps (V.nts ++ ([⟨(((s2.acc 2 3 0).cnt + 1 : Nat) : Int), V.hd, 4, 0, 0, 0, 0, (n : Int) + 1⟩] : List Nte)) ((s2.acc 2 3 0).acc 2 2 (tword n (n + 1))).cnt := by
    rw [HNT.out]
    intro y hy
    simp only [List.nil_append, List.mem_singleton] at hy
    subst hy; simp only [CS.acc]; exact Int.le_refl _
  have hln5 : (V.nts ++ ([⟨(((s2.acc 2 3 0).cnt + 1 : Nat) : Int), V.hd, 4, 0, 0, 0, 0, (n : Int) + 1⟩] : List Nte)).length < 1000 := by rw [HNT.out]; simp
  obtain ⟨V5, hV5⟩ : ∃ V5 : WV, V5 = { V with nts := V.nts ++ ([⟨(((s2.acc 2 3 0).cnt + 1 : Nat) : Int), V.hd, 4, 0, 0, 0, 0, (n : Int) + 1⟩] : List Nte) } := ⟨_, rfl⟩
  have h5 := H5.out
  rw [← hV5] at h5
  have hst5b : Nsteps V5.nts ((s2.acc 2 3 0).acc 2 2 (tword n (n + 1))).cnt := by rw [hV5]; exact hst5
  have hln5b : V5.nts.length < 1000 := by rw [hV5]; exact hln5
  generalize (s2.acc 2 3 0).acc 2 2 (tword n (n + 1)) = s5 at *
  have ha2 := all19 h5 x HHB.out.1 HHB.out.2
  rw [hv5] at ha2
  have hns := fun W => snew (tword n (n + 1)) G.out.f2 W
  simp only [G.out.s2, G.out.w2, Bool.false_eq_true, if_false] at hns
  have hp5 := fun (W : World) (hW : Below w5.heap.size w5 W) => (h5.keep hW).peek 2 (by decide)
  rw [hv5] at hp5
  have HLE5 := Lib.hid hle5; have HST5 := Lib.hid hst5b; have HLN5 := Lib.hid hln5b; have HP5 := Lib.hid hp5; have H5 := Lib.hid h5
  clear hv5 hle5 hst5 hln5 hV5 h5 hst5b hln5b hp5 H2 H3 HPV F4 L4 HV2 HLE2 HNT HP2
  go_upto_region 10 with (first
    | (go_at_call 32; (with_reducible refine ha2.mono ?_); intro e w6 hh; obtain ⟨pm, hh1, hpm, b6⟩ := hh; subst hh1; have HPM := Lib.hid hpm; have HPV6 := Lib.hid (HPV5.out.below b6); have H6 := Lib.hid (H5.out.keep b6); have hp6 := HP5.out _ b6; have c0 := H6.out.c0; clear hpm b6 ha2)
    | (go_at_call 18; (with_reducible refine hp6.mono ?_); intro e w' hh; obtain ⟨hh1, hh2⟩ := hh; subst hh1; obtain rfl := hh2.symm; clear hp6)
    | (go_at_call 24; (with_reducible refine (hns _).mono ?_); intro e w7 hh; obtain ⟨g7, hh1, hG, hlo, b7⟩ := hh; subst hh1; have hrun := sruns (H6.out.keep b7) HLE5.out (by decide) (Nat.le_trans H6.out.below.size hlo) G.out.f3 HLN5.out HST5.out hG; have F7 := Lib.hid (below_fr b7 wTy true); have L7 := Lib.hid hlo; clear hG hlo b7 hns c0)
    | (go_at_call 26; (with_reducible refine hrun.mono ?_); intro e w8 hh; obtain ⟨hh1, h8, f8⟩ := hh; subst hh1; have H8 := Lib.hid h8; have HPV8 := Lib.hid (HPV6.out.at (F7.out.fxk f8 L7.out)); have HPM8 := Lib.hid (HPM.out.at (F7.out.fxk f8 L7.out)); have ha3 := all19 h8 x HHB.out.1 HHB.out.2; rw [show (s5.acc 2 2 (tword (n + 1) 0)).val 2 = tword (n + 1) 0 from CS.acc_self _ _ _] at ha3; clear h8 f8 hrun))
  clear HPV5 HPV6 HPM H5 H6 F7 L7 HP5 HLE5 HST5 HLN5
  generalize plist x (tword n 0) = L at *
  generalize plist x (tword n (n + 1)) = M at *
  generalize plist x (tword (n + 1) 0) = K at *
  obtain ⟨a1, rfl, hp1⟩ := HPV8.out.plc
  obtain ⟨a2, rfl, hp2⟩ := HPM8.out.plc
  have HQ1 := Lib.hid hp1; have HQ2 := Lib.hid hp2
  clear hp1 hp2 HPV8 HPM8
  obtain ⟨hk1, ⟨la, lr, hk2⟩, ⟨ka, kr, hk3⟩, hk4⟩ := HKL.out
  have j1 : 0 < L.length := by rw [hk2]; simp
  have j2 : 0 < K.length := by rw [hk3]; simp
  have j3 : M.length = L.length + K.length := by rw [hk1]; simp
  have j4 : ((L.length : Int) == 0) = false := beq_eq_false_iff_ne.2 (by omega)
  have j5 : ((K.length : Int) == 0) = false := beq_eq_false_iff_ne.2 (by omega)
  have j6 : wrap64 ((L.length : Int) + K.length) = M.length := by rw [show (L.length : Int) + K.length = M.length by omega]; exact IntWalk.wrap64_in _ (by omega)
  have J3 := Lib.hid j3; have J4 := Lib.hid hk4
  have HL0 : Hid (L[0]? = some ((n : Int), la)) := by show _ = _; rw [hk2]; rfl
  have HK0 : Hid (K[0]? = some ((n : Int) + 1, ka)) := by show _ = _; rw [hk3]; rfl
  have HME := Lib.hid hk1
  have J12 : Hid (0 < L.length ∧ 0 < K.length) := ⟨j1, j2⟩
  clear hk1 hk2 hk3 hk4 j3 HKL j1 j2
  go_upto_if 76 with (go_at_call 32; (with_reducible refine ha3.mono ?_); intro e w9 hh; obtain ⟨pk, hh1, hpk, b9⟩ := hh; subst hh1; have HB9 := Lib.hid (H8.out.below.trans (b9.mono H8.out.below.size)); obtain ⟨a3, rfl, hp3⟩ := hpk.plc; have HQ3 := Lib.hid hp3; have HR1 := Lib.hid (HQ1.out.below b9); have HR2 := Lib.hid (HQ2.out.below b9); clear hpk b9 ha3 hp3)
  clear HQ1 HQ2 H8 j4 j5 j6
  go_wp2_with fail
  go_loopw [11] (fun i wr => ∃ k : Nat, k ≤ M.length ∧ i = .int .i64 k ∧ Below w9.heap.size w9 wr) (fun i _ => M.length - (intOf i).toNat)
  case atStart => exact ⟨0, by omega, rfl, Below.refl _ _⟩
  case round =>
    obtain ⟨k, hk, rfl, hB⟩ := hrel
    have hml := J4.out
    by_cases hlt : k < M.length
    · have hlt' : (k : Int) < M.length := by omega
      obtain ⟨b2, o2, x2, y2, rfl, hm, m0, m1⟩ := (HR2.out.below hB).at k hlt
      have HB := Lib.hid hB
      have u0 := fun st : ExtW wr => st.cell m0
      have u1 := fun st : ExtW wr => st.cell m1
      clear m0 m1
      by_cases hkl : k < L.length
      · have hkl' : (k : Int) < L.length := by omega
        have d2 : decide ((k : Int) < L.length) = true := decide_eq_true hkl'
        have d3 : decide ((L.length : Int) ≤ k) = false := decide_eq_false (by omega)
        have d2n : decide (k < L.length) = true := decide_eq_true hkl
        have d3n : decide (L.length ≤ k) = false := decide_eq_false (by omega)
        obtain ⟨b1, o1, x1, y1, rfl, hl, l0, l1⟩ := (HR1.out.below hB).at k hkl
        have he : (x1, y1) = (x2, y2) := by
          rw [HME.out, List.getElem?_append_left hkl, hl] at hm; exact Option.some.inj hm
        simp only [Prod.mk.injEq] at he
        obtain ⟨rfl, rfl⟩ := he
        have v0 := fun st : ExtW wr => st.cell l0
        have v1 := fun st : ExtW wr => st.cell l1
        have hne : ∀ W, (binOp .neq 44 (.agg #[.int .i64 x1, .int .i64 y1]) (.agg #[.int .i64 x1, .int .i64 y1])).run Try.prog W = .ok (.bool false) W := fun W => by rw [neq_place]; simp
        clear l0 l1 hl hm hB
        go_upto_region 16 with (fail)
        refine wp_region_ext (by kernel_rfl) (by kernel_rfl) ?_
        repeat (go_big_quiet_step (fail))
        refine wpQuiet_nil ?_
        rintro W ⟨⟨W2, hW⟩, rfl⟩
        clear u0 u1 v0 v1 hne
        have HB2 := Lib.hid (HB.out.trans (hW.mono HB.out.size))
        clear hW
        go_wp2_with fail
        go_roundw
        case rel => exact ⟨k + 1, by omega, by go_num, HB2.out⟩
        case measure => simp [intOf]; omega
      · have d2 : decide ((k : Int) < L.length) = false := decide_eq_false (by omega)
        have d3 : decide ((L.length : Int) ≤ k) = true := decide_eq_true (by omega)
        have d2n : decide (k < L.length) = false := decide_eq_false (by omega)
        have d3n : decide (L.length ≤ k) = true := decide_eq_true (by omega)
        obtain ⟨j, hj⟩ : ∃ j : Nat, j = k - L.length := ⟨_, rfl⟩
        have hjk : j < K.length := by have := J3.out; omega
        have hjk' : (j : Int) < K.length := by omega
        obtain ⟨b1, o1, x1, y1, rfl, hl, l0, l1⟩ := (HQ3.out.below hB).at j hjk
        have he : (x1, y1) = (x2, y2) := by
          rw [HME.out, List.getElem?_append_right (by omega), ← hj, hl] at hm; exact Option.some.inj hm
        simp only [Prod.mk.injEq] at he
        obtain ⟨rfl, rfl⟩ := he
        rw [hj] at l0 l1
        have v0 := fun st : ExtW wr => st.cell l0
        have v1 := fun st : ExtW wr => st.cell l1
        have hle : L.length ≤ k := by omega
        have hltK : (k : Int) - L.length < K.length := by omega
        have hne : ∀ W, (binOp .neq 44 (.agg #[.int .i64 x1, .int .i64 y1]) (.agg #[.int .i64 x1, .int .i64 y1])).run Try.prog W = .ok (.bool false) W := fun W => by rw [neq_place]; simp
        clear l0 l1 hl hm hB hj
        go_upto_region 16 with (fail)
        refine wp_region_ext (by kernel_rfl) (by kernel_rfl) ?_
        repeat (go_big_quiet_step (fail))
        refine wpQuiet_nil ?_
        rintro W ⟨⟨W2, hW⟩, rfl⟩
        clear u0 u1 v0 v1 hne
        have HB2 := Lib.hid (HB.out.trans (hW.mono HB.out.size))
        clear hW
        go_wp2_with fail
        go_roundw
        case rel => exact ⟨k + 1, by omega, by go_num, HB2.out⟩
        case measure => simp [intOf]; omega
    · obtain rfl : k = M.length := by omega
      have hj1 := J12.out.1; have hj2 := J12.out.2
      have hj1' : (0 : Int) < L.length := by omega
      have hj2' : (0 : Int) < K.length := by omega
      obtain ⟨b1, o1, x1, y1, rfl, hl, l0, l1⟩ := (HR1.out.below hB).at 0 hj1
      obtain ⟨b3, o3, x3, y3, rfl, hl3, m0, m1⟩ := (HQ3.out.below hB).at 0 hj2
      have hx1 : x1 = n := by rw [HL0.out] at hl; have := Option.some.inj hl; simp only [Prod.mk.injEq] at this; exact this.1.symm
      have hx3 : x3 = (n : Int) + 1 := by rw [HK0.out] at hl3; have := Option.some.inj hl3; simp only [Prod.mk.injEq] at this; exact this.1.symm
      subst hx1
      obtain ⟨n1, hn1⟩ : ∃ n1, n1 = (n : Int) + 1 := ⟨_, rfl⟩
      have q1 : wrap64 ((n : Int) + 1) = n1 := by rw [hn1]; exact IntWalk.wrap64_in _ (by have := HN.out; omega)
      rw [hx3, ← hn1] at m0
      rw [Nat.zero_mul, Nat.add_zero] at l0 m0
      have HB := Lib.hid hB
      clear hl hl3 l1 m1 hx3 hn1 hB
      go_wp2_with (go_at_call 30; refine (lives19 _).mono ?_; intro e w13 hh; obtain ⟨hh1, b13⟩ := hh; subst hh1; have B13 := Lib.hid b13; clear b13)
      go_ret
      have h1 := HB9.out.trans (HB.out.mono HB9.out.size)
      exact ⟨rfl, h1.trans (B13.out.mono h1.size)⟩
theorem walkGrowsKeeps (key : ByteArray) (hk : key.size ≤ maxLen) (b : Int) (hb : (Lit.int .u8 b).wf = true) (w : World) : Calls Try.prog 5 #[.string key, .int .u8 b] w fun e w' => e = .returned (.bool true) ∧ Below w.heap.size w w' := gkeeps_any key hk b hb w
end Go.Proofs.Ytcihaamjklbdkaa
