/-
  Texts of this prover, merged: NotesAll, NoteAdd, WorldNote, WActs, Begin, First.
-/
import Derived.Test.YtjfocckdbaaimaaFrame
import Derived.Test.YtjfocckdbaaimaaGrown
import Derived.Test.YtjfocckdbaaimaaPairDo
import Derived.Test.YtjfocckdbaaimaaTickets
import Derived.Test.YtjfocckdbaaimaaOpen
import Derived.Test.YtjfocckdbaaimaaItems
import Derived.Test.YtjfocckdbaaimaaBegin0
import Derived.Laws.EntriesVeiled
import Derived.Deep.DeepCutAuto
import Derived.Deep.AppendLies
import Derived.Deep.CutBlock
/-
  notes.List.All: all notes, in new memory.
-/
namespace Go.Proofs.Ytjfocckdbaaimaa
open Go.RowKit
set_option linter.unusedVariables false

theorem lnotes_any {w : World} {base nb TN : Nat} {l : List Nte} (h : NL w base nb 140 TN .u8 l) : ∃ a cap, w.cell? ⟨nb, 0, none⟩ = some (.slice a l.length cap) ∧ w.ownsRow base TN 8 (.slice a l.length cap) l.length (l.flatMap (nteC .u8)) ∧ Calls Try.prog 29 #[.pointer (some ⟨nb, 0, none⟩)] w fun e w' => e = .returned (.slice a l.length cap) ∧ w' = w := by
  obtain ⟨v, h1, h2, h3⟩ := h
  obtain ⟨a, cap, rfl⟩ := own_sl2 h3
  have c0 : w.cell? ⟨nb, 0, none⟩ = some (.slice a l.length cap) := hcell h1 0
  refine ⟨a, cap, c0, h3, ?_⟩
  clear h1 h2 h3
  go_enter Try.func29, Try.ntmps29
  go_wp2
  go_ret
  exact ⟨rfl, rfl⟩
theorem since_ask {w : World} {cb : Nat} {i : Nat} (n : Nte) (hc : w.cell? ⟨cb, 0, none⟩ = some (.int .i64 0)) : Calls Try.prog 64 #[.int .i64 i, .agg (nteC .u8 n).toArray, .pointer (some ⟨cb, 0, none⟩)] w fun e w' => e = .returned (.bool true) ∧ Below w.heap.size w w' := by
  have hb := below_alloc w (.cells (nteC .u8 n).toArray 67)
  have hlt := World.block_lt_of_cell? _ _ hc
  have c0 : (w.alloc (.cells (nteC .u8 n).toArray 67)).cell? ⟨cb, 0, none⟩ = some (.int .i64 0) := by rw [World.cell?_alloc_past _ _ _ hlt]; exact hc
  have d0 : decide ((0 : Int) ≤ (i : Int)) = true := decide_eq_true (by omega)
  have HB := Lib.hid hb
  clear hb hc hlt
  go_enter Try.func64, Try.ntmps64
  go_upto_region 1 with (fail)
  change Code.wp _ _ _ _ (w.alloc (.cells (nteC .u8 n).toArray 67))
  generalize w.alloc (.cells (nteC .u8 n).toArray 67) = w1 at *
  go_wp2
  go_ret
  exact ⟨rfl, HB.out⟩
theorem info_note : (Try.prog.info? 67).map (fun i => (i.zero, i.size, i.bytes)) = some (some (.agg #[.int .i64 0, .int .i64 0, .int .u8 0, .int .i64 0, .int .i64 0, .int .i64 0, .int .i64 0, .int .i64 0]), 8, 64) := by kernel_rfl
/-- A row of notes that the call made, without room behind it. -/
def NRow (w : World) (base : Nat) (v : Value) (l : List Nte) : Prop :=
  (v = .slice none 0 0 ∧ l = []) ∨ ∃ g cur, v = .slice (some ⟨g, 0, none⟩) l.length l.length ∧ base ≤ g ∧ w.heap[g]? = some (.cells cur 67 (0, 0)) ∧ l.length ≤ maxLen ∧ cur.toList.take (l.length * 8) = l.flatMap (nteC .u8)
theorem nclip_any {w : World} {base : Nat} {v : Value} {l : List Nte} (h : w.ownsRow base 67 8 v l.length (l.flatMap (nteC .u8))) : Calls Try.prog 85 #[v] w fun e w' => ∃ v', e = .returned v' ∧ NRow w base v' l ∧ w' = w := by
  obtain ⟨h1, ⟨rfl, h0⟩ | ⟨g, cap, cur, rfl, hb, hg, hn, hm, hs, ht⟩⟩ := h
  · have : l = [] := List.length_eq_zero_iff.1 h0
    subst this
    clear h1 h0
    go_enter Try.func85, Try.ntmps85
    go_wp2
    go_ret
    exact ⟨_, rfl, .inl ⟨rfl, rfl⟩, rfl⟩
  · have hm2 := Nat.le_trans hn hm
    have H : Hid (NRow w base (.slice (some ⟨g, 0, none⟩) l.length l.length) l) := .inr ⟨g, cur, rfl, hb, hg, hm2, ht⟩
    unfold maxLen at hm hm2
    clear h1 hb hg hs ht
    go_enter Try.func85, Try.ntmps85
    go_wp2
    go_ret
    exact ⟨_, rfl, H.out, rfl⟩
theorem nte_at (l : List Nte) (k : Nat) (hk : k < l.length) (j : Nat) (hj : j < 8) : (l.flatMap (nteC .u8))[k * 8 + j]? = (nteC .u8 l[k])[j]? := by
  induction l generalizing k with
  | nil => simp at hk
  | cons x r ih =>
    rw [List.flatMap_cons]
    match k with
    | 0 =>
      rw [List.getElem?_append_left (by simp [nteC]; omega)]
      simp
    | k + 1 =>
      rw [List.getElem?_append_right (by simp [nteC]; omega)]
      have := ih k (by simp at hk; omega)
      simp only [List.getElem_cons_succ]
      rw [← this]
      congr 1
      simp [nteC]; omega
theorem row8_at {w : World} {base : Nat} {a : Option Addr} {cap : Nat} {l : List Nte} (h : w.ownsRow base 67 8 (.slice a l.length cap) l.length (l.flatMap (nteC .u8))) (k : Nat) (hk : k < l.length) :
    ∃ g, a = some ⟨g, 0, none⟩ ∧ ∀ j, j < 8 → w.cell? ⟨g, k * 8 + j, none⟩ = (nteC .u8 l[k])[j]? := by
  obtain ⟨h1, ⟨h2, h0⟩ | ⟨g, cap', cur, hv, hb, hg, hn, hm, hs, ht⟩⟩ := h
  · omega
  · simp only [Value.slice.injEq] at hv
    refine ⟨g, hv.1, fun j hj => ?_⟩
    rw [hcell hg, ← nte_at l k hk j hj, ← ht, List.getElem?_take, if_pos (by omega)]
    simp
set_option maxRecDepth 10000 in
set_option maxHeartbeats 2000000 in
theorem picked_any {w : World} {base nb cb : Nat} {l : List Nte} (h : NL w base nb 140 67 .u8 l) (hl : l.length ≤ 1048576) (hc : w.cell? ⟨cb, 0, none⟩ = some (.int .i64 0)) :
    Calls Try.prog 63 #[.pointer (some ⟨nb, 0, none⟩), .func (.func 64) #[] #[.pointer (some ⟨cb, 0, none⟩)]] w fun e w' => ∃ v, e = .returned v ∧ NRow w' w.heap.size v l ∧ Below w.heap.size w w' := by
  obtain ⟨a, cap, c0, hrow, hn⟩ := lnotes_any h
  obtain ⟨i0, hi0, hz0, hz1, hz2⟩ := info_parts info_note
  have HI := Lib.hid hi0; have HZ0 := Lib.hid hz0; have HZ1 := Lib.hid hz1; have HZ2 := Lib.hid hz2
  have HROW := Lib.hid hrow; have HC := Lib.hid hc; have HL := Lib.hid hl
  clear h hrow hc hl c0 hi0 hz0 hz1 hz2
  go_enter Try.func63, Try.ntmps63
  go_wp2_with (go_at_call 29; refine hn.mono ?_; rintro e w' ⟨rfl, hw⟩; obtain rfl := hw.symm; clear hn)
  go_loopw [5, 11] (fun v i wr => ∃ k : Nat, k ≤ l.length ∧ i = .int .i64 k ∧ wr.ownsRow w.heap.size 67 8 v k ((l.take k).flatMap (nteC .u8)) ∧ Below w.heap.size w wr) (fun _ i _ => l.length - (intOf i).toNat)
  case atStart => exact ⟨0, by omega, rfl, World.ownsRow_nil _ _ _ _, Below.refl _ _⟩
  case round =>
    obtain ⟨k, hk, rfl, hown, hbl⟩ := hrel
    have hl := HL.out
    by_cases hlt : k < l.length
    · have hlt' : (k : Int) < l.length := by omega
      obtain ⟨g, rfl, hcs⟩ := row8_at HROW.out k hlt
      obtain ⟨y, hy⟩ : ∃ y, y = l[k] := ⟨_, rfl⟩
      rw [← hy] at hcs
      have hgl : g < w.heap.size := World.block_lt_of_cell? _ _ ((hcs 0 (by omega)).trans rfl)
      have x : ∀ j, j < 8 → wr.cell? ⟨g, k * 8 + j, none⟩ = (nteC .u8 y)[j]? := fun j hj => (hbl.cell (p := ⟨g, k * 8 + j, none⟩) hgl).trans (hcs j hj)
      have x0 : wr.cell? ⟨g, k * 8, none⟩ = some (.int .i64 y.step) := x 0 (by omega)
      have x1 : wr.cell? ⟨g, k * 8 + 1, none⟩ = some (.int .i64 y.thread) := x 1 (by omega)
      have x2 : wr.cell? ⟨g, k * 8 + 2, none⟩ = some (.int .u8 y.kind) := x 2 (by omega)
      have x3 : wr.cell? ⟨g, k * 8 + 3, none⟩ = some (.int .i64 y.ref) := x 3 (by omega)
      have x4 : wr.cell? ⟨g, k * 8 + 4, none⟩ = some (.int .i64 y.bits) := x 4 (by omega)
      have x5 : wr.cell? ⟨g, k * 8 + 5, none⟩ = some (.int .i64 y.bucket) := x 5 (by omega)
      have x6 : wr.cell? ⟨g, k * 8 + 6, none⟩ = some (.int .i64 y.slot) := x 6 (by omega)
      have x7 : wr.cell? ⟨g, k * 8 + 7, none⟩ = some (.int .i64 y.value) := x 7 (by omega)
      have HOWN := Lib.hid hown; have HBL := Lib.hid hbl; have HY := Lib.hid hy
      clear hown hbl hcs x hy
      go_upto_region 5 with (fail)
      clear x0 x1 x2 x3 x4 x5 x6 x7
      have hb1 := below_alloc wr (.cells #[.int .i64 y.step, .int .i64 y.thread, .int .u8 y.kind, .int .i64 y.ref, .int .i64 y.bits, .int .i64 y.bucket, .int .i64 y.slot, .int .i64 y.value] 67)
      have hz1 := heap_alloc_new wr (.cells #[.int .i64 y.step, .int .i64 y.thread, .int .u8 y.kind, .int .i64 y.ref, .int .i64 y.bits, .int .i64 y.bucket, .int .i64 y.slot, .int .i64 y.value] 67)
      change Code.wp _ _ _ _ (wr.alloc (.cells #[.int .i64 y.step, .int .i64 y.thread, .int .u8 y.kind, .int .i64 y.ref, .int .i64 y.bits, .int .i64 y.bucket, .int .i64 y.slot, .int .i64 y.value] 67))
      generalize wr.alloc (.cells #[.int .i64 y.step, .int .i64 y.thread, .int .u8 y.kind, .int .i64 y.ref, .int .i64 y.bits, .int .i64 y.bucket, .int .i64 y.slot, .int .i64 y.value] 67) = w7 at *
      have hle := HBL.out.size
      have HR0 := Lib.hid (own_fr HOWN.out (below_fr hb1 (fun _ => false) false) rfl)
      generalize wr.heap.size = nq at *
      have x0 := hcell hz1 0; have x1 := hcell hz1 1; have x2 := hcell hz1 2; have x3 := hcell hz1 3
      have x4 := hcell hz1 4; have x5 := hcell hz1 5; have x6 := hcell hz1 6; have x7 := hcell hz1 7
      have hc7 : w7.cell? ⟨cb, 0, none⟩ = some (.int .i64 0) := by
        have hB : Below w.heap.size w w7 := HBL.out.trans (hb1.mono hle)
        exact (hB.cell (p := ⟨cb, 0, none⟩) (World.block_lt_of_cell? _ _ HC.out)).trans HC.out
      have hask := since_ask (i := k) y hc7
      have HB1 : Hid (Below w.heap.size w w7) := HBL.out.trans (hb1.mono hle)
      have HZ := Lib.hid hz1
      clear hb1 hz1 hc7
      go_upto_region 6 with (go_at_call 64; refine hask.mono ?_; intro e w8 hh; obtain ⟨hh1, b8⟩ := hh; subst hh1; have HB8 : Hid (Below w.heap.size w w8) := HB1.out.trans (b8.mono HB1.out.size); have hr8 := own_fr HR0.out (below_fr b8 (fun _ => false) false) rfl; have hz8 := (b8.block _ (Array.getElem?_eq_some_iff.1 HZ.out).1).trans HZ.out; clear b8 hask)
      clear x0 x1 x2 x3 x4 x5 x6 x7
      have x0 := hcell hz8 0; have x1 := hcell hz8 1; have x2 := hcell hz8 2; have x3 := hcell hz8 3
      have x4 := hcell hz8 4; have x5 := hcell hz8 5; have x6 := hcell hz8 6; have x7 := hcell hz8 7
      have HR8 := Lib.hid hr8
      clear hz8 hr8
      go_wp2_with (at_builtin; refine wpList_append_own _ rfl _ _ 64 rfl w.heap.size 67 i0 (.agg #[.int .i64 0, .int .i64 0, .int .u8 0, .int .i64 0, .int .i64 0, .int .i64 0, .int .i64 0, .int .i64 0]) 8 64 Try.underlying64 HI.out HZ0.out HZ1.out HZ2.out rfl (by decide) _ _ _ rfl (HR8.out.alloc _) ⟨w8.heap.size, 0, none⟩ 1 1 (nteC .u8 y) rfl rfl ?c1 ?c2 ?c3 ?c4 ?c5 ?_)
      case c1 => exact World.news_of_block (heap_alloc_new w8 _)
      case c2 => simp [Value.oneCell', nteC]
      case c3 => unfold maxLen; omega
      case c4 => omega
      case c5 => have := HB8.out.size; simp; omega
      intro v' w11 hown' hgrow _
      have hb10 := below_alloc w8 (.cells #[.int .i64 y.step, .int .i64 y.thread, .int .u8 y.kind, .int .i64 y.ref, .int .i64 y.bits, .int .i64 y.bucket, .int .i64 y.slot, .int .i64 y.value] 67)
      have hB11 : Below w.heap.size w w11 := grown_below (HR8.out.alloc _) hgrow (HB8.out.trans (hb10.mono HB8.out.size)) (Nat.le_trans HB8.out.size hb10.size) (Nat.le_refl _)
      have e1 : (l.take (k + 1)).flatMap (nteC .u8) = (l.take k).flatMap (nteC .u8) ++ nteC .u8 y := by
        rw [List.take_add_one, List.getElem?_eq_getElem hlt, List.flatMap_append, ← show y = l[k] from HY.out]; simp
      rw [← e1] at hown'
      have HOW := Lib.hid hown'; have HBW := Lib.hid hB11
      clear hown' hB11 hgrow hb10 e1 x0 x1 x2 x3 x4 x5 x6 x7
      go_wp2_with fail
      go_roundw
      case rel => exact ⟨k + 1, by omega, by go_num, HOW.out, HBW.out⟩
      case measure => simp [intOf]; omega
    · obtain rfl : k = l.length := by omega
      rw [List.take_length] at hown
      have hcl := nclip_any hown
      have HBL := Lib.hid hbl
      clear hown hbl
      go_wp2_with (go_at_call 85; refine hcl.mono ?_; intro e w9 hh; obtain ⟨v', hh1, hr, hw⟩ := hh; subst hh1; obtain rfl := hw.symm; have HR := Lib.hid hr; clear hr hcl)
      go_ret
      exact ⟨_, rfl, HR.out, HBL.out⟩
theorem lsince_any {w : World} {base nb : Nat} {l : List Nte} (h : NL w base nb 140 67 .u8 l) (hl : l.length ≤ 1048576) :
    Calls Try.prog 36 #[.pointer (some ⟨nb, 0, none⟩), .int .i64 0] w fun e w' => ∃ v, e = .returned v ∧ NRow w' w.heap.size v l ∧ Below w.heap.size w w' := by
  have hb := below_alloc w (.cells #[.int .i64 0] 3)
  have hz := heap_alloc_new w (.cells #[.int .i64 0] 3)
  have hp := picked_any (cb := w.heap.size) (h.fr (below_fr hb (fun _ => false) false) rfl rfl) hl (hcell hz 0)
  have HB := Lib.hid hb
  clear h hz hb
  go_enter Try.func36, Try.ntmps36
  go_wp2_with (go_at_call 63; refine hp.mono ?_; intro e w2 hh; obtain ⟨v, hh1, hr, b2⟩ := hh; subst hh1; have HR := Lib.hid hr; have B2 := Lib.hid b2; clear hr b2 hp)
  go_ret
  refine ⟨_, rfl, ?_, HB.out.trans (B2.out.mono HB.out.size)⟩
  rcases HR.out with h | ⟨g, cur, h1, h2, h3⟩
  · exact .inl h
  · exact .inr ⟨g, cur, h1, Nat.le_trans HB.out.size h2, h3⟩
theorem lall_any {w : World} {base nb : Nat} {l : List Nte} (h : NL w base nb 140 67 .u8 l) (hl : l.length ≤ 1048576) :
    Calls Try.prog 13 #[.pointer (some ⟨nb, 0, none⟩)] w fun e w' => ∃ v, e = .returned v ∧ NRow w' w.heap.size v l ∧ Below w.heap.size w w' := by
  have hp := lsince_any h hl
  clear h
  go_enter Try.func13, Try.ntmps13
  go_wp2_with (go_at_call 36; refine hp.mono ?_; intro e w2 hh; obtain ⟨v, hh1, hr, b2⟩ := hh; subst hh1; have HR := Lib.hid hr; have B2 := Lib.hid b2; clear hr b2 hp)
  go_ret
  exact ⟨_, rfl, HR.out, B2.out⟩
theorem NRow.at {w : World} {base : Nat} {v : Value} {l : List Nte} (h : NRow w base v l) (k : Nat) (hk : k < l.length) : ∃ g, v = .slice (some ⟨g, 0, none⟩) l.length l.length ∧ ∀ j, j < 8 → w.cell? ⟨g, k * 8 + j, none⟩ = (nteC .u8 l[k])[j]? := by
  rcases h with ⟨-, h0⟩ | ⟨g, cur, hv, hb, hg, hm, ht⟩
  · subst h0; simp at hk
  · refine ⟨g, hv, fun j hj => ?_⟩
    rw [hcell hg, ← nte_at l k hk j hj, ← ht, List.getElem?_take, if_pos (by omega)]
    simp
end Go.Proofs.Ytjfocckdbaaimaa

/-
  notes.List.Add, and a world's note.
-/
namespace Go.Proofs.Ytjfocckdbaaimaa
open Go.RowKit
set_option linter.unusedVariables false

theorem lcount_any {w : World} {base nb TN : Nat} {l : List Nte} (h : NL w base nb 140 TN .u8 l) : Calls Try.prog 8 #[.pointer (some ⟨nb, 0, none⟩)] w fun e w' => e = .returned (.int .i64 l.length) ∧ w' = w := by
  obtain ⟨a, cap, -, -, hn⟩ := lnotes_any h
  clear h
  go_enter Try.func8, Try.ntmps8
  go_wp2_with (go_at_call 29; refine hn.mono ?_; rintro e w' ⟨rfl, rfl⟩)
  go_ret
  exact ⟨rfl, rfl⟩
/-- Behind an Add: a note of a kind that is one. -/
def nadd (l : List Nte) (n : Nte) : List Nte := if 1 ≤ n.kind ∧ n.kind ≤ 9 then l ++ [n] else l
def nTy (T : TypeId) : Bool := T == 140 || T == 67
theorem nTy_l (T : TypeId) (h : nTy T = false) : (T == 140) = false := by unfold nTy at h; simp only [Bool.or_eq_false_iff] at h; exact h.1
theorem nTy_n (T : TypeId) (h : nTy T = false) : (T == 67) = false := by unfold nTy at h; simp only [Bool.or_eq_false_iff] at h; exact h.2
set_option maxRecDepth 10000 in
set_option maxHeartbeats 2000000 in
theorem ladd_no {w : World} {base nb : Nat} {l : List Nte} {n : Nte} (h : NL w base nb 140 67 .u8 l) (hk : n.kind = 0 ∨ 9 < n.kind) :
    Calls Try.prog 35 #[.pointer (some ⟨nb, 0, none⟩), .agg (nteC .u8 n).toArray] w fun e w' => (∃ k, e = .returned (.int .i64 k)) ∧ Below w.heap.size w w' := by
  have hb := below_alloc w (.cells (nteC .u8 n).toArray 67)
  have hz := heap_alloc_new w (.cells (nteC .u8 n).toArray 67)
  have h1 := h.fr (below_fr hb (fun _ => false) false) rfl rfl
  have hcn := lcount_any h1
  have HB := Lib.hid hb; have HZ := Lib.hid hz; have HK := Lib.hid hk
  clear h hb hz h1 hk
  go_enter Try.func35, Try.ntmps35
  go_upto_region 1 with (fail)
  change Code.wp _ _ _ _ (w.alloc (.cells (nteC .u8 n).toArray 67))
  generalize w.alloc (.cells (nteC .u8 n).toArray 67) = w1 at *
  go_upto_region 4 with (go_at_call 8; refine hcn.mono ?_; rintro e w2 ⟨rfl, hw⟩; obtain rfl := hw.symm; clear hcn)
  have x2 : ∀ st : ExtW w1, st.val.cell? ⟨w.heap.size, 2, none⟩ = some (.int .u8 n.kind) := fun st => st.cell (hcell HZ.out 2)
  rcases HK.out with hk | hk
  · have d1 : (n.kind == 0) = true := beq_iff_eq.2 hk
    refine wp_region_ext (by kernel_rfl) (by kernel_rfl) ?_
    repeat (go_big_quiet_step (fail))
    refine wpQuiet_nil ?_
    rintro W ⟨⟨W2, hW⟩, rfl⟩
    have HW := Lib.hid hW
    clear x2 hW
    go_wp2
    go_ret
    exact ⟨⟨_, rfl⟩, HB.out.trans (HW.out.mono HB.out.size)⟩
  · have d1 : (n.kind == 0) = false := beq_eq_false_iff_ne.2 (by omega)
    have d2 : decide (9 < n.kind) = true := decide_eq_true hk
    refine wp_region_ext (by kernel_rfl) (by kernel_rfl) ?_
    repeat (go_big_quiet_step (fail))
    refine wpQuiet_nil ?_
    rintro W ⟨⟨W2, hW⟩, rfl⟩
    have HW := Lib.hid hW
    clear x2 hW
    go_wp2
    go_ret
    exact ⟨⟨_, rfl⟩, HB.out.trans (HW.out.mono HB.out.size)⟩
set_option maxRecDepth 10000 in
set_option maxHeartbeats 4000000 in
theorem ladd_ok {w0 w : World} {base nb : Nat} {l : List Nte} {n : Nte} (h : NL w base nb 140 67 .u8 l) (hB : Below base w0 w) (hsz : base ≤ w.heap.size) (hl : l.length < 1048576) (hk : 1 ≤ n.kind ∧ n.kind ≤ 9) (hs : ∀ y, l.getLast? = some y → y.step ≤ n.step) :
    Calls Try.prog 35 #[.pointer (some ⟨nb, 0, none⟩), .agg (nteC .u8 n).toArray] w fun e w' => (∃ k, e = .returned (.int .i64 k)) ∧ NL w' base nb 140 67 .u8 (l ++ [n]) ∧ Fr nTy false w w' ∧ Below base w0 w' := by
  obtain ⟨i0, hi0, hz0, hz1, hz2⟩ := info_parts info_note
  have HI := Lib.hid hi0; have HZ0 := Lib.hid hz0; have HZ1 := Lib.hid hz1; have HZ2 := Lib.hid hz2
  have hb := below_alloc w (.cells (nteC .u8 n).toArray 67)
  have hz := heap_alloc_new w (.cells (nteC .u8 n).toArray 67)
  have h1 := h.fr (below_fr hb (fun _ => false) false) rfl rfl
  have hcn := lcount_any h1
  have HBB : Hid (Below base w0 (w.alloc (.cells (nteC .u8 n).toArray 67))) := hB.trans (hb.mono hsz)
  have HSZ : Hid (base ≤ (w.alloc (.cells (nteC .u8 n).toArray 67)).heap.size) := Nat.le_trans hsz hb.size
  have HB := Lib.hid hb; have H1 := Lib.hid h1; have HZ := Lib.hid hz; have HL := Lib.hid hl; have HK := Lib.hid hk; have HS := Lib.hid hs
  clear h hb hz h1 hl hk hs hi0 hz0 hz1 hz2 hB hsz
  go_enter Try.func35, Try.ntmps35
  go_upto_region 1 with (fail)
  change Code.wp _ _ _ _ (w.alloc (.cells (nteC .u8 n).toArray 67))
  generalize w.alloc (.cells (nteC .u8 n).toArray 67) = w1 at *
  go_upto_region 4 with (go_at_call 8; refine hcn.mono ?_; rintro e w2 ⟨rfl, hw⟩; obtain rfl := hw.symm; clear hcn)
  have HFC0 : Hid (Fr nTy false w w1) := below_fr HB.out _ _
  clear HB
  generalize w.heap.size = nq at *
  go_cut [11] (fun v wx => v = .bool false ∧ Below w1.heap.size w1 wx)
  case first =>
    obtain ⟨a, cap, c0, hrow, -⟩ := lnotes_any H1.out
    have hk := HK.out
    have d1 : (n.kind == 0) = false := beq_eq_false_iff_ne.2 (by omega)
    have d2 : decide (9 < n.kind) = false := decide_eq_false (by omega)
    have hl := HL.out
    have x0 : ∀ st : ExtW w1, st.val.cell? ⟨nq, 0, none⟩ = some (.int .i64 n.step) := fun st => st.cell (hcell HZ.out 0)
    have x2 : ∀ st : ExtW w1, st.val.cell? ⟨nq, 2, none⟩ = some (.int .u8 n.kind) := fun st => st.cell (hcell HZ.out 2)
    have y0 : ∀ st : ExtW w1, st.val.cell? ⟨nb, 0, none⟩ = some (.slice a l.length cap) := fun st => st.cell c0
    by_cases h0 : l.length = 0
    · have e0 : decide ((0 : Int) < l.length) = false := decide_eq_false (by omega)
      have e0n : decide (0 < l.length) = false := decide_eq_false (by omega)
      clear hrow c0 hk hl h0
      refine wp_region_ext (by kernel_rfl) (by kernel_rfl) ?_
      repeat (go_big_quiet_step (fail))
      refine wpQuiet_nil ?_
      rintro W ⟨⟨W2, hW⟩, rfl⟩
      clear x0 x2 y0
      have HW := Lib.hid hW
      go_wp2_with fail
      go_meet
      case rel => exact ⟨rfl, HW.out⟩
    · obtain ⟨k, hk1⟩ : ∃ k, l.length = k + 1 := ⟨l.length - 1, by omega⟩
      have hkl : k < l.length := by omega
      obtain ⟨g, rfl, hcs⟩ := row8_at hrow k hkl
      have hst : (l[k]).step ≤ n.step := HS.out _ (by rw [List.getLast?_eq_getElem?, show l.length - 1 = k by omega]; exact List.getElem?_eq_getElem hkl)
      have y1 : ∀ st : ExtW w1, st.val.cell? ⟨g, k * 8, none⟩ = some (.int .i64 (l[k]).step) := fun st => st.cell (hcs 0 (by omega))
      generalize (l[k]).step = ys at *
      clear hrow c0 hk hcs hkl h0
      generalize l.length = L at *
      subst hk1
      have e0 : decide ((0 : Int) < ((k + 1 : Nat) : Int)) = true := decide_eq_true (by omega)
      have e0n : decide (0 < k + 1) = true := decide_eq_true (by omega)
      have d3 : decide (n.step < ys) = false := decide_eq_false (by omega)
      clear hst
      refine wp_region_ext (by kernel_rfl) (by kernel_rfl) ?_
      repeat (go_big_quiet_step (fail))
      refine wpQuiet_nil ?_
      rintro W ⟨⟨W2, hW⟩, rfl⟩
      clear x0 x2 y0 y1
      have HW := Lib.hid hW
      go_wp2_with fail
      go_meet
      case rel => exact ⟨rfl, HW.out⟩
  case rest =>
  obtain ⟨hcv, hbx⟩ := hcut
  subst hcv
  have hnl := H1.out.fr (below_fr hbx (fun _ => false) false) rfl rfl
  have hnq := (hbx.block _ (Array.getElem?_eq_some_iff.1 HZ.out).1).trans HZ.out
  obtain ⟨v, hl1, hl2, hl3⟩ := hnl
  obtain ⟨ao, cap, rfl⟩ := own_sl2 hl3
  have hqlt := (Array.getElem?_eq_some_iff.1 hl1).1
  have hnlt := (Array.getElem?_eq_some_iff.1 hnq).1
  have l0 := hcell hl1 0
  have lf := hfrz hl1 0
  have l0' : ∀ o, (wc.alloc o).cell? ⟨nb, 0, none⟩ = some (.slice ao l.length cap) := fun o => by rw [World.cell?_alloc_past _ _ _ hqlt]; exact l0
  have lf' : ∀ o, (wc.alloc o).frozen? ⟨nb, 0, none⟩ = false := fun o => by rw [World.frozen?_alloc_past _ _ _ hqlt]; exact lf
  have hl := HL.out
  have dm : decide ((1048576 : Int) ≤ l.length) = false := decide_eq_false (by omega)
  have k0 : wc.cell? ⟨nq, 0, none⟩ = some (.int .i64 n.step) := hcell hnq 0
  have k1 : wc.cell? ⟨nq, 1, none⟩ = some (.int .i64 n.thread) := hcell hnq 1
  have k2 : wc.cell? ⟨nq, 2, none⟩ = some (.int .u8 n.kind) := hcell hnq 2
  have k3 : wc.cell? ⟨nq, 3, none⟩ = some (.int .i64 n.ref) := hcell hnq 3
  have k4 : wc.cell? ⟨nq, 4, none⟩ = some (.int .i64 n.bits) := hcell hnq 4
  have k5 : wc.cell? ⟨nq, 5, none⟩ = some (.int .i64 n.bucket) := hcell hnq 5
  have k6 : wc.cell? ⟨nq, 6, none⟩ = some (.int .i64 n.slot) := hcell hnq 6
  have k7 : wc.cell? ⟨nq, 7, none⟩ = some (.int .i64 n.value) := hcell hnq 7
  have E2 : Hid (l.length + 1 ≤ maxLen) := by unfold maxLen; show l.length + 1 ≤ _; omega
  have E3 : Hid ((l.length + 1) * 64 ≤ 140737488355328) := by show (l.length + 1) * 64 ≤ 140737488355328; omega
  have E4 : Hid (base ≤ wc.heap.size) := Nat.le_trans HSZ.out hbx.size
  have HNW : Hid (((wc.drew).alloc (.cells #[.int .i64 n.step, .int .i64 n.thread, .int .u8 n.kind, .int .i64 n.ref, .int .i64 n.bits, .int .i64 n.bucket, .int .i64 n.slot, .int .i64 n.value] 67)).heap[wc.heap.size]? = some (.cells #[.int .i64 n.step, .int .i64 n.thread, .int .u8 n.kind, .int .i64 n.ref, .int .i64 n.bits, .int .i64 n.bucket, .int .i64 n.slot, .int .i64 n.value] 67 (0, 0))) := heap_alloc_new (wc.drew) _
  have HW0 : Hid (Below wc.heap.size wc ((wc.drew).alloc (.cells #[.int .i64 n.step, .int .i64 n.thread, .int .u8 n.kind, .int .i64 n.ref, .int .i64 n.bits, .int .i64 n.bucket, .int .i64 n.slot, .int .i64 n.value] 67))) := ((Below.refl _ _).drew).alloc (Nat.le_refl _) _
  have HBC : Hid (Below base w0 wc) := HBB.out.trans (hbx.mono HSZ.out)
  have HFC : Hid (Fr nTy false w wc) := HFC0.out.trans (below_fr hbx _ _)
  have HL1 := Lib.hid hl1; have HL3 := Lib.hid hl3; have HLO := Lib.hid hl2
  clear hl1 hl3 hl2 hnq hbx H1 HS HK
  go_upto_region 8 with (fail)
  clear dm hl
  go_region_law ((refine step_append_lies _ (by rfl) _ _ _ (by rfl) base 67 i0 _ 8 64 Try.underlying64 HI.out HZ0.out HZ1.out HZ2.out rfl (by decide) (.slice ao l.length cap) l.length (l.flatMap (nteC .u8)) (by rfl) ((HL3.out.drew).alloc _) ⟨wc.heap.size, 0, none⟩ 1 1 (nteC .u8 n) (by rfl) (by rfl) (World.news_of_block (cs := #[.int .i64 n.step, .int .i64 n.thread, .int .u8 n.kind, .int .i64 n.ref, .int .i64 n.bits, .int .i64 n.bucket, .int .i64 n.slot, .int .i64 n.value]) (t := 67) (fr := (0, 0)) HNW.out) (by simp [Value.oneCell', nteC]) (by omega) E2.out E3.out (by have := E4.out; simp; omega) (wc.heap.size + 1) (by simp) ?_; intro g cap1 w4 hown1 hgrow hat hlt; have HOW := Lib.hid hown1; have HGR := Lib.hid hgrow; have hq4 : w4.heap[nb]? = some (.cells #[.slice ao l.length cap] 140 (0, 0)) := (grown_ty ((HL3.out.drew).alloc _) hgrow).cells _ _ _ _ ((HW0.out.block _ (Array.getElem?_eq_some_iff.1 HL1.out).1).trans HL1.out) rfl; have t0 := hcell hq4 0; have t1 := hfrz hq4 0; have HQ4 := Lib.hid hq4; clear hown1 hgrow hat hlt hq4))
  all_goals
    have hB4 : Below base w0 w4 := grown_below ((HL3.out.drew).alloc _) HGR.out (HBC.out.trans (HW0.out.mono E4.out)) (Nat.le_trans E4.out HW0.out.size) (Nat.le_refl _)
    have f4 : Fr nTy false wc w4 := (below_fr HW0.out _ _).trans ((grown_ty ((HL3.out.drew).alloc _) HGR.out).mono nTy_n id)
    have f5 := set_ty HQ4.out 0 (.slice (some ⟨g, 0, none⟩) (l.length + 1) cap1)
    have hB5 := set_below hB4 (Nat.le_trans E4.out f4.size) HLO.out 0 (.slice (some ⟨g, 0, none⟩) (l.length + 1) cap1)
    have hq5 := setCell_same HQ4.out 0 (.slice (some ⟨g, 0, none⟩) (l.length + 1) cap1)
    have h1 := own_fr HOW.out f5 rfl
    have FIN : Hid (NL (w4.setCell ⟨nb, 0, none⟩ (.slice (some ⟨g, 0, none⟩) (l.length + 1) cap1)) base nb 140 67 .u8 (l ++ [n]) ∧ Fr nTy false w (w4.setCell ⟨nb, 0, none⟩ (.slice (some ⟨g, 0, none⟩) (l.length + 1) cap1)) ∧ Below base w0 (w4.setCell ⟨nb, 0, none⟩ (.slice (some ⟨g, 0, none⟩) (l.length + 1) cap1))) := by
      refine ⟨⟨_, hq5, HLO.out, ?_⟩, (HFC.out.trans f4).trans (f5.mono nTy_l id), hB5⟩
      rw [List.length_append, List.flatMap_append]
      simpa using h1
    clear hB4 f4 f5 hB5 hq5 h1 HQ4 HGR HOW t0 t1 l0 l0' lf lf' k0 k1 k2 k3 k4 k5 k6 k7
    generalize w4.setCell ⟨nb, 0, none⟩ (.slice (some ⟨g, 0, none⟩) (l.length + 1) cap1) = w5 at *
    go_wp2_with fail
    go_ret
    exact ⟨⟨_, rfl⟩, FIN.out⟩
end Go.Proofs.Ytjfocckdbaaimaa

/-
  A world's note.
-/
namespace Go.Proofs.Ytjfocckdbaaimaa
open Go.RowKit Go.Maps
set_option linter.unusedVariables false

theorem u8_nn {k : Int} (h : (Lit.int .u8 k).wf = true) : 0 ≤ k ∧ k < 256 := by
  have hmin : IntKind.u8.min = 0 := rfl
  have hmax : IntKind.u8.max = 255 := rfl
  simp only [Lit.wf, Bool.and_eq_true, decide_eq_true_eq] at h; omega
theorem nTy_w (T : TypeId) (h : wTy T = false) : nTy T = false := by
  unfold wTy at h
  simp only [Bool.or_eq_false_iff] at h
  unfold nTy
  rw [h.1.2, h.2]; rfl
section
variable {w0 w w' : World} {B : WB} {V : WV} {s : CS}
theorem WS.noted (h : WS w0 w B V s) {l : List Nte} (hn : NL w' w0.heap.size B.nb 140 67 .u8 l) (hf : Fr nTy false w w') (hB : Below w0.heap.size w0 w') : WS w0 w' B { V with nts := l } s := by
  obtain ⟨S, ha⟩ := h.ar
  exact ⟨h.own.fr hf hB rfl rfl, hf.cells _ _ _ _ h.blk rfl, h.lo, ⟨S, ha.fr hf rfl rfl rfl⟩, hn, h.tkl⟩
theorem WS.hd5 (h : WS w0 w B V s) : w.cell? ⟨B.wb, 0, none⟩ = some (.pointer (some ⟨B.cb, 0, none⟩)) ∧ w.cell? ⟨B.wb, 1, none⟩ = some (.pointer (some ⟨B.ib, 0, none⟩)) ∧ w.cell? ⟨B.wb, 2, none⟩ = some (.pointer (some ⟨B.nb, 0, none⟩)) ∧ w.cell? ⟨B.wb, 72, none⟩ = some (.int .i64 V.hd) :=
  ⟨h.c0, (h.cell 1).trans (val_at B V h.tkl).2.1, (h.cell 2).trans (val_at B V h.tkl).2.2.1, (h.cell 72).trans (val_at B V h.tkl).2.2.2.2.2⟩
theorem WS.last5 (h : WS w0 w B V s) : Calls Try.prog 19 #[.pointer (some ⟨B.cb, 0, none⟩)] w fun e w' => e = .returned (.agg #[.int .u8 s.kind, .int .u64 s.addr, .int .u64 s.was, .int .u64 s.is]) ∧ Below w.heap.size w w' := by
  obtain ⟨⟨S, hS⟩, hB⟩ := h.own
  exact last_any w _ B.cb s S hS
theorem WS.iat5 (h : WS w0 w B V s) (hl : V.its.length ≤ 1048576) (r : Int) : Calls Try.prog 11 #[.pointer (some ⟨B.ib, 0, none⟩), .int .i64 r] w fun e w' => e = .returned (.tuple #[.agg #[.string ((atOf V.its r).1).key, .string ((atOf V.its r).1).val, .int .u32 ((atOf V.its r).1).flags, .int .u64 ((atOf V.its r).1).id, .int .i64 ((atOf V.its r).1).dies, .int .i64 ((atOf V.its r).1).gen], .bool (atOf V.its r).2]) ∧ Below w.heap.size w w' := by
  obtain ⟨S, hS⟩ := h.ar
  exact iat_any _ _ _ S r w hS hl
theorem WS.steps5 (h : WS w0 w B V s) : Calls Try.prog 7 #[.pointer (some ⟨B.wb, 0, none⟩)] w fun e w' => e = .returned (.int .i64 s.cnt) ∧ w' = w := steps_any h.wld
/-- Do the notes' steps rise up to what was done? -/
def Nsteps (l : List Nte) (c : Int) : Prop := ∀ y ∈ l, y.step ≤ c
theorem Nsteps.le {l : List Nte} {c d : Int} (h : Nsteps l c) (hc : c ≤ d) : Nsteps l d := fun y hy => Int.le_trans (h y hy) hc
theorem Nsteps.add {l : List Nte} {c : Int} {n : Nte} (h : Nsteps l c) (hn : n.step = c) : Nsteps (nadd l n) c := by
  unfold nadd
  split
  · intro y hy
    rcases List.mem_append.1 hy with h1 | h1
    · exact h y h1
    · simp only [List.mem_singleton] at h1; subst h1; rw [hn]; exact Int.le_refl _
  · exact h
theorem nadd_len (l : List Nte) (n : Nte) : (nadd l n).length ≤ l.length + 1 := by unfold nadd; split <;> simp
theorem wladd (h : WS w0 w B V s) (n : Nte) (hl : V.nts.length < 1048576) (hkb : 0 ≤ n.kind) (hs : Nsteps V.nts n.step) :
    Calls Try.prog 35 #[.pointer (some ⟨B.nb, 0, none⟩), .agg (nteC .u8 n).toArray] w fun e w' => (∃ k, e = .returned (.int .i64 k)) ∧ WS w0 w' B { V with nts := nadd V.nts n } s ∧ Fr nTy false w w' := by
  by_cases hk : 1 ≤ n.kind ∧ n.kind ≤ 9
  · refine (ladd_ok h.nt h.below h.below.size hl hk (fun y hy => hs y (List.mem_of_getLast? hy))).mono fun e w' ⟨h1, h2, h3, h4⟩ => ⟨h1, ?_, h3⟩
    have : nadd V.nts n = V.nts ++ [n] := by unfold nadd; rw [if_pos hk]
    rw [this]
    exact h.noted h2 h3 h4
  · refine (ladd_no h.nt (by omega)).mono fun e w' ⟨h1, h2⟩ => ⟨h1, ?_, below_fr h2 _ _⟩
    have : nadd V.nts n = V.nts := by unfold nadd; rw [if_neg hk]
    rw [this]
    exact h.keep h2
set_option maxRecDepth 10000 in
set_option maxHeartbeats 2000000 in
theorem wnote_any (h : WS w0 w B V s) (k r b u sl v : Int) (hl : V.nts.length < 1048576) (hkb : (Lit.int .u8 k).wf = true) (hs : Nsteps V.nts s.cnt) :
    Calls Try.prog 12 #[.pointer (some ⟨B.wb, 0, none⟩), .int .u8 k, .int .i64 r, .agg #[.int .i64 b, .int .i64 u, .int .i64 sl], .int .i64 v] w fun e w' => e = .returned (.tuple #[]) ∧ WS w0 w' B { V with nts := nadd V.nts ⟨s.cnt, V.hd, k, r, b, u, sl, v⟩ } s ∧ Fr wTy true w w' := by
  have hb := below_alloc w (.cells #[.int .i64 b, .int .i64 u, .int .i64 sl] 46)
  have hz := heap_alloc_new w (.cells #[.int .i64 b, .int .i64 u, .int .i64 sl] 46)
  have h1 := h.keep hb
  have hk0 := (u8_nn hkb).1
  have HB := Lib.hid hb; have HZ := Lib.hid hz; have H1 := Lib.hid h1; have HL := Lib.hid hl; have HS := Lib.hid hs; have HK0 := Lib.hid hk0
  clear h hb hz h1 hl hkb hs hk0
  go_enter Try.func12, Try.ntmps12
  go_upto_region 2 with (fail)
  change Code.wp _ _ _ _ (w.alloc (.cells #[.int .i64 b, .int .i64 u, .int .i64 sl] 46))
  generalize w.alloc (.cells #[.int .i64 b, .int .i64 u, .int .i64 sl] 46) = w1 at *
  have HB0 : Hid (Fr wTy true w w1) := below_fr HB.out _ _
  clear HB
  generalize w.heap.size = nq at *
  have x2 : ∀ st : ExtW w1, st.val.cell? ⟨B.wb, 2, none⟩ = some (.pointer (some ⟨B.nb, 0, none⟩)) := fun st => st.cell H1.out.hd5.2.2.1
  have x72 : ∀ st : ExtW w1, st.val.cell? ⟨B.wb, 72, none⟩ = some (.int .i64 V.hd) := fun st => st.cell H1.out.hd5.2.2.2
  have z0 : ∀ st : ExtW w1, st.val.cell? ⟨nq, 0, none⟩ = some (.int .i64 b) := fun st => st.cell (hcell HZ.out 0)
  have z1 : ∀ st : ExtW w1, st.val.cell? ⟨nq, 1, none⟩ = some (.int .i64 u) := fun st => st.cell (hcell HZ.out 1)
  have z2 : ∀ st : ExtW w1, st.val.cell? ⟨nq, 2, none⟩ = some (.int .i64 sl) := fun st => st.cell (hcell HZ.out 2)
  have m1 : ∀ st : ExtW w1, Calls Try.prog 7 #[.pointer (some ⟨B.wb, 0, none⟩)] st.val fun e w' => e = .returned (.int .i64 s.cnt) ∧ st.val = w' := fun st => (H1.out.keep st.below).steps5.mono fun e w' ⟨h1, h2⟩ => ⟨h1, h2.symm⟩
  refine wp_region_ext_tail 15 (by kernel_rfl) (by kernel_rfl) ?_
  simp only [List.take_succ_cons, List.take_zero, List.drop_succ_cons, List.drop_zero]
  repeat (go_big_quiet_step ((go_at_call 7; with_reducible refine calls_ext_same (m1 _))))
  refine wpQuiet_nil ?_
  rintro W ⟨⟨W2, hW⟩, rfl⟩
  clear x2 x72 z0 z1 z2 m1
  have hadd := wladd (H1.out.keep hW) ⟨s.cnt, V.hd, k, r, b, u, sl, v⟩ HL.out HK0.out HS.out
  have HW := Lib.hid hW
  clear hW
  go_wp2_with (go_at_call 35; refine hadd.mono ?_; intro e w3 hh; obtain ⟨⟨kk, hh1⟩, h3, f3⟩ := hh; subst hh1; have H3 := Lib.hid h3; have F3 := Lib.hid f3; clear h3 f3 hadd)
  go_end0
  exact ⟨rfl, H3.out, (HB0.out.trans (below_fr HW.out _ _)).trans (F3.out.mono nTy_w (fun h => by cases h))⟩
end
end Go.Proofs.Ytjfocckdbaaimaa

/-
  A list of a world's acts that came in.
-/
namespace Go.Proofs.Ytjfocckdbaaimaa
open Go.RowKit Go.Maps
set_option linter.unusedVariables false

structure WAc where
  k : Int
  n : Int
  r : Int
  b : Int
  u : Int
  s : Int
  v : Int
  a : Int
  w : Int
  it : Itm
def WAc.cells (x : WAc) : List Value := [.int .u8 x.k, .int .u8 x.n, .int .i64 x.r, .int .i64 x.b, .int .i64 x.u, .int .i64 x.s, .int .i64 x.v, .int .u64 x.a, .int .u64 x.w, .string x.it.key, .string x.it.val, .int .u32 x.it.flags, .int .u64 x.it.id, .int .i64 x.it.dies, .int .i64 x.it.gen]
structure WAc.wf (x : WAc) : Prop where
  k : (Lit.int .u8 x.k).wf = true
  n : (Lit.int .u8 x.n).wf = true
  r : (Lit.int .i64 x.r).wf = true
  b : (Lit.int .i64 x.b).wf = true
  u : (Lit.int .i64 x.u).wf = true
  s : (Lit.int .i64 x.s).wf = true
  v : (Lit.int .i64 x.v).wf = true
  a : (Lit.int .u64 x.a).wf = true
  w : (Lit.int .u64 x.w).wf = true
def wacLeaves : List Leaf := [.int .u8, .int .u8, .int .i64, .int .i64, .int .i64, .int .i64, .int .i64, .int .u64, .int .u64, .str, .str, .int .u32, .int .u64, .int .i64, .int .i64]
theorem wac_of {w : World} {cs : List Value} (h : Leaf.allHold w wacLeaves cs) : ∃ x : WAc, cs = x.cells ∧ x.wf := by
  obtain ⟨c0, r, rfl, g0, h⟩ := allHold_cons h
  obtain ⟨c1, r, rfl, g1, h⟩ := allHold_cons h
  obtain ⟨c2, r, rfl, g2, h⟩ := allHold_cons h
  obtain ⟨c3, r, rfl, g3, h⟩ := allHold_cons h
  obtain ⟨c4, r, rfl, g4, h⟩ := allHold_cons h
  obtain ⟨c5, r, rfl, g5, h⟩ := allHold_cons h
  obtain ⟨c6, r, rfl, g6, h⟩ := allHold_cons h
  obtain ⟨c7, r, rfl, g7, h⟩ := allHold_cons h
  obtain ⟨c8, r, rfl, g8, h⟩ := allHold_cons h
  obtain ⟨c9, r, rfl, g9, h⟩ := allHold_cons h
  obtain ⟨c10, r, rfl, g10, h⟩ := allHold_cons h
  obtain ⟨c11, r, rfl, g11, h⟩ := allHold_cons h
  obtain ⟨c12, r, rfl, g12, h⟩ := allHold_cons h
  obtain ⟨c13, r, rfl, g13, h⟩ := allHold_cons h
  obtain ⟨c14, r, rfl, g14, h⟩ := allHold_cons h
  obtain rfl := allHold_nil h
  obtain ⟨n0, rfl, w0⟩ := holds_int g0
  obtain ⟨n1, rfl, w1⟩ := holds_int g1
  obtain ⟨n2, rfl, w2⟩ := holds_int g2
  obtain ⟨n3, rfl, w3⟩ := holds_int g3
  obtain ⟨n4, rfl, w4⟩ := holds_int g4
  obtain ⟨n5, rfl, w5⟩ := holds_int g5
  obtain ⟨n6, rfl, w6⟩ := holds_int g6
  obtain ⟨n7, rfl, w7⟩ := holds_int g7
  obtain ⟨n8, rfl, w8⟩ := holds_int g8
  obtain ⟨n9, rfl, w9⟩ := holds_str g9
  obtain ⟨n10, rfl, w10⟩ := holds_str g10
  obtain ⟨n11, rfl, w11⟩ := holds_int g11
  obtain ⟨n12, rfl, w12⟩ := holds_int g12
  obtain ⟨n13, rfl, w13⟩ := holds_int g13
  obtain ⟨n14, rfl, w14⟩ := holds_int g14
  exact ⟨⟨n0, n1, n2, n3, n4, n5, n6, n7, n8, ⟨n9, n10, n11, n12, n13, n14⟩⟩, rfl, w0, w1, w2, w3, w4, w5, w6, w7, w8⟩
/-- Accesses that may be read. -/
structure WActs (w : World) (a : Option Addr) (cap : Nat) (l : List WAc) : Prop where
  le : l.length ≤ cap
  most : cap ≤ maxLen
  nil : a = none → cap = 0
  wf : ∀ x ∈ l, x.wf
  cell : l = [] ∨ ∃ b off, a = some ⟨b, off, none⟩ ∧ ∀ i, (hi : i < l.length) → ∀ j, j < 15 → w.cell? ⟨b, off + (i * 15 + j), none⟩ = (l[i]).cells[j]?
theorem wacts_of {w : World} {a : Option Addr} {n cap : Nat} (h : Leaf.holds w (.sl wacLeaves) (.slice a n cap)) : ∃ l, l.length = n ∧ WActs w a cap l := by
  obtain ⟨l, a', cap', hv, h1, h2, h3, h4, h5⟩ := recs_of h
  simp only [Value.slice.injEq] at hv
  obtain ⟨rfl, rfl, rfl⟩ := hv
  obtain ⟨m, hm, hp⟩ := list_of (fun i (x : WAc) => l[i]? = some x.cells ∧ x.wf) l.length (fun i hi => by
    obtain ⟨x, hx, hw⟩ := wac_of (h4 _ (List.getElem_mem hi))
    exact ⟨x, by rw [List.getElem?_eq_getElem hi, hx], hw⟩)
  refine ⟨m, hm, by omega, h2, h3, fun x hx => ?_, ?_⟩
  · obtain ⟨i, hi, rfl⟩ := List.mem_iff_getElem.1 hx
    exact (hp i hi).2
  · rcases h5 with rfl | ⟨b, off, rfl, h5⟩
    · left; simpa using hm
    · refine .inr ⟨b, off, rfl, fun i hi j hj => ?_⟩
      have h6 := h5 i (by omega) j hj
      have h7 := (hp i hi).1
      rw [List.getElem?_eq_getElem (by omega)] at h7
      simp only [Option.some.injEq] at h7
      rw [h7] at h6
      exact h6
theorem WActs.at {w : World} {a : Option Addr} {cap : Nat} {l : List WAc} (h : WActs w a cap l) (i : Nat) (hi : i < l.length) :
    ∃ b off x, a = some ⟨b, off, none⟩ ∧ l[i]? = some x ∧ x.wf ∧ w.cell? ⟨b, off + i * 15, none⟩ = some (.int .u8 x.k) ∧ w.cell? ⟨b, off + i * 15 + 1, none⟩ = some (.int .u8 x.n) ∧ w.cell? ⟨b, off + i * 15 + 2, none⟩ = some (.int .i64 x.r) ∧ w.cell? ⟨b, off + i * 15 + 3, none⟩ = some (.int .i64 x.b) ∧ w.cell? ⟨b, off + i * 15 + 4, none⟩ = some (.int .i64 x.u) ∧ w.cell? ⟨b, off + i * 15 + 5, none⟩ = some (.int .i64 x.s) ∧ w.cell? ⟨b, off + i * 15 + 6, none⟩ = some (.int .i64 x.v) ∧ w.cell? ⟨b, off + i * 15 + 7, none⟩ = some (.int .u64 x.a) ∧ w.cell? ⟨b, off + i * 15 + 8, none⟩ = some (.int .u64 x.w) ∧ w.cell? ⟨b, off + i * 15 + 9, none⟩ = some (.string x.it.key) ∧ w.cell? ⟨b, off + i * 15 + 10, none⟩ = some (.string x.it.val) ∧ w.cell? ⟨b, off + i * 15 + 11, none⟩ = some (.int .u32 x.it.flags) ∧ w.cell? ⟨b, off + i * 15 + 12, none⟩ = some (.int .u64 x.it.id) ∧ w.cell? ⟨b, off + i * 15 + 13, none⟩ = some (.int .i64 x.it.dies) ∧ w.cell? ⟨b, off + i * 15 + 14, none⟩ = some (.int .i64 x.it.gen) := by
  rcases h.cell with rfl | ⟨b, off, rfl, h5⟩
  · simp at hi
  · have h6 := h5 i hi
    refine ⟨b, off, l[i], rfl, List.getElem?_eq_getElem hi, h.wf _ (List.getElem_mem hi), h6 0 (by omega), ?_, ?_, ?_, ?_, ?_, ?_, ?_, ?_, ?_, ?_, ?_, ?_, ?_, ?_⟩
    · rw [Nat.add_assoc]; exact h6 1 (by omega)
    · rw [Nat.add_assoc]; exact h6 2 (by omega)
    · rw [Nat.add_assoc]; exact h6 3 (by omega)
    · rw [Nat.add_assoc]; exact h6 4 (by omega)
    · rw [Nat.add_assoc]; exact h6 5 (by omega)
    · rw [Nat.add_assoc]; exact h6 6 (by omega)
    · rw [Nat.add_assoc]; exact h6 7 (by omega)
    · rw [Nat.add_assoc]; exact h6 8 (by omega)
    · rw [Nat.add_assoc]; exact h6 9 (by omega)
    · rw [Nat.add_assoc]; exact h6 10 (by omega)
    · rw [Nat.add_assoc]; exact h6 11 (by omega)
    · rw [Nat.add_assoc]; exact h6 12 (by omega)
    · rw [Nat.add_assoc]; exact h6 13 (by omega)
    · rw [Nat.add_assoc]; exact h6 14 (by omega)

theorem WActs.below {w w' : World} {a : Option Addr} {cap : Nat} {l : List WAc} (h : WActs w a cap l) (hb : Below w.heap.size w w') : WActs w' a cap l := by
  refine ⟨h.le, h.most, h.nil, h.wf, h.cell.imp id fun ⟨b, off, e, h5⟩ => ⟨b, off, e, fun i hi j hj => ?_⟩⟩
  have h6 := h5 i hi j hj
  obtain ⟨v, hv⟩ : ∃ v, (l[i]).cells[j]? = some v := by
    match j, hj with
    | 0, _ | 1, _ | 2, _ | 3, _ | 4, _ | 5, _ | 6, _ | 7, _ | 8, _ | 9, _ | 10, _ | 11, _ | 12, _ | 13, _ | 14, _ => exact ⟨_, rfl⟩
  rw [hv] at h6 ⊢
  exact (hb.cell (World.block_lt_of_cell? _ _ h6)).trans h6
end Go.Proofs.Ytjfocckdbaaimaa

/-
  Begin of a pair, whatever stands ahead of all (written by genbegin2.py).
-/
namespace Go.Proofs.Ytjfocckdbaaimaa
open Go.RowKit
set_option linter.unusedVariables false

structure BxA (f : Fst) (w W : World) : Prop where
  hF : W.heap[w.heap.size]? = some (.cells f.cells 28 (0, 0))
  h2 : W.heap[w.heap.size + 1]? = some (.cells #[.pointer none, .pointer none] 34 (0, 0))
  h3 : W.heap[w.heap.size + 2]? = some (.cells #[.int .i64 f.conf.bits, .int .i64 f.conf.budget, .int .i64 f.conf.tries, .int .i64 f.conf.quantum, .int .i64 f.conf.way] 23 (0, 0))
  hB : Below w.heap.size w W

set_option maxRecDepth 100000 in
set_option maxHeartbeats 8000000 in
theorem begin_any (f : Fst) (w : World) (hin : FstIn w f) : Calls Try.prog 6 #[.agg #[.int .i64 f.c.bits, .int .i64 f.c.budget, .int .i64 f.c.tries, .int .i64 f.c.quantum, .int .i64 f.c.way, .bool f.gr, .slice f.ia f.its.length f.ic, .slice f.pa f.puts.length f.pc, .slice f.sa f.sts.length f.sc, .int .i64 f.ticks]] w (BeginPost f w) := by
  have hcok : f.conf.ok = true := by
    unfold Fst.conf; split
    · assumption
    · decide
  have hct : f.c.ok = true → f.conf = f.c := fun h => by unfold Fst.conf; rw [h]; rfl
  have hcn : f.c.ok = false → f.conf = conf10 := fun h => by unfold Fst.conf; rw [h]; rfl
  obtain ⟨hwb, hb1, hb12⟩ := tword_bits hcok
  have HIN := Lib.hid hin; have HOK := Lib.hid hcok; have HTW := Lib.hid hwb; have HCT := Lib.hid hct; have HCN := Lib.hid hcn
  clear hin hcok hwb hct hcn
  go_enter Try.func6, Try.ntmps6
  go_upto_region 2 with (fail)
  have hF : (((w.alloc (.cells f.cells 28)).alloc (.cells #[.pointer none, .pointer none] 34)).alloc (.cells #[.int .i64 f.c.bits, .int .i64 f.c.budget, .int .i64 f.c.tries, .int .i64 f.c.quantum, .int .i64 f.c.way] 23)).heap[w.heap.size]? = some (.cells f.cells 28 (0, 0)) := heap_alloc_old (heap_alloc_old (heap_alloc_new w _))
  have h2 : (((w.alloc (.cells f.cells 28)).alloc (.cells #[.pointer none, .pointer none] 34)).alloc (.cells #[.int .i64 f.c.bits, .int .i64 f.c.budget, .int .i64 f.c.tries, .int .i64 f.c.quantum, .int .i64 f.c.way] 23)).heap[w.heap.size + 1]? = some (.cells #[.pointer none, .pointer none] 34 (0, 0)) := heap_alloc_old (heap_alloc_at _ _ (by simp))
  have h3 : (((w.alloc (.cells f.cells 28)).alloc (.cells #[.pointer none, .pointer none] 34)).alloc (.cells #[.int .i64 f.c.bits, .int .i64 f.c.budget, .int .i64 f.c.tries, .int .i64 f.c.quantum, .int .i64 f.c.way] 23)).heap[w.heap.size + 1 + 1]? = some (.cells #[.int .i64 f.c.bits, .int .i64 f.c.budget, .int .i64 f.c.tries, .int .i64 f.c.quantum, .int .i64 f.c.way] 23 (0, 0)) := heap_alloc_at _ _ (by simp)
  have hB3 : Below w.heap.size w (((w.alloc (.cells f.cells 28)).alloc (.cells #[.pointer none, .pointer none] 34)).alloc (.cells #[.int .i64 f.c.bits, .int .i64 f.c.budget, .int .i64 f.c.tries, .int .i64 f.c.quantum, .int .i64 f.c.way] 23)) := (((Below.refl _ w).alloc (Nat.le_refl _) _).alloc (by simp) _).alloc (by simp; omega) _
  change Code.wp _ _ _ _ (((w.alloc (.cells f.cells 28)).alloc (.cells #[.pointer none, .pointer none] 34)).alloc (.cells #[.int .i64 f.c.bits, .int .i64 f.c.budget, .int .i64 f.c.tries, .int .i64 f.c.quantum, .int .i64 f.c.way] 23))
  generalize ((w.alloc (.cells f.cells 28)).alloc (.cells #[.pointer none, .pointer none] 34)).alloc (.cells #[.int .i64 f.c.bits, .int .i64 f.c.budget, .int .i64 f.c.tries, .int .i64 f.c.quantum, .int .i64 f.c.way] 23) = W3 at *
  have d0 := hcell h3 0; have d1 := hcell h3 1; have d2 := hcell h3 2; have d3 := hcell h3 3; have d4 := hcell h3 4
  have HF := Lib.hid hF; have H2 := Lib.hid h2; have H3 := Lib.hid h3; have HB3 := Lib.hid hB3
  clear hF h2 h3 hB3
  go_upto_if 14 with (first
    | (go_at_call 22; refine (rother_any f.c _).mono ?_; rintro e w4 ⟨rfl, b4⟩; have HB4 := Lib.hid b4; clear b4)
    | (go_at_call 21; refine (rmay_any f.c _).mono ?_; rintro e W4 ⟨rfl, b5⟩; have HB5 : Hid (Below W3.heap.size W3 W4) := HB4.out.trans (b5.mono HB4.out.size); clear b5 d0 d1 d2 d3 d4))
  go_cut [] (fun wx => BxA f w wx)
  case first =>
    have h34 := (HB5.out.block _ (Array.getElem?_eq_some_iff.1 H3.out).1).trans H3.out
    have hF0 := (HB5.out.block _ (Array.getElem?_eq_some_iff.1 HF.out).1).trans HF.out
    have h20 := (HB5.out.block _ (Array.getElem?_eq_some_iff.1 H2.out).1).trans H2.out
    have hB4 : Below w.heap.size w W4 := HB3.out.trans (HB5.out.mono HB3.out.size)
    cases hok : f.c.ok
    · have h3 := setCell_same (setCell_same (setCell_same (setCell_same (setCell_same h34 0 (.int .i64 2)) 1 (.int .i64 8)) 2 (.int .i64 3)) 3 (.int .i64 1)) 4 (.int .i64 16)
      have hk5 : Keeps (· = w.heap.size + 1 + 1) W4 (((((W4.setCell ⟨w.heap.size + 1 + 1, 0, none⟩ (.int .i64 2)).setCell ⟨w.heap.size + 1 + 1, 1, none⟩ (.int .i64 8)).setCell ⟨w.heap.size + 1 + 1, 2, none⟩ (.int .i64 3)).setCell ⟨w.heap.size + 1 + 1, 3, none⟩ (.int .i64 1)).setCell ⟨w.heap.size + 1 + 1, 4, none⟩ (.int .i64 16)) := ((((setCell_keeps _ _ _ _).again (setCell_keeps _ _ _ _)).again (setCell_keeps _ _ _ _)).again (setCell_keeps _ _ _ _)).again (setCell_keeps _ _ _ _)
      have HREL : Hid (BxA f w (((((W4.setCell ⟨w.heap.size + 1 + 1, 0, none⟩ (.int .i64 2)).setCell ⟨w.heap.size + 1 + 1, 1, none⟩ (.int .i64 8)).setCell ⟨w.heap.size + 1 + 1, 2, none⟩ (.int .i64 3)).setCell ⟨w.heap.size + 1 + 1, 3, none⟩ (.int .i64 1)).setCell ⟨w.heap.size + 1 + 1, 4, none⟩ (.int .i64 16))) := by
        refine ⟨(hk5.block _ (Array.getElem?_eq_some_iff.1 hF0).1 (by omega)).trans hF0, (hk5.block _ (Array.getElem?_eq_some_iff.1 h20).1 (by omega)).trans h20, ?_, keeps_below hk5 hB4 hB4.size fun k e => by omega⟩
        rw [HCN.out hok]
        exact h3
      have d0 := hcell h34 0; have d1 := hcell h34 1; have d2 := hcell h34 2; have d3 := hcell h34 3; have d4 := hcell h34 4; have df := hfrz h34
      clear h34 hF0 h20 hB4 h3 hk5
      go_wp2_with fail
      go_meet
      case rel => exact HREL.out
    · have HREL : Hid (BxA f w W4) := ⟨hF0, h20, by rw [HCT.out hok]; exact h34, hB4⟩
      clear h34 hF0 h20 hB4
      go_wp2_with fail
      go_meet
      case rel => exact HREL.out
  case rest =>
  clear HF H2 H3 HB3 HB4 HB5 HCT HCN
  obtain ⟨hF, h2, h3, hB5⟩ := hcut
  have HBX0 : Hid (BxF f f.conf w.heap.size wc.heap.size (.pointer none) (.pointer none) (wc.alloc (.cells #[.pointer none, .pointer none] 34))) := ⟨heap_alloc_old hF, heap_alloc_old h2, heap_alloc_old h3, heap_alloc_new wc _⟩
  have HB6 : Hid (Below w.heap.size w (wc.alloc (.cells #[.pointer none, .pointer none] 34))) := hB5.alloc hB5.size _
  have hq4 : w.heap.size + 1 < wc.heap.size := (Array.getElem?_eq_some_iff.1 h2).1
  have HSZ := Lib.hid hB5.size
  clear hF h2 h3 hB5
  go_upto_region 5 with (fail)
  generalize wc.alloc (.cells #[.pointer none, .pointer none] 34) = W6 at *
  obtain ⟨q4, hq4e⟩ : ∃ q4, q4 = wc.heap.size := ⟨_, rfl⟩
  rw [← hq4e] at HBX0 hq4 HSZ
  simp only [← hq4e]
  clear hq4e
  have hb := HBX0.out
  have d0 := hcell hb.h3 0; have d1 := hcell hb.h3 1; have d2 := hcell hb.h3 2; have d3 := hcell hb.h3 3; have d4 := hcell hb.h3 4
  clear hb
  generalize hfc : f.conf = fc at *
  go_upto_region 6 with (first
    | (go_at_call 22; refine (rother_any fc _).mono ?_; rintro e w7 ⟨rfl, b7⟩; have HB7 := Lib.hid b7; clear b7 d0 d1 d2 d3 d4)
    | (go_at_call 23; refine (rnew10_any fc HOK.out w7).mono ?_; rintro e w8 ⟨rb, cr, rib, rnb, rfl, hR, bR⟩; have hbx8 := (HBX0.out.below HB7.out).below bR; have e0 := hcell hbx8.h4 1; have ef := hfrz hbx8.h4 1; have HR8 := Lib.hid (rd_of hR (HB6.out.trans (HB7.out.mono HB6.out.size)) bR); have HBX8 := Lib.hid hbx8; have HB8 : Hid (Below w.heap.size w w8) := (HB6.out.trans (HB7.out.mono HB6.out.size)).trans (bR.mono (Nat.le_trans HB6.out.size HB7.out.size)); clear hbx8 hR bR))
  have hf9 := setPair_fr HBX8.out.h4 1 (.pointer (some ⟨rb, 0, none⟩))
  have hB9 := below_set (o := 1) (v := .pointer (some ⟨rb, 0, none⟩)) HB8.out (HSZ.out)
  have hbx9 := HBX8.out.set (by omega) 1 (.pointer (some ⟨rb, 0, none⟩)) (.pointer none) (.pointer (some ⟨rb, 0, none⟩)) rfl
  have HR9 := Lib.hid (HR8.out.fr hf9 pairTy_r hB9)
  have HBX9 := Lib.hid hbx9; have HB9 := Lib.hid hB9
  clear hf9 hB9 hbx9 e0 ef HR8 HBX8 HB8
  generalize w8.setCell ⟨q4, 1, none⟩ (.pointer (some ⟨rb, 0, none⟩)) = W9 at *
  have hb := HBX9.out
  have d0 := hcell hb.h3 0; have d1 := hcell hb.h3 1; have d2 := hcell hb.h3 2; have d3 := hcell hb.h3 3; have d4 := hcell hb.h3 4
  clear hb
  go_upto_region 7 with (go_at_call 20; refine (wnew_ok fc HOK.out W9).mono ?_; rintro e w10 ⟨wb, cb, ib, nb, rfl, g1, g2, g3, g4, g5, g6, g7⟩; have hbx10 := HBX9.out.below g3.below; have e0 := hcell hbx10.h4 0; have ef := hfrz hbx10.h4 0; have HW10 := Lib.hid (ws_of HB9.out g1 g2 g3 g4 g5 g6 g7); have HR10 := Lib.hid (HR9.out.keep g3.below); have HBX10 := Lib.hid hbx10; clear hbx10 g1 g2 g3 g4 g5 g6 g7 d0 d1 d2 d3 d4)
  have hf11 := setPair_fr HBX10.out.h4 0 (.pointer (some ⟨wb, 0, none⟩))
  have hB11 := below_set (o := 0) (v := .pointer (some ⟨wb, 0, none⟩)) HW10.out.below (HSZ.out)
  have hbx11 := HBX10.out.set (by omega) 0 (.pointer (some ⟨wb, 0, none⟩)) (.pointer (some ⟨wb, 0, none⟩)) (.pointer (some ⟨rb, 0, none⟩)) rfl
  have htw : tword fc.bits 0 = fc.bits := HTW.out
  have hws := HW10.out.fr hf11 pairTy_w hB11
  rw [htw] at hws
  have hpr : Pr w (w10.setCell ⟨q4, 0, none⟩ (.pointer (some ⟨wb, 0, none⟩))) ⟨wb, cb, ib, nb⟩ ⟨rb, cr, rib, rnb⟩ (v0 fc) (CS.init [(2, fc.bits)]) ⟨rfold [(2, fc.bits)], 0, 0, 0, 0, 0⟩ := ⟨hws, HR10.out.fr hf11 pairTy_r hB11, init_one _ (by omega)⟩
  have hfar := init_far1 fc.bits
  have HPR := Lib.hid hpr; have HFAR := Lib.hid hfar; have HBX := Lib.hid hbx11
  clear hf11 hB11 hbx11 htw hws hpr hfar e0 ef HW10 HR10 HBX10 HBX9 HB9 HR9 HB7 HBX0 HB6
  generalize w10.setCell ⟨q4, 0, none⟩ (.pointer (some ⟨wb, 0, none⟩)) = W11 at *
  generalize hs1 : CS.init [(2, fc.bits)] = s1 at *
  generalize (⟨rfold [(2, fc.bits)], 0, 0, 0, 0, 0⟩ : RS) = x1 at *
  obtain ⟨B, hBe⟩ : ∃ B : WB, B = ⟨wb, cb, ib, nb⟩ := ⟨_, rfl⟩
  obtain ⟨R, hRe⟩ : ∃ R : WB, R = ⟨rb, cr, rib, rnb⟩ := ⟨_, rfl⟩
  rw [← hBe, ← hRe] at HPR
  have ewb : wb = B.wb := by rw [hBe]
  have erb : rb = R.wb := by rw [hRe]
  subst ewb erb
  clear hBe hRe
  have HS1 := Lib.hid hs1; have HFC := Lib.hid hfc
  clear hs1 hfc
  have c40 := hcell HBX.out.h4 0
  have cF5 : W11.cell? ⟨w.heap.size, 5, none⟩ = some (.bool f.gr) := hcell HBX.out.hF 5
  have c30 := hcell HBX.out.h3 0
  go_upto_region 9 with (fail)
  go_cut [0, 42] (fun _ s42 wx => s42 = .bool (f.gr && decide (fc.bits < 12)) ∧ wx = W11)
  case first =>
    cases hg : f.gr
    · rw [hg] at cF5
      go_wp2_with fail
      go_meet
      case rel => exact ⟨by rw [hg]; rfl, rfl⟩
    · rw [hg] at cF5
      go_wp2_with fail
      go_meet
      case rel => exact ⟨by rw [hg]; simp, rfl⟩
  case rest =>
  obtain ⟨rfl, hwc⟩ := hcut
  subst hwc
  clear cF5 c30 c40
  have htk0 : ({ v0 fc with its := List.take 0 f.its } : WV) = v0 fc := rfl
  go_upto_if 42 with (fail)
  go_cut [] (fun wx => ∃ s2 x2, Pr w wx B R (v0 fc) s2 x2 ∧ BxF f fc w.heap.size q4 (.pointer (some ⟨B.wb, 0, none⟩)) (.pointer (some ⟨R.wb, 0, none⟩)) wx ∧ Far s2 x2 2 ∧ (f.gr = false → s2 = s1))
  case first =>
    cases hgb : (f.gr && decide (fc.bits < 12))
    · have HREL : Hid (∃ s2 x2, Pr w wc B R (v0 fc) s2 x2 ∧ BxF f fc w.heap.size q4 (.pointer (some ⟨B.wb, 0, none⟩)) (.pointer (some ⟨R.wb, 0, none⟩)) wc ∧ Far s2 x2 2 ∧ (f.gr = false → s2 = s1)) := ⟨s1, x1, HPR.out, HBX.out, ⟨by have := HFAR.out.1; omega, by have := HFAR.out.2.1; omega, by have := HFAR.out.2.2; omega⟩, fun _ => rfl⟩
      go_wp2_with fail
      go_meet
      case rel => exact HREL.out
    · have hgr := hgb
      simp only [Bool.and_eq_true, decide_eq_true_eq] at hgr
      obtain ⟨hg1, hg2⟩ := hgr
      have e1 : IntKind.u64.wrap (fc.bits + 256 * (fc.bits + 1)) = fc.bits + 256 * (fc.bits + 1) := by rw [IntKind.wrap_u64]; omega
      have hps := pstore_any HPR.out 1 HFAR.out (by decide) 2 (fc.bits + 256 * (fc.bits + 1)) (by decide) (u64_small _ (by omega))
      have HF2 := Lib.hid (HFAR.out.acc HPR.out.al 2 2 (fc.bits + 256 * (fc.bits + 1)))
      have c40 := hcell HBX.out.h4 0
      have c41 := hcell HBX.out.h4 1
      have c30 := hcell HBX.out.h3 0
      have HG1 := Lib.hid hg1
      clear hg1
      go_wp2_with (go_at_call 24; refine hps.mono ?_; rintro e W12 ⟨rfl, h12, f12⟩; have HPR2 := Lib.hid h12; have HBX2 := Lib.hid (HBX.out.fr f12 rfl rfl rfl); clear h12 f12 hps c40 c30 c41)
      go_meet
      case rel => exact ⟨_, _, HPR2.out, HBX2.out, HF2.out, fun h => by have := HG1.out; rw [h] at this; cases this⟩
  case rest =>
  clear HPR HBX HFAR htk0
  obtain ⟨s2, x2, hpr, hbx, hfar2, hs2⟩ := hcut
  have HPR2 := Lib.hid hpr; have HBX2 := Lib.hid hbx; have HFAR2 := Lib.hid hfar2; have HS2 := Lib.hid hs2
  clear hpr hbx hfar2 hs2
  go_upto_block 0 with (fail)
  go_cut [] (fun wx => Pr w wx B R { v0 fc with its := f.its } s2 x2 ∧ BxF f fc w.heap.size q4 (.pointer (some ⟨B.wb, 0, none⟩)) (.pointer (some ⟨R.wb, 0, none⟩)) wx)
  case first =>
    have cF2 := hcell HBX2.out.hF 6
    go_wp2_with fail
    clear cF2
    -- the records
    go_loopw [5] (fun i wr => ∃ k : Nat, k ≤ f.its.length ∧ i = .int .i64 k ∧ Pr w wr B R { v0 fc with its := f.its.take k } s2 x2 ∧ BxF f fc w.heap.size q4 (.pointer (some ⟨B.wb, 0, none⟩)) (.pointer (some ⟨R.wb, 0, none⟩)) wr) (fun i _ => f.its.length - (intOf i).toNat)
    case atStart => exact ⟨0, by omega, rfl, HPR2.out, HBX2.out⟩
    case round =>
      clear HPR2 HBX2
      obtain ⟨k, hk, rfl, hpr, hbx⟩ := hrel
      have hbw := hpr.ws.below
      have hni := HIN.out.ni
      by_cases hlt : k < f.its.length
      · obtain ⟨b, off, y, hia, hy, q0, q1, q2, q3, q4', q5⟩ := Itms.cell HIN.out.its k hlt
        have hg : b < w.heap.size := World.block_lt_of_cell? _ _ q0
        have q0 := (hbw.cell (p := ⟨b, _, none⟩) hg).trans q0
        have q1 := (hbw.cell (p := ⟨b, _, none⟩) hg).trans q1
        have q2 := (hbw.cell (p := ⟨b, _, none⟩) hg).trans q2
        have q3 := (hbw.cell (p := ⟨b, _, none⟩) hg).trans q3
        have q4' := (hbw.cell (p := ⟨b, _, none⟩) hg).trans q4'
        have q5 := (hbw.cell (p := ⟨b, _, none⟩) hg).trans q5
        have c6 : wr.cell? ⟨w.heap.size, 6, none⟩ = some (.slice f.ia f.its.length f.ic) := hcell hbx.hF 6
        rw [hia] at c6
        have x0 := fun st : ExtW wr => st.cell (hcell hbx.h4 0)
        have x1 := fun st : ExtW wr => st.cell (hcell hbx.h4 1)
        have x2' := fun st : ExtW wr => st.cell c6
        have z0 := fun st : ExtW wr => st.cell q0
        have z1 := fun st : ExtW wr => st.cell q1
        have z2 := fun st : ExtW wr => st.cell q2
        have z3 := fun st : ExtW wr => st.cell q3
        have z4 := fun st : ExtW wr => st.cell q4'
        have z5 := fun st : ExtW wr => st.cell q5
        have hst : ∀ W, Below wr.heap.size wr W → Calls Try.prog 25 #[.agg #[.pointer (some ⟨B.wb, 0, none⟩), .pointer (some ⟨R.wb, 0, none⟩)], .agg #[.string (y).key, .string (y).val, .int .u32 (y).flags, .int .u64 (y).id, .int .i64 (y).dies, .int .i64 (y).gen]] W fun e w' => e = .returned (.tuple #[]) ∧ Pr w w' B R { v0 fc with its := f.its.take k ++ [y] } s2 x2 ∧ Fr wrTy true W w' := fun W hW => pitem_any (hpr.keep hW) y (by simp; omega)
        have hty : f.its.take (k + 1) = f.its.take k ++ [y] := by rw [List.take_add_one, hy]; rfl
        have hlt' : (k : Int) < f.its.length := by omega
        have HST := Lib.hid hst; have HBX := Lib.hid hbx; have HTY := Lib.hid hty
        clear hpr hbx hbw q0 q1 q2 q3 q4' q5 hst hty hy hia hg
        go_wp2
        refine wp_region_segs [6] (by kernel_rfl) (by kernel_rfl) (by kernel_rfl) ?_
        simp only [Segs, List.take_succ_cons, List.take_zero, List.drop_succ_cons, List.drop_zero]
        repeat (go_big_quiet_step (fail))
        refine wpQuiet_nil ?_
        rintro W ⟨⟨W2, hW⟩, rfl⟩
        clear x0 x1 x2' z0 z1 z2 z3 z4 z5 c6
        refine seg_call rfl (by kernel_rfl) 25 #[.agg #[.pointer (some ⟨B.wb, 0, none⟩), .pointer (some ⟨R.wb, 0, none⟩)], .agg #[.string (y).key, .string (y).val, .int .u32 (y).flags, .int .u64 (y).id, .int .i64 (y).dies, .int .i64 (y).gen]] (by kernel_rfl) ?_
        refine (HST.out _ hW).mono ?_
        rintro e w12 ⟨rfl, h12, f12⟩
        refine ⟨_, rfl, ?_⟩
        refine wpQuiet_nil ?_
        rintro W3' ⟨⟨W4', hW3⟩, rfl⟩
        have HN := Lib.hid (And.intro (h12.keep hW3) (((HBX.out.below hW).fr f12 rfl rfl rfl).below hW3))
        clear hW h12 f12 hW3
        go_wp2
        go_roundw
        case rel => exact ⟨k + 1, by omega, by go_num, by rw [HTY.out]; exact HN.out.1, HN.out.2⟩
        case measure => simp [intOf]; omega
      · obtain rfl : k = f.its.length := by omega
        rw [List.take_length] at hpr
        have HREL := Lib.hid (And.intro hpr hbx)
        have c6 : wr.cell? ⟨w.heap.size, 6, none⟩ = some (.slice f.ia f.its.length f.ic) := hcell hbx.hF 6
        clear hpr hbx hbw hlt hk
        go_wp2_with fail
        go_meet
        case rel => exact HREL.out
  case rest =>
      obtain ⟨hpr, hbx⟩ := hcut
      have HPR3 := Lib.hid hpr; have HBX3 := Lib.hid hbx
      clear HPR2 HBX2
      have c6 : wc.cell? ⟨w.heap.size, 6, none⟩ = some (.slice f.ia f.its.length f.ic) := hcell hbx.hF 6
      clear hpr hbx
      go_upto_block 2 with (fail)
      go_cut [] (fun wx => ∃ s3 x3, Pr w wx B R { v0 fc with its := f.its } s3 x3 ∧ BxF f fc w.heap.size q4 (.pointer (some ⟨B.wb, 0, none⟩)) (.pointer (some ⟨R.wb, 0, none⟩)) wx ∧ Far s3 x3 122 ∧ (f.puts = [] → s3 = s2))
      case first =>
        go_wp2_with fail
        -- the puts
        go_loopw [6] (fun i wr => ∃ (k : Nat) (s : CS) (x : RS), k ≤ f.puts.length ∧ i = .int .i64 k ∧ Pr w wr B R { v0 fc with its := f.its } s x ∧ BxF f fc w.heap.size q4 (.pointer (some ⟨B.wb, 0, none⟩)) (.pointer (some ⟨R.wb, 0, none⟩)) wr ∧ Far s x (2 + 2 * k) ∧ (k = 0 → s = s2)) (fun i _ => f.puts.length - (intOf i).toNat)
        case atStart => exact ⟨0, _, _, by omega, rfl, HPR3.out, HBX3.out, HFAR2.out, fun _ => rfl⟩
        case round =>
          clear HPR3 HBX3
          obtain ⟨k, s, x, hk, rfl, hpr, hbx, hfar, hks⟩ := hrel
          have hbw := hpr.ws.below
          have hnp := HIN.out.np
          have c6 : wr.cell? ⟨w.heap.size, 6, none⟩ = some (.slice f.ia f.its.length f.ic) := hcell hbx.hF 6
          have c7 : wr.cell? ⟨w.heap.size, 7, none⟩ = some (.slice f.pa f.puts.length f.pc) := hcell hbx.hF 7
          by_cases hlt : k < f.puts.length ∧ 0 < f.its.length
          · obtain ⟨hlt, hi0⟩ := hlt
            obtain ⟨b, off, px, py, pz, hpa, hbd, q0, q1, q2⟩ := HIN.out.puts.at k hlt
            have hg : b < w.heap.size := World.block_lt_of_cell? _ _ q0
            have q0 := (hbw.cell (p := ⟨b, _, none⟩) hg).trans q0
            have q1 := (hbw.cell (p := ⟨b, _, none⟩) hg).trans q1
            have q2 := (hbw.cell (p := ⟨b, _, none⟩) hg).trans q2
            rw [hpa] at c7
            have x0 := fun st : ExtW wr => st.cell (hcell hbx.h4 0)
            have x1 := fun st : ExtW wr => st.cell (hcell hbx.h4 1)
            have x2' := fun st : ExtW wr => st.cell c6
            have x3 := fun st : ExtW wr => st.cell c7
            have z0 := fun st : ExtW wr => st.cell q0
            have z1 := fun st : ExtW wr => st.cell q1
            have z2 := fun st : ExtW wr => st.cell q2
            have hst : ∀ W, Below wr.heap.size wr W → Calls Try.prog 26 #[.agg #[.pointer (some ⟨B.wb, 0, none⟩), .pointer (some ⟨R.wb, 0, none⟩)], .agg #[.int .u8 px, .int .u8 py, .int .u8 pz], .int .i64 f.its.length] W (PutPost w W B R { v0 fc with its := f.its } (2 + 2 * k)) := fun W hW => pput_any (hpr.keep hW) (2 + 2 * k) hfar (by omega) HIN.out.key (by have := HIN.out.ni; simp only; omega) f.its.length ⟨by omega, by have := HIN.out.ni; omega⟩ px py pz hbd.1 hbd.2.1 hbd.2.2
            have hlt' : (k : Int) < f.puts.length := by omega
            have hi0' : (0 : Int) < f.its.length := by omega
            have HST := Lib.hid hst; have HBX := Lib.hid hbx
            clear hpr hbx hbw q0 q1 q2 hst hpa hg hbd hfar hks
            go_wp2
            refine wp_region_segs [9] (by kernel_rfl) (by kernel_rfl) (by kernel_rfl) ?_
            simp only [Segs, List.take_succ_cons, List.take_zero, List.drop_succ_cons, List.drop_zero]
            repeat (go_big_quiet_step (fail))
            refine wpQuiet_nil ?_
            rintro W ⟨⟨W2, hW⟩, rfl⟩
            clear x0 x1 x2' x3 z0 z1 z2 c6 c7
            refine seg_call rfl (by kernel_rfl) 26 #[.agg #[.pointer (some ⟨B.wb, 0, none⟩), .pointer (some ⟨R.wb, 0, none⟩)], .agg #[.int .u8 px, .int .u8 py, .int .u8 pz], .int .i64 f.its.length] (by kernel_rfl) ?_
            refine (HST.out _ hW).mono ?_
            rintro e w12 ⟨rfl, s', x', h12, hfar', f12⟩
            refine ⟨_, rfl, ?_⟩
            refine wpQuiet_nil ?_
            rintro W3' ⟨⟨W4', hW3⟩, rfl⟩
            have HN := Lib.hid (And.intro (h12.keep hW3) (((HBX.out.below hW).fr f12 rfl rfl rfl).below hW3))
            have HFN : Hid (Far s' x' (2 + 2 * (k + 1))) := hfar'
            clear hW h12 f12 hW3 hfar'
            go_wp2
            go_roundw
            case rel => exact ⟨k + 1, s', x', by omega, by go_num, HN.out.1, HN.out.2, HFN.out, fun h => by omega⟩
            case measure => simp [intOf]; omega
          · have HREL : Hid (∃ s3 x3, Pr w wr B R { v0 fc with its := f.its } s3 x3 ∧ BxF f fc w.heap.size q4 (.pointer (some ⟨B.wb, 0, none⟩)) (.pointer (some ⟨R.wb, 0, none⟩)) wr ∧ Far s3 x3 122 ∧ (f.puts = [] → s3 = s2)) :=
              ⟨s, x, hpr, hbx, ⟨by have := hfar.1; omega, by have := hfar.2.1; omega, by have := hfar.2.2; omega⟩, fun h => hks (by rw [h] at hk; simpa using hk)⟩
            have hor : ¬ k < f.puts.length ∨ (k < f.puts.length ∧ ¬ 0 < f.its.length) := by omega
            clear hpr hbx hbw hfar hks hlt
            rcases hor with ho | ⟨ho1, ho2⟩
            · have ho' : (f.puts.length : Int) ≤ k := by omega
              go_wp2_with fail
              go_meet
              case rel => exact HREL.out
            · have ho1' : (k : Int) < f.puts.length := by omega
              have ho2' : (f.its.length : Int) ≤ 0 := by omega
              go_wp2_with fail
              go_meet
              case rel => exact HREL.out
      case rest =>
      clear HPR3 HBX3 c6
      obtain ⟨s, x, hpr, hbx, hfar, hks⟩ := hcut
      have HPR4 := Lib.hid hpr; have HBX4 := Lib.hid hbx; have HFAR4 := Lib.hid hfar; have HKS := Lib.hid hks
      clear hpr hbx hfar hks
      go_upto_block 4 with (fail)
      go_cut [] (fun wx => ∃ s4 x4, Pr w wx B R { v0 fc with its := f.its } s4 x4 ∧ BxF f fc w.heap.size q4 (.pointer (some ⟨B.wb, 0, none⟩)) (.pointer (some ⟨R.wb, 0, none⟩)) wx ∧ Far s4 x4 162 ∧ (f.ticks ≤ 0 → s4 = s))
      case first =>
        go_wp2_with fail
        go_loopw [7] (fun i wr => ∃ (k : Nat) (s' : CS) (x' : RS), k ≤ 40 ∧ i = .int .i64 k ∧ Pr w wr B R { v0 fc with its := f.its } s' x' ∧ BxF f fc w.heap.size q4 (.pointer (some ⟨B.wb, 0, none⟩)) (.pointer (some ⟨R.wb, 0, none⟩)) wr ∧ Far s' x' (122 + k) ∧ (k = 0 → s' = s) ∧ (0 < k → 0 < f.ticks)) (fun i _ => 40 - (intOf i).toNat)
        case atStart => exact ⟨0, _, _, by omega, rfl, HPR4.out, HBX4.out, HFAR4.out, fun _ => rfl, fun h => by omega⟩
        case round =>
          clear HPR4 HBX4
          obtain ⟨k2, s', x', hk2, rfl, hpr, hbx, hfar, hks, hkt⟩ := hrel
          have c9 : wr.cell? ⟨w.heap.size, 9, none⟩ = some (.int .i64 f.ticks) := hcell hbx.hF 9
          have c40 := hcell hbx.h4 0
          have c41 := hcell hbx.h4 1
          by_cases hlt2 : (k2 : Int) < f.ticks ∧ k2 < 40
          · obtain ⟨ht1, ht2⟩ := hlt2
            have ht2' : (k2 : Int) < 40 := by omega
            have htk := ptick_any hpr (122 + k2) hfar (by omega)
            have HBX := Lib.hid hbx
            have HF2 := Lib.hid (hfar.acc hpr.al 3 8 (eTick (s'.val 8)))
            clear hpr hbx hfar hks hkt
            go_wp2_with (go_at_call 27; refine htk.mono ?_; rintro e w12 ⟨rfl, h12, f12⟩; have HN := Lib.hid (And.intro h12 (HBX.out.fr f12 rfl rfl rfl)); clear h12 f12 htk c9 c40 c41)
            go_roundw
            case rel => exact ⟨k2 + 1, _, _, by omega, by go_num, HN.out.1, HN.out.2, HF2.out, fun h => by omega, fun _ => by omega⟩
            case measure => simp [intOf]; omega
          · have HREL : Hid (∃ s4 x4, Pr w wr B R { v0 fc with its := f.its } s4 x4 ∧ BxF f fc w.heap.size q4 (.pointer (some ⟨B.wb, 0, none⟩)) (.pointer (some ⟨R.wb, 0, none⟩)) wr ∧ Far s4 x4 162 ∧ (f.ticks ≤ 0 → s4 = s)) :=
              ⟨s', x', hpr, hbx, ⟨by have := hfar.1; omega, by have := hfar.2.1; omega, by have := hfar.2.2; omega⟩, fun h => hks (by by_cases c : k2 = 0; exact c; have := hkt (by omega); omega)⟩
            have hor : ¬ (k2 : Int) < f.ticks ∨ ((k2 : Int) < f.ticks ∧ ¬ k2 < 40) := by omega
            clear hpr hbx hfar hks hkt hlt2 c40 c41
            rcases hor with ho5 | ⟨ho5, ho6⟩
            · have ho5' : f.ticks ≤ (k2 : Int) := by omega
              go_wp2_with fail
              go_meet
              case rel => exact HREL.out
            · have ho6' : (40 : Int) ≤ (k2 : Int) := by omega
              go_wp2_with fail
              go_meet
              case rel => exact HREL.out
      case rest =>
      clear HPR4 HBX4
      obtain ⟨s', x', hpr, hbx, hfar, hks2⟩ := hcut
      have HPR5 := Lib.hid hpr; have HBX5 := Lib.hid hbx; have HFAR5 := Lib.hid hfar; have HKS2 := Lib.hid hks2
      clear hpr hbx hfar hks2
      go_upto_block 6 with (fail)
      go_cut [] (fun wx => ∃ s3 x3, Pr w wx B R { v0 fc with its := f.its } s3 x3 ∧ BxF f fc w.heap.size q4 (.pointer (some ⟨B.wb, 0, none⟩)) (.pointer (some ⟨R.wb, 0, none⟩)) wx ∧ Far s3 x3 300 ∧ (f.sts = [] → s3 = s'))
      case first =>
        have c8 : wc.cell? ⟨w.heap.size, 8, none⟩ = some (.slice f.sa f.sts.length f.sc) := hcell HBX5.out.hF 8
        go_wp2_with fail
        clear c8
        go_loopw [8] (fun i wr => ∃ (k : Nat) (s3 : CS) (x3 : RS), k ≤ f.sts.length ∧ i = .int .i64 k ∧ Pr w wr B R { v0 fc with its := f.its } s3 x3 ∧ BxF f fc w.heap.size q4 (.pointer (some ⟨B.wb, 0, none⟩)) (.pointer (some ⟨R.wb, 0, none⟩)) wr ∧ Far s3 x3 (162 + k) ∧ (k = 0 → s3 = s')) (fun i _ => f.sts.length - (intOf i).toNat)
        case atStart => exact ⟨0, _, _, by omega, rfl, HPR5.out, HBX5.out, HFAR5.out, fun _ => rfl⟩
        case round =>
          clear HPR5 HBX5
          obtain ⟨k3, s3, x3, hk3, rfl, hpr, hbx, hfar, hks⟩ := hrel
          have hbw := hpr.ws.below
          have hns := HIN.out.ns
          have c8 : wr.cell? ⟨w.heap.size, 8, none⟩ = some (.slice f.sa f.sts.length f.sc) := hcell hbx.hF 8
          by_cases hlt3 : k3 < f.sts.length
          · obtain ⟨b, off, sx, sy, hsa, hsx, hswf, q0, q1⟩ := HIN.out.sts.at k3 hlt3
            have hg : b < w.heap.size := World.block_lt_of_cell? _ _ q0
            have q0 := (hbw.cell (p := ⟨b, _, none⟩) hg).trans q0
            have q1 := (hbw.cell (p := ⟨b, _, none⟩) hg).trans q1
            rw [hsa] at c8
            have x0 := fun st : ExtW wr => st.cell (hcell hbx.h4 0)
            have x1 := fun st : ExtW wr => st.cell (hcell hbx.h4 1)
            have x2' := fun st : ExtW wr => st.cell c8
            have z0 := fun st : ExtW wr => st.cell q0
            have z1 := fun st : ExtW wr => st.cell q1
            have hst : ∀ W, Below wr.heap.size wr W → Calls Try.prog 24 #[.agg #[.pointer (some ⟨B.wb, 0, none⟩), .pointer (some ⟨R.wb, 0, none⟩)], .agg #[.int .u64 sx, .int .u64 sy]] W fun e w' => e = .returned (.tuple #[]) ∧ Pr w w' B R { v0 fc with its := f.its } (s3.acc 2 sx sy) (x3.acc 2 sx sy) ∧ Fr wrTy true W w' := fun W hW => pstore_any (hpr.keep hW) (162 + k3) hfar (by omega) sx sy hswf.1 hswf.2
            have hlt3' : (k3 : Int) < f.sts.length := by omega
            have HST := Lib.hid hst; have HBX := Lib.hid hbx
            have HF3 := Lib.hid (hfar.acc hpr.al 2 sx sy)
            clear hpr hbx hbw q0 q1 hst hsa hg hfar hks hsx hswf
            go_wp2
            refine wp_region_segs [6] (by kernel_rfl) (by kernel_rfl) (by kernel_rfl) ?_
            simp only [Segs, List.take_succ_cons, List.take_zero, List.drop_succ_cons, List.drop_zero]
            repeat (go_big_quiet_step (fail))
            refine wpQuiet_nil ?_
            rintro W ⟨⟨W2, hW⟩, rfl⟩
            clear x0 x1 x2' z0 z1 c8
            refine seg_call rfl (by kernel_rfl) 24 #[.agg #[.pointer (some ⟨B.wb, 0, none⟩), .pointer (some ⟨R.wb, 0, none⟩)], .agg #[.int .u64 sx, .int .u64 sy]] (by kernel_rfl) ?_
            refine (HST.out _ hW).mono ?_
            rintro e w12 ⟨rfl, h12, f12⟩
            refine ⟨_, rfl, ?_⟩
            refine wpQuiet_nil ?_
            rintro W3' ⟨⟨W4', hW3⟩, rfl⟩
            have HN := Lib.hid (And.intro (h12.keep hW3) (((HBX.out.below hW).fr f12 rfl rfl rfl).below hW3))
            clear hW h12 f12 hW3
            go_wp2
            go_roundw
            case rel => exact ⟨k3 + 1, _, _, by omega, by go_num, HN.out.1, HN.out.2, HF3.out, fun h => by omega⟩
            case measure => simp [intOf]; omega
          · obtain rfl : k3 = f.sts.length := by omega
            have HREL : Hid (∃ s3 x3, Pr w wr B R { v0 fc with its := f.its } s3 x3 ∧ BxF f fc w.heap.size q4 (.pointer (some ⟨B.wb, 0, none⟩)) (.pointer (some ⟨R.wb, 0, none⟩)) wr ∧ Far s3 x3 300 ∧ (f.sts = [] → s3 = s')) :=
              ⟨s3, x3, hpr, hbx, ⟨by have := hfar.1; omega, by have := hfar.2.1; omega, by have := hfar.2.2; omega⟩, fun h => hks (by rw [h]; rfl)⟩
            clear hpr hbx hbw hfar hks hlt3
            go_wp2_with fail
            go_meet
            case rel => exact HREL.out
      case rest =>
      clear HPR5 HBX5
      obtain ⟨s3, x3, hpr, hbx, hfar6, hks3⟩ := hcut
      have HPR6 := Lib.hid hpr; have HBX6 := Lib.hid hbx; have HFAR6 := Lib.hid hfar6; have HKS3 := Lib.hid hks3
      have c40 := hcell hbx.h4 0
      have c41 := hcell hbx.h4 1
      have e20 := hcell hbx.h2 0
      have e21 := hcell hbx.h2 1
      have ef := hfrz hbx.h2
      clear hpr hbx hfar6 hks3
      go_upto_region 27 with (fail)
      iterate 11 (first | go_says fail | go_values | go_skip | go_guarded | go_step | go_upon | go_back)
      have h2s := setCell_same (setCell_same HBX6.out.h2 0 (.pointer (some ⟨B.wb, 0, none⟩))) 1 (.pointer (some ⟨R.wb, 0, none⟩))
      have r0 := hcell h2s 0
      have r1 := hcell h2s 1
      refine bodyPost_ret (v := .agg #[.pointer (some ⟨B.wb, 0, none⟩), .pointer (some ⟨R.wb, 0, none⟩)]) (by simp [results, Try.results6, go_sem, r0, r1]; done) rfl ?_
      have hf2 := (setPair_fr HBX6.out.h2 0 (.pointer (some ⟨B.wb, 0, none⟩))).trans (setPair_fr (setCell_same HBX6.out.h2 0 (.pointer (some ⟨B.wb, 0, none⟩))) 1 (.pointer (some ⟨R.wb, 0, none⟩)))
      have hB2 := below_set (o := 1) (v := .pointer (some ⟨R.wb, 0, none⟩)) (below_set (o := 0) (v := .pointer (some ⟨B.wb, 0, none⟩)) HPR6.out.ws.below (Nat.le_succ _)) (Nat.le_succ _)
      exact ⟨B, R, _, s3, x3, rfl, ⟨HPR6.out.ws.fr hf2 pairTy_w hB2, HPR6.out.rd.fr hf2 pairTy_r hB2, HPR6.out.al⟩, by rw [show f.conf = fc from HFC.out], HFAR6.out, by rw [show f.conf = fc from HFC.out]; exact HOK.out, fun g1 g2 g3 g4 => by
        rw [HKS3.out g3, HKS2.out g4, HKS.out g2, HS2.out g1, show f.conf = fc from HFC.out]; exact HS1.out.symm⟩

end Go.Proofs.Ytjfocckdbaaimaa

/-
  A First that comes in: opened; is it great?
-/
namespace Go.Proofs.Ytjfocckdbaaimaa
open Go.RowKit
set_option linter.unusedVariables false

/-- It may be read. -/
structure FstRd (w : World) (f : Fst) : Prop where
  its : Itms w (.slice f.ia f.its.length f.ic) f.its
  puts : Tri w f.pa f.pc f.puts
  sts : RWds w f.sa f.sc f.sts
theorem FstRd.below {w w' : World} {f : Fst} (h : FstRd w f) (hb : Below w.heap.size w w') : FstRd w' f := ⟨h.its.below hb (Nat.le_refl _), h.puts.below hb, h.sts.below hb⟩
theorem wf_u8 {x : Int} (h : (Lit.int .u8 x).wf = true) : 0 ≤ x ∧ x < 256 := by
  have hmin : IntKind.u8.min = 0 := rfl
  have hmax : IntKind.u8.max = 255 := rfl
  simp only [Lit.wf, Bool.and_eq_true, decide_eq_true_eq] at h; omega
theorem tri_of {w : World} {v : Value} (h : Leaf.holds w (.sl [.int .u8, .int .u8, .int .u8]) v) : ∃ (l : List (Int × Int × Int)) (a : Option Addr) (cap : Nat), v = .slice a l.length cap ∧ Tri w a cap l := by
  obtain ⟨l, a, cap, rfl, h1, h2, h3, h4, h5⟩ := recs_of h
  obtain ⟨m, hm, hp⟩ := list_of (fun i (x : Int × Int × Int) => l[i]? = some [.int .u8 x.1, .int .u8 x.2.1, .int .u8 x.2.2] ∧ (0 ≤ x.1 ∧ x.1 < 256) ∧ (0 ≤ x.2.1 ∧ x.2.1 < 256) ∧ (0 ≤ x.2.2 ∧ x.2.2 < 256)) l.length (fun i hi => by
    obtain ⟨c0, r, e0, g0, h⟩ := allHold_cons (h4 _ (List.getElem_mem hi))
    obtain ⟨c1, r, rfl, g1, h⟩ := allHold_cons h
    obtain ⟨c2, r, rfl, g2, h⟩ := allHold_cons h
    obtain rfl := allHold_nil h
    obtain ⟨z0, rfl, k0⟩ := holds_int g0
    obtain ⟨z1, rfl, k1⟩ := holds_int g1
    obtain ⟨z2, rfl, k2⟩ := holds_int g2
    exact ⟨(z0, z1, z2), by rw [List.getElem?_eq_getElem hi, e0], wf_u8 k0, wf_u8 k1, wf_u8 k2⟩)
  refine ⟨m, a, cap, by rw [hm], ⟨by omega, h2, fun x hx => ?_, ?_⟩⟩
  · obtain ⟨i, hi, rfl⟩ := List.mem_iff_getElem.1 hx
    exact (hp i hi).2
  · rcases h5 with rfl | ⟨b, off, rfl, h6⟩
    · exact .inl (List.length_eq_zero_iff.1 hm)
    · refine .inr ⟨b, off, rfl, fun i hi => ?_⟩
      have hi2 : i < l.length := by omega
      have hq := (hp i (by omega)).1
      rw [List.getElem?_eq_getElem hi2, Option.some.injEq] at hq
      have a0 := h6 i hi2 0 (by decide)
      have a1 := h6 i hi2 1 (by decide)
      have a2 := h6 i hi2 2 (by decide)
      rw [hq] at a0 a1 a2
      exact ⟨by simpa using a0, by simpa [Nat.add_assoc] using a1, by simpa [Nat.add_assoc] using a2⟩
theorem wds_of {w : World} {v : Value} (h : Leaf.holds w (.sl [.int .u64, .int .u64]) v) : ∃ (l : List (Int × Int)) (a : Option Addr) (cap : Nat), v = .slice a l.length cap ∧ RWds w a cap l := by
  obtain ⟨l, a, cap, rfl, h1, h2, h3, h4, h5⟩ := recs_of h
  obtain ⟨m, hm, hp⟩ := list_of (fun i (x : Int × Int) => l[i]? = some [.int .u64 x.1, .int .u64 x.2] ∧ (Lit.int .u64 x.1).wf = true ∧ (Lit.int .u64 x.2).wf = true) l.length (fun i hi => by
    obtain ⟨c0, r, e0, g0, h⟩ := allHold_cons (h4 _ (List.getElem_mem hi))
    obtain ⟨c1, r, rfl, g1, h⟩ := allHold_cons h
    obtain rfl := allHold_nil h
    obtain ⟨z0, rfl, k0⟩ := holds_int g0
    obtain ⟨z1, rfl, k1⟩ := holds_int g1
    exact ⟨(z0, z1), by rw [List.getElem?_eq_getElem hi, e0], k0, k1⟩)
  refine ⟨m, a, cap, by rw [hm], ⟨by omega, h2, fun x hx => ?_, ?_⟩⟩
  · obtain ⟨i, hi, rfl⟩ := List.mem_iff_getElem.1 hx
    exact (hp i hi).2
  · rcases h5 with rfl | ⟨b, off, rfl, h6⟩
    · exact .inl (List.length_eq_zero_iff.1 hm)
    · refine .inr ⟨b, off, rfl, fun i hi => ?_⟩
      have hi2 : i < l.length := by omega
      have hq := (hp i (by omega)).1
      rw [List.getElem?_eq_getElem hi2, Option.some.injEq] at hq
      have a0 := h6 i hi2 0 (by decide)
      have a1 := h6 i hi2 1 (by decide)
      rw [hq] at a0 a1
      exact ⟨by simpa using a0, by simpa [Nat.add_assoc] using a1⟩
def fstLeaves : List Leaf := [.int .i64, .int .i64, .int .i64, .int .i64, .int .i64, .bool, .sl itmLeaves, .sl [.int .u8, .int .u8, .int .u8], .sl [.int .u64, .int .u64], .int .i64]
theorem leaves_first : leaves Try.prog 5 28 = some fstLeaves := by kernel_rfl
theorem fst_of {w : World} {cs : List Value} (h : Leaf.allHold w fstLeaves cs) : ∃ f : Fst, cs = f.cells.toList ∧ FstRd w f := by
  unfold fstLeaves at h
  obtain ⟨c0, r, rfl, g0, h⟩ := allHold_cons h
  obtain ⟨c1, r, rfl, g1, h⟩ := allHold_cons h
  obtain ⟨c2, r, rfl, g2, h⟩ := allHold_cons h
  obtain ⟨c3, r, rfl, g3, h⟩ := allHold_cons h
  obtain ⟨c4, r, rfl, g4, h⟩ := allHold_cons h
  obtain ⟨c5, r, rfl, g5, h⟩ := allHold_cons h
  obtain ⟨c6, r, rfl, g6, h⟩ := allHold_cons h
  obtain ⟨c7, r, rfl, g7, h⟩ := allHold_cons h
  obtain ⟨c8, r, rfl, g8, h⟩ := allHold_cons h
  obtain ⟨c9, r, rfl, g9, h⟩ := allHold_cons h
  obtain rfl := allHold_nil h
  obtain ⟨z0, rfl, -⟩ := holds_int g0
  obtain ⟨z1, rfl, -⟩ := holds_int g1
  obtain ⟨z2, rfl, -⟩ := holds_int g2
  obtain ⟨z3, rfl, -⟩ := holds_int g3
  obtain ⟨z4, rfl, -⟩ := holds_int g4
  obtain ⟨z5, rfl⟩ := holds_bool g5
  obtain ⟨z9, rfl, -⟩ := holds_int g9
  obtain ⟨its, hi⟩ := itms_of g6
  obtain ⟨ia, ic, rfl, hi2⟩ := id hi
  obtain ⟨puts, pa, pc, rfl, hp⟩ := tri_of g7
  obtain ⟨sts, sa, sc, rfl, hs⟩ := wds_of g8
  exact ⟨⟨⟨z0, z1, z2, z3, z4⟩, z5, ia, ic, its, pa, pc, puts, sa, sc, sts, z9⟩, rfl, hi, hp, hs⟩

set_option maxRecDepth 10000 in
theorem fst_open {H : Type} {w : World} {enc : TypeId × Value → H} {base : Nat} {v : Value} {d : DataW H} {p : List MemPlace} (k : DataW.Trod enc Try.prog w 0 (fun _ => true) true 28 v d p) (o : Value.okWide Try.prog w .any base 28 v) : ∃ f : Fst, v = .agg f.cells ∧ FstRd w f := by
  obtain ⟨cs, rfl, -⟩ := Go.WideShapes.okWide_struct Try.underlying28 o
  obtain ⟨f, hf, hr⟩ := fst_of (opened leaves_first k)
  refine ⟨f, ?_, hr⟩
  have : cs.toList = f.cells.toList := hf
  rw [Array.toList_inj.1 this]
theorem fst_cells {W : World} {q : Nat} {f : Fst} (z : W.heap[q]? = some (.cells f.cells 28 (0, 0))) : W.cell? ⟨q, 0, none⟩ = some (.int .i64 f.c.bits) ∧ W.cell? ⟨q, 1, none⟩ = some (.int .i64 f.c.budget) ∧ W.cell? ⟨q, 2, none⟩ = some (.int .i64 f.c.tries) ∧ W.cell? ⟨q, 3, none⟩ = some (.int .i64 f.c.quantum) ∧ W.cell? ⟨q, 4, none⟩ = some (.int .i64 f.c.way) ∧ W.cell? ⟨q, 5, none⟩ = some (.bool f.gr) ∧ W.cell? ⟨q, 6, none⟩ = some (.slice f.ia f.its.length f.ic) ∧ W.cell? ⟨q, 7, none⟩ = some (.slice f.pa f.puts.length f.pc) ∧ W.cell? ⟨q, 8, none⟩ = some (.slice f.sa f.sts.length f.sc) ∧ W.cell? ⟨q, 9, none⟩ = some (.int .i64 f.ticks) :=
  ⟨hcell z 0, hcell z 1, hcell z 2, hcell z 3, hcell z 4, hcell z 5, hcell z 6, hcell z 7, hcell z 8, hcell z 9⟩

set_option maxRecDepth 100000 in
set_option maxHeartbeats 2000000 in
theorem great_any (f : Fst) (w : World) (hr : FstRd w f) : Calls Try.prog 4 #[.agg #[.int .i64 f.c.bits, .int .i64 f.c.budget, .int .i64 f.c.tries, .int .i64 f.c.quantum, .int .i64 f.c.way, .bool f.gr, .slice f.ia f.its.length f.ic, .slice f.pa f.puts.length f.pc, .slice f.sa f.sts.length f.sc, .int .i64 f.ticks]] w
    fun e w' => ∃ g, e = .returned (.bool g) ∧ Below w.heap.size w w' ∧ (g = false → FstIn w f ∧ ∀ y ∈ f.its, y.key.size ≤ 400 ∧ y.val.size ≤ 2000) := by
  have hB := below_alloc w (.cells f.cells 28)
  have z := heap_alloc_new w (.cells f.cells 28)
  have HR := Lib.hid hr; have HB := Lib.hid hB
  clear hr hB
  go_enter Try.func4, Try.ntmps4
  go_upto_region 1 with (fail)
  change Code.wp _ _ _ _ (w.alloc (.cells f.cells 28))
  generalize w.alloc (.cells f.cells 28) = w1 at *
  have c6 : w1.cell? ⟨w.heap.size, 6, none⟩ = some (.slice f.ia f.its.length f.ic) := hcell z 6
  have c7 : w1.cell? ⟨w.heap.size, 7, none⟩ = some (.slice f.pa f.puts.length f.pc) := hcell z 7
  have c8 : w1.cell? ⟨w.heap.size, 8, none⟩ = some (.slice f.sa f.sts.length f.sc) := hcell z 8
  clear z
  by_cases h1 : 40 < f.its.length
  · have d1 : decide ((40 : Int) < f.its.length) = true := by simp; omega
    go_wp2
    go_ret
    exact ⟨true, rfl, HB.out, fun h => by cases h⟩
  have d1 : decide ((40 : Int) < f.its.length) = false := by simp; omega
  by_cases h2 : 60 < f.puts.length
  · have d2 : decide ((60 : Int) < f.puts.length) = true := by simp; omega
    go_wp2
    go_ret
    exact ⟨true, rfl, HB.out, fun h => by cases h⟩
  have d2 : decide ((60 : Int) < f.puts.length) = false := by simp; omega
  by_cases h3 : 60 < f.sts.length
  · have d3 : decide ((60 : Int) < f.sts.length) = true := by simp; omega
    go_wp2
    go_ret
    exact ⟨true, rfl, HB.out, fun h => by cases h⟩
  have d3 : decide ((60 : Int) < f.sts.length) = false := by simp; omega
  have HN : Hid (f.its.length ≤ 40 ∧ f.puts.length ≤ 60 ∧ f.sts.length ≤ 60) := ⟨by omega, by omega, by omega⟩
  clear h2 h3
  go_wp2_with fail
  clear d1 d2 d3
  go_loopw [3] (fun i wr => ∃ k : Nat, k ≤ f.its.length ∧ i = .int .i64 k ∧ w1 = wr ∧ ∀ j, (hj : j < f.its.length) → j < k → (f.its[j]).key.size ≤ 400 ∧ (f.its[j]).val.size ≤ 2000) (fun i _ => f.its.length - (intOf i).toNat)
  case atStart => exact ⟨0, by omega, rfl, rfl, fun j _ h => by omega⟩
  case round =>
    obtain ⟨k, hk, rfl, rfl, hs⟩ := hrel
    by_cases hlt : k < f.its.length
    · have hlt' : (k : Int) < f.its.length := by omega
      obtain ⟨b, off, y, hia, hy, q0, q1, q2, q3, q4, q5⟩ := Itms.cell HR.out.its k hlt
      have hg : b < w.heap.size := World.block_lt_of_cell? _ _ q0
      have q0 := (HB.out.cell (p := ⟨b, _, none⟩) hg).trans q0
      have q1 := (HB.out.cell (p := ⟨b, _, none⟩) hg).trans q1
      rw [hia] at c6
      have hyk : f.its[k] = y := by rw [List.getElem?_eq_getElem hlt] at hy; exact Option.some.inj hy
      have HS := Lib.hid hs; have HY := Lib.hid hyk
      clear hs hy hyk hia hg q2 q3 q4 q5
      by_cases hk1 : 400 < y.key.size
      · have e1 : decide ((400 : Int) < y.key.size) = true := by simp; omega
        go_wp2
        go_ret
        exact ⟨true, rfl, HB.out, fun h => by cases h⟩
      have e1 : decide ((400 : Int) < y.key.size) = false := by simp; omega
      by_cases hv1 : 2000 < y.val.size
      · have e2 : decide ((2000 : Int) < y.val.size) = true := by simp; omega
        go_wp2
        go_ret
        exact ⟨true, rfl, HB.out, fun h => by cases h⟩
      have e2 : decide ((2000 : Int) < y.val.size) = false := by simp; omega
      have HYS : Hid (y.key.size ≤ 400 ∧ y.val.size ≤ 2000) := ⟨by omega, by omega⟩
      clear hk1 hv1
      go_wp2
      go_roundw
      case rel => exact ⟨k + 1, by omega, by go_num, by first | rfl | trivial, fun j hj hjk => by
        rcases Nat.lt_or_ge j k with h | h
        · exact HS.out j hj h
        · obtain rfl : j = k := by omega
          rw [HY.out]; exact HYS.out⟩
      case measure => simp [intOf]; omega
    · obtain rfl : k = f.its.length := by omega
      have HS := Lib.hid hs
      clear hs
      go_wp2
      go_ret
      refine ⟨false, rfl, HB.out, fun _ => ?_⟩
      have hall : ∀ y ∈ f.its, y.key.size ≤ 400 ∧ y.val.size ≤ 2000 := fun y hy => by
        obtain ⟨i, hi, rfl⟩ := List.mem_iff_getElem.1 hy
        exact HS.out i hi hi
      exact ⟨⟨HR.out.its, HR.out.puts, HR.out.sts, HN.out.1, HN.out.2.1, HN.out.2.2, fun y hy => by have := (hall y hy).1; omega⟩, hall⟩
end Go.Proofs.Ytjfocckdbaaimaa
