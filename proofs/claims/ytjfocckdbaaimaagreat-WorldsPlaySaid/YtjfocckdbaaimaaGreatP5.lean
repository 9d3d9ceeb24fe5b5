/-
  Texts of this prover, merged: Tickets, NotesAll, NoteAdd, WorldNote, RefNote, PairAllN, RefMay, WActs, WDo, WPlay.
-/
import Derived.Test.YtjfocckdbaaimaaGreatBegin0
import Derived.Test.YtjfocckdbaaimaaGreatFrame
import Derived.Test.YtjfocckdbaaimaaGreatP1
import Derived.Test.YtjfocckdbaaimaaGreatPairDo
import Derived.Test.YtjfocckdbaaimaaGreatPlacesMay
import Derived.Test.YtjfocckdbaaimaaGreatOpen
import Derived.Test.YtjfocckdbaaimaaGreatItems
import Derived.Laws.EntriesVeiled
import Derived.Deep.DeepCutAuto
import Derived.Deep.AppendLies
import Derived.Deep.CutBlock
import Derived.Deep.RegionHeld2
/-
  Tickets: a Take, a Give, who waits.
-/
namespace Go.Proofs.YtjfocckdbaaimaaGreat
open Go.RowKit
set_option linter.unusedVariables false

/-- Of the old blocks only b, and such of some types, have turned. -/
structure Fx (K : TypeId → Bool) (mp : Bool) (b : Nat) (w w' : World) : Prop where
  size : w.heap.size ≤ w'.heap.size
  cells : ∀ (k : Nat) (cs : Array Value) (T : TypeId) (fr : Nat × Nat), w.heap[k]? = some (.cells cs T fr) → K T = false → k ≠ b → w'.heap[k]? = some (.cells cs T fr)
  map : mp = false → ∀ (k : Nat) (es : Array MapEntry) (cl : Nat), w.heap[k]? = some (.map es cl) → k ≠ b → w'.heap[k]? = some (.map es cl)
theorem Fr.fx {K : TypeId → Bool} {mp : Bool} {w w' : World} (h : Fr K mp w w') (b : Nat) : Fx K mp b w w' := ⟨h.size, fun k cs T fr h1 h2 _ => h.cells k cs T fr h1 h2, fun hm k es cl h1 _ => h.map hm k es cl h1⟩
theorem Fx.trans {K : TypeId → Bool} {mp : Bool} {b : Nat} {a c d : World} (h : Fx K mp b a c) (k : Fx K mp b c d) : Fx K mp b a d :=
  ⟨Nat.le_trans h.size k.size, fun i cs T fr hi hT hb => k.cells i cs T fr (h.cells i cs T fr hi hT hb) hT hb, fun hm i es cl hi hb => k.map hm i es cl (h.map hm i es cl hi hb) hb⟩
theorem set_fx (K : TypeId → Bool) (mp : Bool) (w : World) (b o : Nat) (v : Value) : Fx K mp b w (w.setCell ⟨b, o, none⟩ v) :=
  ⟨by simp [World.setCell], fun k cs T fr h _ hb => (Below.heap_setCell _ _ _ _ hb).trans h, fun _ k es cl h hb => (Below.heap_setCell _ _ _ _ hb).trans h⟩
theorem Fx.fr {K : TypeId → Bool} {mp : Bool} {b : Nat} {w w' : World} (h : Fx K mp b w w') {cs : Array Value} {T : TypeId} {fr : Nat × Nat} (hb : w.heap[b]? = some (.cells cs T fr)) : Fr (fun x => K x || x == T) mp w w' := by
  refine ⟨h.size, fun k cs2 T2 fr2 h2 hT => ?_, fun hm k es cl h2 => h.map hm k es cl h2 fun c => ?_⟩
  · simp only [Bool.or_eq_false_iff] at hT
    refine h.cells k cs2 T2 fr2 h2 hT.1 fun c => ?_
    subst c
    have := hb.symm.trans h2; simp only [Option.some.injEq, Obj.cells.injEq] at this
    have h3 := hT.2; rw [this.2.1] at h3; simp at h3
  · subst c; rw [hb] at h2; cases h2

theorem mkfunc (fn : Fn) (first cap : Array Value) (w : World) : (Instr.makeFunc fn first cap).run Tryz.prog w = .ok (.func fn first cap) w := rfl
/-- The worlds' types, and a Take's. -/
theorem WS.cellb {w0 w : World} {B : WB} {V : WV} {s : CS} (h : WS w0 w B V s) (t : Nat) (ht : t < 64) : w.cell? ⟨B.wb, 8 + t, none⟩ = some (.int .u64 (V.tk.getD t 0)) := (h.cell (8 + t)).trans (val_tkat B V h.tkl t ht)
theorem WS.hcell' {w0 w : World} {B : WB} {V : WV} {s : CS} (h : WS w0 w B V s) : w.cell? ⟨B.wb, 72, none⟩ = some (.int .i64 V.hd) := (h.cell 72).trans (val_at B V h.tkl).2.2.2.2.2
theorem WS.frz {w0 w : World} {B : WB} {V : WV} {s : CS} (h : WS w0 w B V s) (o : Nat) : w.frozen? ⟨B.wb, o, none⟩ = false := hfrz h.blk o
theorem WS.fx {w0 w w' : World} {B : WB} {V : WV} {s : CS} {K : TypeId → Bool} {b : Nat} (h : WS w0 w B V s) (hf : Fx K false b w w') (hK : ∀ T, wTy T = true → K T = false) {cs : Array Value} {T : TypeId} {fr : Nat × Nat} (hb : w.heap[b]? = some (.cells cs T fr)) (hT : wTy T = false) (hB : Below w0.heap.size w0 w') : WS w0 w' B V s :=
  h.fr (hf.fr hb) (fun x hx => by simp only [Bool.or_eq_false_iff]; exact ⟨hK x hx, by cases hxT : (x == T); rfl; rw [beq_iff_eq] at hxT; subst hxT; rw [hx] at hT; cases hT⟩) hB
theorem set_take {w0 w : World} {B : WB} {V : WV} {s : CS} {b o : Nat} {cs : Array Value} {T : TypeId} (h : WS w0 w B V s) (hb : w.heap[b]? = some (.cells cs T (0, 0))) (hT : wTy T = false) (hlo : w0.heap.size ≤ b) (v : Value) : WS w0 (w.setCell ⟨b, o, none⟩ v) B V s :=
  h.fx (set_fx (fun _ => false) false w b o v) (fun _ _ => rfl) hb hT (keeps_below (setCell_keeps w b o v) h.below h.below.size fun k e => e ▸ hlo)

section
variable {w0 w : World} {B : WB} {V : WV} {s : CS} {b t : Nat} {d : Bool} {k : Int} (h : WS w0 w B V s) (hr : s.room) (hlo : w0.heap.size ≤ b) (ht : t < 64)
include h hr hlo ht
end
end Go.Proofs.YtjfocckdbaaimaaGreat

/-
  notes.List.All: all notes, in new memory.
-/
namespace Go.Proofs.YtjfocckdbaaimaaGreat
open Go.RowKit
set_option linter.unusedVariables false

theorem lnotes_any {w : World} {base nb TN : Nat} {l : List Nte} (h : NL w base nb 310 TN .u8 l) : ∃ a cap, w.cell? ⟨nb, 0, none⟩ = some (.slice a l.length cap) ∧ w.ownsRow base TN 8 (.slice a l.length cap) l.length (l.flatMap (nteC .u8)) ∧ Calls Tryz.prog 150 #[.pointer (some ⟨nb, 0, none⟩)] w fun e w' => e = .returned (.slice a l.length cap) ∧ w' = w := by
  obtain ⟨v, h1, h2, h3⟩ := h
  obtain ⟨a, cap, rfl⟩ := own_sl2 h3
  have c0 : w.cell? ⟨nb, 0, none⟩ = some (.slice a l.length cap) := hcell h1 0
  refine ⟨a, cap, c0, h3, ?_⟩
  clear h1 h2 h3
  go_enter Tryz.func150, Tryz.ntmps150
  go_wp2
  go_ret
  exact ⟨rfl, rfl⟩
theorem since_ask {w : World} {cb : Nat} {i : Nat} (n : Nte) (hc : w.cell? ⟨cb, 0, none⟩ = some (.int .i64 0)) : Calls Tryz.prog 196 #[.int .i64 i, .agg (nteC .u8 n).toArray, .pointer (some ⟨cb, 0, none⟩)] w fun e w' => e = .returned (.bool true) ∧ Below w.heap.size w w' := by
  have hb := below_alloc w (.cells (nteC .u8 n).toArray 187)
  have hlt := World.block_lt_of_cell? _ _ hc
  have c0 : (w.alloc (.cells (nteC .u8 n).toArray 187)).cell? ⟨cb, 0, none⟩ = some (.int .i64 0) := by rw [World.cell?_alloc_past _ _ _ hlt]; exact hc
  have d0 : decide ((0 : Int) ≤ (i : Int)) = true := decide_eq_true (by omega)
  have HB := Lib.hid hb
  clear hb hc hlt
  go_enter Tryz.func196, Tryz.ntmps196
  go_upto_region 1 with (fail)
  change Code.wp _ _ _ _ (w.alloc (.cells (nteC .u8 n).toArray 187))
  generalize w.alloc (.cells (nteC .u8 n).toArray 187) = w1 at *
  go_wp2
  go_ret
  exact ⟨rfl, HB.out⟩
theorem info_note : (Tryz.prog.info? 187).map (fun i => (i.zero, i.size, i.bytes)) = some (some (.agg #[.int .i64 0, .int .i64 0, .int .u8 0, .int .i64 0, .int .i64 0, .int .i64 0, .int .i64 0, .int .i64 0]), 8, 64) := by kernel_rfl
/-- A row of notes that the call made, without room behind it. -/
def NRow (w : World) (base : Nat) (v : Value) (l : List Nte) : Prop :=
  (v = .slice none 0 0 ∧ l = []) ∨ ∃ g cur, v = .slice (some ⟨g, 0, none⟩) l.length l.length ∧ base ≤ g ∧ w.heap[g]? = some (.cells cur 187 (0, 0)) ∧ l.length ≤ maxLen ∧ cur.toList.take (l.length * 8) = l.flatMap (nteC .u8)
theorem nclip_any {w : World} {base : Nat} {v : Value} {l : List Nte} (h : w.ownsRow base 187 8 v l.length (l.flatMap (nteC .u8))) : Calls Tryz.prog 225 #[v] w fun e w' => ∃ v', e = .returned v' ∧ NRow w base v' l ∧ w' = w := by
  obtain ⟨h1, ⟨rfl, h0⟩ | ⟨g, cap, cur, rfl, hb, hg, hn, hm, hs, ht⟩⟩ := h
  · have : l = [] := List.length_eq_zero_iff.1 h0
    subst this
    clear h1 h0
    go_enter Tryz.func225, Tryz.ntmps225
    go_wp2
    go_ret
    exact ⟨_, rfl, .inl ⟨rfl, rfl⟩, rfl⟩
  · have hm2 := Nat.le_trans hn hm
    have H : Hid (NRow w base (.slice (some ⟨g, 0, none⟩) l.length l.length) l) := .inr ⟨g, cur, rfl, hb, hg, hm2, ht⟩
    unfold maxLen at hm hm2
    clear h1 hb hg hs ht
    go_enter Tryz.func225, Tryz.ntmps225
    go_wp2
    go_ret
    exact ⟨_, rfl, H.out, rfl⟩
theorem nte_at (l : List Nte) (k : Nat) (hk : k < l.length) (j : Nat) (hj : j < 8) : (l.flatMap (nteC .u8))[k * 8 + j]? = (nteC .u8 l[k])[j]? := by
  induction l generalizing k with
  | nil => simp at hk
  | cons x r ih =>
    rw [List.flatMap_cons]
    match k with
    | 0 =>
      rw [List.getElem?_append_left (by simp [nteC]; omega)]
      simp
    | k + 1 =>
      rw [List.getElem?_append_right (by simp [nteC]; omega)]
      have := ih k (by simp at hk; omega)
      simp only [List.getElem_cons_succ]
      rw [← this]
      congr 1
      simp [nteC]; omega
theorem row8_at {w : World} {base : Nat} {a : Option Addr} {cap : Nat} {l : List Nte} (h : w.ownsRow base 187 8 (.slice a l.length cap) l.length (l.flatMap (nteC .u8))) (k : Nat) (hk : k < l.length) :
    ∃ g, a = some ⟨g, 0, none⟩ ∧ ∀ j, j < 8 → w.cell? ⟨g, k * 8 + j, none⟩ = (nteC .u8 l[k])[j]? := by
  obtain ⟨h1, ⟨h2, h0⟩ | ⟨g, cap', cur, hv, hb, hg, hn, hm, hs, ht⟩⟩ := h
  · omega
  · simp only [Value.slice.injEq] at hv
    refine ⟨g, hv.1, fun j hj => ?_⟩
    rw [hcell hg, ← nte_at l k hk j hj, ← ht, List.getElem?_take, if_pos (by omega)]
    simp
set_option maxRecDepth 10000 in
set_option maxHeartbeats 2000000 in
theorem picked_any {w : World} {base nb cb : Nat} {l : List Nte} (h : NL w base nb 310 187 .u8 l) (hl : l.length ≤ 1048576) (hc : w.cell? ⟨cb, 0, none⟩ = some (.int .i64 0)) :
    Calls Tryz.prog 175 #[.pointer (some ⟨nb, 0, none⟩), .func (.func 196) #[] #[.pointer (some ⟨cb, 0, none⟩)]] w fun e w' => ∃ v, e = .returned v ∧ NRow w' w.heap.size v l ∧ Below w.heap.size w w' := by
  obtain ⟨a, cap, c0, hrow, hn⟩ := lnotes_any h
  obtain ⟨i0, hi0, hz0, hz1, hz2⟩ := info_parts info_note
  have HI := Lib.hid hi0; have HZ0 := Lib.hid hz0; have HZ1 := Lib.hid hz1; have HZ2 := Lib.hid hz2
  have HROW := Lib.hid hrow; have HC := Lib.hid hc; have HL := Lib.hid hl
  clear h hrow hc hl c0 hi0 hz0 hz1 hz2
  go_enter Tryz.func175, Tryz.ntmps175
  go_wp2_with (go_at_call 150; refine hn.mono ?_; rintro e w' ⟨rfl, hw⟩; obtain rfl := hw.symm; clear hn)
  go_loopw [5, 11] (fun v i wr => ∃ k : Nat, k ≤ l.length ∧ i = .int .i64 k ∧ wr.ownsRow w.heap.size 187 8 v k ((l.take k).flatMap (nteC .u8)) ∧ Below w.heap.size w wr) (fun _ i _ => l.length - (intOf i).toNat)
  case atStart => exact ⟨0, by omega, rfl, World.ownsRow_nil _ _ _ _, Below.refl _ _⟩
  case round =>
    obtain ⟨k, hk, rfl, hown, hbl⟩ := hrel
    have hl := HL.out
    by_cases hlt : k < l.length
    · have hlt' : (k : Int) < l.length := by omega
      obtain ⟨g, rfl, hcs⟩ := row8_at HROW.out k hlt
      obtain ⟨y, hy⟩ : ∃ y, y = l[k] := ⟨_, rfl⟩
      rw [← hy] at hcs
      have hgl : g < w.heap.size := World.block_lt_of_cell? _ _ ((hcs 0 (by omega)).trans rfl)
      have x : ∀ j, j < 8 → wr.cell? ⟨g, k * 8 + j, none⟩ = (nteC .u8 y)[j]? := fun j hj => (hbl.cell (p := ⟨g, k * 8 + j, none⟩) hgl).trans (hcs j hj)
      have x0 : wr.cell? ⟨g, k * 8, none⟩ = some (.int .i64 y.step) := x 0 (by omega)
      have x1 : wr.cell? ⟨g, k * 8 + 1, none⟩ = some (.int .i64 y.thread) := x 1 (by omega)
      have x2 : wr.cell? ⟨g, k * 8 + 2, none⟩ = some (.int .u8 y.kind) := x 2 (by omega)
      have x3 : wr.cell? ⟨g, k * 8 + 3, none⟩ = some (.int .i64 y.ref) := x 3 (by omega)
      have x4 : wr.cell? ⟨g, k * 8 + 4, none⟩ = some (.int .i64 y.bits) := x 4 (by omega)
      have x5 : wr.cell? ⟨g, k * 8 + 5, none⟩ = some (.int .i64 y.bucket) := x 5 (by omega)
      have x6 : wr.cell? ⟨g, k * 8 + 6, none⟩ = some (.int .i64 y.slot) := x 6 (by omega)
      have x7 : wr.cell? ⟨g, k * 8 + 7, none⟩ = some (.int .i64 y.value) := x 7 (by omega)
      have HOWN := Lib.hid hown; have HBL := Lib.hid hbl; have HY := Lib.hid hy
      clear hown hbl hcs x hy
      go_upto_region 5 with (fail)
      clear x0 x1 x2 x3 x4 x5 x6 x7
      have hb1 := below_alloc wr (.cells #[.int .i64 y.step, .int .i64 y.thread, .int .u8 y.kind, .int .i64 y.ref, .int .i64 y.bits, .int .i64 y.bucket, .int .i64 y.slot, .int .i64 y.value] 187)
      have hz1 := heap_alloc_new wr (.cells #[.int .i64 y.step, .int .i64 y.thread, .int .u8 y.kind, .int .i64 y.ref, .int .i64 y.bits, .int .i64 y.bucket, .int .i64 y.slot, .int .i64 y.value] 187)
      change Code.wp _ _ _ _ (wr.alloc (.cells #[.int .i64 y.step, .int .i64 y.thread, .int .u8 y.kind, .int .i64 y.ref, .int .i64 y.bits, .int .i64 y.bucket, .int .i64 y.slot, .int .i64 y.value] 187))
      generalize wr.alloc (.cells #[.int .i64 y.step, .int .i64 y.thread, .int .u8 y.kind, .int .i64 y.ref, .int .i64 y.bits, .int .i64 y.bucket, .int .i64 y.slot, .int .i64 y.value] 187) = w7 at *
      have hle := HBL.out.size
      have HR0 := Lib.hid (own_fr HOWN.out (below_fr hb1 (fun _ => false) false) rfl)
      generalize wr.heap.size = nq at *
      have x0 := hcell hz1 0; have x1 := hcell hz1 1; have x2 := hcell hz1 2; have x3 := hcell hz1 3
      have x4 := hcell hz1 4; have x5 := hcell hz1 5; have x6 := hcell hz1 6; have x7 := hcell hz1 7
      have hc7 : w7.cell? ⟨cb, 0, none⟩ = some (.int .i64 0) := by
        have hB : Below w.heap.size w w7 := HBL.out.trans (hb1.mono hle)
        exact (hB.cell (p := ⟨cb, 0, none⟩) (World.block_lt_of_cell? _ _ HC.out)).trans HC.out
      have hask := since_ask (i := k) y hc7
      have HB1 : Hid (Below w.heap.size w w7) := HBL.out.trans (hb1.mono hle)
      have HZ := Lib.hid hz1
      clear hb1 hz1 hc7
      go_upto_region 6 with (go_at_call 196; refine hask.mono ?_; intro e w8 hh; obtain ⟨hh1, b8⟩ := hh; subst hh1; have HB8 : Hid (Below w.heap.size w w8) := HB1.out.trans (b8.mono HB1.out.size); have hr8 := own_fr HR0.out (below_fr b8 (fun _ => false) false) rfl; have hz8 := (b8.block _ (Array.getElem?_eq_some_iff.1 HZ.out).1).trans HZ.out; clear b8 hask)
      clear x0 x1 x2 x3 x4 x5 x6 x7
      have x0 := hcell hz8 0; have x1 := hcell hz8 1; have x2 := hcell hz8 2; have x3 := hcell hz8 3
      have x4 := hcell hz8 4; have x5 := hcell hz8 5; have x6 := hcell hz8 6; have x7 := hcell hz8 7
      have HR8 := Lib.hid hr8
      clear hz8 hr8
      go_wp2_with (at_builtin; refine wpList_append_own _ rfl _ _ 179 rfl w.heap.size 187 i0 (.agg #[.int .i64 0, .int .i64 0, .int .u8 0, .int .i64 0, .int .i64 0, .int .i64 0, .int .i64 0, .int .i64 0]) 8 64 Tryz.underlying179 HI.out HZ0.out HZ1.out HZ2.out rfl (by decide) _ _ _ rfl (HR8.out.alloc _) ⟨w8.heap.size, 0, none⟩ 1 1 (nteC .u8 y) rfl rfl ?c1 ?c2 ?c3 ?c4 ?c5 ?_)
      case c1 => exact World.news_of_block (heap_alloc_new w8 _)
      case c2 => simp [Value.oneCell', nteC]
      case c3 => unfold maxLen; omega
      case c4 => omega
      case c5 => have := HB8.out.size; simp; omega
      intro v' w11 hown' hgrow _
      have hb10 := below_alloc w8 (.cells #[.int .i64 y.step, .int .i64 y.thread, .int .u8 y.kind, .int .i64 y.ref, .int .i64 y.bits, .int .i64 y.bucket, .int .i64 y.slot, .int .i64 y.value] 187)
      have hB11 : Below w.heap.size w w11 := grown_below (HR8.out.alloc _) hgrow (HB8.out.trans (hb10.mono HB8.out.size)) (Nat.le_trans HB8.out.size hb10.size) (Nat.le_refl _)
      have e1 : (l.take (k + 1)).flatMap (nteC .u8) = (l.take k).flatMap (nteC .u8) ++ nteC .u8 y := by
        rw [List.take_add_one, List.getElem?_eq_getElem hlt, List.flatMap_append, ← show y = l[k] from HY.out]; simp
      rw [← e1] at hown'
      have HOW := Lib.hid hown'; have HBW := Lib.hid hB11
      clear hown' hB11 hgrow hb10 e1 x0 x1 x2 x3 x4 x5 x6 x7
      go_wp2_with fail
      go_roundw
      case rel => exact ⟨k + 1, by omega, by go_num, HOW.out, HBW.out⟩
      case measure => simp [intOf]; omega
    · obtain rfl : k = l.length := by omega
      rw [List.take_length] at hown
      have hcl := nclip_any hown
      have HBL := Lib.hid hbl
      clear hown hbl
      go_wp2_with (go_at_call 225; refine hcl.mono ?_; intro e w9 hh; obtain ⟨v', hh1, hr, hw⟩ := hh; subst hh1; obtain rfl := hw.symm; have HR := Lib.hid hr; clear hr hcl)
      go_ret
      exact ⟨_, rfl, HR.out, HBL.out⟩
theorem lsince_any {w : World} {base nb : Nat} {l : List Nte} (h : NL w base nb 310 187 .u8 l) (hl : l.length ≤ 1048576) :
    Calls Tryz.prog 145 #[.pointer (some ⟨nb, 0, none⟩), .int .i64 0] w fun e w' => ∃ v, e = .returned v ∧ NRow w' w.heap.size v l ∧ Below w.heap.size w w' := by
  have hb := below_alloc w (.cells #[.int .i64 0] 3)
  have hz := heap_alloc_new w (.cells #[.int .i64 0] 3)
  have hp := picked_any (cb := w.heap.size) (h.fr (below_fr hb (fun _ => false) false) rfl rfl) hl (hcell hz 0)
  have HB := Lib.hid hb
  clear h hz hb
  go_enter Tryz.func145, Tryz.ntmps145
  go_wp2_with (go_at_call 175; refine hp.mono ?_; intro e w2 hh; obtain ⟨v, hh1, hr, b2⟩ := hh; subst hh1; have HR := Lib.hid hr; have B2 := Lib.hid b2; clear hr b2 hp)
  go_ret
  refine ⟨_, rfl, ?_, HB.out.trans (B2.out.mono HB.out.size)⟩
  rcases HR.out with h | ⟨g, cur, h1, h2, h3⟩
  · exact .inl h
  · exact .inr ⟨g, cur, h1, Nat.le_trans HB.out.size h2, h3⟩
theorem lall_any {w : World} {base nb : Nat} {l : List Nte} (h : NL w base nb 310 187 .u8 l) (hl : l.length ≤ 1048576) :
    Calls Tryz.prog 72 #[.pointer (some ⟨nb, 0, none⟩)] w fun e w' => ∃ v, e = .returned v ∧ NRow w' w.heap.size v l ∧ Below w.heap.size w w' := by
  have hp := lsince_any h hl
  clear h
  go_enter Tryz.func72, Tryz.ntmps72
  go_wp2_with (go_at_call 145; refine hp.mono ?_; intro e w2 hh; obtain ⟨v, hh1, hr, b2⟩ := hh; subst hh1; have HR := Lib.hid hr; have B2 := Lib.hid b2; clear hr b2 hp)
  go_ret
  exact ⟨_, rfl, HR.out, B2.out⟩
theorem NRow.at {w : World} {base : Nat} {v : Value} {l : List Nte} (h : NRow w base v l) (k : Nat) (hk : k < l.length) : ∃ g, v = .slice (some ⟨g, 0, none⟩) l.length l.length ∧ ∀ j, j < 8 → w.cell? ⟨g, k * 8 + j, none⟩ = (nteC .u8 l[k])[j]? := by
  rcases h with ⟨-, h0⟩ | ⟨g, cur, hv, hb, hg, hm, ht⟩
  · subst h0; simp at hk
  · refine ⟨g, hv, fun j hj => ?_⟩
    rw [hcell hg, ← nte_at l k hk j hj, ← ht, List.getElem?_take, if_pos (by omega)]
    simp
end Go.Proofs.YtjfocckdbaaimaaGreat

/-
  notes.List.Add, and a world's note.
-/
namespace Go.Proofs.YtjfocckdbaaimaaGreat
open Go.RowKit
set_option linter.unusedVariables false

theorem lcount_any {w : World} {base nb TN : Nat} {l : List Nte} (h : NL w base nb 310 TN .u8 l) : Calls Tryz.prog 83 #[.pointer (some ⟨nb, 0, none⟩)] w fun e w' => e = .returned (.int .i64 l.length) ∧ w' = w := by
  obtain ⟨a, cap, -, -, hn⟩ := lnotes_any h
  clear h
  go_enter Tryz.func83, Tryz.ntmps83
  go_wp2_with (go_at_call 150; refine hn.mono ?_; rintro e w' ⟨rfl, rfl⟩)
  go_ret
  exact ⟨rfl, rfl⟩
/-- Behind an Add: a note of a kind that is one. -/
def nadd (l : List Nte) (n : Nte) : List Nte := if 1 ≤ n.kind ∧ n.kind ≤ 9 then l ++ [n] else l
def nTy (T : TypeId) : Bool := T == 310 || T == 187
theorem nTy_l (T : TypeId) (h : nTy T = false) : (T == 310) = false := by unfold nTy at h; simp only [Bool.or_eq_false_iff] at h; exact h.1
theorem nTy_n (T : TypeId) (h : nTy T = false) : (T == 187) = false := by unfold nTy at h; simp only [Bool.or_eq_false_iff] at h; exact h.2
set_option maxRecDepth 10000 in
set_option maxHeartbeats 2000000 in
theorem ladd_no {w : World} {base nb : Nat} {l : List Nte} {n : Nte} (h : NL w base nb 310 187 .u8 l) (hk : n.kind = 0 ∨ 9 < n.kind) :
    Calls Tryz.prog 115 #[.pointer (some ⟨nb, 0, none⟩), .agg (nteC .u8 n).toArray] w fun e w' => (∃ k, e = .returned (.int .i64 k)) ∧ Below w.heap.size w w' := by
  have hb := below_alloc w (.cells (nteC .u8 n).toArray 187)
  have hz := heap_alloc_new w (.cells (nteC .u8 n).toArray 187)
  have h1 := h.fr (below_fr hb (fun _ => false) false) rfl rfl
  have hcn := lcount_any h1
  have HB := Lib.hid hb; have HZ := Lib.hid hz; have HK := Lib.hid hk
  clear h hb hz h1 hk
  go_enter Tryz.func115, Tryz.ntmps115
  go_upto_region 1 with (fail)
  change Code.wp _ _ _ _ (w.alloc (.cells (nteC .u8 n).toArray 187))
  generalize w.alloc (.cells (nteC .u8 n).toArray 187) = w1 at *
  go_upto_region 4 with (go_at_call 83; refine hcn.mono ?_; rintro e w2 ⟨rfl, hw⟩; obtain rfl := hw.symm; clear hcn)
  have x2 : ∀ st : ExtW w1, st.val.cell? ⟨w.heap.size, 2, none⟩ = some (.int .u8 n.kind) := fun st => st.cell (hcell HZ.out 2)
  rcases HK.out with hk | hk
  · have d1 : (n.kind == 0) = true := beq_iff_eq.2 hk
    refine wp_region_ext (by kernel_rfl) (by kernel_rfl) ?_
    repeat (go_big_quiet_step (fail))
    refine wpQuiet_nil ?_
    rintro W ⟨⟨W2, hW⟩, rfl⟩
    have HW := Lib.hid hW
    clear x2 hW
    go_wp2
    go_ret
    exact ⟨⟨_, rfl⟩, HB.out.trans (HW.out.mono HB.out.size)⟩
  · have d1 : (n.kind == 0) = false := beq_eq_false_iff_ne.2 (by omega)
    have d2 : decide (9 < n.kind) = true := decide_eq_true hk
    refine wp_region_ext (by kernel_rfl) (by kernel_rfl) ?_
    repeat (go_big_quiet_step (fail))
    refine wpQuiet_nil ?_
    rintro W ⟨⟨W2, hW⟩, rfl⟩
    have HW := Lib.hid hW
    clear x2 hW
    go_wp2
    go_ret
    exact ⟨⟨_, rfl⟩, HB.out.trans (HW.out.mono HB.out.size)⟩
set_option maxRecDepth 10000 in
set_option maxHeartbeats 4000000 in
theorem ladd_ok {w0 w : World} {base nb : Nat} {l : List Nte} {n : Nte} (h : NL w base nb 310 187 .u8 l) (hB : Below base w0 w) (hsz : base ≤ w.heap.size) (hl : l.length < 1048576) (hk : 1 ≤ n.kind ∧ n.kind ≤ 9) (hs : ∀ y, l.getLast? = some y → y.step ≤ n.step) :
    Calls Tryz.prog 115 #[.pointer (some ⟨nb, 0, none⟩), .agg (nteC .u8 n).toArray] w fun e w' => (∃ k, e = .returned (.int .i64 k)) ∧ NL w' base nb 310 187 .u8 (l ++ [n]) ∧ Fr nTy false w w' ∧ Below base w0 w' := by
  obtain ⟨i0, hi0, hz0, hz1, hz2⟩ := info_parts info_note
  have HI := Lib.hid hi0; have HZ0 := Lib.hid hz0; have HZ1 := Lib.hid hz1; have HZ2 := Lib.hid hz2
  have hb := below_alloc w (.cells (nteC .u8 n).toArray 187)
  have hz := heap_alloc_new w (.cells (nteC .u8 n).toArray 187)
  have h1 := h.fr (below_fr hb (fun _ => false) false) rfl rfl
  have hcn := lcount_any h1
  have HBB : Hid (Below base w0 (w.alloc (.cells (nteC .u8 n).toArray 187))) := hB.trans (hb.mono hsz)
  have HSZ : Hid (base ≤ (w.alloc (.cells (nteC .u8 n).toArray 187)).heap.size) := Nat.le_trans hsz hb.size
  have HB := Lib.hid hb; have H1 := Lib.hid h1; have HZ := Lib.hid hz; have HL := Lib.hid hl; have HK := Lib.hid hk; have HS := Lib.hid hs
  clear h hb hz h1 hl hk hs hi0 hz0 hz1 hz2 hB hsz
  go_enter Tryz.func115, Tryz.ntmps115
  go_upto_region 1 with (fail)
  change Code.wp _ _ _ _ (w.alloc (.cells (nteC .u8 n).toArray 187))
  generalize w.alloc (.cells (nteC .u8 n).toArray 187) = w1 at *
  go_upto_region 4 with (go_at_call 83; refine hcn.mono ?_; rintro e w2 ⟨rfl, hw⟩; obtain rfl := hw.symm; clear hcn)
  have HFC0 : Hid (Fr nTy false w w1) := below_fr HB.out _ _
  clear HB
  generalize w.heap.size = nq at *
  go_cut [11] (fun v wx => v = .bool false ∧ Below w1.heap.size w1 wx)
  case first =>
    obtain ⟨a, cap, c0, hrow, -⟩ := lnotes_any H1.out
    have hk := HK.out
    have d1 : (n.kind == 0) = false := beq_eq_false_iff_ne.2 (by omega)
    have d2 : decide (9 < n.kind) = false := decide_eq_false (by omega)
    have hl := HL.out
    have x0 : ∀ st : ExtW w1, st.val.cell? ⟨nq, 0, none⟩ = some (.int .i64 n.step) := fun st => st.cell (hcell HZ.out 0)
    have x2 : ∀ st : ExtW w1, st.val.cell? ⟨nq, 2, none⟩ = some (.int .u8 n.kind) := fun st => st.cell (hcell HZ.out 2)
    have y0 : ∀ st : ExtW w1, st.val.cell? ⟨nb, 0, none⟩ = some (.slice a l.length cap) := fun st => st.cell c0
    by_cases h0 : l.length = 0
    · have e0 : decide ((0 : Int) < l.length) = false := decide_eq_false (by omega)
      have e0n : decide (0 < l.length) = false := decide_eq_false (by omega)
      clear hrow c0 hk hl h0
      refine wp_region_ext (by kernel_rfl) (by kernel_rfl) ?_
      repeat (go_big_quiet_step (fail))
      refine wpQuiet_nil ?_
      rintro W ⟨⟨W2, hW⟩, rfl⟩
      clear x0 x2 y0
      have HW := Lib.hid hW
      go_wp2_with fail
      go_meet
      case rel => exact ⟨rfl, HW.out⟩
    · obtain ⟨k, hk1⟩ : ∃ k, l.length = k + 1 := ⟨l.length - 1, by omega⟩
      have hkl : k < l.length := by omega
      obtain ⟨g, rfl, hcs⟩ := row8_at hrow k hkl
      have hst : (l[k]).step ≤ n.step := HS.out _ (by rw [List.getLast?_eq_getElem?, show l.length - 1 = k by omega]; exact List.getElem?_eq_getElem hkl)
      have y1 : ∀ st : ExtW w1, st.val.cell? ⟨g, k * 8, none⟩ = some (.int .i64 (l[k]).step) := fun st => st.cell (hcs 0 (by omega))
      generalize (l[k]).step = ys at *
      clear hrow c0 hk hcs hkl h0
      generalize l.length = L at *
      subst hk1
      have e0 : decide ((0 : Int) < ((k + 1 : Nat) : Int)) = true := decide_eq_true (by omega)
      have e0n : decide (0 < k + 1) = true := decide_eq_true (by omega)
      have d3 : decide (n.step < ys) = false := decide_eq_false (by omega)
      clear hst
      refine wp_region_ext (by kernel_rfl) (by kernel_rfl) ?_
      repeat (go_big_quiet_step (fail))
      refine wpQuiet_nil ?_
      rintro W ⟨⟨W2, hW⟩, rfl⟩
      clear x0 x2 y0 y1
      have HW := Lib.hid hW
      go_wp2_with fail
      go_meet
      case rel => exact ⟨rfl, HW.out⟩
  case rest =>
  obtain ⟨hcv, hbx⟩ := hcut
  subst hcv
  have hnl := H1.out.fr (below_fr hbx (fun _ => false) false) rfl rfl
  have hnq := (hbx.block _ (Array.getElem?_eq_some_iff.1 HZ.out).1).trans HZ.out
  obtain ⟨v, hl1, hl2, hl3⟩ := hnl
  obtain ⟨ao, cap, rfl⟩ := own_sl2 hl3
  have hqlt := (Array.getElem?_eq_some_iff.1 hl1).1
  have hnlt := (Array.getElem?_eq_some_iff.1 hnq).1
  have l0 := hcell hl1 0
  have lf := hfrz hl1 0
  have l0' : ∀ o, (wc.alloc o).cell? ⟨nb, 0, none⟩ = some (.slice ao l.length cap) := fun o => by rw [World.cell?_alloc_past _ _ _ hqlt]; exact l0
  have lf' : ∀ o, (wc.alloc o).frozen? ⟨nb, 0, none⟩ = false := fun o => by rw [World.frozen?_alloc_past _ _ _ hqlt]; exact lf
  have hl := HL.out
  have dm : decide ((1048576 : Int) ≤ l.length) = false := decide_eq_false (by omega)
  have k0 : wc.cell? ⟨nq, 0, none⟩ = some (.int .i64 n.step) := hcell hnq 0
  have k1 : wc.cell? ⟨nq, 1, none⟩ = some (.int .i64 n.thread) := hcell hnq 1
  have k2 : wc.cell? ⟨nq, 2, none⟩ = some (.int .u8 n.kind) := hcell hnq 2
  have k3 : wc.cell? ⟨nq, 3, none⟩ = some (.int .i64 n.ref) := hcell hnq 3
  have k4 : wc.cell? ⟨nq, 4, none⟩ = some (.int .i64 n.bits) := hcell hnq 4
  have k5 : wc.cell? ⟨nq, 5, none⟩ = some (.int .i64 n.bucket) := hcell hnq 5
  have k6 : wc.cell? ⟨nq, 6, none⟩ = some (.int .i64 n.slot) := hcell hnq 6
  have k7 : wc.cell? ⟨nq, 7, none⟩ = some (.int .i64 n.value) := hcell hnq 7
  have E2 : Hid (l.length + 1 ≤ maxLen) := by unfold maxLen; show l.length + 1 ≤ _; omega
  have E3 : Hid ((l.length + 1) * 64 ≤ 140737488355328) := by show (l.length + 1) * 64 ≤ 140737488355328; omega
  have E4 : Hid (base ≤ wc.heap.size) := Nat.le_trans HSZ.out hbx.size
  have HNW : Hid (((wc.drew).alloc (.cells #[.int .i64 n.step, .int .i64 n.thread, .int .u8 n.kind, .int .i64 n.ref, .int .i64 n.bits, .int .i64 n.bucket, .int .i64 n.slot, .int .i64 n.value] 187)).heap[wc.heap.size]? = some (.cells #[.int .i64 n.step, .int .i64 n.thread, .int .u8 n.kind, .int .i64 n.ref, .int .i64 n.bits, .int .i64 n.bucket, .int .i64 n.slot, .int .i64 n.value] 187 (0, 0))) := heap_alloc_new (wc.drew) _
  have HW0 : Hid (Below wc.heap.size wc ((wc.drew).alloc (.cells #[.int .i64 n.step, .int .i64 n.thread, .int .u8 n.kind, .int .i64 n.ref, .int .i64 n.bits, .int .i64 n.bucket, .int .i64 n.slot, .int .i64 n.value] 187))) := ((Below.refl _ _).drew).alloc (Nat.le_refl _) _
  have HBC : Hid (Below base w0 wc) := HBB.out.trans (hbx.mono HSZ.out)
  have HFC : Hid (Fr nTy false w wc) := HFC0.out.trans (below_fr hbx _ _)
  have HL1 := Lib.hid hl1; have HL3 := Lib.hid hl3; have HLO := Lib.hid hl2
  clear hl1 hl3 hl2 hnq hbx H1 HS HK
  go_upto_region 8 with (fail)
  clear dm hl
  go_region_law ((refine step_append_lies _ (by rfl) _ _ _ (by rfl) base 187 i0 _ 8 64 Tryz.underlying179 HI.out HZ0.out HZ1.out HZ2.out rfl (by decide) (.slice ao l.length cap) l.length (l.flatMap (nteC .u8)) (by rfl) ((HL3.out.drew).alloc _) ⟨wc.heap.size, 0, none⟩ 1 1 (nteC .u8 n) (by rfl) (by rfl) (World.news_of_block (cs := #[.int .i64 n.step, .int .i64 n.thread, .int .u8 n.kind, .int .i64 n.ref, .int .i64 n.bits, .int .i64 n.bucket, .int .i64 n.slot, .int .i64 n.value]) (t := 187) (fr := (0, 0)) HNW.out) (by simp [Value.oneCell', nteC]) (by omega) E2.out E3.out (by have := E4.out; simp; omega) (wc.heap.size + 1) (by simp) ?_; intro g cap1 w4 hown1 hgrow hat hlt; have HOW := Lib.hid hown1; have HGR := Lib.hid hgrow; have hq4 : w4.heap[nb]? = some (.cells #[.slice ao l.length cap] 310 (0, 0)) := (grown_ty ((HL3.out.drew).alloc _) hgrow).cells _ _ _ _ ((HW0.out.block _ (Array.getElem?_eq_some_iff.1 HL1.out).1).trans HL1.out) rfl; have t0 := hcell hq4 0; have t1 := hfrz hq4 0; have HQ4 := Lib.hid hq4; clear hown1 hgrow hat hlt hq4))
  all_goals
    have hB4 : Below base w0 w4 := grown_below ((HL3.out.drew).alloc _) HGR.out (HBC.out.trans (HW0.out.mono E4.out)) (Nat.le_trans E4.out HW0.out.size) (Nat.le_refl _)
    have f4 : Fr nTy false wc w4 := (below_fr HW0.out _ _).trans ((grown_ty ((HL3.out.drew).alloc _) HGR.out).mono nTy_n id)
    have f5 := set_ty HQ4.out 0 (.slice (some ⟨g, 0, none⟩) (l.length + 1) cap1)
    have hB5 := set_below hB4 (Nat.le_trans E4.out f4.size) HLO.out 0 (.slice (some ⟨g, 0, none⟩) (l.length + 1) cap1)
    have hq5 := setCell_same HQ4.out 0 (.slice (some ⟨g, 0, none⟩) (l.length + 1) cap1)
    have h1 := own_fr HOW.out f5 rfl
    have FIN : Hid (NL (w4.setCell ⟨nb, 0, none⟩ (.slice (some ⟨g, 0, none⟩) (l.length + 1) cap1)) base nb 310 187 .u8 (l ++ [n]) ∧ Fr nTy false w (w4.setCell ⟨nb, 0, none⟩ (.slice (some ⟨g, 0, none⟩) (l.length + 1) cap1)) ∧ Below base w0 (w4.setCell ⟨nb, 0, none⟩ (.slice (some ⟨g, 0, none⟩) (l.length + 1) cap1))) := by
      refine ⟨⟨_, hq5, HLO.out, ?_⟩, (HFC.out.trans f4).trans (f5.mono nTy_l id), hB5⟩
      rw [List.length_append, List.flatMap_append]
      simpa using h1
    clear hB4 f4 f5 hB5 hq5 h1 HQ4 HGR HOW t0 t1 l0 l0' lf lf' k0 k1 k2 k3 k4 k5 k6 k7
    generalize w4.setCell ⟨nb, 0, none⟩ (.slice (some ⟨g, 0, none⟩) (l.length + 1) cap1) = w5 at *
    go_wp2_with fail
    go_ret
    exact ⟨⟨_, rfl⟩, FIN.out⟩
end Go.Proofs.YtjfocckdbaaimaaGreat

/-
  A world's note.
-/
namespace Go.Proofs.YtjfocckdbaaimaaGreat
open Go.RowKit Go.Maps
set_option linter.unusedVariables false

theorem u8_nn {k : Int} (h : (Lit.int .u8 k).wf = true) : 0 ≤ k ∧ k < 256 := by
  have hmin : IntKind.u8.min = 0 := rfl
  have hmax : IntKind.u8.max = 255 := rfl
  simp only [Lit.wf, Bool.and_eq_true, decide_eq_true_eq] at h; omega
theorem nTy_w (T : TypeId) (h : wTy T = false) : nTy T = false := by
  unfold wTy at h
  simp only [Bool.or_eq_false_iff] at h
  unfold nTy
  rw [h.1.2, h.2]; rfl
section
variable {w0 w w' : World} {B : WB} {V : WV} {s : CS}
theorem WS.noted (h : WS w0 w B V s) {l : List Nte} (hn : NL w' w0.heap.size B.nb 310 187 .u8 l) (hf : Fr nTy false w w') (hB : Below w0.heap.size w0 w') : WS w0 w' B { V with nts := l } s := by
  obtain ⟨S, ha⟩ := h.ar
  exact ⟨h.own.fr hf hB rfl rfl, hf.cells _ _ _ _ h.blk rfl, h.lo, ⟨S, ha.fr hf rfl rfl rfl⟩, hn, h.tkl⟩
theorem WS.hd5 (h : WS w0 w B V s) : w.cell? ⟨B.wb, 0, none⟩ = some (.pointer (some ⟨B.cb, 0, none⟩)) ∧ w.cell? ⟨B.wb, 1, none⟩ = some (.pointer (some ⟨B.ib, 0, none⟩)) ∧ w.cell? ⟨B.wb, 2, none⟩ = some (.pointer (some ⟨B.nb, 0, none⟩)) ∧ w.cell? ⟨B.wb, 72, none⟩ = some (.int .i64 V.hd) :=
  ⟨h.c0, (h.cell 1).trans (val_at B V h.tkl).2.1, (h.cell 2).trans (val_at B V h.tkl).2.2.1, (h.cell 72).trans (val_at B V h.tkl).2.2.2.2.2⟩
theorem WS.last5 (h : WS w0 w B V s) : Calls Tryz.prog 82 #[.pointer (some ⟨B.cb, 0, none⟩)] w fun e w' => e = .returned (.agg #[.int .u8 s.kind, .int .u64 s.addr, .int .u64 s.was, .int .u64 s.is]) ∧ Below w.heap.size w w' := by
  obtain ⟨⟨S, hS⟩, hB⟩ := h.own
  exact last_any w _ B.cb s S hS
theorem WS.iat5 (h : WS w0 w B V s) (hl : V.its.length ≤ 1048576) (r : Int) : Calls Tryz.prog 74 #[.pointer (some ⟨B.ib, 0, none⟩), .int .i64 r] w fun e w' => e = .returned (.tuple #[.agg #[.string ((atOf V.its r).1).key, .string ((atOf V.its r).1).val, .int .u32 ((atOf V.its r).1).flags, .int .u64 ((atOf V.its r).1).id, .int .i64 ((atOf V.its r).1).dies, .int .i64 ((atOf V.its r).1).gen], .bool (atOf V.its r).2]) ∧ Below w.heap.size w w' := by
  obtain ⟨S, hS⟩ := h.ar
  exact iat_any _ _ _ S r w hS hl
theorem WS.steps5 (h : WS w0 w B V s) : Calls Tryz.prog 63 #[.pointer (some ⟨B.wb, 0, none⟩)] w fun e w' => e = .returned (.int .i64 s.cnt) ∧ w' = w := steps_any h.wld
/-- Do the notes' steps rise up to what was done? -/
def Nsteps (l : List Nte) (c : Int) : Prop := ∀ y ∈ l, y.step ≤ c
theorem Nsteps.le {l : List Nte} {c d : Int} (h : Nsteps l c) (hc : c ≤ d) : Nsteps l d := fun y hy => Int.le_trans (h y hy) hc
theorem Nsteps.add {l : List Nte} {c : Int} {n : Nte} (h : Nsteps l c) (hn : n.step = c) : Nsteps (nadd l n) c := by
  unfold nadd
  split
  · intro y hy
    rcases List.mem_append.1 hy with h1 | h1
    · exact h y h1
    · simp only [List.mem_singleton] at h1; subst h1; rw [hn]; exact Int.le_refl _
  · exact h
theorem nadd_len (l : List Nte) (n : Nte) : (nadd l n).length ≤ l.length + 1 := by unfold nadd; split <;> simp
theorem wladd (h : WS w0 w B V s) (n : Nte) (hl : V.nts.length < 1048576) (hkb : 0 ≤ n.kind) (hs : Nsteps V.nts n.step) :
    Calls Tryz.prog 115 #[.pointer (some ⟨B.nb, 0, none⟩), .agg (nteC .u8 n).toArray] w fun e w' => (∃ k, e = .returned (.int .i64 k)) ∧ WS w0 w' B { V with nts := nadd V.nts n } s ∧ Fr nTy false w w' := by
  by_cases hk : 1 ≤ n.kind ∧ n.kind ≤ 9
  · refine (ladd_ok h.nt h.below h.below.size hl hk (fun y hy => hs y (List.mem_of_getLast? hy))).mono fun e w' ⟨h1, h2, h3, h4⟩ => ⟨h1, ?_, h3⟩
    have : nadd V.nts n = V.nts ++ [n] := by unfold nadd; rw [if_pos hk]
    rw [this]
    exact h.noted h2 h3 h4
  · refine (ladd_no h.nt (by omega)).mono fun e w' ⟨h1, h2⟩ => ⟨h1, ?_, below_fr h2 _ _⟩
    have : nadd V.nts n = V.nts := by unfold nadd; rw [if_neg hk]
    rw [this]
    exact h.keep h2
set_option maxRecDepth 10000 in
set_option maxHeartbeats 2000000 in
theorem wnote_any (h : WS w0 w B V s) (k r b u sl v : Int) (hl : V.nts.length < 1048576) (hkb : (Lit.int .u8 k).wf = true) (hs : Nsteps V.nts s.cnt) :
    Calls Tryz.prog 43 #[.pointer (some ⟨B.wb, 0, none⟩), .int .u8 k, .int .i64 r, .agg #[.int .i64 b, .int .i64 u, .int .i64 sl], .int .i64 v] w fun e w' => e = .returned (.tuple #[]) ∧ WS w0 w' B { V with nts := nadd V.nts ⟨s.cnt, V.hd, k, r, b, u, sl, v⟩ } s ∧ Fr wTy true w w' := by
  have hb := below_alloc w (.cells #[.int .i64 b, .int .i64 u, .int .i64 sl] 43)
  have hz := heap_alloc_new w (.cells #[.int .i64 b, .int .i64 u, .int .i64 sl] 43)
  have h1 := h.keep hb
  have hk0 := (u8_nn hkb).1
  have HB := Lib.hid hb; have HZ := Lib.hid hz; have H1 := Lib.hid h1; have HL := Lib.hid hl; have HS := Lib.hid hs; have HK0 := Lib.hid hk0
  clear h hb hz h1 hl hkb hs hk0
  go_enter Tryz.func43, Tryz.ntmps43
  go_upto_region 2 with (fail)
  change Code.wp _ _ _ _ (w.alloc (.cells #[.int .i64 b, .int .i64 u, .int .i64 sl] 43))
  generalize w.alloc (.cells #[.int .i64 b, .int .i64 u, .int .i64 sl] 43) = w1 at *
  have HB0 : Hid (Fr wTy true w w1) := below_fr HB.out _ _
  clear HB
  generalize w.heap.size = nq at *
  have x2 : ∀ st : ExtW w1, st.val.cell? ⟨B.wb, 2, none⟩ = some (.pointer (some ⟨B.nb, 0, none⟩)) := fun st => st.cell H1.out.hd5.2.2.1
  have x72 : ∀ st : ExtW w1, st.val.cell? ⟨B.wb, 72, none⟩ = some (.int .i64 V.hd) := fun st => st.cell H1.out.hd5.2.2.2
  have z0 : ∀ st : ExtW w1, st.val.cell? ⟨nq, 0, none⟩ = some (.int .i64 b) := fun st => st.cell (hcell HZ.out 0)
  have z1 : ∀ st : ExtW w1, st.val.cell? ⟨nq, 1, none⟩ = some (.int .i64 u) := fun st => st.cell (hcell HZ.out 1)
  have z2 : ∀ st : ExtW w1, st.val.cell? ⟨nq, 2, none⟩ = some (.int .i64 sl) := fun st => st.cell (hcell HZ.out 2)
  have m1 : ∀ st : ExtW w1, Calls Tryz.prog 63 #[.pointer (some ⟨B.wb, 0, none⟩)] st.val fun e w' => e = .returned (.int .i64 s.cnt) ∧ st.val = w' := fun st => (H1.out.keep st.below).steps5.mono fun e w' ⟨h1, h2⟩ => ⟨h1, h2.symm⟩
  refine wp_region_ext_tail 15 (by kernel_rfl) (by kernel_rfl) ?_
  simp only [List.take_succ_cons, List.take_zero, List.drop_succ_cons, List.drop_zero]
  repeat (go_big_quiet_step ((go_at_call 63; with_reducible refine calls_ext_same (m1 _))))
  refine wpQuiet_nil ?_
  rintro W ⟨⟨W2, hW⟩, rfl⟩
  clear x2 x72 z0 z1 z2 m1
  have hadd := wladd (H1.out.keep hW) ⟨s.cnt, V.hd, k, r, b, u, sl, v⟩ HL.out HK0.out HS.out
  have HW := Lib.hid hW
  clear hW
  go_wp2_with (go_at_call 115; refine hadd.mono ?_; intro e w3 hh; obtain ⟨⟨kk, hh1⟩, h3, f3⟩ := hh; subst hh1; have H3 := Lib.hid h3; have F3 := Lib.hid f3; clear h3 f3 hadd)
  go_end0
  exact ⟨rfl, H3.out, (HB0.out.trans (below_fr HW.out _ _)).trans (F3.out.mono nTy_w (fun h => by cases h))⟩
end
end Go.Proofs.YtjfocckdbaaimaaGreat

/-
  The document's notes: List.Add, and its world's note.
-/
namespace Go.Proofs.YtjfocckdbaaimaaGreat
open Go.RowKit Go.Maps
set_option linter.unusedVariables false

theorem rinfo_note : (Tryz.prog.info? 185).map (fun i => (i.zero, i.size, i.bytes)) = some (some (.agg #[.int .i64 0, .int .i64 0, .int .i64 0, .int .i64 0, .int .i64 0, .int .i64 0, .int .i64 0, .int .i64 0]), 8, 64) := by kernel_rfl
def rnTy (T : TypeId) : Bool := T == 183 || T == 185
theorem rnTy_l (T : TypeId) (h : rnTy T = false) : (T == 183) = false := by unfold rnTy at h; simp only [Bool.or_eq_false_iff] at h; exact h.1
theorem rnTy_n (T : TypeId) (h : rnTy T = false) : (T == 185) = false := by unfold rnTy at h; simp only [Bool.or_eq_false_iff] at h; exact h.2
theorem rnte_at (l : List Nte) (k : Nat) (hk : k < l.length) (j : Nat) (hj : j < 8) : (l.flatMap (nteC .i64))[k * 8 + j]? = (nteC .i64 l[k])[j]? := by
  induction l generalizing k with
  | nil => simp at hk
  | cons x r ih =>
    rw [List.flatMap_cons]
    match k with
    | 0 =>
      rw [List.getElem?_append_left (by simp [nteC]; omega)]
      simp
    | k + 1 =>
      rw [List.getElem?_append_right (by simp [nteC]; omega)]
      have := ih k (by simp at hk; omega)
      simp only [List.getElem_cons_succ]
      rw [← this]
      congr 1
      simp [nteC]; omega
theorem rrow8_at {w : World} {base : Nat} {a : Option Addr} {cap : Nat} {l : List Nte} (h : w.ownsRow base 185 8 (.slice a l.length cap) l.length (l.flatMap (nteC .i64))) (k : Nat) (hk : k < l.length) :
    ∃ g, a = some ⟨g, 0, none⟩ ∧ ∀ j, j < 8 → w.cell? ⟨g, k * 8 + j, none⟩ = (nteC .i64 l[k])[j]? := by
  obtain ⟨h1, ⟨h2, h0⟩ | ⟨g, cap', cur, hv, hb, hg, hn, hm, hs, ht⟩⟩ := h
  · omega
  · simp only [Value.slice.injEq] at hv
    refine ⟨g, hv.1, fun j hj => ?_⟩
    rw [hcell hg, ← rnte_at l k hk j hj, ← ht, List.getElem?_take, if_pos (by omega)]
    simp
set_option maxRecDepth 10000 in
set_option maxHeartbeats 2000000 in
theorem rladd_no {w : World} {nb : Nat} {n : Nte} (hk : n.kind < 1 ∨ 9 < n.kind) :
    Calls Tryz.prog 116 #[.pointer (some ⟨nb, 0, none⟩), .agg (nteC .i64 n).toArray] w fun e w' => (∃ k, e = .returned (.int .i64 k)) ∧ Below w.heap.size w w' := by
  have hb := below_alloc w (.cells (nteC .i64 n).toArray 185)
  have hz := heap_alloc_new w (.cells (nteC .i64 n).toArray 185)
  have HB := Lib.hid hb; have HZ := Lib.hid hz; have HK := Lib.hid hk
  clear hb hz hk
  go_enter Tryz.func116, Tryz.ntmps116
  go_upto_region 1 with (fail)
  change Code.wp _ _ _ _ (w.alloc (.cells (nteC .i64 n).toArray 185))
  generalize w.alloc (.cells (nteC .i64 n).toArray 185) = w1 at *
  have z2 : w1.cell? ⟨w.heap.size, 2, none⟩ = some (.int .i64 n.kind) := hcell HZ.out 2
  rcases HK.out with hk | hk
  · have d1 : decide (n.kind < 1) = true := decide_eq_true hk
    go_wp2
    go_ret
    exact ⟨⟨_, rfl⟩, HB.out⟩
  · have d1 : decide (n.kind < 1) = false := decide_eq_false (by omega)
    have d2 : decide (9 < n.kind) = true := decide_eq_true hk
    go_wp2
    go_ret
    exact ⟨⟨_, rfl⟩, HB.out⟩
set_option maxRecDepth 10000 in
set_option maxHeartbeats 4000000 in
theorem rladd_ok {w0 w : World} {base nb : Nat} {l : List Nte} {n : Nte} (h : NL w base nb 183 185 .i64 l) (hB : Below base w0 w) (hsz : base ≤ w.heap.size) (hl : l.length < 1048576) (hk : 1 ≤ n.kind ∧ n.kind ≤ 9) (hs : ∀ y, l.getLast? = some y → y.step ≤ n.step) :
    Calls Tryz.prog 116 #[.pointer (some ⟨nb, 0, none⟩), .agg (nteC .i64 n).toArray] w fun e w' => (∃ k, e = .returned (.int .i64 k)) ∧ NL w' base nb 183 185 .i64 (l ++ [n]) ∧ Fr rnTy false w w' ∧ Below base w0 w' := by
  obtain ⟨i0, hi0, hz0, hz1, hz2⟩ := info_parts rinfo_note
  have HI := Lib.hid hi0; have HZ0 := Lib.hid hz0; have HZ1 := Lib.hid hz1; have HZ2 := Lib.hid hz2
  have hb := below_alloc w (.cells (nteC .i64 n).toArray 185)
  have hz := heap_alloc_new w (.cells (nteC .i64 n).toArray 185)
  have h1 := h.fr (below_fr hb (fun _ => false) false) rfl rfl
  have HBB : Hid (Below base w0 (w.alloc (.cells (nteC .i64 n).toArray 185))) := hB.trans (hb.mono hsz)
  have HSZ : Hid (base ≤ (w.alloc (.cells (nteC .i64 n).toArray 185)).heap.size) := Nat.le_trans hsz hb.size
  have HB := Lib.hid hb; have H1 := Lib.hid h1; have HZ := Lib.hid hz; have HL := Lib.hid hl; have HK := Lib.hid hk; have HS := Lib.hid hs
  clear h hb hz h1 hl hk hs hi0 hz0 hz1 hz2 hB hsz
  go_enter Tryz.func116, Tryz.ntmps116
  go_upto_region 1 with (fail)
  change Code.wp _ _ _ _ (w.alloc (.cells (nteC .i64 n).toArray 185))
  generalize w.alloc (.cells (nteC .i64 n).toArray 185) = w1 at *
  have z2 := hcell HZ.out 2
  have dk1 : decide (n.kind < 1) = false := decide_eq_false (by have := HK.out; omega)
  have dk2 : decide (9 < n.kind) = false := decide_eq_false (by have := HK.out; omega)
  have z2' : w1.cell? ⟨w.heap.size, 2, none⟩ = some (.int .i64 n.kind) := z2
  clear z2
  go_upto_region 3 with (fail)
  clear dk1 dk2 z2'
  have HFC0 : Hid (Fr rnTy false w w1) := below_fr HB.out _ _
  clear HB
  generalize w.heap.size = nq at *
  go_cut [36] (fun v wx => v = .bool false ∧ Below w1.heap.size w1 wx)
  case first =>
    obtain ⟨v0, hb1, hb2, hrow⟩ := H1.out
    obtain ⟨a, cap, rfl⟩ := own_sl2 hrow
    have c0 := hcell hb1 0
    clear hb1 hb2
    have hk := HK.out
    have hl := HL.out
    have x0 : ∀ st : ExtW w1, st.val.cell? ⟨nq, 0, none⟩ = some (.int .i64 n.step) := fun st => st.cell (hcell HZ.out 0)
    have y0 : ∀ st : ExtW w1, st.val.cell? ⟨nb, 0, none⟩ = some (.slice a l.length cap) := fun st => st.cell c0
    by_cases h0 : l.length = 0
    · have e0 : decide ((0 : Int) < l.length) = false := decide_eq_false (by omega)
      have e0n : decide (0 < l.length) = false := decide_eq_false (by omega)
      clear hrow c0 hk hl h0
      refine wp_region_ext (by kernel_rfl) (by kernel_rfl) ?_
      repeat (go_big_quiet_step (fail))
      refine wpQuiet_nil ?_
      rintro W ⟨⟨W2, hW⟩, rfl⟩
      clear x0 y0
      have HW := Lib.hid hW
      go_wp2_with fail
      go_meet
      case rel => exact ⟨rfl, HW.out⟩
    · obtain ⟨k, hk1⟩ : ∃ k, l.length = k + 1 := ⟨l.length - 1, by omega⟩
      have hkl : k < l.length := by omega
      obtain ⟨g, rfl, hcs⟩ := rrow8_at hrow k hkl
      have hst : (l[k]).step ≤ n.step := HS.out _ (by rw [List.getLast?_eq_getElem?, show l.length - 1 = k by omega]; exact List.getElem?_eq_getElem hkl)
      have y1 : ∀ st : ExtW w1, st.val.cell? ⟨g, k * 8, none⟩ = some (.int .i64 (l[k]).step) := fun st => st.cell (hcs 0 (by omega))
      generalize (l[k]).step = ys at *
      clear hrow c0 hk hcs hkl h0
      generalize l.length = L at *
      subst hk1
      have e0 : decide ((0 : Int) < ((k + 1 : Nat) : Int)) = true := decide_eq_true (by omega)
      have e0n : decide (0 < k + 1) = true := decide_eq_true (by omega)
      have d3 : decide (n.step < ys) = false := decide_eq_false (by omega)
      clear hst
      refine wp_region_ext (by kernel_rfl) (by kernel_rfl) ?_
      repeat (go_big_quiet_step (fail))
      refine wpQuiet_nil ?_
      rintro W ⟨⟨W2, hW⟩, rfl⟩
      clear x0 y0 y1
      have HW := Lib.hid hW
      go_wp2_with fail
      go_meet
      case rel => exact ⟨rfl, HW.out⟩
  case rest =>
  obtain ⟨hcv, hbx⟩ := hcut
  subst hcv
  have hnl := H1.out.fr (below_fr hbx (fun _ => false) false) rfl rfl
  have hnq := (hbx.block _ (Array.getElem?_eq_some_iff.1 HZ.out).1).trans HZ.out
  obtain ⟨v, hl1, hl2, hl3⟩ := hnl
  obtain ⟨ao, cap, rfl⟩ := own_sl2 hl3
  have hqlt := (Array.getElem?_eq_some_iff.1 hl1).1
  have hnlt := (Array.getElem?_eq_some_iff.1 hnq).1
  have l0 := hcell hl1 0
  have lf := hfrz hl1 0
  have l0' : ∀ o, (wc.alloc o).cell? ⟨nb, 0, none⟩ = some (.slice ao l.length cap) := fun o => by rw [World.cell?_alloc_past _ _ _ hqlt]; exact l0
  have lf' : ∀ o, (wc.alloc o).frozen? ⟨nb, 0, none⟩ = false := fun o => by rw [World.frozen?_alloc_past _ _ _ hqlt]; exact lf
  have hl := HL.out
  have dm : decide ((1048576 : Int) ≤ l.length) = false := decide_eq_false (by omega)
  have k0 : wc.cell? ⟨nq, 0, none⟩ = some (.int .i64 n.step) := hcell hnq 0
  have k1 : wc.cell? ⟨nq, 1, none⟩ = some (.int .i64 n.thread) := hcell hnq 1
  have k2 : wc.cell? ⟨nq, 2, none⟩ = some (.int .i64 n.kind) := hcell hnq 2
  have k3 : wc.cell? ⟨nq, 3, none⟩ = some (.int .i64 n.ref) := hcell hnq 3
  have k4 : wc.cell? ⟨nq, 4, none⟩ = some (.int .i64 n.bits) := hcell hnq 4
  have k5 : wc.cell? ⟨nq, 5, none⟩ = some (.int .i64 n.bucket) := hcell hnq 5
  have k6 : wc.cell? ⟨nq, 6, none⟩ = some (.int .i64 n.slot) := hcell hnq 6
  have k7 : wc.cell? ⟨nq, 7, none⟩ = some (.int .i64 n.value) := hcell hnq 7
  have E2 : Hid (l.length + 1 ≤ maxLen) := by unfold maxLen; show l.length + 1 ≤ _; omega
  have E3 : Hid ((l.length + 1) * 64 ≤ 140737488355328) := by show (l.length + 1) * 64 ≤ 140737488355328; omega
  have E4 : Hid (base ≤ wc.heap.size) := Nat.le_trans HSZ.out hbx.size
  have HNW : Hid (((wc.drew).alloc (.cells #[.int .i64 n.step, .int .i64 n.thread, .int .i64 n.kind, .int .i64 n.ref, .int .i64 n.bits, .int .i64 n.bucket, .int .i64 n.slot, .int .i64 n.value] 185)).heap[wc.heap.size]? = some (.cells #[.int .i64 n.step, .int .i64 n.thread, .int .i64 n.kind, .int .i64 n.ref, .int .i64 n.bits, .int .i64 n.bucket, .int .i64 n.slot, .int .i64 n.value] 185 (0, 0))) := heap_alloc_new (wc.drew) _
  have HW0 : Hid (Below wc.heap.size wc ((wc.drew).alloc (.cells #[.int .i64 n.step, .int .i64 n.thread, .int .i64 n.kind, .int .i64 n.ref, .int .i64 n.bits, .int .i64 n.bucket, .int .i64 n.slot, .int .i64 n.value] 185))) := ((Below.refl _ _).drew).alloc (Nat.le_refl _) _
  have HBC : Hid (Below base w0 wc) := HBB.out.trans (hbx.mono HSZ.out)
  have HFC : Hid (Fr rnTy false w wc) := HFC0.out.trans (below_fr hbx _ _)
  have HL1 := Lib.hid hl1; have HL3 := Lib.hid hl3; have HLO := Lib.hid hl2
  clear hl1 hl3 hl2 hnq hbx H1 HS HK
  go_upto_region 7 with (fail)
  clear dm hl
  go_region_law ((refine step_append_lies _ (by rfl) _ _ _ (by rfl) base 185 i0 _ 8 64 Tryz.underlying181 HI.out HZ0.out HZ1.out HZ2.out rfl (by decide) (.slice ao l.length cap) l.length (l.flatMap (nteC .i64)) (by rfl) ((HL3.out.drew).alloc _) ⟨wc.heap.size, 0, none⟩ 1 1 (nteC .i64 n) (by rfl) (by rfl) (World.news_of_block (cs := #[.int .i64 n.step, .int .i64 n.thread, .int .i64 n.kind, .int .i64 n.ref, .int .i64 n.bits, .int .i64 n.bucket, .int .i64 n.slot, .int .i64 n.value]) (t := 185) (fr := (0, 0)) HNW.out) (by simp [Value.oneCell', nteC]) (by omega) E2.out E3.out (by have := E4.out; simp; omega) (wc.heap.size + 1) (by simp) ?_; intro g cap1 w4 hown1 hgrow hat hlt; have HOW := Lib.hid hown1; have HGR := Lib.hid hgrow; have hq4 : w4.heap[nb]? = some (.cells #[.slice ao l.length cap] 183 (0, 0)) := (grown_ty ((HL3.out.drew).alloc _) hgrow).cells _ _ _ _ ((HW0.out.block _ (Array.getElem?_eq_some_iff.1 HL1.out).1).trans HL1.out) rfl; have t0 := hcell hq4 0; have t1 := hfrz hq4 0; have HQ4 := Lib.hid hq4; clear hown1 hgrow hat hlt hq4))
  all_goals
    have hB4 : Below base w0 w4 := grown_below ((HL3.out.drew).alloc _) HGR.out (HBC.out.trans (HW0.out.mono E4.out)) (Nat.le_trans E4.out HW0.out.size) (Nat.le_refl _)
    have f4 : Fr rnTy false wc w4 := (below_fr HW0.out _ _).trans ((grown_ty ((HL3.out.drew).alloc _) HGR.out).mono rnTy_n id)
    have f5 := set_ty HQ4.out 0 (.slice (some ⟨g, 0, none⟩) (l.length + 1) cap1)
    have hB5 := set_below hB4 (Nat.le_trans E4.out f4.size) HLO.out 0 (.slice (some ⟨g, 0, none⟩) (l.length + 1) cap1)
    have hq5 := setCell_same HQ4.out 0 (.slice (some ⟨g, 0, none⟩) (l.length + 1) cap1)
    have h1 := own_fr HOW.out f5 rfl
    have FIN : Hid (NL (w4.setCell ⟨nb, 0, none⟩ (.slice (some ⟨g, 0, none⟩) (l.length + 1) cap1)) base nb 183 185 .i64 (l ++ [n]) ∧ Fr rnTy false w (w4.setCell ⟨nb, 0, none⟩ (.slice (some ⟨g, 0, none⟩) (l.length + 1) cap1)) ∧ Below base w0 (w4.setCell ⟨nb, 0, none⟩ (.slice (some ⟨g, 0, none⟩) (l.length + 1) cap1))) := by
      refine ⟨⟨_, hq5, HLO.out, ?_⟩, (HFC.out.trans f4).trans (f5.mono rnTy_l id), hB5⟩
      rw [List.length_append, List.flatMap_append]
      simpa using h1
    clear hB4 f4 f5 hB5 hq5 h1 HQ4 HGR HOW t0 t1 l0 l0' lf lf' k0 k1 k2 k3 k4 k5 k6 k7
    generalize w4.setCell ⟨nb, 0, none⟩ (.slice (some ⟨g, 0, none⟩) (l.length + 1) cap1) = w5 at *
    go_wp2_with fail
    go_ret
    exact ⟨⟨_, rfl⟩, FIN.out⟩
theorem rnTy_r (T : TypeId) (h : rTy T = false) : rnTy T = false := by
  unfold rTy at h
  simp only [Bool.or_eq_false_iff] at h
  unfold rnTy
  rw [h.1.2, h.2]; rfl
section
variable {w0 w w' : World} {B : WB} {V : WV} {x : RS}
theorem RD.noted (h : RD w0 w B V x) {l : List Nte} (hn : NL w' w0.heap.size B.nb 183 185 .i64 l) (hf : Fr rnTy false w w') (hB : Below w0.heap.size w0 w') : RD w0 w' B { V with nts := l } x := by
  obtain ⟨S, ha⟩ := h.ar
  obtain ⟨lv, hr⟩ := h.ref
  exact ⟨hB, ⟨lv, hf.cells _ _ _ _ hr.hdr rfl, hr.lo, own_fr hr.row hf rfl, hr.wf⟩, hf.cells _ _ _ _ h.blk rfl, h.lo, ⟨S, ha.fr hf rfl rfl⟩, hn, h.tkl⟩
theorem RD.hd5 (h : RD w0 w B V x) : w.cell? ⟨B.wb, 0, none⟩ = some (.pointer (some ⟨B.cb, 0, none⟩)) ∧ w.cell? ⟨B.wb, 1, none⟩ = some (.pointer (some ⟨B.ib, 0, none⟩)) ∧ w.cell? ⟨B.wb, 2, none⟩ = some (.pointer (some ⟨B.nb, 0, none⟩)) ∧ w.cell? ⟨B.wb, 72, none⟩ = some (.int .i64 V.hd) :=
  ⟨h.c0, (h.cell 1).trans (val_at B V h.tkl).2.1, (h.cell 2).trans (val_at B V h.tkl).2.2.1, (h.cell 72).trans (val_at B V h.tkl).2.2.2.2.2⟩
theorem rwladd (h : RD w0 w B V x) (n : Nte) (hl : V.nts.length < 1048576) (hs : Nsteps V.nts n.step) :
    Calls Tryz.prog 116 #[.pointer (some ⟨B.nb, 0, none⟩), .agg (nteC .i64 n).toArray] w fun e w' => (∃ k, e = .returned (.int .i64 k)) ∧ RD w0 w' B { V with nts := nadd V.nts n } x ∧ Fr rnTy false w w' := by
  by_cases hk : 1 ≤ n.kind ∧ n.kind ≤ 9
  · refine (rladd_ok h.nt h.below h.below.size hl hk (fun y hy => hs y (List.mem_of_getLast? hy))).mono fun e w' ⟨h1, h2, h3, h4⟩ => ⟨h1, ?_, h3⟩
    have : nadd V.nts n = V.nts ++ [n] := by unfold nadd; rw [if_pos hk]
    rw [this]
    exact h.noted h2 h3 h4
  · refine (rladd_no (by omega)).mono fun e w' ⟨h1, h2⟩ => ⟨h1, ?_, below_fr h2 _ _⟩
    have : nadd V.nts n = V.nts := by unfold nadd; rw [if_neg hk]
    rw [this]
    exact h.keep h2
set_option maxRecDepth 10000 in
set_option maxHeartbeats 2000000 in
theorem rnote_any (h : RD w0 w B V x) (k r b u sl v : Int) (hl : V.nts.length < 1048576) (hs : Nsteps V.nts x.cnt) :
    Calls Tryz.prog 44 #[.pointer (some ⟨B.wb, 0, none⟩), .int .i64 k, .int .i64 r, .agg #[.int .i64 b, .int .i64 u, .int .i64 sl], .int .i64 v] w fun e w' => e = .returned (.tuple #[]) ∧ RD w0 w' B { V with nts := nadd V.nts ⟨x.cnt, V.hd, k, r, b, u, sl, v⟩ } x ∧ Fr rTy false w w' := by
  have hb := below_alloc w (.cells #[.int .i64 b, .int .i64 u, .int .i64 sl] 43)
  have hz := heap_alloc_new w (.cells #[.int .i64 b, .int .i64 u, .int .i64 sl] 43)
  have h1 := h.keep hb
  have HB := Lib.hid hb; have HZ := Lib.hid hz; have H1 := Lib.hid h1; have HL := Lib.hid hl; have HS := Lib.hid hs
  clear h hb hz h1 hl hs
  go_enter Tryz.func44, Tryz.ntmps44
  go_upto_region 1 with (fail)
  change Code.wp _ _ _ _ (w.alloc (.cells #[.int .i64 b, .int .i64 u, .int .i64 sl] 43))
  generalize w.alloc (.cells #[.int .i64 b, .int .i64 u, .int .i64 sl] 43) = w1 at *
  have HB0 : Hid (Fr rTy false w w1) := below_fr HB.out _ _
  clear HB
  generalize w.heap.size = nq at *
  have x2 : ∀ st : ExtW w1, st.val.cell? ⟨B.wb, 2, none⟩ = some (.pointer (some ⟨B.nb, 0, none⟩)) := fun st => st.cell H1.out.hd5.2.2.1
  have x72 : ∀ st : ExtW w1, st.val.cell? ⟨B.wb, 72, none⟩ = some (.int .i64 V.hd) := fun st => st.cell H1.out.hd5.2.2.2
  have z0 : ∀ st : ExtW w1, st.val.cell? ⟨nq, 0, none⟩ = some (.int .i64 b) := fun st => st.cell (hcell HZ.out 0)
  have z1 : ∀ st : ExtW w1, st.val.cell? ⟨nq, 1, none⟩ = some (.int .i64 u) := fun st => st.cell (hcell HZ.out 1)
  have z2 : ∀ st : ExtW w1, st.val.cell? ⟨nq, 2, none⟩ = some (.int .i64 sl) := fun st => st.cell (hcell HZ.out 2)
  have m1 : ∀ st : ExtW w1, Calls Tryz.prog 81 #[.pointer (some ⟨B.wb, 0, none⟩)] st.val fun e w' => e = .returned (.int .i64 x.cnt) ∧ st.val = w' := fun st => (rwsteps (H1.out.keep st.below)).mono fun e w' ⟨h1, h2⟩ => ⟨h1, h2.symm⟩
  refine wp_region_ext_tail 15 (by kernel_rfl) (by kernel_rfl) ?_
  simp only [List.take_succ_cons, List.take_zero, List.drop_succ_cons, List.drop_zero]
  repeat (go_big_quiet_step ((go_at_call 81; with_reducible refine calls_ext_same (m1 _))))
  refine wpQuiet_nil ?_
  rintro W ⟨⟨W2, hW⟩, rfl⟩
  clear x2 x72 z0 z1 z2 m1
  have hadd := rwladd (H1.out.keep hW) ⟨x.cnt, V.hd, k, r, b, u, sl, v⟩ HL.out HS.out
  have HW := Lib.hid hW
  clear hW
  go_wp2_with (go_at_call 116; refine hadd.mono ?_; intro e w3 hh; obtain ⟨⟨kk, hh1⟩, h3, f3⟩ := hh; subst hh1; have H3 := Lib.hid h3; have F3 := Lib.hid f3; clear h3 f3 hadd)
  go_end0
  exact ⟨rfl, H3.out, (HB0.out.trans (below_fr HW.out _ _)).trans (F3.out.mono rnTy_r id)⟩
end
end Go.Proofs.YtjfocckdbaaimaaGreat

/-
  SameAll, with notes.
-/
namespace Go.Proofs.YtjfocckdbaaimaaGreat
open Go.RowKit Go.Maps
set_option linter.unusedVariables false

/-- Are the notes of kinds? -/
def Nkinds (l : List Nte) : Prop := ∀ y ∈ l, 1 ≤ y.kind ∧ y.kind ≤ 9
theorem Nkinds.add {l : List Nte} {n : Nte} (h : Nkinds l) : Nkinds (nadd l n) := by
  unfold nadd
  split
  · rename_i hk
    intro y hy
    rcases List.mem_append.1 hy with h1 | h1
    · exact h y h1
    · simp only [List.mem_singleton] at h1; subst h1; exact hk
  · exact h
theorem NRow.sl {w : World} {base : Nat} {v : Value} {l : List Nte} (h : NRow w base v l) : ∃ a, v = .slice a l.length l.length := by
  rcases h with ⟨rfl, rfl⟩ | ⟨g, cur, rfl, _⟩
  · exact ⟨none, rfl⟩
  · exact ⟨_, rfl⟩
theorem NRow.below {w w' : World} {base : Nat} {v : Value} {l : List Nte} (h : NRow w base v l) (hb : Below w.heap.size w w') : NRow w' base v l := by
  rcases h with h | ⟨g, cur, hv, h1, h2, h3⟩
  · exact .inl h
  · exact .inr ⟨g, cur, hv, h1, (hb.block _ (Array.getElem?_eq_some_iff.1 h2).1).trans h2, h3⟩
section
variable {w0 w : World} {B R : WB} {V : WV} {s : CS} {x : RS}
set_option maxRecDepth 10000 in
set_option maxHeartbeats 4000000 in
theorem psalln_any (h : Pr w0 w B R V s x) (hnl : V.nts.length ≤ 1000000) (hkd : Nkinds V.nts) (hl : V.its.length ≤ 1000000) (hsn : s.n ≤ 1000000) :
    Calls Tryz.prog 14 #[.agg #[.pointer (some ⟨B.wb, 0, none⟩), .pointer (some ⟨R.wb, 0, none⟩)]] w fun e w' => e = .returned (.bool true) ∧ Below w.heap.size w w' := by
  have hq0 := heap_alloc_new w (.cells #[.pointer (some ⟨B.wb, 0, none⟩), .pointer (some ⟨R.wb, 0, none⟩)] 34)
  have hB1 := below_alloc w (.cells #[.pointer (some ⟨B.wb, 0, none⟩), .pointer (some ⟨R.wb, 0, none⟩)] 34)
  have H1 := Lib.hid (h.keep hB1); have HQ := Lib.hid hq0; have HB1 := Lib.hid hB1; have HNL := Lib.hid hnl; have HKD := Lib.hid hkd; have HL := Lib.hid hl; have HSN := Lib.hid hsn
  clear h hq0 hB1 hnl hkd hl hsn
  go_enter Tryz.func14, Tryz.ntmps14
  go_upto_region 1 with (fail)
  change Code.wp _ _ _ _ (w.alloc (.cells #[.pointer (some ⟨B.wb, 0, none⟩), .pointer (some ⟨R.wb, 0, none⟩)] 34))
  generalize w.alloc (.cells #[.pointer (some ⟨B.wb, 0, none⟩), .pointer (some ⟨R.wb, 0, none⟩)] 34) = w1 at *
  have hq := HQ.out
  have q0 := fun st : ExtW w1 => st.cell (hcell hq 0)
  have q1 := fun st : ExtW w1 => st.cell (hcell hq 1)
  have d0 := fun st : ExtW w1 => st.cell H1.out.ws.hd.1
  have g0 := fun st : ExtW w1 => st.cell H1.out.rd.hd.1
  have hs := fun st : ExtW w1 => psame_any (H1.out.keep st.below)
  have h5 := fun st : ExtW w1 => same05_any (⟨(H1.out.keep st.below).ws.own, (H1.out.keep st.below).rd.ref, (H1.out.keep st.below).al⟩ : Both w0 st.val B.cb R.cb s x) HSN.out
  clear hq
  refine wp_region_ext (by kernel_rfl) (by kernel_rfl) ?_
  repeat (go_big_quiet_step (first
    | (go_at_call 16; with_reducible refine calls_ext (hs _))
    | (go_at_call 71; with_reducible refine calls_ext (h5 _))))
  refine wpQuiet_nil ?_
  rintro W2 ⟨⟨W3, hW⟩, rfl⟩
  have H2 := Lib.hid (H1.out.keep hW)
  have HQ2 := Lib.hid ((hW.block _ (Array.getElem?_eq_some_iff.1 HQ.out).1).trans HQ.out)
  have HB2 : Hid (Below w.heap.size w W2) := HB1.out.trans (hW.mono HB1.out.size)
  clear q0 q1 d0 g0 hs h5 hW H1 HQ HB1
  have p0 := hcell HQ2.out 0
  have p1 := hcell HQ2.out 1
  obtain ⟨c0, c1, c2, c72⟩ := H2.out.ws.hd
  have hal := lall_any H2.out.ws.nt (by have := HNL.out; omega)
  go_upto_region 4 with (go_at_call 72; refine hal.mono ?_; intro e w4 hh; obtain ⟨v, hh1, hr, b4⟩ := hh; subst hh1; have HNR := Lib.hid hr; have H4 := Lib.hid (H2.out.keep b4); have HQ4 := Lib.hid ((b4.block _ (Array.getElem?_eq_some_iff.1 HQ2.out).1).trans HQ2.out); have HB4 : Hid (Below w.heap.size w w4) := HB2.out.trans (b4.mono HB2.out.size); clear hr b4 hal p0 p1 c0 c1 c2 c72)
  clear H2 HQ2 HB2
  obtain ⟨va, rfl⟩ := HNR.out.sl
  have p0 := hcell HQ4.out 0
  have p1 := hcell HQ4.out 1
  obtain ⟨r0, r1, r2, r72⟩ := H4.out.rd.hd
  obtain ⟨nv, hn1, hn2, hn3⟩ := H4.out.rd.nt
  obtain ⟨na, ncap, hnv⟩ := own_sl hn3
  subst hnv
  have n0 : w4.cell? ⟨R.nb, 0, none⟩ = some (.slice na V.nts.length ncap) := hcell hn1 0
  clear hn1 hn2 hn3
  go_wp2_with fail
  clear p0 p1 r0 r1 r2 r72 n0
  go_loopw [4] (fun i wr => ∃ k : Nat, k ≤ V.nts.length ∧ i = .int .i64 k ∧ Pr w0 wr B R V s x ∧ wr.heap[w.heap.size]? = some (.cells #[.pointer (some ⟨B.wb, 0, none⟩), .pointer (some ⟨R.wb, 0, none⟩)] 34 (0, 0)) ∧ NRow wr W2.heap.size (.slice va V.nts.length V.nts.length) V.nts ∧ Below w.heap.size w wr) (fun i _ => V.nts.length - (intOf i).toNat)
  case atStart => exact ⟨0, by omega, rfl, H4.out, HQ4.out, HNR.out, HB4.out⟩
  case round =>
   clear H4 HQ4 HB4 HNR
   obtain ⟨k, hk, rfl, h, hq, hnr, hB⟩ := hrel
   have hnlb := HNL.out
   by_cases hlt : k < V.nts.length
   · have hlt' : (k : Int) < V.nts.length := by omega
     have p0 := hcell hq 0
     have p1 := hcell hq 1
     obtain ⟨r0, r1, r2, r72⟩ := h.rd.hd
     obtain ⟨nv, hn1, hn2, hn3⟩ := h.rd.nt
     obtain ⟨na, ncap, hnv⟩ := own_sl hn3
     subst hnv
     have n0 : wr.cell? ⟨R.nb, 0, none⟩ = some (.slice na V.nts.length ncap) := hcell hn1 0
     obtain ⟨g, hv, hcs⟩ := hnr.at k hlt
     simp only [Value.slice.injEq, and_true] at hv
     obtain ⟨rg, hrv, hrs⟩ := rrow8_at hn3 k hlt
     subst hrv
     obtain ⟨y, hy⟩ : ∃ y, y = V.nts[k]'hlt := ⟨_, rfl⟩
     rw [← hy] at hcs hrs
     have hkk := HKD.out y (by rw [hy]; exact List.getElem_mem hlt)
     have q0 : wr.cell? ⟨rg, k * 8, none⟩ = some (.int .i64 y.step) := hrs 0 (by omega)
     have q1 : wr.cell? ⟨rg, k * 8 + 1, none⟩ = some (.int .i64 y.thread) := hrs 1 (by omega)
     have q2 : wr.cell? ⟨rg, k * 8 + 2, none⟩ = some (.int .i64 y.kind) := hrs 2 (by omega)
     have q3 : wr.cell? ⟨rg, k * 8 + 3, none⟩ = some (.int .i64 y.ref) := hrs 3 (by omega)
     have q4 : wr.cell? ⟨rg, k * 8 + 4, none⟩ = some (.int .i64 y.bits) := hrs 4 (by omega)
     have q5 : wr.cell? ⟨rg, k * 8 + 5, none⟩ = some (.int .i64 y.bucket) := hrs 5 (by omega)
     have q6 : wr.cell? ⟨rg, k * 8 + 6, none⟩ = some (.int .i64 y.slot) := hrs 6 (by omega)
     have q7 : wr.cell? ⟨rg, k * 8 + 7, none⟩ = some (.int .i64 y.value) := hrs 7 (by omega)
     have HR := Lib.hid h; have HQ := Lib.hid hq; have HNRR := Lib.hid hnr; have HB := Lib.hid hB; have HCS := Lib.hid hcs; have HVV := Lib.hid hv; have HKK := Lib.hid hkk
     clear h hq hnr hB hn1 hn2 hn3 hcs hrs hy hv hkk r0 r1 r72
     go_upto_region 10 with (fail)
     have hb5 := below_alloc wr (.cells (nteC .i64 y).toArray 185)
     have hz5 := heap_alloc_new wr (.cells (nteC .i64 y).toArray 185)
     have HB5 := Lib.hid hb5; have HZ5 := Lib.hid hz5
     clear hb5 hz5 p0 p1 r2 n0 q0 q1 q2 q3 q4 q5 q6 q7
     change Code.wp _ _ _ _ (wr.alloc (.cells (nteC .i64 y).toArray 185))
     have x0 : ∀ st : ExtW (wr.alloc (.cells (nteC .i64 y).toArray 185)), st.val.cell? ⟨g, k * 8, none⟩ = some (.int .i64 y.step) := fun st => st.cell ((HB5.out.cell (p := ⟨g, k * 8, none⟩) (World.block_lt_of_cell? _ _ (HCS.out 0 (by omega)))).trans (HCS.out 0 (by omega)))
     have x1 : ∀ st : ExtW (wr.alloc (.cells (nteC .i64 y).toArray 185)), st.val.cell? ⟨g, k * 8 + 1, none⟩ = some (.int .i64 y.thread) := fun st => st.cell ((HB5.out.cell (p := ⟨g, k * 8 + 1, none⟩) (World.block_lt_of_cell? _ _ (HCS.out 1 (by omega)))).trans (HCS.out 1 (by omega)))
     have x2 : ∀ st : ExtW (wr.alloc (.cells (nteC .i64 y).toArray 185)), st.val.cell? ⟨g, k * 8 + 2, none⟩ = some (.int .u8 y.kind) := fun st => st.cell ((HB5.out.cell (p := ⟨g, k * 8 + 2, none⟩) (World.block_lt_of_cell? _ _ (HCS.out 2 (by omega)))).trans (HCS.out 2 (by omega)))
     have x3 : ∀ st : ExtW (wr.alloc (.cells (nteC .i64 y).toArray 185)), st.val.cell? ⟨g, k * 8 + 3, none⟩ = some (.int .i64 y.ref) := fun st => st.cell ((HB5.out.cell (p := ⟨g, k * 8 + 3, none⟩) (World.block_lt_of_cell? _ _ (HCS.out 3 (by omega)))).trans (HCS.out 3 (by omega)))
     have x4 : ∀ st : ExtW (wr.alloc (.cells (nteC .i64 y).toArray 185)), st.val.cell? ⟨g, k * 8 + 4, none⟩ = some (.int .i64 y.bits) := fun st => st.cell ((HB5.out.cell (p := ⟨g, k * 8 + 4, none⟩) (World.block_lt_of_cell? _ _ (HCS.out 4 (by omega)))).trans (HCS.out 4 (by omega)))
     have x5 : ∀ st : ExtW (wr.alloc (.cells (nteC .i64 y).toArray 185)), st.val.cell? ⟨g, k * 8 + 5, none⟩ = some (.int .i64 y.bucket) := fun st => st.cell ((HB5.out.cell (p := ⟨g, k * 8 + 5, none⟩) (World.block_lt_of_cell? _ _ (HCS.out 5 (by omega)))).trans (HCS.out 5 (by omega)))
     have x6 : ∀ st : ExtW (wr.alloc (.cells (nteC .i64 y).toArray 185)), st.val.cell? ⟨g, k * 8 + 6, none⟩ = some (.int .i64 y.slot) := fun st => st.cell ((HB5.out.cell (p := ⟨g, k * 8 + 6, none⟩) (World.block_lt_of_cell? _ _ (HCS.out 6 (by omega)))).trans (HCS.out 6 (by omega)))
     have x7 : ∀ st : ExtW (wr.alloc (.cells (nteC .i64 y).toArray 185)), st.val.cell? ⟨g, k * 8 + 7, none⟩ = some (.int .i64 y.value) := fun st => st.cell ((HB5.out.cell (p := ⟨g, k * 8 + 7, none⟩) (World.block_lt_of_cell? _ _ (HCS.out 7 (by omega)))).trans (HCS.out 7 (by omega)))
     generalize wr.alloc (.cells (nteC .i64 y).toArray 185) = w5 at *
     have HR5 := Lib.hid (HR.out.keep HB5.out)
     have HQ5 := Lib.hid ((HB5.out.block _ (Array.getElem?_eq_some_iff.1 HQ.out).1).trans HQ.out)
     have HN5 := Lib.hid (HNRR.out.below HB5.out)
     have HBB : Hid (Below w.heap.size w w5) := HB.out.trans (HB5.out.mono HB.out.size)
     clear HR HQ HNRR HB HCS HB5
     generalize wr.heap.size = nq at *
     have z0 : ∀ st : ExtW w5, st.val.cell? ⟨nq, 0, none⟩ = some (.int .i64 y.step) := fun st => st.cell (hcell HZ5.out 0)
     have z1 : ∀ st : ExtW w5, st.val.cell? ⟨nq, 1, none⟩ = some (.int .i64 y.thread) := fun st => st.cell (hcell HZ5.out 1)
     have z2 : ∀ st : ExtW w5, st.val.cell? ⟨nq, 2, none⟩ = some (.int .i64 y.kind) := fun st => st.cell (hcell HZ5.out 2)
     have z3 : ∀ st : ExtW w5, st.val.cell? ⟨nq, 3, none⟩ = some (.int .i64 y.ref) := fun st => st.cell (hcell HZ5.out 3)
     have z4 : ∀ st : ExtW w5, st.val.cell? ⟨nq, 4, none⟩ = some (.int .i64 y.bits) := fun st => st.cell (hcell HZ5.out 4)
     have z5 : ∀ st : ExtW w5, st.val.cell? ⟨nq, 5, none⟩ = some (.int .i64 y.bucket) := fun st => st.cell (hcell HZ5.out 5)
     have z6 : ∀ st : ExtW w5, st.val.cell? ⟨nq, 6, none⟩ = some (.int .i64 y.slot) := fun st => st.cell (hcell HZ5.out 6)
     have z7 : ∀ st : ExtW w5, st.val.cell? ⟨nq, 7, none⟩ = some (.int .i64 y.value) := fun st => st.cell (hcell HZ5.out 7)
     have hva := HVV.out
     have hkk := HKK.out
     have ekk : wrap64 y.kind = y.kind := IntWalk.wrap64_in _ (by omega)
     clear hkk
     subst hva
     refine wp_region_ext (by kernel_rfl) (by kernel_rfl) ?_
     repeat (go_big_quiet_step (fail))
     refine wpQuiet_nil ?_
     rintro W9 ⟨⟨W8, hW⟩, rfl⟩
     clear x0 x1 x2 x3 x4 x5 x6 x7 z0 z1 z2 z3 z4 z5 z6 z7 ekk
     have HW := Lib.hid hW
     clear hW
     go_wp2_with fail
     go_roundw
     case rel => exact ⟨k + 1, by omega, by go_num, HR5.out.keep HW.out, (HW.out.block _ (Array.getElem?_eq_some_iff.1 HQ5.out).1).trans HQ5.out, HN5.out.below HW.out, HBB.out.trans (HW.out.mono HBB.out.size)⟩
     case measure => simp [intOf]; omega
   obtain rfl : k = V.nts.length := by omega
   have H4 := Lib.hid h; have HQ4 := Lib.hid hq; have HB4 := Lib.hid hB
   clear h hq hB hnr hlt
   go_wp2_with fail
   go_loopw [6] (fun i wr => ∃ k : Nat, k ≤ V.its.length + 2 ∧ i = .int .i64 k ∧ Pr w0 wr B R V s x ∧ wr.heap[w.heap.size]? = some (.cells #[.pointer (some ⟨B.wb, 0, none⟩), .pointer (some ⟨R.wb, 0, none⟩)] 34 (0, 0)) ∧ Below w.heap.size w wr) (fun i _ => V.its.length + 2 - (intOf i).toNat)
   case atStart => exact ⟨0, by omega, rfl, H4.out, HQ4.out, HB4.out⟩
   case round =>
     clear H4 HQ4 HB4
     obtain ⟨k, hk, rfl, h, hq, hB⟩ := hrel
     have p0 := hcell hq 0
     have p1 := hcell hq 1
     obtain ⟨c0, c1, c2, c72⟩ := h.ws.hd
     obtain ⟨r0, r1, r2, r72⟩ := h.rd.hd
     have hri := h.rd.icount
     have hl := HL.out
     by_cases hlt : k ≤ V.its.length + 1
     · have hlt' : (k : Int) ≤ V.its.length + 1 := by omega
       have hia := h.ws.iat (by omega) k
       obtain ⟨yy, hye⟩ : ∃ yy, atOf V.its k = yy := ⟨_, rfl⟩
       rw [hye] at hia
       have HYE := Lib.hid hye
       clear hye
       have HRI := Lib.hid h; have HQ := Lib.hid hq; have HB := Lib.hid hB
       clear h hq hB
       go_upto_region 16 with (first
         | (go_at_call 73; with_reducible refine hri.mono ?_; rintro e w' ⟨rfl, hw⟩; obtain rfl := hw; clear hri)
         | (go_at_call 74; with_reducible refine hia.mono ?_; rintro e w5 ⟨rfl, b5⟩; clear hia p0 p1 c0 c1 c2 c72 r0 r1 r2 r72; have H5 := Lib.hid b5))
       obtain ⟨y, yb⟩ := yy
       simp only []
       have hb6 := below_alloc w5 (.cells y.cells.toArray 39)
       have hy6 : Box (w5.alloc (.cells y.cells.toArray 39)) w5.heap.size y := heap_alloc_new w5 _
       change Code.wp _ _ _ _ (w5.alloc (.cells y.cells.toArray 39))
       generalize w5.alloc (.cells y.cells.toArray 39) = w6 at *
       have hb16 : Below wr.heap.size wr w6 := H5.out.trans (hb6.mono H5.out.size)
       generalize w5.heap.size = qa at *
       have HY6 := Lib.hid hy6
       have H6 := Lib.hid (HRI.out.keep hb16)
       have HQ6 := Lib.hid ((hb16.block _ (Array.getElem?_eq_some_iff.1 HQ.out).1).trans HQ.out)
       have HB6 : Hid (Below w.heap.size w w6) := HB.out.trans (hb16.mono HB.out.size)
       have p1 := hcell HQ6.out 1
       have r1 := H6.out.rd.hd.2.1
       have hrb := H6.out.rd.iat (by have := HL.out; omega) k
       rw [HYE.out] at hrb
       clear hb6 hy6 hb16 H5 HRI HQ HB
       go_upto_region 17 with (go_at_call 75; with_reducible refine hrb.mono ?_; rintro e w7 ⟨rfl, b7⟩; clear hrb p1 r1; have H7 := Lib.hid b7)
       have hb8 := below_alloc w7 (.cells y.cells.toArray 39)
       have hy8 : Box (w7.alloc (.cells y.cells.toArray 39)) w7.heap.size y := heap_alloc_new w7 _
       change Code.wp _ _ _ _ (w7.alloc (.cells y.cells.toArray 39))
       generalize w7.alloc (.cells y.cells.toArray 39) = w8 at *
       have hb68 : Below w6.heap.size w6 w8 := H7.out.trans (hb8.mono H7.out.size)
       generalize w7.heap.size = qb at *
       have hya : Box w8 qa y := HY6.out.below hb68
       obtain ⟨a0, a1, a2, a3, a4, a5⟩ := hya.cells
       obtain ⟨e0, e1, e2, e3, e4, e5⟩ := hy8.cells
       have H8 := Lib.hid (H6.out.keep hb68)
       have HQ8 := Lib.hid ((hb68.block _ (Array.getElem?_eq_some_iff.1 HQ6.out).1).trans HQ6.out)
       have HB8 : Hid (Below w.heap.size w w8) := HB6.out.trans (hb68.mono HB6.out.size)
       clear hb8 hb68 hya hy8 H6 HQ6 HB6 HY6 H7
       go_wp2_with fail
       go_roundw
       case rel => exact ⟨k + 1, by omega, by go_num, H8.out, HQ8.out, HB8.out⟩
       case measure => simp [intOf]; omega
     · obtain rfl : k = V.its.length + 2 := by omega
       have hlt' : (V.its.length : Int) + 1 < ((V.its.length + 2 : Nat) : Int) := by omega
       have HB9 := Lib.hid hB
       clear h hq hB
       go_wp2_with (go_at_call 73; with_reducible refine hri.mono ?_; rintro e w' ⟨rfl, hw⟩; obtain rfl := hw; clear hri)
       go_ret
       exact ⟨rfl, HB9.out⟩
end
end Go.Proofs.YtjfocckdbaaimaaGreat

/-
  The document's rule of growing; what both worlds tell.
-/
namespace Go.Proofs.YtjfocckdbaaimaaGreat
open Go.RowKit Go.Maps
set_option linter.unusedVariables false

theorem tsize_pw (b : Int) (h : 1 ≤ b ∧ b ≤ 12) : 2 ≤ tsize b ∧ tsize b ≤ 4096 := by
  have : b = 1 ∨ b = 2 ∨ b = 3 ∨ b = 4 ∨ b = 5 ∨ b = 6 ∨ b = 7 ∨ b = 8 ∨ b = 9 ∨ b = 10 ∨ b = 11 ∨ b = 12 := by omega
  rcases this with rfl | rfl | rfl | rfl | rfl | rfl | rfl | rfl | rfl | rfl | rfl | rfl <;> decide
theorem pmay_out (f g b : Int) (h : f < 1 ∨ 12 < f ∨ b < 1 ∨ 11 < b) : pmay f g b = false := by
  have : tsize f = 0 ∨ tsize b = 0 ∨ tsize (b + 1) = 0 := by
    rcases h with h | h | h | h
    · exact .inl (tsize_out (.inl h))
    · exact .inl (tsize_out (.inr h))
    · exact .inr (.inl (tsize_out (.inl h)))
    · exact .inr (.inr (tsize_out (.inr (by omega))))
  unfold pmay
  rcases this with h | h | h <;> simp [h]
set_option maxRecDepth 10000 in
theorem rmay08_any (f g b : Int) (w : World) : Calls Tryz.prog 149 #[.int .i64 f, .int .i64 g, .int .i64 b] w fun e w' => e = .returned (.bool (pmay f g b)) ∧ w' = w := by
  by_cases ho : f < 1 ∨ 12 < f ∨ b < 1 ∨ 11 < b
  · rw [pmay_out f g b ho]
    by_cases h1 : f < 1
    · have d1 : decide (f < 1) = true := by simp; omega
      clear ho h1
      go_enter Tryz.func149, Tryz.ntmps149
      go_wp2
      go_ret
      exact ⟨rfl, rfl⟩
    have d1 : decide (f < 1) = false := by simp; omega
    by_cases h2 : 12 < f
    · have d2 : decide (12 < f) = true := by simp; omega
      clear ho h1 h2
      go_enter Tryz.func149, Tryz.ntmps149
      go_wp2
      go_ret
      exact ⟨rfl, rfl⟩
    have d2 : decide (12 < f) = false := by simp; omega
    by_cases h3 : b < 1
    · have d3 : decide (b < 1) = true := by simp; omega
      clear ho h1 h2 h3
      go_enter Tryz.func149, Tryz.ntmps149
      go_wp2
      go_ret
      exact ⟨rfl, rfl⟩
    have d3 : decide (b < 1) = false := by simp; omega
    have d4 : decide (11 < b) = true := by simp; omega
    clear ho h1 h2 h3
    go_enter Tryz.func149, Tryz.ntmps149
    go_wp2
    go_ret
    exact ⟨rfl, rfl⟩
  · have hf := tsize_pw f (by omega)
    have hb := tsize_pw b (by omega)
    have hb1 := tsize_pw (b + 1) (by omega)
    have d1 : decide (f < 1) = false := by simp; omega
    have d2 : decide (12 < f) = false := by simp; omega
    have d3 : decide (b < 1) = false := by simp; omega
    have d4 : decide (11 < b) = false := by simp; omega
    have hp : pmay f g b = decide (4 * (tsize b + tsize (b + 1)) ≤ 8 * max (min g 65536) (4 * tsize f)) := by
      unfold pmay
      rw [show (tsize f == 0) = false from beq_eq_false_iff_ne.2 (by omega), show (tsize b == 0) = false from beq_eq_false_iff_ne.2 (by omega), show (tsize (b + 1) == 0) = false from beq_eq_false_iff_ne.2 (by omega)]
      rfl
    have hw : wrap64 (b + 1) = b + 1 := IntWalk.wrap64_in _ (by omega)
    have hs1 := fun w => rsize_any f w
    have hs2 := fun w => rsize_any b w
    have hs3 := fun w => rsize_any (b + 1) w
    rw [hp]
    clear ho hp
    generalize tsize f = sf at *
    generalize tsize b = sb at *
    generalize tsize (b + 1) = sc at *
    by_cases h1 : 65536 < g
    · have e1 : decide (65536 < g) = true := by simp; omega
      by_cases h2 : 4 * sf < 65536
      · have e2 : decide (4 * sf < 65536) = true := by simp; omega
        have HM : Hid (max (min g 65536) (4 * sf) = 65536) := show _ = _ by omega
        clear h1
        go_enter Tryz.func149, Tryz.ntmps149
        go_wp2_with (first
          | (go_at_call 194; with_reducible refine (hs1 _).mono ?_; rintro e w1 ⟨rfl, rfl⟩)
          | (go_at_call 194; with_reducible refine (hs2 _).mono ?_; rintro e w1 ⟨rfl, rfl⟩)
          | (go_at_call 194; with_reducible refine (hs3 _).mono ?_; rintro e w1 ⟨rfl, rfl⟩))
        go_ret
        refine ⟨ret_bool ?_, rfl⟩
        rw [HM.out]; congr 1; apply propext; constructor <;> intro h <;> omega
      · have e2 : decide (4 * sf < 65536) = false := by simp; omega
        have HM : Hid (max (min g 65536) (4 * sf) = 4 * sf) := show _ = _ by omega
        clear h1
        go_enter Tryz.func149, Tryz.ntmps149
        go_wp2_with (first
          | (go_at_call 194; with_reducible refine (hs1 _).mono ?_; rintro e w1 ⟨rfl, rfl⟩)
          | (go_at_call 194; with_reducible refine (hs2 _).mono ?_; rintro e w1 ⟨rfl, rfl⟩)
          | (go_at_call 194; with_reducible refine (hs3 _).mono ?_; rintro e w1 ⟨rfl, rfl⟩))
        go_ret
        refine ⟨ret_bool ?_, rfl⟩
        rw [HM.out]; congr 1; apply propext; constructor <;> intro h <;> omega
    · have e1 : decide (65536 < g) = false := by simp; omega
      by_cases h2 : 4 * sf < g
      · have e2 : decide (4 * sf < g) = true := by simp; omega
        have HM : Hid (max (min g 65536) (4 * sf) = g) := show _ = _ by omega
        have HG : Hid (g ≤ 65536 ∧ 0 ≤ g) := ⟨by omega, by omega⟩
        go_enter Tryz.func149, Tryz.ntmps149
        go_wp2_with (first
          | (go_at_call 194; with_reducible refine (hs1 _).mono ?_; rintro e w1 ⟨rfl, rfl⟩)
          | (go_at_call 194; with_reducible refine (hs2 _).mono ?_; rintro e w1 ⟨rfl, rfl⟩)
          | (go_at_call 194; with_reducible refine (hs3 _).mono ?_; rintro e w1 ⟨rfl, rfl⟩))
        go_ret
        refine ⟨ret_bool ?_, rfl⟩
        have := HG.out
        rw [HM.out]; congr 1; apply propext; constructor <;> intro h <;> omega
      · have e2 : decide (4 * sf < g) = false := by simp; omega
        have HM : Hid (max (min g 65536) (4 * sf) = 4 * sf) := show _ = _ by omega
        clear h1
        go_enter Tryz.func149, Tryz.ntmps149
        go_wp2_with (first
          | (go_at_call 194; with_reducible refine (hs1 _).mono ?_; rintro e w1 ⟨rfl, rfl⟩)
          | (go_at_call 194; with_reducible refine (hs2 _).mono ?_; rintro e w1 ⟨rfl, rfl⟩)
          | (go_at_call 194; with_reducible refine (hs3 _).mono ?_; rintro e w1 ⟨rfl, rfl⟩))
        go_ret
        refine ⟨ret_bool ?_, rfl⟩
        rw [HM.out]; congr 1; apply propext; constructor <;> intro h <;> omega
theorem rgrows_any {w0 w : World} {B : WB} {V : WV} {x : RS} (h : RD w0 w B V x) : Calls Tryz.prog 78 #[.pointer (some ⟨B.wb, 0, none⟩)] w fun e w' => e = .returned (.bool (asNow (rlook x.l 2) == 0 && pmay V.c.bits V.c.budget (asOld (rlook x.l 2)))) ∧ Below w.heap.size w w' := by
  have hp := rwpeek h 2
  have hb := wf_bd (rlook_wf' h 2)
  have c3 := (h.cell 3).trans (val_at B V h.tkl).2.2.2.1
  have c4 := (h.cell 4).trans (val_at B V h.tkl).2.2.2.2.1
  have ha := fun w => ras_any (rlook x.l 2) hb.1 hb.2 w
  have z3 := fun st : ExtW w => st.cell c3
  have z4 := fun st : ExtW w => st.cell c4
  clear h hb c3 c4
  generalize rlook x.l 2 = v at *
  generalize asOld v = o at *
  generalize asNow v = n at *
  have hm := fun st : ExtW w => (rmay08_any V.c.bits V.c.budget o st.val).mono fun e w' (h : _ ∧ _) => And.intro h.1 h.2.symm
  generalize pmay V.c.bits V.c.budget o = m at *
  cases hn : (n == 0)
  all_goals
    go_enter Tryz.func78, Tryz.ntmps78
    go_upto_region 2 with (first
      | (go_at_call 141; refine hp.mono ?_; rintro e w1 ⟨rfl, hw⟩; obtain rfl := hw.symm; clear hp)
      | (go_at_call 122; refine (ha _).mono ?_; rintro e w1 ⟨rfl, hw⟩; obtain rfl := hw.symm))
    refine wp_region_ext (by kernel_rfl) (by kernel_rfl) ?_
    repeat (go_big_quiet_step ((go_at_call 149; with_reducible refine calls_ext_same (hm _))))
    refine wpQuiet_nil ?_
    rintro W2 ⟨⟨W3, hW⟩, rfl⟩
    clear z3 z4 hm
    go_wp2
    go_ret
    exact ⟨rfl, hW⟩
end Go.Proofs.YtjfocckdbaaimaaGreat

/-
  A list of a world's acts that came in.
-/
namespace Go.Proofs.YtjfocckdbaaimaaGreat
open Go.RowKit Go.Maps
set_option linter.unusedVariables false

structure WAc where
  k : Int
  n : Int
  r : Int
  b : Int
  u : Int
  s : Int
  v : Int
  a : Int
  w : Int
  it : Itm
def WAc.cells (x : WAc) : List Value := [.int .u8 x.k, .int .u8 x.n, .int .i64 x.r, .int .i64 x.b, .int .i64 x.u, .int .i64 x.s, .int .i64 x.v, .int .u64 x.a, .int .u64 x.w, .string x.it.key, .string x.it.val, .int .u32 x.it.flags, .int .u64 x.it.id, .int .i64 x.it.dies, .int .i64 x.it.gen]
structure WAc.wf (x : WAc) : Prop where
  k : (Lit.int .u8 x.k).wf = true
  n : (Lit.int .u8 x.n).wf = true
  r : (Lit.int .i64 x.r).wf = true
  b : (Lit.int .i64 x.b).wf = true
  u : (Lit.int .i64 x.u).wf = true
  s : (Lit.int .i64 x.s).wf = true
  v : (Lit.int .i64 x.v).wf = true
  a : (Lit.int .u64 x.a).wf = true
  w : (Lit.int .u64 x.w).wf = true
def wacLeaves : List Leaf := [.int .u8, .int .u8, .int .i64, .int .i64, .int .i64, .int .i64, .int .i64, .int .u64, .int .u64, .str, .str, .int .u32, .int .u64, .int .i64, .int .i64]
theorem wac_of {w : World} {cs : List Value} (h : Leaf.allHold w wacLeaves cs) : ∃ x : WAc, cs = x.cells ∧ x.wf := by
  obtain ⟨c0, r, rfl, g0, h⟩ := allHold_cons h
  obtain ⟨c1, r, rfl, g1, h⟩ := allHold_cons h
  obtain ⟨c2, r, rfl, g2, h⟩ := allHold_cons h
  obtain ⟨c3, r, rfl, g3, h⟩ := allHold_cons h
  obtain ⟨c4, r, rfl, g4, h⟩ := allHold_cons h
  obtain ⟨c5, r, rfl, g5, h⟩ := allHold_cons h
  obtain ⟨c6, r, rfl, g6, h⟩ := allHold_cons h
  obtain ⟨c7, r, rfl, g7, h⟩ := allHold_cons h
  obtain ⟨c8, r, rfl, g8, h⟩ := allHold_cons h
  obtain ⟨c9, r, rfl, g9, h⟩ := allHold_cons h
  obtain ⟨c10, r, rfl, g10, h⟩ := allHold_cons h
  obtain ⟨c11, r, rfl, g11, h⟩ := allHold_cons h
  obtain ⟨c12, r, rfl, g12, h⟩ := allHold_cons h
  obtain ⟨c13, r, rfl, g13, h⟩ := allHold_cons h
  obtain ⟨c14, r, rfl, g14, h⟩ := allHold_cons h
  obtain rfl := allHold_nil h
  obtain ⟨n0, rfl, w0⟩ := holds_int g0
  obtain ⟨n1, rfl, w1⟩ := holds_int g1
  obtain ⟨n2, rfl, w2⟩ := holds_int g2
  obtain ⟨n3, rfl, w3⟩ := holds_int g3
  obtain ⟨n4, rfl, w4⟩ := holds_int g4
  obtain ⟨n5, rfl, w5⟩ := holds_int g5
  obtain ⟨n6, rfl, w6⟩ := holds_int g6
  obtain ⟨n7, rfl, w7⟩ := holds_int g7
  obtain ⟨n8, rfl, w8⟩ := holds_int g8
  obtain ⟨n9, rfl, w9⟩ := holds_str g9
  obtain ⟨n10, rfl, w10⟩ := holds_str g10
  obtain ⟨n11, rfl, w11⟩ := holds_int g11
  obtain ⟨n12, rfl, w12⟩ := holds_int g12
  obtain ⟨n13, rfl, w13⟩ := holds_int g13
  obtain ⟨n14, rfl, w14⟩ := holds_int g14
  exact ⟨⟨n0, n1, n2, n3, n4, n5, n6, n7, n8, ⟨n9, n10, n11, n12, n13, n14⟩⟩, rfl, w0, w1, w2, w3, w4, w5, w6, w7, w8⟩
/-- Accesses that may be read. -/
structure WActs (w : World) (a : Option Addr) (cap : Nat) (l : List WAc) : Prop where
  le : l.length ≤ cap
  most : cap ≤ maxLen
  nil : a = none → cap = 0
  wf : ∀ x ∈ l, x.wf
  cell : l = [] ∨ ∃ b off, a = some ⟨b, off, none⟩ ∧ ∀ i, (hi : i < l.length) → ∀ j, j < 15 → w.cell? ⟨b, off + (i * 15 + j), none⟩ = (l[i]).cells[j]?
theorem wacts_of {w : World} {a : Option Addr} {n cap : Nat} (h : Leaf.holds w (.sl wacLeaves) (.slice a n cap)) : ∃ l, l.length = n ∧ WActs w a cap l := by
  obtain ⟨l, a', cap', hv, h1, h2, h3, h4, h5⟩ := recs_of h
  simp only [Value.slice.injEq] at hv
  obtain ⟨rfl, rfl, rfl⟩ := hv
  obtain ⟨m, hm, hp⟩ := list_of (fun i (x : WAc) => l[i]? = some x.cells ∧ x.wf) l.length (fun i hi => by
    obtain ⟨x, hx, hw⟩ := wac_of (h4 _ (List.getElem_mem hi))
    exact ⟨x, by rw [List.getElem?_eq_getElem hi, hx], hw⟩)
  refine ⟨m, hm, by omega, h2, h3, fun x hx => ?_, ?_⟩
  · obtain ⟨i, hi, rfl⟩ := List.mem_iff_getElem.1 hx
    exact (hp i hi).2
  · rcases h5 with rfl | ⟨b, off, rfl, h5⟩
    · left; simpa using hm
    · refine .inr ⟨b, off, rfl, fun i hi j hj => ?_⟩
      have h6 := h5 i (by omega) j hj
      have h7 := (hp i hi).1
      rw [List.getElem?_eq_getElem (by omega)] at h7
      simp only [Option.some.injEq] at h7
      rw [h7] at h6
      exact h6
theorem WActs.at {w : World} {a : Option Addr} {cap : Nat} {l : List WAc} (h : WActs w a cap l) (i : Nat) (hi : i < l.length) :
    ∃ b off x, a = some ⟨b, off, none⟩ ∧ l[i]? = some x ∧ x.wf ∧ w.cell? ⟨b, off + i * 15, none⟩ = some (.int .u8 x.k) ∧ w.cell? ⟨b, off + i * 15 + 1, none⟩ = some (.int .u8 x.n) ∧ w.cell? ⟨b, off + i * 15 + 2, none⟩ = some (.int .i64 x.r) ∧ w.cell? ⟨b, off + i * 15 + 3, none⟩ = some (.int .i64 x.b) ∧ w.cell? ⟨b, off + i * 15 + 4, none⟩ = some (.int .i64 x.u) ∧ w.cell? ⟨b, off + i * 15 + 5, none⟩ = some (.int .i64 x.s) ∧ w.cell? ⟨b, off + i * 15 + 6, none⟩ = some (.int .i64 x.v) ∧ w.cell? ⟨b, off + i * 15 + 7, none⟩ = some (.int .u64 x.a) ∧ w.cell? ⟨b, off + i * 15 + 8, none⟩ = some (.int .u64 x.w) ∧ w.cell? ⟨b, off + i * 15 + 9, none⟩ = some (.string x.it.key) ∧ w.cell? ⟨b, off + i * 15 + 10, none⟩ = some (.string x.it.val) ∧ w.cell? ⟨b, off + i * 15 + 11, none⟩ = some (.int .u32 x.it.flags) ∧ w.cell? ⟨b, off + i * 15 + 12, none⟩ = some (.int .u64 x.it.id) ∧ w.cell? ⟨b, off + i * 15 + 13, none⟩ = some (.int .i64 x.it.dies) ∧ w.cell? ⟨b, off + i * 15 + 14, none⟩ = some (.int .i64 x.it.gen) := by
  rcases h.cell with rfl | ⟨b, off, rfl, h5⟩
  · simp at hi
  · have h6 := h5 i hi
    refine ⟨b, off, l[i], rfl, List.getElem?_eq_getElem hi, h.wf _ (List.getElem_mem hi), h6 0 (by omega), ?_, ?_, ?_, ?_, ?_, ?_, ?_, ?_, ?_, ?_, ?_, ?_, ?_, ?_⟩
    · rw [Nat.add_assoc]; exact h6 1 (by omega)
    · rw [Nat.add_assoc]; exact h6 2 (by omega)
    · rw [Nat.add_assoc]; exact h6 3 (by omega)
    · rw [Nat.add_assoc]; exact h6 4 (by omega)
    · rw [Nat.add_assoc]; exact h6 5 (by omega)
    · rw [Nat.add_assoc]; exact h6 6 (by omega)
    · rw [Nat.add_assoc]; exact h6 7 (by omega)
    · rw [Nat.add_assoc]; exact h6 8 (by omega)
    · rw [Nat.add_assoc]; exact h6 9 (by omega)
    · rw [Nat.add_assoc]; exact h6 10 (by omega)
    · rw [Nat.add_assoc]; exact h6 11 (by omega)
    · rw [Nat.add_assoc]; exact h6 12 (by omega)
    · rw [Nat.add_assoc]; exact h6 13 (by omega)
    · rw [Nat.add_assoc]; exact h6 14 (by omega)

theorem WActs.below {w w' : World} {a : Option Addr} {cap : Nat} {l : List WAc} (h : WActs w a cap l) (hb : Below w.heap.size w w') : WActs w' a cap l := by
  refine ⟨h.le, h.most, h.nil, h.wf, h.cell.imp id fun ⟨b, off, e, h5⟩ => ⟨b, off, e, fun i hi j hj => ?_⟩⟩
  have h6 := h5 i hi j hj
  obtain ⟨v, hv⟩ : ∃ v, (l[i]).cells[j]? = some v := by
    match j, hj with
    | 0, _ | 1, _ | 2, _ | 3, _ | 4, _ | 5, _ | 6, _ | 7, _ | 8, _ | 9, _ | 10, _ | 11, _ | 12, _ | 13, _ | 14, _ => exact ⟨_, rfl⟩
  rw [hv] at h6 ⊢
  exact (hb.cell (World.block_lt_of_cell? _ _ h6)).trans h6
end Go.Proofs.YtjfocckdbaaimaaGreat

/-
  WorldsPlay: an act, in both worlds. (written by genwplay.py)
-/
namespace Go.Proofs.YtjfocckdbaaimaaGreat
open Go.RowKit Go.Maps
set_option linter.unusedVariables false

theorem rfull_any {w0 w : World} {B : WB} {V : WV} {x : RS} (h : RD w0 w B V x) (hb : 1 ≤ V.c.budget ∧ V.c.budget ≤ 65536) : Calls Tryz.prog 80 #[.pointer (some ⟨B.wb, 0, none⟩)] w fun e w' => e = .returned (.bool (decide (V.c.budget ≤ rlook x.l 6))) ∧ Below w.heap.size w w' := by
  have hp := rwpeek h 6
  have c4 := (h.cell 4).trans (val_at B V h.tkl).2.2.2.2.1
  have hbw : IntKind.u64.wrap V.c.budget = V.c.budget := by rw [IntKind.wrap_u64]; omega
  have x4 : ∀ st : ExtW w, st.val.cell? ⟨B.wb, 4, none⟩ = some (.int .i64 V.c.budget) := fun st => st.cell c4
  have hps : ∀ st : ExtW w, Calls Tryz.prog 141 #[.pointer (some ⟨B.wb, 0, none⟩), .int .u64 6] st.val fun e w' => e = .returned (.int .u64 (rlook x.l 6)) ∧ st.val = w' := fun st => (rwpeek (h.keep st.below) 6).mono fun e w' ⟨h1, h2⟩ => ⟨h1, h2.symm⟩
  clear h hb hp c4
  go_enter Tryz.func80, Tryz.ntmps80
  go_wp2_with fail
  refine wp_region_ext (by kernel_rfl) (by kernel_rfl) ?_
  repeat (go_big_quiet_step ((go_at_call 141; with_reducible refine calls_ext_same (hps _))))
  refine wpQuiet_nil ?_
  rintro W ⟨⟨W2, hW⟩, rfl⟩
  have HW := Lib.hid hW
  clear x4 hps hW
  go_wp2
  go_ret
  exact ⟨rfl, HW.out⟩
theorem cbudget {c : Conf} (h : c.ok = true) : (1 ≤ c.budget ∧ c.budget ≤ 65536) ∧ (Lit.int .i64 c.budget).wf = true := by
  unfold Conf.ok at h
  simp only [Bool.and_eq_true, decide_eq_true_eq] at h
  have hb := h.1.1.1.2
  have hmin : IntKind.i64.min = -9223372036854775808 := rfl
  have hmax : IntKind.i64.max = 9223372036854775807 := rfl
  exact ⟨hb, by simp only [Lit.wf, Bool.and_eq_true, decide_eq_true_eq]; omega⟩
/-- What stands between two acts. -/
structure DPS (w0 w : World) (B R : WB) (V : WV) (s : CS) (x : RS) (m : Nat) : Prop where
  pr : Pr w0 w B R V s x
  far : Far s x (300 + m)
  cok : V.c.ok = true
  nn : V.nts.length ≤ m
  ni : V.its.length ≤ 100 + m
  st : Nsteps V.nts s.cnt
  nk : Nkinds V.nts
section
variable {w0 w w' : World} {B R : WB} {V : WV} {s : CS} {x : RS} {m m' : Nat}
theorem DPS.keep (h : DPS w0 w B R V s x m) (hb : Below w.heap.size w w') : DPS w0 w' B R V s x m := ⟨h.pr.keep hb, h.far, h.cok, h.nn, h.ni, h.st, h.nk⟩
theorem DPS.le (h : DPS w0 w B R V s x m) (hm : m ≤ m') : DPS w0 w B R V s x m' := ⟨h.pr, ⟨Nat.le_trans h.far.1 (by omega), Nat.le_trans h.far.2.1 (by omega), Nat.le_trans h.far.2.2 (by omega)⟩, h.cok, Nat.le_trans h.nn hm, by have := h.ni; omega, h.st, h.nk⟩
theorem DPS.acc (h : DPS w0 w B R V s x m) (k a i : Int) (hp : Pr w0 w' B R V (s.acc k a i) (x.acc k a i)) : DPS w0 w' B R V (s.acc k a i) (x.acc k a i) (m + 1) :=
  ⟨hp, by have := h.far.acc h.pr.al k a i; rw [Nat.add_assoc] at this; exact this, h.cok, Nat.le_succ_of_le h.nn, by have := h.ni; omega, h.st.le (by simp only [CS.acc]; omega), h.nk⟩
end
section
variable {w0 w : World} {B R : WB} {V : WV} {s : CS} {x : RS} {m : Nat}
def DoPost (w0 w : World) (B R : WB) (m : Nat) (e : Ending) (w' : World) : Prop := e = .returned (.bool true) ∧ Fr wrTy true w w' ∧ ∃ V s x, DPS w0 w' B R V s x (m + 1)
abbrev SFour (q ab : Nat) (B R : WB) (a : Int) (W : World) : Prop := W.cell? ⟨q, 0, none⟩ = some (.pointer (some ⟨B.wb, 0, none⟩)) ∧ W.cell? ⟨q, 1, none⟩ = some (.pointer (some ⟨R.wb, 0, none⟩)) ∧ W.cell? ⟨B.wb, 0, none⟩ = some (.pointer (some ⟨B.cb, 0, none⟩)) ∧ W.cell? ⟨ab, 7, none⟩ = some (.int .u64 a)
theorem sfour_of {w0 w : World} {B R : WB} {V : WV} {s : CS} {q ab : Nat} {y : WAc} (h : WS w0 w B V s) (zp : w.heap[q]? = some (.cells #[.pointer (some ⟨B.wb, 0, none⟩), .pointer (some ⟨R.wb, 0, none⟩)] 34 (0, 0))) (za : w.heap[ab]? = some (.cells #[.int .u8 y.k, .int .u8 y.n, .int .i64 y.r, .int .i64 y.b, .int .i64 y.u, .int .i64 y.s, .int .i64 y.v, .int .u64 y.a, .int .u64 y.w, .string y.it.key, .string y.it.val, .int .u32 y.it.flags, .int .u64 y.it.id, .int .i64 y.it.dies, .int .i64 y.it.gen] 48 (0, 0))) : SFour q ab B R y.a w := ⟨hcell zp 0, hcell zp 1, h.hd5.1, hcell za 7⟩
theorem fr_drew {K : TypeId → Bool} {mp : Bool} {w w' : World} (h : Fr K mp w.drew w') : Fr K mp w w' := ⟨h.size, fun k cs T fr hk hT => h.cells k cs T fr hk hT, fun hm k es cl hk => h.map hm k es cl hk⟩
set_option maxRecDepth 100000 in
set_option maxHeartbeats 4000000 in
theorem pdo_any (h : DPS w0 w B R V s x m) (hm : m ≤ 1000) (y : WAc) (hy : y.wf) : Calls Tryz.prog 15 #[.agg #[.pointer (some ⟨B.wb, 0, none⟩), .pointer (some ⟨R.wb, 0, none⟩)], .agg #[.int .u8 y.k, .int .u8 y.n, .int .i64 y.r, .int .i64 y.b, .int .i64 y.u, .int .i64 y.s, .int .i64 y.v, .int .u64 y.a, .int .u64 y.w, .string y.it.key, .string y.it.val, .int .u32 y.it.flags, .int .u64 y.it.id, .int .i64 y.it.dies, .int .i64 y.it.gen]] w (DoPost w0 w B R m) := by
  have hkb := wf_u8 hy.k
  obtain ⟨kk, hkk⟩ : ∃ kk : Nat, (kk : Int) = y.k % 7 := ⟨(y.k % 7).toNat, by omega⟩
  have e3 : y.k.tmod 7 = kk := by rw [Int.tmod_eq_emod_of_nonneg hkb.1, hkk]
  have hk7 : kk < 7 := by omega
  have hb1 := below_alloc w (.cells #[.pointer (some ⟨B.wb, 0, none⟩), .pointer (some ⟨R.wb, 0, none⟩)] 34)
  have hb : Below w.heap.size w ((w.alloc (.cells #[.pointer (some ⟨B.wb, 0, none⟩), .pointer (some ⟨R.wb, 0, none⟩)] 34)).alloc (.cells #[.int .u8 y.k, .int .u8 y.n, .int .i64 y.r, .int .i64 y.b, .int .i64 y.u, .int .i64 y.s, .int .i64 y.v, .int .u64 y.a, .int .u64 y.w, .string y.it.key, .string y.it.val, .int .u32 y.it.flags, .int .u64 y.it.id, .int .i64 y.it.dies, .int .i64 y.it.gen] 48)) := hb1.trans ((below_alloc _ _).mono hb1.size)
  have zp : ((w.alloc (.cells #[.pointer (some ⟨B.wb, 0, none⟩), .pointer (some ⟨R.wb, 0, none⟩)] 34)).alloc (.cells #[.int .u8 y.k, .int .u8 y.n, .int .i64 y.r, .int .i64 y.b, .int .i64 y.u, .int .i64 y.s, .int .i64 y.v, .int .u64 y.a, .int .u64 y.w, .string y.it.key, .string y.it.val, .int .u32 y.it.flags, .int .u64 y.it.id, .int .i64 y.it.dies, .int .i64 y.it.gen] 48)).heap[w.heap.size]? = some (.cells #[.pointer (some ⟨B.wb, 0, none⟩), .pointer (some ⟨R.wb, 0, none⟩)] 34 (0, 0)) := heap_alloc_old (heap_alloc_new w _)
  have za : ((w.alloc (.cells #[.pointer (some ⟨B.wb, 0, none⟩), .pointer (some ⟨R.wb, 0, none⟩)] 34)).alloc (.cells #[.int .u8 y.k, .int .u8 y.n, .int .i64 y.r, .int .i64 y.b, .int .i64 y.u, .int .i64 y.s, .int .i64 y.v, .int .u64 y.a, .int .u64 y.w, .string y.it.key, .string y.it.val, .int .u32 y.it.flags, .int .u64 y.it.id, .int .i64 y.it.dies, .int .i64 y.it.gen] 48)).heap[w.heap.size + 1]? = some (.cells #[.int .u8 y.k, .int .u8 y.n, .int .i64 y.r, .int .i64 y.b, .int .i64 y.u, .int .i64 y.s, .int .i64 y.v, .int .u64 y.a, .int .u64 y.w, .string y.it.key, .string y.it.val, .int .u32 y.it.flags, .int .u64 y.it.id, .int .i64 y.it.dies, .int .i64 y.it.gen] 48 (0, 0)) := heap_alloc_at _ _ (by simp)
  have H := Lib.hid (h.keep hb); have HB : Hid (Fr wrTy true w ((w.alloc (.cells #[.pointer (some ⟨B.wb, 0, none⟩), .pointer (some ⟨R.wb, 0, none⟩)] 34)).alloc (.cells #[.int .u8 y.k, .int .u8 y.n, .int .i64 y.r, .int .i64 y.b, .int .i64 y.u, .int .i64 y.s, .int .i64 y.v, .int .u64 y.a, .int .u64 y.w, .string y.it.key, .string y.it.val, .int .u32 y.it.flags, .int .u64 y.it.id, .int .i64 y.it.dies, .int .i64 y.it.gen] 48))) := below_fr hb _ _
  have ZP := Lib.hid zp; have ZA := Lib.hid za; have HY := Lib.hid hy; have HM := Lib.hid hm
  clear h hb1 hb zp za hkb hkk hy hm
  go_enter Tryz.func15, Tryz.ntmps15
  go_upto_region 1 with (fail)
  change Code.wp _ _ _ _ ((w.alloc (.cells #[.pointer (some ⟨B.wb, 0, none⟩), .pointer (some ⟨R.wb, 0, none⟩)] 34)).alloc (.cells #[.int .u8 y.k, .int .u8 y.n, .int .i64 y.r, .int .i64 y.b, .int .i64 y.u, .int .i64 y.s, .int .i64 y.v, .int .u64 y.a, .int .u64 y.w, .string y.it.key, .string y.it.val, .int .u32 y.it.flags, .int .u64 y.it.id, .int .i64 y.it.dies, .int .i64 y.it.gen] 48))
  generalize (w.alloc (.cells #[.pointer (some ⟨B.wb, 0, none⟩), .pointer (some ⟨R.wb, 0, none⟩)] 34)).alloc (.cells #[.int .u8 y.k, .int .u8 y.n, .int .i64 y.r, .int .i64 y.b, .int .i64 y.u, .int .i64 y.s, .int .i64 y.v, .int .u64 y.a, .int .u64 y.w, .string y.it.key, .string y.it.val, .int .u32 y.it.flags, .int .u64 y.it.id, .int .i64 y.it.dies, .int .i64 y.it.gen] 48) = w1 at *
  generalize w.heap.size + 1 = ab at *
  generalize w.heap.size = q at *
  have y0 : w1.cell? ⟨ab, 0, none⟩ = some (.int .u8 y.k) := hcell ZA.out 0
  have p0 := hcell ZP.out 0
  have p1 := hcell ZP.out 1
  by_cases hk3 : kk = 3
  · -- both load
    have d0 : ((kk : Int) == 0) = false := beq_eq_false_iff_ne.2 (by omega)
    have d1 : ((kk : Int) == 1) = false := beq_eq_false_iff_ne.2 (by omega)
    have d2 : ((kk : Int) == 2) = false := beq_eq_false_iff_ne.2 (by omega)
    have d3 : ((kk : Int) == 3) = true := beq_iff_eq.2 (by omega)
    clear hk7 hk3
    go_upto_region 11 with (fail)
    clear d0 d1 d2 d3 y0 e3 p0 p1
    obtain ⟨rm1, rm2⟩ := far_rooms H.out.far H.out.pr.al (by have := HM.out; omega)
    have hval : rlook x.l y.a = s.val y.a := (congrFun H.out.pr.al.val y.a).symm
    have hdr : Below w1.heap.size w1 w1.drew := (Below.refl _ _).drew
    have HW0 := Lib.hid (H.out.pr.ws.keep hdr); have HR0 := Lib.hid (H.out.pr.rd.keep hdr)
    have hW1 := HW0.out.load rm1 y.a HY.out.a
    have hR1 := rwload HR0.out rm2 y.a HY.out.a
    rw [hval] at hR1
    have HV := Lib.hid hval; have RM1 := Lib.hid rm1; have RM2 := Lib.hid rm2
    have h4 : SFour q ab B R y.a w1.drew := sfour_of (w := w1.drew) HW0.out ZP.out ZA.out
    clear hval hdr rm1 rm2
    go_region_held2 (fun W => SFour q ab B R y.a W) (assumption) (first
      | (go_at_call 76; with_reducible refine hW1.mono ?_; intro e wA hh; obtain ⟨hh1, h7, f7⟩ := hh; subst hh1; have zq := f7.cells _ _ _ _ ZP.out rfl; have za := f7.cells _ _ _ _ ZA.out rfl; have s4 := sfour_of (R := R) h7 zq za; have rd7 := HR0.out.byw f7 h7.below; have hR2 := rwload rd7 RM2.out y.a HY.out.a; rw [HV.out] at hR2; have H7 := Lib.hid h7; have F7 := Lib.hid (wr_of_w (fr_drew f7)); have ZQ := Lib.hid zq; have ZA7 := Lib.hid za; clear h7 f7 zq za rd7 hW1 hR1)
      | (go_at_call 77; with_reducible refine hR2.mono ?_; intro e wB hh; obtain ⟨hh1, h8, f8⟩ := hh; subst hh1; have w8 := H7.out.byr f8 h8.below; have s4b := sfour_of (R := R) w8 (f8.cells _ _ _ _ ZQ.out rfl) (f8.cells _ _ _ _ ZA7.out rfl); have P8 := Lib.hid (And.intro w8 (And.intro h8 (F7.out.trans (wr_of_r f8)))); clear h8 f8 w8 hR2)
      | (go_at_call 77; with_reducible refine hR1.mono ?_; intro e wA hh; obtain ⟨hh1, h7, f7⟩ := hh; subst hh1; have zq := f7.cells _ _ _ _ ZP.out rfl; have za := f7.cells _ _ _ _ ZA.out rfl; have w7 := HW0.out.byr f7 h7.below; have s4 := sfour_of (R := R) w7 zq za; have hW2 := w7.load RM1.out y.a HY.out.a; have R7 := Lib.hid h7; have F7 := Lib.hid (wr_of_r (fr_drew f7)); have ZQ := Lib.hid zq; have ZA7 := Lib.hid za; clear h7 f7 zq za w7 hW1 hR1)
      | (go_at_call 76; with_reducible refine hW2.mono ?_; intro e wB hh; obtain ⟨hh1, h8, f8⟩ := hh; subst hh1; have r8 := R7.out.byw f8 h8.below; have s4b := sfour_of (R := R) h8 (f8.cells _ _ _ _ ZQ.out rfl) (f8.cells _ _ _ _ ZA7.out rfl); have P8 := Lib.hid (And.intro h8 (And.intro r8 (F7.out.trans (wr_of_w f8)))); clear h8 f8 r8 hW2))
    all_goals (try go_wp2_with fail)
    all_goals go_ret
    all_goals (refine ⟨rfl, HB.out.trans P8.out.2.2, V, _, _, H.out.acc 1 y.a (s.val y.a) ⟨P8.out.1, P8.out.2.1, H.out.pr.al.acc 1 y.a (s.val y.a)⟩⟩)
  go_upto_block 0 with (fail)
  clear y0 e3
  go_cut [] (fun wx => ∃ V s x, DPS w0 wx B R V s x (m + 1) ∧ wx.heap[q]? = some (.cells #[.pointer (some ⟨B.wb, 0, none⟩), .pointer (some ⟨R.wb, 0, none⟩)] 34 (0, 0)) ∧ Fr wrTy true w wx)
  case first =>
    rcases (show kk = 0 ∨ kk = 1 ∨ kk = 2 ∨ kk = 4 ∨ kk = 5 ∨ kk = 6 by omega) with hk | hk | hk | hk | hk | hk
    · -- a store
      have d0 : ((kk : Int) == 0) = true := beq_iff_eq.2 (by omega)
      have y7 : w1.cell? ⟨ab, 7, none⟩ = some (.int .u64 y.a) := hcell ZA.out 7
      have y8 : w1.cell? ⟨ab, 8, none⟩ = some (.int .u64 y.w) := hcell ZA.out 8
      have hst := pstore_any H.out.pr (300 + m) H.out.far (by have := HM.out; omega) y.a y.w HY.out.a HY.out.w
      clear hk hk7 hk3
      go_wp2_with (go_at_call 34; refine hst.mono ?_; intro e w7 hh; obtain ⟨hh1, h7, f7⟩ := hh; subst hh1; have H7 := Lib.hid (H.out.acc 2 y.a y.w h7); have Z7 := Lib.hid (f7.cells _ _ _ _ ZP.out rfl); have F7 := Lib.hid (HB.out.trans f7); clear h7 f7 hst)
      go_meet
      case rel => exact ⟨_, _, _, H7.out, Z7.out, F7.out⟩
    · -- an item
      have d0 : ((kk : Int) == 0) = false := beq_eq_false_iff_ne.2 (by omega)
      have d1 : ((kk : Int) == 1) = true := beq_iff_eq.2 (by omega)
      have y9 : w1.cell? ⟨ab, 9, none⟩ = some (.string y.it.key) := hcell ZA.out 9
      have y10 : w1.cell? ⟨ab, 10, none⟩ = some (.string y.it.val) := hcell ZA.out 10
      have y11 : w1.cell? ⟨ab, 11, none⟩ = some (.int .u32 y.it.flags) := hcell ZA.out 11
      have y12 : w1.cell? ⟨ab, 12, none⟩ = some (.int .u64 y.it.id) := hcell ZA.out 12
      have y13 : w1.cell? ⟨ab, 13, none⟩ = some (.int .i64 y.it.dies) := hcell ZA.out 13
      have y14 : w1.cell? ⟨ab, 14, none⟩ = some (.int .i64 y.it.gen) := hcell ZA.out 14
      have hit := pitem_any H.out.pr y.it (by have := H.out.ni; have := HM.out; omega)
      clear hk hk7 hk3
      go_wp2_with (go_at_call 69; refine hit.mono ?_; intro e w7 hh; obtain ⟨hh1, h7, f7⟩ := hh; subst hh1; have h8 := H.out.le (Nat.le_succ m); have hni := H.out.ni; have H7 : Hid (DPS w0 w7 B R { V with its := V.its ++ [y.it] } s x (m + 1)) := ⟨h7, h8.far, h8.cok, h8.nn, by show (V.its ++ [y.it]).length ≤ _; rw [List.length_append, List.length_singleton]; omega, h8.st, h8.nk⟩; have Z7 := Lib.hid (f7.cells _ _ _ _ ZP.out rfl); have F7 := Lib.hid (HB.out.trans f7); clear h7 f7 h8 hni hit)
      go_meet
      case rel => exact ⟨_, _, _, H7.out, Z7.out, F7.out⟩
    · -- a note
      have d0 : ((kk : Int) == 0) = false := beq_eq_false_iff_ne.2 (by omega)
      have d1 : ((kk : Int) == 1) = false := beq_eq_false_iff_ne.2 (by omega)
      have d2 : ((kk : Int) == 2) = true := beq_iff_eq.2 (by omega)
      have y1 : w1.cell? ⟨ab, 1, none⟩ = some (.int .u8 y.n) := hcell ZA.out 1
      have y2 : w1.cell? ⟨ab, 2, none⟩ = some (.int .i64 y.r) := hcell ZA.out 2
      have y3 : w1.cell? ⟨ab, 3, none⟩ = some (.int .i64 y.b) := hcell ZA.out 3
      have y4 : w1.cell? ⟨ab, 4, none⟩ = some (.int .i64 y.u) := hcell ZA.out 4
      have y5 : w1.cell? ⟨ab, 5, none⟩ = some (.int .i64 y.s) := hcell ZA.out 5
      have y6 : w1.cell? ⟨ab, 6, none⟩ = some (.int .i64 y.v) := hcell ZA.out 6
      have hxc : (x.cnt : Int) = (s.cnt : Int) := by rw [H.out.pr.al.cnt]
      have hnt := wnote_any H.out.pr.ws y.n y.r y.b y.u y.s y.v (by have := H.out.nn; have := HM.out; omega) HY.out.n H.out.st
      clear hk hk7 hk3
      go_upto_region 9 with (go_at_call 43; refine hnt.mono ?_; intro e w7 hh; obtain ⟨hh1, h7, f7⟩ := hh; subst hh1; have H7 := Lib.hid h7; have RD7 := Lib.hid (H.out.pr.rd.byw f7 h7.below); have Z7 := Lib.hid (f7.cells _ _ _ _ ZP.out rfl); have A7 := Lib.hid (f7.cells _ _ _ _ ZA.out rfl); have F7 := Lib.hid (HB.out.trans (wr_of_w f7)); clear h7 f7 hnt y1 y2 y3 y4 y5 y6 p0 p1)
      have y1 : w7.cell? ⟨ab, 1, none⟩ = some (.int .u8 y.n) := hcell A7.out 1
      have y2 : w7.cell? ⟨ab, 2, none⟩ = some (.int .i64 y.r) := hcell A7.out 2
      have y3 : w7.cell? ⟨ab, 3, none⟩ = some (.int .i64 y.b) := hcell A7.out 3
      have y4 : w7.cell? ⟨ab, 4, none⟩ = some (.int .i64 y.u) := hcell A7.out 4
      have y5 : w7.cell? ⟨ab, 5, none⟩ = some (.int .i64 y.s) := hcell A7.out 5
      have y6 : w7.cell? ⟨ab, 6, none⟩ = some (.int .i64 y.v) := hcell A7.out 6
      have p1 := hcell Z7.out 1
      have hnb := wf_u8 HY.out.n
      have enn : wrap64 y.n = y.n := IntWalk.wrap64_in _ (by omega)
      have hrn := rnote_any RD7.out y.n y.r y.b y.u y.s y.v (by have := H.out.nn; have := HM.out; omega) (by rw [hxc]; exact H.out.st)
      rw [hxc] at hrn
      have hst9 := H.out.st.add (n := ⟨s.cnt, V.hd, y.n, y.r, y.b, y.u, y.s, y.v⟩) rfl
      have hnk9 := H.out.nk.add (n := ⟨s.cnt, V.hd, y.n, y.r, y.b, y.u, y.s, y.v⟩)
      have hln9 := nadd_len V.nts ⟨s.cnt, V.hd, y.n, y.r, y.b, y.u, y.s, y.v⟩
      clear hnb
      go_wp2_with (go_at_call 44; refine hrn.mono ?_; intro e w8 hh; obtain ⟨hh1, h8, f8⟩ := hh; subst hh1; have h9 := H.out.le (Nat.le_succ m); have hnn := H.out.nn; have H8 : Hid (DPS w0 w8 B R { V with nts := nadd V.nts ⟨s.cnt, V.hd, y.n, y.r, y.b, y.u, y.s, y.v⟩ } s x (m + 1)) := ⟨⟨H7.out.byr f8 h8.below, h8, H.out.pr.al⟩, h9.far, h9.cok, by show (nadd _ _).length ≤ _; omega, h9.ni, hst9, hnk9⟩; have Z8 := Lib.hid (f8.cells _ _ _ _ Z7.out rfl); have F8 := Lib.hid (F7.out.trans (wr_of_r f8)); clear h8 f8 h9 hnn hrn)
      go_meet
      case rel => exact ⟨_, _, _, H8.out, Z8.out, F8.out⟩
    · -- the count is stored
      have d0 : ((kk : Int) == 0) = false := beq_eq_false_iff_ne.2 (by omega)
      have d1 : ((kk : Int) == 1) = false := beq_eq_false_iff_ne.2 (by omega)
      have d2 : ((kk : Int) == 2) = false := beq_eq_false_iff_ne.2 (by omega)
      have d3 : ((kk : Int) == 3) = false := beq_eq_false_iff_ne.2 (by omega)
      have d4 : ((kk : Int) == 4) = true := beq_iff_eq.2 (by omega)
      have y8 : w1.cell? ⟨ab, 8, none⟩ = some (.int .u64 y.w) := hcell ZA.out 8
      have hb6 := below_alloc w1 (.cells #[.int .u64 6, .int .u64 y.w] 46)
      have hz6 := heap_alloc_new w1 (.cells #[.int .u64 6, .int .u64 y.w] 46)
      have HB6 := Lib.hid hb6; have HZ6 := Lib.hid hz6
      clear hk hk7 hk3 hb6 hz6
      go_upto_region 14 with (fail)
      change Code.wp _ _ _ _ (w1.alloc (.cells #[.int .u64 6, .int .u64 y.w] 46))
      generalize w1.alloc (.cells #[.int .u64 6, .int .u64 y.w] 46) = w6 at *
      have HBB6 := HB6.out
      have HH6 : Hid (Pr w0 w6 B R V s x) := H.out.pr.keep HBB6
      have HZZ6 := Lib.hid ((HBB6.block _ (Array.getElem?_eq_some_iff.1 ZP.out).1).trans ZP.out)
      have HF6 : Hid (Fr wrTy true w1 w6) := below_fr HBB6 _ _
      clear HBB6 HB6
      generalize w1.heap.size = q6 at *
      have H6 := HH6; have Z6 := HZZ6
      have F6 : Hid (Fr wrTy true w w6) := HB.out.trans HF6.out
      clear p0 p1 y8
      have p0 := hcell Z6.out 0
      have p1 := hcell Z6.out 1
      have z0 := hcell HZ6.out 0
      have z1 := hcell HZ6.out 1
      have hst := pstore_any H6.out (300 + m) H.out.far (by have := HM.out; omega) 6 y.w (by decide) HY.out.w
      go_wp2_with (go_at_call 34; refine hst.mono ?_; intro e w7 hh; obtain ⟨hh1, h7, f7⟩ := hh; subst hh1; have H7 := Lib.hid (H.out.acc 2 6 y.w h7); have Z7 := Lib.hid (f7.cells _ _ _ _ Z6.out rfl); have F7 := Lib.hid (F6.out.trans f7); clear h7 f7 hst)
      go_meet
      case rel => exact ⟨_, _, _, H7.out, Z7.out, F7.out⟩
    · -- the tables' word is stored
      have d0 : ((kk : Int) == 0) = false := beq_eq_false_iff_ne.2 (by omega)
      have d1 : ((kk : Int) == 1) = false := beq_eq_false_iff_ne.2 (by omega)
      have d2 : ((kk : Int) == 2) = false := beq_eq_false_iff_ne.2 (by omega)
      have d3 : ((kk : Int) == 3) = false := beq_eq_false_iff_ne.2 (by omega)
      have d4 : ((kk : Int) == 4) = false := beq_eq_false_iff_ne.2 (by omega)
      have d5 : ((kk : Int) == 5) = true := beq_iff_eq.2 (by omega)
      have y8 : w1.cell? ⟨ab, 8, none⟩ = some (.int .u64 y.w) := hcell ZA.out 8
      have hb6 := below_alloc w1 (.cells #[.int .u64 2, .int .u64 y.w] 46)
      have hz6 := heap_alloc_new w1 (.cells #[.int .u64 2, .int .u64 y.w] 46)
      have HB6 := Lib.hid hb6; have HZ6 := Lib.hid hz6
      clear hk hk7 hk3 hb6 hz6
      go_upto_region 17 with (fail)
      change Code.wp _ _ _ _ (w1.alloc (.cells #[.int .u64 2, .int .u64 y.w] 46))
      generalize w1.alloc (.cells #[.int .u64 2, .int .u64 y.w] 46) = w6 at *
      have HBB6 := HB6.out
      have HH6 : Hid (Pr w0 w6 B R V s x) := H.out.pr.keep HBB6
      have HZZ6 := Lib.hid ((HBB6.block _ (Array.getElem?_eq_some_iff.1 ZP.out).1).trans ZP.out)
      have HF6 : Hid (Fr wrTy true w1 w6) := below_fr HBB6 _ _
      clear HBB6 HB6
      generalize w1.heap.size = q6 at *
      have H6 := HH6; have Z6 := HZZ6
      have F6 : Hid (Fr wrTy true w w6) := HB.out.trans HF6.out
      clear p0 p1 y8
      have p0 := hcell Z6.out 0
      have p1 := hcell Z6.out 1
      have z0 := hcell HZ6.out 0
      have z1 := hcell HZ6.out 1
      have hst := pstore_any H6.out (300 + m) H.out.far (by have := HM.out; omega) 2 y.w (by decide) HY.out.w
      go_wp2_with (go_at_call 34; refine hst.mono ?_; intro e w7 hh; obtain ⟨hh1, h7, f7⟩ := hh; subst hh1; have H7 := Lib.hid (H.out.acc 2 2 y.w h7); have Z7 := Lib.hid (f7.cells _ _ _ _ Z6.out rfl); have F7 := Lib.hid (F6.out.trans f7); clear h7 f7 hst)
      go_meet
      case rel => exact ⟨_, _, _, H7.out, Z7.out, F7.out⟩
    · -- a tick
      have d0 : ((kk : Int) == 0) = false := beq_eq_false_iff_ne.2 (by omega)
      have d1 : ((kk : Int) == 1) = false := beq_eq_false_iff_ne.2 (by omega)
      have d2 : ((kk : Int) == 2) = false := beq_eq_false_iff_ne.2 (by omega)
      have d3 : ((kk : Int) == 3) = false := beq_eq_false_iff_ne.2 (by omega)
      have d4 : ((kk : Int) == 4) = false := beq_eq_false_iff_ne.2 (by omega)
      have d5 : ((kk : Int) == 5) = false := beq_eq_false_iff_ne.2 (by omega)
      have htk := ptick_any H.out.pr (300 + m) H.out.far (by have := HM.out; omega)
      clear hk hk7 hk3
      go_wp2_with (go_at_call 42; refine htk.mono ?_; intro e w7 hh; obtain ⟨hh1, h7, f7⟩ := hh; subst hh1; have H7 := Lib.hid (H.out.acc 3 8 _ h7); have Z7 := Lib.hid (f7.cells _ _ _ _ ZP.out rfl); have F7 := Lib.hid (HB.out.trans f7); clear h7 f7 htk)
      go_meet
      case rel => exact ⟨_, _, _, H7.out, Z7.out, F7.out⟩
  case rest =>
  clear H ZP ZA HY p0 p1
  obtain ⟨V2, s2, x2, h2, hq2, hf2⟩ := hcut
  generalize wc = w2 at *
  obtain ⟨hbd, hbw⟩ := cbudget h2.cok
  have hval : ∀ a, rlook x2.l a = s2.val a := fun a => (congrFun h2.pr.al.val a).symm
  obtain ⟨gv, hgv⟩ : ∃ gv, gv = (asNow (s2.val 2) == 0 && pmay V2.c.bits V2.c.budget (asOld (s2.val 2))) := ⟨_, rfl⟩
  obtain ⟨fv, hfv⟩ : ∃ fv, fv = decide (V2.c.budget ≤ s2.val 6) := ⟨_, rfl⟩
  have m1 : ∀ st : ExtW w2, Calls Tryz.prog 64 #[.pointer (some ⟨B.wb, 0, none⟩)] st.val fun e w' => e = .returned (.bool gv) ∧ Below st.val.heap.size st.val w' := fun st => by rw [hgv]; exact grows_any (h2.pr.ws.keep st.below).wld hbw
  have m2 : ∀ st : ExtW w2, Calls Tryz.prog 78 #[.pointer (some ⟨R.wb, 0, none⟩)] st.val fun e w' => e = .returned (.bool gv) ∧ Below st.val.heap.size st.val w' := fun st => by
    have := rgrows_any (h2.pr.rd.keep st.below)
    rw [hval 2, ← hgv] at this
    exact this
  have m3 : ∀ st : ExtW w2, Calls Tryz.prog 79 #[.pointer (some ⟨B.wb, 0, none⟩)] st.val fun e w' => e = .returned (.bool fv) ∧ Below st.val.heap.size st.val w' := fun st => by rw [hfv]; exact full_any (h2.pr.ws.keep st.below).wld hbd
  have m4 : ∀ st : ExtW w2, Calls Tryz.prog 80 #[.pointer (some ⟨R.wb, 0, none⟩)] st.val fun e w' => e = .returned (.bool fv) ∧ Below st.val.heap.size st.val w' := fun st => by
    have := rfull_any (h2.pr.rd.keep st.below) hbd
    rw [hval 6, ← hfv] at this
    exact this
  have x0 : ∀ st : ExtW w2, st.val.cell? ⟨q, 0, none⟩ = some (.pointer (some ⟨B.wb, 0, none⟩)) := fun st => st.cell (hcell hq2 0)
  have x1 : ∀ st : ExtW w2, st.val.cell? ⟨q, 1, none⟩ = some (.pointer (some ⟨R.wb, 0, none⟩)) := fun st => st.cell (hcell hq2 1)
  have H2 := Lib.hid h2; have F2 := Lib.hid hf2
  clear h2 hq2 hf2 hbd hbw hval hgv hfv
  go_upto_region 18 with (fail)
  refine wp_region_ext (by kernel_rfl) (by kernel_rfl) ?_
  cases gv <;> cases fv
  all_goals
    repeat (go_big_quiet_step (first
      | (go_at_call 64; with_reducible refine calls_ext (m1 _))
      | (go_at_call 78; with_reducible refine calls_ext (m2 _))
      | (go_at_call 79; with_reducible refine calls_ext (m3 _))
      | (go_at_call 80; with_reducible refine calls_ext (m4 _))))
    refine wpQuiet_nil ?_
    rintro W ⟨⟨W2, hW⟩, rfl⟩
    have HW := Lib.hid hW
    clear x0 x1 m1 m2 m3 m4 hW
    go_wp2
    go_ret
    exact ⟨rfl, F2.out.trans (below_fr HW.out _ _), _, _, _, H2.out.keep HW.out⟩
end
end Go.Proofs.YtjfocckdbaaimaaGreat

/-
  WorldsPlay: the walk. (written by genwplay2.py)
-/
namespace Go.Proofs.YtjfocckdbaaimaaGreat
open Go.RowKit Go.Maps
set_option linter.unusedVariables false

theorem dps_begin {w0 w : World} {B R : WB} {V : WV} {s : CS} {x : RS} {f : Fst} (hpr : Pr w0 w B R V s x) (hV : V = { v0 f.conf with its := f.its }) (hfar : Far s x 300) (hcok : f.conf.ok = true) (hitl : f.its.length ≤ 40) : DPS w0 w B R V s x 0 := by
  refine ⟨hpr, hfar, by rw [hV]; exact hcok, by rw [hV]; exact Nat.zero_le _, by rw [hV]; show f.its.length ≤ _; omega, (by rw [hV]; intro y hy; cases hy), (by rw [hV]; intro y hy; cases hy)⟩
set_option maxRecDepth 100000 in
set_option maxHeartbeats 8000000 in
theorem wplay_any (f : Fst) (l : List WAc) (al : Option Addr) (capl : Nat) (w : World) (hr : FstRd w f) (hl : WActs w al capl l) :
    Calls Tryz.prog 3 #[.agg #[.int .i64 f.c.bits, .int .i64 f.c.budget, .int .i64 f.c.tries, .int .i64 f.c.quantum, .int .i64 f.c.way, .bool f.gr, .slice f.ia f.its.length f.ic, .slice f.pa f.puts.length f.pc, .slice f.sa f.sts.length f.sc, .int .i64 f.ticks], .slice al l.length capl] w
    fun e w' => e = .returned (.bool true) ∧ Below w.heap.size w w' := by
  have hml : l.length ≤ maxLen := Nat.le_trans hl.le hl.most
  unfold maxLen at hml
  have hB := below_alloc w (.cells f.cells 28)
  have z := heap_alloc_new w (.cells f.cells 28)
  have HR := Lib.hid (hr.below hB); have HB := Lib.hid hB; have HZ := Lib.hid z; have HLL := Lib.hid hl
  clear hr hB z hl
  go_enter Tryz.func3, Tryz.ntmps3
  go_upto_region 1 with (fail)
  change Code.wp _ _ _ _ (w.alloc (.cells f.cells 28))
  generalize w.alloc (.cells f.cells 28) = w1 at *
  have z := HZ.out
  obtain ⟨e0, e1, e2, e3, e4, e5, e6, e7, e8, e9⟩ := fst_cells z
  clear z
  by_cases h3 : 60 < l.length
  · have d3 : decide ((60 : Int) < l.length) = true := decide_eq_true (by omega)
    clear h3
    go_upto_if 13 with (go_at_call 11; refine (great_any f w1 HR.out).mono ?_; rintro e w2 ⟨g, rfl, b2, hg⟩; have B2 := Lib.hid b2; clear b2 hg e0 e1 e2 e3 e4 e5 e6 e7 e8 e9; cases g)
    all_goals
      go_wp2_with (go_at_call 12; refine (lives10 _).mono ?_; rintro e w3 ⟨rfl, b3⟩)
      go_ret
      have h1 := HB.out.trans (B2.out.mono HB.out.size)
      exact ⟨rfl, h1.trans (b3.mono h1.size)⟩
  have d3 : decide ((60 : Int) < l.length) = false := decide_eq_false (by omega)
  have HL3 : Hid (l.length ≤ 60) := by show l.length ≤ 60; omega
  clear h3
  go_upto_if 13 with (go_at_call 11; refine (great_any f w1 HR.out).mono ?_; rintro e w2 ⟨g, rfl, b2, hg⟩; have B2 := Lib.hid b2; have HG := Lib.hid hg; clear b2 hg e0 e1 e2 e3 e4 e5 e6 e7 e8 e9; cases g)
  rotate_left
  · go_wp2_with (go_at_call 12; refine (lives10 _).mono ?_; rintro e w3 ⟨rfl, b3⟩)
    go_ret
    have h1 := HB.out.trans (B2.out.mono HB.out.size)
    exact ⟨rfl, h1.trans (b3.mono h1.size)⟩
  obtain ⟨hin, hsz⟩ := HG.out trivial
  have HIN := Lib.hid (hin.below B2.out)
  have hitl : f.its.length ≤ 40 := hin.ni
  have HBB : Hid (Below w.heap.size w w2) := HB.out.trans (B2.out.mono HB.out.size)
  have z := (B2.out.block _ (Array.getElem?_eq_some_iff.1 HZ.out).1).trans HZ.out
  obtain ⟨e0, e1, e2, e3, e4, e5, e6, e7, e8, e9⟩ := fst_cells z
  clear z hin hsz
  go_upto_region 4 with (go_at_call 13; refine (begin_any f w2 HIN.out).mono ?_; rintro e w3 ⟨B, R, V, s, x, rfl, hpr, hV, hfar, hcok, -⟩; have HPR := Lib.hid hpr; have hdp := dps_begin hpr hV hfar hcok hitl; have HD := Lib.hid hdp; clear hdp; clear hpr hV hfar hcok e0 e1 e2 e3 e4 e5 e6 e7 e8 e9)
  have hq0 := heap_alloc_new w3 (.cells #[.pointer (some ⟨B.wb, 0, none⟩), .pointer (some ⟨R.wb, 0, none⟩)] 34)
  have hB4 := below_alloc w3 (.cells #[.pointer (some ⟨B.wb, 0, none⟩), .pointer (some ⟨R.wb, 0, none⟩)] 34)
  have HD4 := Lib.hid (HD.out.keep hB4)
  change Code.wp _ _ _ _ (w3.alloc (.cells #[.pointer (some ⟨B.wb, 0, none⟩), .pointer (some ⟨R.wb, 0, none⟩)] 34))
  generalize w3.alloc (.cells #[.pointer (some ⟨B.wb, 0, none⟩), .pointer (some ⟨R.wb, 0, none⟩)] 34) = w4 at *
  generalize w3.heap.size = q at *
  have HQ4 := Lib.hid hq0
  clear HPR HD hq0 hB4
  have p0 := hcell HQ4.out 0
  have p1 := hcell HQ4.out 1
  have o6 := psalln_any HD4.out.pr (by have := HD4.out.nn; omega) HD4.out.nk (by have := HD4.out.ni; omega) (by have := HD4.out.far.1; omega)
  clear d3 hitl HIN B2 HG HZ HR HB
  have HLL2 := Lib.hid (HLL.out.below HBB.out)
  clear HLL
  go_upto_region 6 with (go_at_call 14; refine o6.mono ?_; intro e w5 hh; obtain ⟨hh1, b5⟩ := hh; subst hh1; have HD5 := Lib.hid (HD4.out.keep b5); have HQ5 := Lib.hid ((b5.block _ (Array.getElem?_eq_some_iff.1 HQ4.out).1).trans HQ4.out); clear o6 b5 p0 p1)
  clear HD4 HQ4
  go_wp2_with fail
  go_loopw [6] (fun i wr => ∃ (k : Nat) (V : WV) (s : CS) (x : RS), k ≤ l.length ∧ i = .int .i64 k ∧ DPS w2 wr B R V s x k ∧ wr.heap[q]? = some (.cells #[.pointer (some ⟨B.wb, 0, none⟩), .pointer (some ⟨R.wb, 0, none⟩)] 34 (0, 0))) (fun i _ => l.length - (intOf i).toNat)
  case atStart => exact ⟨0, V, s, x, by omega, rfl, HD5.out, HQ5.out⟩
  case round =>
    clear HD5 HQ5 V s x
    obtain ⟨i, V, s, x, hi, rfl, hT, hq⟩ := hrel
    have hl300 := HL3.out
    by_cases hlt : i < l.length
    · have hlt' : (i : Int) < l.length := by omega
      obtain ⟨b, off, y, rfl, hy, hyw, y0, y1, y2, y3, y4, y5, y6, y7, y8, y9, y10, y11, y12, y13, y14⟩ := (HLL2.out.below (w := w2) (w' := wr) hT.pr.ws.below).at i hlt
      have x0 : ∀ st : ExtW wr, st.val.cell? ⟨b, off + i * 15, none⟩ = some (.int .u8 y.k) := fun st => st.cell y0
      have x1 : ∀ st : ExtW wr, st.val.cell? ⟨b, off + i * 15 + 1, none⟩ = some (.int .u8 y.n) := fun st => st.cell y1
      have x2 : ∀ st : ExtW wr, st.val.cell? ⟨b, off + i * 15 + 2, none⟩ = some (.int .i64 y.r) := fun st => st.cell y2
      have x3 : ∀ st : ExtW wr, st.val.cell? ⟨b, off + i * 15 + 3, none⟩ = some (.int .i64 y.b) := fun st => st.cell y3
      have x4 : ∀ st : ExtW wr, st.val.cell? ⟨b, off + i * 15 + 4, none⟩ = some (.int .i64 y.u) := fun st => st.cell y4
      have x5 : ∀ st : ExtW wr, st.val.cell? ⟨b, off + i * 15 + 5, none⟩ = some (.int .i64 y.s) := fun st => st.cell y5
      have x6 : ∀ st : ExtW wr, st.val.cell? ⟨b, off + i * 15 + 6, none⟩ = some (.int .i64 y.v) := fun st => st.cell y6
      have x7 : ∀ st : ExtW wr, st.val.cell? ⟨b, off + i * 15 + 7, none⟩ = some (.int .u64 y.a) := fun st => st.cell y7
      have x8 : ∀ st : ExtW wr, st.val.cell? ⟨b, off + i * 15 + 8, none⟩ = some (.int .u64 y.w) := fun st => st.cell y8
      have x9 : ∀ st : ExtW wr, st.val.cell? ⟨b, off + i * 15 + 9, none⟩ = some (.string y.it.key) := fun st => st.cell y9
      have x10 : ∀ st : ExtW wr, st.val.cell? ⟨b, off + i * 15 + 10, none⟩ = some (.string y.it.val) := fun st => st.cell y10
      have x11 : ∀ st : ExtW wr, st.val.cell? ⟨b, off + i * 15 + 11, none⟩ = some (.int .u32 y.it.flags) := fun st => st.cell y11
      have x12 : ∀ st : ExtW wr, st.val.cell? ⟨b, off + i * 15 + 12, none⟩ = some (.int .u64 y.it.id) := fun st => st.cell y12
      have x13 : ∀ st : ExtW wr, st.val.cell? ⟨b, off + i * 15 + 13, none⟩ = some (.int .i64 y.it.dies) := fun st => st.cell y13
      have x14 : ∀ st : ExtW wr, st.val.cell? ⟨b, off + i * 15 + 14, none⟩ = some (.int .i64 y.it.gen) := fun st => st.cell y14
      obtain ⟨c, hc⟩ : ∃ c, decide ((2000 : Int) < wrap64 ((y.it.key.size : Int) + (y.it.val.size : Int))) = c := ⟨_, rfl⟩
      have HT := Lib.hid hT; have HQ := Lib.hid hq; have HYW := Lib.hid hyw
      clear hT hq hyw hy y0 y1 y2 y3 y4 y5 y6 y7 y8 y9 y10 y11 y12 y13 y14
      go_upto_region 9 with (fail)
      refine wp_region_ext (by kernel_rfl) (by kernel_rfl) ?_
      repeat (go_big_quiet_step (fail))
      refine wpQuiet_nil ?_
      rintro W ⟨⟨W2, hW⟩, rfl⟩
      have HD1 := Lib.hid (HT.out.keep hW)
      have HQ1 := Lib.hid ((hW.block _ (Array.getElem?_eq_some_iff.1 HQ.out).1).trans HQ.out)
      have HWX := Lib.hid hW
      cases c
      · have z0 : ∀ st : ExtW W, st.val.cell? ⟨b, off + i * 15, none⟩ = some (.int .u8 y.k) := fun st => st.cell (x0 ⟨W, hW⟩)
        have z1 : ∀ st : ExtW W, st.val.cell? ⟨b, off + i * 15 + 1, none⟩ = some (.int .u8 y.n) := fun st => st.cell (x1 ⟨W, hW⟩)
        have z2 : ∀ st : ExtW W, st.val.cell? ⟨b, off + i * 15 + 2, none⟩ = some (.int .i64 y.r) := fun st => st.cell (x2 ⟨W, hW⟩)
        have z3 : ∀ st : ExtW W, st.val.cell? ⟨b, off + i * 15 + 3, none⟩ = some (.int .i64 y.b) := fun st => st.cell (x3 ⟨W, hW⟩)
        have z4 : ∀ st : ExtW W, st.val.cell? ⟨b, off + i * 15 + 4, none⟩ = some (.int .i64 y.u) := fun st => st.cell (x4 ⟨W, hW⟩)
        have z5 : ∀ st : ExtW W, st.val.cell? ⟨b, off + i * 15 + 5, none⟩ = some (.int .i64 y.s) := fun st => st.cell (x5 ⟨W, hW⟩)
        have z6 : ∀ st : ExtW W, st.val.cell? ⟨b, off + i * 15 + 6, none⟩ = some (.int .i64 y.v) := fun st => st.cell (x6 ⟨W, hW⟩)
        have z7 : ∀ st : ExtW W, st.val.cell? ⟨b, off + i * 15 + 7, none⟩ = some (.int .u64 y.a) := fun st => st.cell (x7 ⟨W, hW⟩)
        have z8 : ∀ st : ExtW W, st.val.cell? ⟨b, off + i * 15 + 8, none⟩ = some (.int .u64 y.w) := fun st => st.cell (x8 ⟨W, hW⟩)
        have z9 : ∀ st : ExtW W, st.val.cell? ⟨b, off + i * 15 + 9, none⟩ = some (.string y.it.key) := fun st => st.cell (x9 ⟨W, hW⟩)
        have z10 : ∀ st : ExtW W, st.val.cell? ⟨b, off + i * 15 + 10, none⟩ = some (.string y.it.val) := fun st => st.cell (x10 ⟨W, hW⟩)
        have z11 : ∀ st : ExtW W, st.val.cell? ⟨b, off + i * 15 + 11, none⟩ = some (.int .u32 y.it.flags) := fun st => st.cell (x11 ⟨W, hW⟩)
        have z12 : ∀ st : ExtW W, st.val.cell? ⟨b, off + i * 15 + 12, none⟩ = some (.int .u64 y.it.id) := fun st => st.cell (x12 ⟨W, hW⟩)
        have z13 : ∀ st : ExtW W, st.val.cell? ⟨b, off + i * 15 + 13, none⟩ = some (.int .i64 y.it.dies) := fun st => st.cell (x13 ⟨W, hW⟩)
        have z14 : ∀ st : ExtW W, st.val.cell? ⟨b, off + i * 15 + 14, none⟩ = some (.int .i64 y.it.gen) := fun st => st.cell (x14 ⟨W, hW⟩)
        clear x0 x1 x2 x3 x4 x5 x6 x7 x8 x9 x10 x11 x12 x13 x14
        have q0 : ∀ st : ExtW W, st.val.cell? ⟨q, 0, none⟩ = some (.pointer (some ⟨B.wb, 0, none⟩)) := fun st => st.cell (hcell HQ1.out 0)
        have q1 : ∀ st : ExtW W, st.val.cell? ⟨q, 1, none⟩ = some (.pointer (some ⟨R.wb, 0, none⟩)) := fun st => st.cell (hcell HQ1.out 1)
        clear hW
        go_upto_region 11 with (fail)
        refine wp_region_ext_tail 5 (by kernel_rfl) (by kernel_rfl) ?_
        simp only [List.take_succ_cons, List.take_zero, List.drop_succ_cons, List.drop_zero]
        repeat (go_big_quiet_step (fail))
        refine wpQuiet_nil ?_
        rintro W3 ⟨⟨W4, hW3⟩, rfl⟩
        clear q0 q1 z0 z1 z2 z3 z4 z5 z6 z7 z8 z9 z10 z11 z12 z13 z14
        have hdo := pdo_any (HD1.out.keep hW3) (by omega) y HYW.out
        have HQ3 := Lib.hid ((hW3.block _ (Array.getElem?_eq_some_iff.1 HQ1.out).1).trans HQ1.out)
        clear hW3
        go_wp2_with (first
          | (go_at_call 15; refine hdo.mono ?_; intro e w7 hh; obtain ⟨hh1, f7, V7, s7, x7, h7⟩ := hh; subst hh1; have H7 := Lib.hid h7; have Q7 := Lib.hid (f7.cells _ _ _ _ HQ3.out rfl); have p0 := hcell Q7.out 0; have p1 := hcell Q7.out 1; have hps := psame_any h7.pr; clear hdo f7 h7)
          | (go_at_call 16; refine hps.mono ?_; intro e w9 hh; obtain ⟨hh1, b9⟩ := hh; subst hh1; have H9 := Lib.hid (H7.out.keep b9); have Q9 := Lib.hid ((b9.block _ (Array.getElem?_eq_some_iff.1 Q7.out).1).trans Q7.out); clear hps b9 p0 p1))
        go_roundw
        case rel => exact ⟨i + 1, V7, s7, x7, by omega, by go_num, H9.out, Q9.out⟩
        case measure => simp [intOf]; omega
      · clear x0 x1 x2 x3 x4 x5 x6 x7 x8 x9 x10 x11 x12 x13 x14 hW
        go_wp2_with (go_at_call 12; refine (lives10 _).mono ?_; rintro e w18 ⟨rfl, b18⟩)
        go_ret
        have h0 := HD1.out.pr.ws.below
        exact ⟨rfl, HBB.out.trans ((h0.trans (b18.mono h0.size)).mono HBB.out.size)⟩
    · obtain rfl : i = l.length := by omega
      have p0 := hcell hq 0
      have p1 := hcell hq 1
      have o6 := psalln_any hT.pr (by have := hT.nn; omega) hT.nk (by have := hT.ni; omega) (by have := hT.far.1; omega)
      have HT := Lib.hid hT
      clear hT hlt hq
      go_wp2_with (first
        | (go_at_call 14; refine o6.mono ?_; intro e w17 hh; obtain ⟨hh1, b17⟩ := hh; subst hh1; have HB17 := Lib.hid b17; clear o6 b17 p0 p1)
        | (go_at_call 12; refine (lives10 _).mono ?_; rintro e w18 ⟨rfl, b18⟩))
      go_ret
      have h0 := HT.out.pr.ws.below
      have h1 := h0.trans (HB17.out.mono h0.size)
      have h2 := h1.trans (b18.mono h1.size)
      exact ⟨rfl, HBB.out.trans (h2.mono HBB.out.size)⟩
set_option maxRecDepth 10000 in
theorem walkWorldsPlay {H1 : Type} (w : World) (enc : TypeId × Value → H1) (base : Nat) (v : Value) (d : DataW H1) (p : List MemPlace) (k : DataW.Trod enc Tryz.prog w 0 (fun _ => true) true 28 v d p) (o : Value.okWide Tryz.prog w .any base 28 v)
    (enc2 : TypeId × Value → H1) (base2 : Nat) (v2 : Value) (d2 : DataW H1) (p2 : List MemPlace) (k2 : DataW.Trod enc2 Tryz.prog w 0 (fun _ => true) true 29 v2 d2 p2) (o2 : Value.okWide Tryz.prog w .any base2 29 v2) :
    Calls Tryz.prog 3 #[v, v2] w fun e w' => e = .returned (.bool true) ∧ Below w.heap.size w w' := by
  have hl : leaves Tryz.prog 6 29 = some [.sl wacLeaves] := by kernel_rfl
  obtain ⟨f, rfl, hr⟩ := fst_open k o
  obtain ⟨a1, n1, cap1, rfl⟩ := Go.WideShapes.okWide_slice Tryz.underlying29 o2
  obtain ⟨l, hll, hac⟩ := wacts_of (opened hl k2).1
  subst hll
  exact wplay_any f l a1 cap1 w hr hac
end Go.Proofs.YtjfocckdbaaimaaGreat
