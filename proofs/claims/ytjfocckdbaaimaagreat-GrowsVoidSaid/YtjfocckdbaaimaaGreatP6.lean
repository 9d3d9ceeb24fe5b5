/-
  Texts of this prover, merged: Tickets, NotesAll, NoteAdd, WorldNote, Grows, GrowDo, GrowLives, GrowVoid.
-/
import Derived.Test.YtjfocckdbaaimaaGreatBegin0
import Derived.Test.YtjfocckdbaaimaaGreatFrame
import Derived.Test.YtjfocckdbaaimaaGreatP1
import Derived.Test.YtjfocckdbaaimaaGreatPairDo
import Derived.Laws.EntriesVeiled
import Derived.Deep.DeepCutAuto
import Derived.Deep.AppendLies
/-
  Tickets: a Take, a Give, who waits.
-/
namespace Go.Proofs.YtjfocckdbaaimaaGreat
open Go.RowKit
set_option linter.unusedVariables false

/-- Of the old blocks only b, and such of some types, have turned. -/
structure Fx (K : TypeId → Bool) (mp : Bool) (b : Nat) (w w' : World) : Prop where
  size : w.heap.size ≤ w'.heap.size
  cells : ∀ (k : Nat) (cs : Array Value) (T : TypeId) (fr : Nat × Nat), w.heap[k]? = some (.cells cs T fr) → K T = false → k ≠ b → w'.heap[k]? = some (.cells cs T fr)
  map : mp = false → ∀ (k : Nat) (es : Array MapEntry) (cl : Nat), w.heap[k]? = some (.map es cl) → k ≠ b → w'.heap[k]? = some (.map es cl)
theorem Fr.fx {K : TypeId → Bool} {mp : Bool} {w w' : World} (h : Fr K mp w w') (b : Nat) : Fx K mp b w w' := ⟨h.size, fun k cs T fr h1 h2 _ => h.cells k cs T fr h1 h2, fun hm k es cl h1 _ => h.map hm k es cl h1⟩
theorem Fx.trans {K : TypeId → Bool} {mp : Bool} {b : Nat} {a c d : World} (h : Fx K mp b a c) (k : Fx K mp b c d) : Fx K mp b a d :=
  ⟨Nat.le_trans h.size k.size, fun i cs T fr hi hT hb => k.cells i cs T fr (h.cells i cs T fr hi hT hb) hT hb, fun hm i es cl hi hb => k.map hm i es cl (h.map hm i es cl hi hb) hb⟩
theorem set_fx (K : TypeId → Bool) (mp : Bool) (w : World) (b o : Nat) (v : Value) : Fx K mp b w (w.setCell ⟨b, o, none⟩ v) :=
  ⟨by simp [World.setCell], fun k cs T fr h _ hb => (Below.heap_setCell _ _ _ _ hb).trans h, fun _ k es cl h hb => (Below.heap_setCell _ _ _ _ hb).trans h⟩
theorem Fx.fr {K : TypeId → Bool} {mp : Bool} {b : Nat} {w w' : World} (h : Fx K mp b w w') {cs : Array Value} {T : TypeId} {fr : Nat × Nat} (hb : w.heap[b]? = some (.cells cs T fr)) : Fr (fun x => K x || x == T) mp w w' := by
  refine ⟨h.size, fun k cs2 T2 fr2 h2 hT => ?_, fun hm k es cl h2 => h.map hm k es cl h2 fun c => ?_⟩
  · simp only [Bool.or_eq_false_iff] at hT
    refine h.cells k cs2 T2 fr2 h2 hT.1 fun c => ?_
    subst c
    have := hb.symm.trans h2; simp only [Option.some.injEq, Obj.cells.injEq] at this
    have h3 := hT.2; rw [this.2.1] at h3; simp at h3
  · subst c; rw [hb] at h2; cases h2

theorem mkfunc (fn : Fn) (first cap : Array Value) (w : World) : (Instr.makeFunc fn first cap).run Tryz.prog w = .ok (.func fn first cap) w := rfl
/-- The worlds' types, and a Take's. -/
theorem WS.cellb {w0 w : World} {B : WB} {V : WV} {s : CS} (h : WS w0 w B V s) (t : Nat) (ht : t < 64) : w.cell? ⟨B.wb, 8 + t, none⟩ = some (.int .u64 (V.tk.getD t 0)) := (h.cell (8 + t)).trans (val_tkat B V h.tkl t ht)
theorem WS.hcell' {w0 w : World} {B : WB} {V : WV} {s : CS} (h : WS w0 w B V s) : w.cell? ⟨B.wb, 72, none⟩ = some (.int .i64 V.hd) := (h.cell 72).trans (val_at B V h.tkl).2.2.2.2.2
theorem WS.frz {w0 w : World} {B : WB} {V : WV} {s : CS} (h : WS w0 w B V s) (o : Nat) : w.frozen? ⟨B.wb, o, none⟩ = false := hfrz h.blk o
theorem WS.fx {w0 w w' : World} {B : WB} {V : WV} {s : CS} {K : TypeId → Bool} {b : Nat} (h : WS w0 w B V s) (hf : Fx K false b w w') (hK : ∀ T, wTy T = true → K T = false) {cs : Array Value} {T : TypeId} {fr : Nat × Nat} (hb : w.heap[b]? = some (.cells cs T fr)) (hT : wTy T = false) (hB : Below w0.heap.size w0 w') : WS w0 w' B V s :=
  h.fr (hf.fr hb) (fun x hx => by simp only [Bool.or_eq_false_iff]; exact ⟨hK x hx, by cases hxT : (x == T); rfl; rw [beq_iff_eq] at hxT; subst hxT; rw [hx] at hT; cases hT⟩) hB
theorem set_take {w0 w : World} {B : WB} {V : WV} {s : CS} {b o : Nat} {cs : Array Value} {T : TypeId} (h : WS w0 w B V s) (hb : w.heap[b]? = some (.cells cs T (0, 0))) (hT : wTy T = false) (hlo : w0.heap.size ≤ b) (v : Value) : WS w0 (w.setCell ⟨b, o, none⟩ v) B V s :=
  h.fx (set_fx (fun _ => false) false w b o v) (fun _ _ => rfl) hb hT (keeps_below (setCell_keeps w b o v) h.below h.below.size fun k e => e ▸ hlo)

section
variable {w0 w : World} {B : WB} {V : WV} {s : CS} {b t : Nat} {d : Bool} {k : Int} (h : WS w0 w B V s) (hr : s.room) (hlo : w0.heap.size ≤ b) (ht : t < 64)
include h hr hlo ht
end
end Go.Proofs.YtjfocckdbaaimaaGreat

/-
  notes.List.All: all notes, in new memory.
-/
namespace Go.Proofs.YtjfocckdbaaimaaGreat
open Go.RowKit
set_option linter.unusedVariables false

theorem lnotes_any {w : World} {base nb TN : Nat} {l : List Nte} (h : NL w base nb 310 TN .u8 l) : ∃ a cap, w.cell? ⟨nb, 0, none⟩ = some (.slice a l.length cap) ∧ w.ownsRow base TN 8 (.slice a l.length cap) l.length (l.flatMap (nteC .u8)) ∧ Calls Tryz.prog 150 #[.pointer (some ⟨nb, 0, none⟩)] w fun e w' => e = .returned (.slice a l.length cap) ∧ w' = w := by
  obtain ⟨v, h1, h2, h3⟩ := h
  obtain ⟨a, cap, rfl⟩ := own_sl2 h3
  have c0 : w.cell? ⟨nb, 0, none⟩ = some (.slice a l.length cap) := hcell h1 0
  refine ⟨a, cap, c0, h3, ?_⟩
  clear h1 h2 h3
  go_enter Tryz.func150, Tryz.ntmps150
  go_wp2
  go_ret
  exact ⟨rfl, rfl⟩
theorem since_ask {w : World} {cb : Nat} {i : Nat} (n : Nte) (hc : w.cell? ⟨cb, 0, none⟩ = some (.int .i64 0)) : Calls Tryz.prog 196 #[.int .i64 i, .agg (nteC .u8 n).toArray, .pointer (some ⟨cb, 0, none⟩)] w fun e w' => e = .returned (.bool true) ∧ Below w.heap.size w w' := by
  have hb := below_alloc w (.cells (nteC .u8 n).toArray 187)
  have hlt := World.block_lt_of_cell? _ _ hc
  have c0 : (w.alloc (.cells (nteC .u8 n).toArray 187)).cell? ⟨cb, 0, none⟩ = some (.int .i64 0) := by rw [World.cell?_alloc_past _ _ _ hlt]; exact hc
  have d0 : decide ((0 : Int) ≤ (i : Int)) = true := decide_eq_true (by omega)
  have HB := Lib.hid hb
  clear hb hc hlt
  go_enter Tryz.func196, Tryz.ntmps196
  go_upto_region 1 with (fail)
  change Code.wp _ _ _ _ (w.alloc (.cells (nteC .u8 n).toArray 187))
  generalize w.alloc (.cells (nteC .u8 n).toArray 187) = w1 at *
  go_wp2
  go_ret
  exact ⟨rfl, HB.out⟩
theorem info_note : (Tryz.prog.info? 187).map (fun i => (i.zero, i.size, i.bytes)) = some (some (.agg #[.int .i64 0, .int .i64 0, .int .u8 0, .int .i64 0, .int .i64 0, .int .i64 0, .int .i64 0, .int .i64 0]), 8, 64) := by kernel_rfl
/-- A row of notes that the call made, without room behind it. -/
def NRow (w : World) (base : Nat) (v : Value) (l : List Nte) : Prop :=
  (v = .slice none 0 0 ∧ l = []) ∨ ∃ g cur, v = .slice (some ⟨g, 0, none⟩) l.length l.length ∧ base ≤ g ∧ w.heap[g]? = some (.cells cur 187 (0, 0)) ∧ l.length ≤ maxLen ∧ cur.toList.take (l.length * 8) = l.flatMap (nteC .u8)
theorem nclip_any {w : World} {base : Nat} {v : Value} {l : List Nte} (h : w.ownsRow base 187 8 v l.length (l.flatMap (nteC .u8))) : Calls Tryz.prog 225 #[v] w fun e w' => ∃ v', e = .returned v' ∧ NRow w base v' l ∧ w' = w := by
  obtain ⟨h1, ⟨rfl, h0⟩ | ⟨g, cap, cur, rfl, hb, hg, hn, hm, hs, ht⟩⟩ := h
  · have : l = [] := List.length_eq_zero_iff.1 h0
    subst this
    clear h1 h0
    go_enter Tryz.func225, Tryz.ntmps225
    go_wp2
    go_ret
    exact ⟨_, rfl, .inl ⟨rfl, rfl⟩, rfl⟩
  · have hm2 := Nat.le_trans hn hm
    have H : Hid (NRow w base (.slice (some ⟨g, 0, none⟩) l.length l.length) l) := .inr ⟨g, cur, rfl, hb, hg, hm2, ht⟩
    unfold maxLen at hm hm2
    clear h1 hb hg hs ht
    go_enter Tryz.func225, Tryz.ntmps225
    go_wp2
    go_ret
    exact ⟨_, rfl, H.out, rfl⟩
theorem nte_at (l : List Nte) (k : Nat) (hk : k < l.length) (j : Nat) (hj : j < 8) : (l.flatMap (nteC .u8))[k * 8 + j]? = (nteC .u8 l[k])[j]? := by
  induction l generalizing k with
  | nil => simp at hk
  | cons x r ih =>
    rw [List.flatMap_cons]
    match k with
    | 0 =>
      rw [List.getElem?_append_left (by simp [nteC]; omega)]
      simp
    | k + 1 =>
      rw [List.getElem?_append_right (by simp [nteC]; omega)]
      have := ih k (by simp at hk; omega)
      simp only [List.getElem_cons_succ]
      rw [← this]
      congr 1
      simp [nteC]; omega
theorem row8_at {w : World} {base : Nat} {a : Option Addr} {cap : Nat} {l : List Nte} (h : w.ownsRow base 187 8 (.slice a l.length cap) l.length (l.flatMap (nteC .u8))) (k : Nat) (hk : k < l.length) :
    ∃ g, a = some ⟨g, 0, none⟩ ∧ ∀ j, j < 8 → w.cell? ⟨g, k * 8 + j, none⟩ = (nteC .u8 l[k])[j]? := by
  obtain ⟨h1, ⟨h2, h0⟩ | ⟨g, cap', cur, hv, hb, hg, hn, hm, hs, ht⟩⟩ := h
  · omega
  · simp only [Value.slice.injEq] at hv
    refine ⟨g, hv.1, fun j hj => ?_⟩
    rw [hcell hg, ← nte_at l k hk j hj, ← ht, List.getElem?_take, if_pos (by omega)]
    simp
set_option maxRecDepth 10000 in
set_option maxHeartbeats 2000000 in
theorem picked_any {w : World} {base nb cb : Nat} {l : List Nte} (h : NL w base nb 310 187 .u8 l) (hl : l.length ≤ 1048576) (hc : w.cell? ⟨cb, 0, none⟩ = some (.int .i64 0)) :
    Calls Tryz.prog 175 #[.pointer (some ⟨nb, 0, none⟩), .func (.func 196) #[] #[.pointer (some ⟨cb, 0, none⟩)]] w fun e w' => ∃ v, e = .returned v ∧ NRow w' w.heap.size v l ∧ Below w.heap.size w w' := by
  obtain ⟨a, cap, c0, hrow, hn⟩ := lnotes_any h
  obtain ⟨i0, hi0, hz0, hz1, hz2⟩ := info_parts info_note
  have HI := Lib.hid hi0; have HZ0 := Lib.hid hz0; have HZ1 := Lib.hid hz1; have HZ2 := Lib.hid hz2
  have HROW := Lib.hid hrow; have HC := Lib.hid hc; have HL := Lib.hid hl
  clear h hrow hc hl c0 hi0 hz0 hz1 hz2
  go_enter Tryz.func175, Tryz.ntmps175
  go_wp2_with (go_at_call 150; refine hn.mono ?_; rintro e w' ⟨rfl, hw⟩; obtain rfl := hw.symm; clear hn)
  go_loopw [5, 11] (fun v i wr => ∃ k : Nat, k ≤ l.length ∧ i = .int .i64 k ∧ wr.ownsRow w.heap.size 187 8 v k ((l.take k).flatMap (nteC .u8)) ∧ Below w.heap.size w wr) (fun _ i _ => l.length - (intOf i).toNat)
  case atStart => exact ⟨0, by omega, rfl, World.ownsRow_nil _ _ _ _, Below.refl _ _⟩
  case round =>
    obtain ⟨k, hk, rfl, hown, hbl⟩ := hrel
    have hl := HL.out
    by_cases hlt : k < l.length
    · have hlt' : (k : Int) < l.length := by omega
      obtain ⟨g, rfl, hcs⟩ := row8_at HROW.out k hlt
      obtain ⟨y, hy⟩ : ∃ y, y = l[k] := ⟨_, rfl⟩
      rw [← hy] at hcs
      have hgl : g < w.heap.size := World.block_lt_of_cell? _ _ ((hcs 0 (by omega)).trans rfl)
      have x : ∀ j, j < 8 → wr.cell? ⟨g, k * 8 + j, none⟩ = (nteC .u8 y)[j]? := fun j hj => (hbl.cell (p := ⟨g, k * 8 + j, none⟩) hgl).trans (hcs j hj)
      have x0 : wr.cell? ⟨g, k * 8, none⟩ = some (.int .i64 y.step) := x 0 (by omega)
      have x1 : wr.cell? ⟨g, k * 8 + 1, none⟩ = some (.int .i64 y.thread) := x 1 (by omega)
      have x2 : wr.cell? ⟨g, k * 8 + 2, none⟩ = some (.int .u8 y.kind) := x 2 (by omega)
      have x3 : wr.cell? ⟨g, k * 8 + 3, none⟩ = some (.int .i64 y.ref) := x 3 (by omega)
      have x4 : wr.cell? ⟨g, k * 8 + 4, none⟩ = some (.int .i64 y.bits) := x 4 (by omega)
      have x5 : wr.cell? ⟨g, k * 8 + 5, none⟩ = some (.int .i64 y.bucket) := x 5 (by omega)
      have x6 : wr.cell? ⟨g, k * 8 + 6, none⟩ = some (.int .i64 y.slot) := x 6 (by omega)
      have x7 : wr.cell? ⟨g, k * 8 + 7, none⟩ = some (.int .i64 y.value) := x 7 (by omega)
      have HOWN := Lib.hid hown; have HBL := Lib.hid hbl; have HY := Lib.hid hy
      clear hown hbl hcs x hy
      go_upto_region 5 with (fail)
      clear x0 x1 x2 x3 x4 x5 x6 x7
      have hb1 := below_alloc wr (.cells #[.int .i64 y.step, .int .i64 y.thread, .int .u8 y.kind, .int .i64 y.ref, .int .i64 y.bits, .int .i64 y.bucket, .int .i64 y.slot, .int .i64 y.value] 187)
      have hz1 := heap_alloc_new wr (.cells #[.int .i64 y.step, .int .i64 y.thread, .int .u8 y.kind, .int .i64 y.ref, .int .i64 y.bits, .int .i64 y.bucket, .int .i64 y.slot, .int .i64 y.value] 187)
      change Code.wp _ _ _ _ (wr.alloc (.cells #[.int .i64 y.step, .int .i64 y.thread, .int .u8 y.kind, .int .i64 y.ref, .int .i64 y.bits, .int .i64 y.bucket, .int .i64 y.slot, .int .i64 y.value] 187))
      generalize wr.alloc (.cells #[.int .i64 y.step, .int .i64 y.thread, .int .u8 y.kind, .int .i64 y.ref, .int .i64 y.bits, .int .i64 y.bucket, .int .i64 y.slot, .int .i64 y.value] 187) = w7 at *
      have hle := HBL.out.size
      have HR0 := Lib.hid (own_fr HOWN.out (below_fr hb1 (fun _ => false) false) rfl)
      generalize wr.heap.size = nq at *
      have x0 := hcell hz1 0; have x1 := hcell hz1 1; have x2 := hcell hz1 2; have x3 := hcell hz1 3
      have x4 := hcell hz1 4; have x5 := hcell hz1 5; have x6 := hcell hz1 6; have x7 := hcell hz1 7
      have hc7 : w7.cell? ⟨cb, 0, none⟩ = some (.int .i64 0) := by
        have hB : Below w.heap.size w w7 := HBL.out.trans (hb1.mono hle)
        exact (hB.cell (p := ⟨cb, 0, none⟩) (World.block_lt_of_cell? _ _ HC.out)).trans HC.out
      have hask := since_ask (i := k) y hc7
      have HB1 : Hid (Below w.heap.size w w7) := HBL.out.trans (hb1.mono hle)
      have HZ := Lib.hid hz1
      clear hb1 hz1 hc7
      go_upto_region 6 with (go_at_call 196; refine hask.mono ?_; intro e w8 hh; obtain ⟨hh1, b8⟩ := hh; subst hh1; have HB8 : Hid (Below w.heap.size w w8) := HB1.out.trans (b8.mono HB1.out.size); have hr8 := own_fr HR0.out (below_fr b8 (fun _ => false) false) rfl; have hz8 := (b8.block _ (Array.getElem?_eq_some_iff.1 HZ.out).1).trans HZ.out; clear b8 hask)
      clear x0 x1 x2 x3 x4 x5 x6 x7
      have x0 := hcell hz8 0; have x1 := hcell hz8 1; have x2 := hcell hz8 2; have x3 := hcell hz8 3
      have x4 := hcell hz8 4; have x5 := hcell hz8 5; have x6 := hcell hz8 6; have x7 := hcell hz8 7
      have HR8 := Lib.hid hr8
      clear hz8 hr8
      go_wp2_with (at_builtin; refine wpList_append_own _ rfl _ _ 179 rfl w.heap.size 187 i0 (.agg #[.int .i64 0, .int .i64 0, .int .u8 0, .int .i64 0, .int .i64 0, .int .i64 0, .int .i64 0, .int .i64 0]) 8 64 Tryz.underlying179 HI.out HZ0.out HZ1.out HZ2.out rfl (by decide) _ _ _ rfl (HR8.out.alloc _) ⟨w8.heap.size, 0, none⟩ 1 1 (nteC .u8 y) rfl rfl ?c1 ?c2 ?c3 ?c4 ?c5 ?_)
      case c1 => exact World.news_of_block (heap_alloc_new w8 _)
      case c2 => simp [Value.oneCell', nteC]
      case c3 => unfold maxLen; omega
      case c4 => omega
      case c5 => have := HB8.out.size; simp; omega
      intro v' w11 hown' hgrow _
      have hb10 := below_alloc w8 (.cells #[.int .i64 y.step, .int .i64 y.thread, .int .u8 y.kind, .int .i64 y.ref, .int .i64 y.bits, .int .i64 y.bucket, .int .i64 y.slot, .int .i64 y.value] 187)
      have hB11 : Below w.heap.size w w11 := grown_below (HR8.out.alloc _) hgrow (HB8.out.trans (hb10.mono HB8.out.size)) (Nat.le_trans HB8.out.size hb10.size) (Nat.le_refl _)
      have e1 : (l.take (k + 1)).flatMap (nteC .u8) = (l.take k).flatMap (nteC .u8) ++ nteC .u8 y := by
        rw [List.take_add_one, List.getElem?_eq_getElem hlt, List.flatMap_append, ← show y = l[k] from HY.out]; simp
      rw [← e1] at hown'
      have HOW := Lib.hid hown'; have HBW := Lib.hid hB11
      clear hown' hB11 hgrow hb10 e1 x0 x1 x2 x3 x4 x5 x6 x7
      go_wp2_with fail
      go_roundw
      case rel => exact ⟨k + 1, by omega, by go_num, HOW.out, HBW.out⟩
      case measure => simp [intOf]; omega
    · obtain rfl : k = l.length := by omega
      rw [List.take_length] at hown
      have hcl := nclip_any hown
      have HBL := Lib.hid hbl
      clear hown hbl
      go_wp2_with (go_at_call 225; refine hcl.mono ?_; intro e w9 hh; obtain ⟨v', hh1, hr, hw⟩ := hh; subst hh1; obtain rfl := hw.symm; have HR := Lib.hid hr; clear hr hcl)
      go_ret
      exact ⟨_, rfl, HR.out, HBL.out⟩
theorem lsince_any {w : World} {base nb : Nat} {l : List Nte} (h : NL w base nb 310 187 .u8 l) (hl : l.length ≤ 1048576) :
    Calls Tryz.prog 145 #[.pointer (some ⟨nb, 0, none⟩), .int .i64 0] w fun e w' => ∃ v, e = .returned v ∧ NRow w' w.heap.size v l ∧ Below w.heap.size w w' := by
  have hb := below_alloc w (.cells #[.int .i64 0] 3)
  have hz := heap_alloc_new w (.cells #[.int .i64 0] 3)
  have hp := picked_any (cb := w.heap.size) (h.fr (below_fr hb (fun _ => false) false) rfl rfl) hl (hcell hz 0)
  have HB := Lib.hid hb
  clear h hz hb
  go_enter Tryz.func145, Tryz.ntmps145
  go_wp2_with (go_at_call 175; refine hp.mono ?_; intro e w2 hh; obtain ⟨v, hh1, hr, b2⟩ := hh; subst hh1; have HR := Lib.hid hr; have B2 := Lib.hid b2; clear hr b2 hp)
  go_ret
  refine ⟨_, rfl, ?_, HB.out.trans (B2.out.mono HB.out.size)⟩
  rcases HR.out with h | ⟨g, cur, h1, h2, h3⟩
  · exact .inl h
  · exact .inr ⟨g, cur, h1, Nat.le_trans HB.out.size h2, h3⟩
theorem lall_any {w : World} {base nb : Nat} {l : List Nte} (h : NL w base nb 310 187 .u8 l) (hl : l.length ≤ 1048576) :
    Calls Tryz.prog 72 #[.pointer (some ⟨nb, 0, none⟩)] w fun e w' => ∃ v, e = .returned v ∧ NRow w' w.heap.size v l ∧ Below w.heap.size w w' := by
  have hp := lsince_any h hl
  clear h
  go_enter Tryz.func72, Tryz.ntmps72
  go_wp2_with (go_at_call 145; refine hp.mono ?_; intro e w2 hh; obtain ⟨v, hh1, hr, b2⟩ := hh; subst hh1; have HR := Lib.hid hr; have B2 := Lib.hid b2; clear hr b2 hp)
  go_ret
  exact ⟨_, rfl, HR.out, B2.out⟩
theorem NRow.at {w : World} {base : Nat} {v : Value} {l : List Nte} (h : NRow w base v l) (k : Nat) (hk : k < l.length) : ∃ g, v = .slice (some ⟨g, 0, none⟩) l.length l.length ∧ ∀ j, j < 8 → w.cell? ⟨g, k * 8 + j, none⟩ = (nteC .u8 l[k])[j]? := by
  rcases h with ⟨-, h0⟩ | ⟨g, cur, hv, hb, hg, hm, ht⟩
  · subst h0; simp at hk
  · refine ⟨g, hv, fun j hj => ?_⟩
    rw [hcell hg, ← nte_at l k hk j hj, ← ht, List.getElem?_take, if_pos (by omega)]
    simp
end Go.Proofs.YtjfocckdbaaimaaGreat

/-
  notes.List.Add, and a world's note.
-/
namespace Go.Proofs.YtjfocckdbaaimaaGreat
open Go.RowKit
set_option linter.unusedVariables false

theorem lcount_any {w : World} {base nb TN : Nat} {l : List Nte} (h : NL w base nb 310 TN .u8 l) : Calls Tryz.prog 83 #[.pointer (some ⟨nb, 0, none⟩)] w fun e w' => e = .returned (.int .i64 l.length) ∧ w' = w := by
  obtain ⟨a, cap, -, -, hn⟩ := lnotes_any h
  clear h
  go_enter Tryz.func83, Tryz.ntmps83
  go_wp2_with (go_at_call 150; refine hn.mono ?_; rintro e w' ⟨rfl, rfl⟩)
  go_ret
  exact ⟨rfl, rfl⟩
/-- Behind an Add: a note of a kind that is one. -/
def nadd (l : List Nte) (n : Nte) : List Nte := if 1 ≤ n.kind ∧ n.kind ≤ 9 then l ++ [n] else l
def nTy (T : TypeId) : Bool := T == 310 || T == 187
theorem nTy_l (T : TypeId) (h : nTy T = false) : (T == 310) = false := by unfold nTy at h; simp only [Bool.or_eq_false_iff] at h; exact h.1
theorem nTy_n (T : TypeId) (h : nTy T = false) : (T == 187) = false := by unfold nTy at h; simp only [Bool.or_eq_false_iff] at h; exact h.2
set_option maxRecDepth 10000 in
set_option maxHeartbeats 2000000 in
theorem ladd_no {w : World} {base nb : Nat} {l : List Nte} {n : Nte} (h : NL w base nb 310 187 .u8 l) (hk : n.kind = 0 ∨ 9 < n.kind) :
    Calls Tryz.prog 115 #[.pointer (some ⟨nb, 0, none⟩), .agg (nteC .u8 n).toArray] w fun e w' => (∃ k, e = .returned (.int .i64 k)) ∧ Below w.heap.size w w' := by
  have hb := below_alloc w (.cells (nteC .u8 n).toArray 187)
  have hz := heap_alloc_new w (.cells (nteC .u8 n).toArray 187)
  have h1 := h.fr (below_fr hb (fun _ => false) false) rfl rfl
  have hcn := lcount_any h1
  have HB := Lib.hid hb; have HZ := Lib.hid hz; have HK := Lib.hid hk
  clear h hb hz h1 hk
  go_enter Tryz.func115, Tryz.ntmps115
  go_upto_region 1 with (fail)
  change Code.wp _ _ _ _ (w.alloc (.cells (nteC .u8 n).toArray 187))
  generalize w.alloc (.cells (nteC .u8 n).toArray 187) = w1 at *
  go_upto_region 4 with (go_at_call 83; refine hcn.mono ?_; rintro e w2 ⟨rfl, hw⟩; obtain rfl := hw.symm; clear hcn)
  have x2 : ∀ st : ExtW w1, st.val.cell? ⟨w.heap.size, 2, none⟩ = some (.int .u8 n.kind) := fun st => st.cell (hcell HZ.out 2)
  rcases HK.out with hk | hk
  · have d1 : (n.kind == 0) = true := beq_iff_eq.2 hk
    refine wp_region_ext (by kernel_rfl) (by kernel_rfl) ?_
    repeat (go_big_quiet_step (fail))
    refine wpQuiet_nil ?_
    rintro W ⟨⟨W2, hW⟩, rfl⟩
    have HW := Lib.hid hW
    clear x2 hW
    go_wp2
    go_ret
    exact ⟨⟨_, rfl⟩, HB.out.trans (HW.out.mono HB.out.size)⟩
  · have d1 : (n.kind == 0) = false := beq_eq_false_iff_ne.2 (by omega)
    have d2 : decide (9 < n.kind) = true := decide_eq_true hk
    refine wp_region_ext (by kernel_rfl) (by kernel_rfl) ?_
    repeat (go_big_quiet_step (fail))
    refine wpQuiet_nil ?_
    rintro W ⟨⟨W2, hW⟩, rfl⟩
    have HW := Lib.hid hW
    clear x2 hW
    go_wp2
    go_ret
    exact ⟨⟨_, rfl⟩, HB.out.trans (HW.out.mono HB.out.size)⟩
set_option maxRecDepth 10000 in
set_option maxHeartbeats 4000000 in
theorem ladd_ok {w0 w : World} {base nb : Nat} {l : List Nte} {n : Nte} (h : NL w base nb 310 187 .u8 l) (hB : Below base w0 w) (hsz : base ≤ w.heap.size) (hl : l.length < 1048576) (hk : 1 ≤ n.kind ∧ n.kind ≤ 9) (hs : ∀ y, l.getLast? = some y → y.step ≤ n.step) :
    Calls Tryz.prog 115 #[.pointer (some ⟨nb, 0, none⟩), .agg (nteC .u8 n).toArray] w fun e w' => (∃ k, e = .returned (.int .i64 k)) ∧ NL w' base nb 310 187 .u8 (l ++ [n]) ∧ Fr nTy false w w' ∧ Below base w0 w' := by
  obtain ⟨i0, hi0, hz0, hz1, hz2⟩ := info_parts info_note
  have HI := Lib.hid hi0; have HZ0 := Lib.hid hz0; have HZ1 := Lib.hid hz1; have HZ2 := Lib.hid hz2
  have hb := below_alloc w (.cells (nteC .u8 n).toArray 187)
  have hz := heap_alloc_new w (.cells (nteC .u8 n).toArray 187)
  have h1 := h.fr (below_fr hb (fun _ => false) false) rfl rfl
  have hcn := lcount_any h1
  have HBB : Hid (Below base w0 (w.alloc (.cells (nteC .u8 n).toArray 187))) := hB.trans (hb.mono hsz)
  have HSZ : Hid (base ≤ (w.alloc (.cells (nteC .u8 n).toArray 187)).heap.size) := Nat.le_trans hsz hb.size
  have HB := Lib.hid hb; have H1 := Lib.hid h1; have HZ := Lib.hid hz; have HL := Lib.hid hl; have HK := Lib.hid hk; have HS := Lib.hid hs
  clear h hb hz h1 hl hk hs hi0 hz0 hz1 hz2 hB hsz
  go_enter Tryz.func115, Tryz.ntmps115
  go_upto_region 1 with (fail)
  change Code.wp _ _ _ _ (w.alloc (.cells (nteC .u8 n).toArray 187))
  generalize w.alloc (.cells (nteC .u8 n).toArray 187) = w1 at *
  go_upto_region 4 with (go_at_call 83; refine hcn.mono ?_; rintro e w2 ⟨rfl, hw⟩; obtain rfl := hw.symm; clear hcn)
  have HFC0 : Hid (Fr nTy false w w1) := below_fr HB.out _ _
  clear HB
  generalize w.heap.size = nq at *
  go_cut [11] (fun v wx => v = .bool false ∧ Below w1.heap.size w1 wx)
  case first =>
    obtain ⟨a, cap, c0, hrow, -⟩ := lnotes_any H1.out
    have hk := HK.out
    have d1 : (n.kind == 0) = false := beq_eq_false_iff_ne.2 (by omega)
    have d2 : decide (9 < n.kind) = false := decide_eq_false (by omega)
    have hl := HL.out
    have x0 : ∀ st : ExtW w1, st.val.cell? ⟨nq, 0, none⟩ = some (.int .i64 n.step) := fun st => st.cell (hcell HZ.out 0)
    have x2 : ∀ st : ExtW w1, st.val.cell? ⟨nq, 2, none⟩ = some (.int .u8 n.kind) := fun st => st.cell (hcell HZ.out 2)
    have y0 : ∀ st : ExtW w1, st.val.cell? ⟨nb, 0, none⟩ = some (.slice a l.length cap) := fun st => st.cell c0
    by_cases h0 : l.length = 0
    · have e0 : decide ((0 : Int) < l.length) = false := decide_eq_false (by omega)
      have e0n : decide (0 < l.length) = false := decide_eq_false (by omega)
      clear hrow c0 hk hl h0
      refine wp_region_ext (by kernel_rfl) (by kernel_rfl) ?_
      repeat (go_big_quiet_step (fail))
      refine wpQuiet_nil ?_
      rintro W ⟨⟨W2, hW⟩, rfl⟩
      clear x0 x2 y0
      have HW := Lib.hid hW
      go_wp2_with fail
      go_meet
      case rel => exact ⟨rfl, HW.out⟩
    · obtain ⟨k, hk1⟩ : ∃ k, l.length = k + 1 := ⟨l.length - 1, by omega⟩
      have hkl : k < l.length := by omega
      obtain ⟨g, rfl, hcs⟩ := row8_at hrow k hkl
      have hst : (l[k]).step ≤ n.step := HS.out _ (by rw [List.getLast?_eq_getElem?, show l.length - 1 = k by omega]; exact List.getElem?_eq_getElem hkl)
      have y1 : ∀ st : ExtW w1, st.val.cell? ⟨g, k * 8, none⟩ = some (.int .i64 (l[k]).step) := fun st => st.cell (hcs 0 (by omega))
      generalize (l[k]).step = ys at *
      clear hrow c0 hk hcs hkl h0
      generalize l.length = L at *
      subst hk1
      have e0 : decide ((0 : Int) < ((k + 1 : Nat) : Int)) = true := decide_eq_true (by omega)
      have e0n : decide (0 < k + 1) = true := decide_eq_true (by omega)
      have d3 : decide (n.step < ys) = false := decide_eq_false (by omega)
      clear hst
      refine wp_region_ext (by kernel_rfl) (by kernel_rfl) ?_
      repeat (go_big_quiet_step (fail))
      refine wpQuiet_nil ?_
      rintro W ⟨⟨W2, hW⟩, rfl⟩
      clear x0 x2 y0 y1
      have HW := Lib.hid hW
      go_wp2_with fail
      go_meet
      case rel => exact ⟨rfl, HW.out⟩
  case rest =>
  obtain ⟨hcv, hbx⟩ := hcut
  subst hcv
  have hnl := H1.out.fr (below_fr hbx (fun _ => false) false) rfl rfl
  have hnq := (hbx.block _ (Array.getElem?_eq_some_iff.1 HZ.out).1).trans HZ.out
  obtain ⟨v, hl1, hl2, hl3⟩ := hnl
  obtain ⟨ao, cap, rfl⟩ := own_sl2 hl3
  have hqlt := (Array.getElem?_eq_some_iff.1 hl1).1
  have hnlt := (Array.getElem?_eq_some_iff.1 hnq).1
  have l0 := hcell hl1 0
  have lf := hfrz hl1 0
  have l0' : ∀ o, (wc.alloc o).cell? ⟨nb, 0, none⟩ = some (.slice ao l.length cap) := fun o => by rw [World.cell?_alloc_past _ _ _ hqlt]; exact l0
  have lf' : ∀ o, (wc.alloc o).frozen? ⟨nb, 0, none⟩ = false := fun o => by rw [World.frozen?_alloc_past _ _ _ hqlt]; exact lf
  have hl := HL.out
  have dm : decide ((1048576 : Int) ≤ l.length) = false := decide_eq_false (by omega)
  have k0 : wc.cell? ⟨nq, 0, none⟩ = some (.int .i64 n.step) := hcell hnq 0
  have k1 : wc.cell? ⟨nq, 1, none⟩ = some (.int .i64 n.thread) := hcell hnq 1
  have k2 : wc.cell? ⟨nq, 2, none⟩ = some (.int .u8 n.kind) := hcell hnq 2
  have k3 : wc.cell? ⟨nq, 3, none⟩ = some (.int .i64 n.ref) := hcell hnq 3
  have k4 : wc.cell? ⟨nq, 4, none⟩ = some (.int .i64 n.bits) := hcell hnq 4
  have k5 : wc.cell? ⟨nq, 5, none⟩ = some (.int .i64 n.bucket) := hcell hnq 5
  have k6 : wc.cell? ⟨nq, 6, none⟩ = some (.int .i64 n.slot) := hcell hnq 6
  have k7 : wc.cell? ⟨nq, 7, none⟩ = some (.int .i64 n.value) := hcell hnq 7
  have E2 : Hid (l.length + 1 ≤ maxLen) := by unfold maxLen; show l.length + 1 ≤ _; omega
  have E3 : Hid ((l.length + 1) * 64 ≤ 140737488355328) := by show (l.length + 1) * 64 ≤ 140737488355328; omega
  have E4 : Hid (base ≤ wc.heap.size) := Nat.le_trans HSZ.out hbx.size
  have HNW : Hid (((wc.drew).alloc (.cells #[.int .i64 n.step, .int .i64 n.thread, .int .u8 n.kind, .int .i64 n.ref, .int .i64 n.bits, .int .i64 n.bucket, .int .i64 n.slot, .int .i64 n.value] 187)).heap[wc.heap.size]? = some (.cells #[.int .i64 n.step, .int .i64 n.thread, .int .u8 n.kind, .int .i64 n.ref, .int .i64 n.bits, .int .i64 n.bucket, .int .i64 n.slot, .int .i64 n.value] 187 (0, 0))) := heap_alloc_new (wc.drew) _
  have HW0 : Hid (Below wc.heap.size wc ((wc.drew).alloc (.cells #[.int .i64 n.step, .int .i64 n.thread, .int .u8 n.kind, .int .i64 n.ref, .int .i64 n.bits, .int .i64 n.bucket, .int .i64 n.slot, .int .i64 n.value] 187))) := ((Below.refl _ _).drew).alloc (Nat.le_refl _) _
  have HBC : Hid (Below base w0 wc) := HBB.out.trans (hbx.mono HSZ.out)
  have HFC : Hid (Fr nTy false w wc) := HFC0.out.trans (below_fr hbx _ _)
  have HL1 := Lib.hid hl1; have HL3 := Lib.hid hl3; have HLO := Lib.hid hl2
  clear hl1 hl3 hl2 hnq hbx H1 HS HK
  go_upto_region 8 with (fail)
  clear dm hl
  go_region_law ((refine step_append_lies _ (by rfl) _ _ _ (by rfl) base 187 i0 _ 8 64 Tryz.underlying179 HI.out HZ0.out HZ1.out HZ2.out rfl (by decide) (.slice ao l.length cap) l.length (l.flatMap (nteC .u8)) (by rfl) ((HL3.out.drew).alloc _) ⟨wc.heap.size, 0, none⟩ 1 1 (nteC .u8 n) (by rfl) (by rfl) (World.news_of_block (cs := #[.int .i64 n.step, .int .i64 n.thread, .int .u8 n.kind, .int .i64 n.ref, .int .i64 n.bits, .int .i64 n.bucket, .int .i64 n.slot, .int .i64 n.value]) (t := 187) (fr := (0, 0)) HNW.out) (by simp [Value.oneCell', nteC]) (by omega) E2.out E3.out (by have := E4.out; simp; omega) (wc.heap.size + 1) (by simp) ?_; intro g cap1 w4 hown1 hgrow hat hlt; have HOW := Lib.hid hown1; have HGR := Lib.hid hgrow; have hq4 : w4.heap[nb]? = some (.cells #[.slice ao l.length cap] 310 (0, 0)) := (grown_ty ((HL3.out.drew).alloc _) hgrow).cells _ _ _ _ ((HW0.out.block _ (Array.getElem?_eq_some_iff.1 HL1.out).1).trans HL1.out) rfl; have t0 := hcell hq4 0; have t1 := hfrz hq4 0; have HQ4 := Lib.hid hq4; clear hown1 hgrow hat hlt hq4))
  all_goals
    have hB4 : Below base w0 w4 := grown_below ((HL3.out.drew).alloc _) HGR.out (HBC.out.trans (HW0.out.mono E4.out)) (Nat.le_trans E4.out HW0.out.size) (Nat.le_refl _)
    have f4 : Fr nTy false wc w4 := (below_fr HW0.out _ _).trans ((grown_ty ((HL3.out.drew).alloc _) HGR.out).mono nTy_n id)
    have f5 := set_ty HQ4.out 0 (.slice (some ⟨g, 0, none⟩) (l.length + 1) cap1)
    have hB5 := set_below hB4 (Nat.le_trans E4.out f4.size) HLO.out 0 (.slice (some ⟨g, 0, none⟩) (l.length + 1) cap1)
    have hq5 := setCell_same HQ4.out 0 (.slice (some ⟨g, 0, none⟩) (l.length + 1) cap1)
    have h1 := own_fr HOW.out f5 rfl
    have FIN : Hid (NL (w4.setCell ⟨nb, 0, none⟩ (.slice (some ⟨g, 0, none⟩) (l.length + 1) cap1)) base nb 310 187 .u8 (l ++ [n]) ∧ Fr nTy false w (w4.setCell ⟨nb, 0, none⟩ (.slice (some ⟨g, 0, none⟩) (l.length + 1) cap1)) ∧ Below base w0 (w4.setCell ⟨nb, 0, none⟩ (.slice (some ⟨g, 0, none⟩) (l.length + 1) cap1))) := by
      refine ⟨⟨_, hq5, HLO.out, ?_⟩, (HFC.out.trans f4).trans (f5.mono nTy_l id), hB5⟩
      rw [List.length_append, List.flatMap_append]
      simpa using h1
    clear hB4 f4 f5 hB5 hq5 h1 HQ4 HGR HOW t0 t1 l0 l0' lf lf' k0 k1 k2 k3 k4 k5 k6 k7
    generalize w4.setCell ⟨nb, 0, none⟩ (.slice (some ⟨g, 0, none⟩) (l.length + 1) cap1) = w5 at *
    go_wp2_with fail
    go_ret
    exact ⟨⟨_, rfl⟩, FIN.out⟩
end Go.Proofs.YtjfocckdbaaimaaGreat

/-
  A world's note.
-/
namespace Go.Proofs.YtjfocckdbaaimaaGreat
open Go.RowKit Go.Maps
set_option linter.unusedVariables false

theorem u8_nn {k : Int} (h : (Lit.int .u8 k).wf = true) : 0 ≤ k ∧ k < 256 := by
  have hmin : IntKind.u8.min = 0 := rfl
  have hmax : IntKind.u8.max = 255 := rfl
  simp only [Lit.wf, Bool.and_eq_true, decide_eq_true_eq] at h; omega
theorem nTy_w (T : TypeId) (h : wTy T = false) : nTy T = false := by
  unfold wTy at h
  simp only [Bool.or_eq_false_iff] at h
  unfold nTy
  rw [h.1.2, h.2]; rfl
section
variable {w0 w w' : World} {B : WB} {V : WV} {s : CS}
theorem WS.noted (h : WS w0 w B V s) {l : List Nte} (hn : NL w' w0.heap.size B.nb 310 187 .u8 l) (hf : Fr nTy false w w') (hB : Below w0.heap.size w0 w') : WS w0 w' B { V with nts := l } s := by
  obtain ⟨S, ha⟩ := h.ar
  exact ⟨h.own.fr hf hB rfl rfl, hf.cells _ _ _ _ h.blk rfl, h.lo, ⟨S, ha.fr hf rfl rfl rfl⟩, hn, h.tkl⟩
theorem WS.hd5 (h : WS w0 w B V s) : w.cell? ⟨B.wb, 0, none⟩ = some (.pointer (some ⟨B.cb, 0, none⟩)) ∧ w.cell? ⟨B.wb, 1, none⟩ = some (.pointer (some ⟨B.ib, 0, none⟩)) ∧ w.cell? ⟨B.wb, 2, none⟩ = some (.pointer (some ⟨B.nb, 0, none⟩)) ∧ w.cell? ⟨B.wb, 72, none⟩ = some (.int .i64 V.hd) :=
  ⟨h.c0, (h.cell 1).trans (val_at B V h.tkl).2.1, (h.cell 2).trans (val_at B V h.tkl).2.2.1, (h.cell 72).trans (val_at B V h.tkl).2.2.2.2.2⟩
theorem WS.last5 (h : WS w0 w B V s) : Calls Tryz.prog 82 #[.pointer (some ⟨B.cb, 0, none⟩)] w fun e w' => e = .returned (.agg #[.int .u8 s.kind, .int .u64 s.addr, .int .u64 s.was, .int .u64 s.is]) ∧ Below w.heap.size w w' := by
  obtain ⟨⟨S, hS⟩, hB⟩ := h.own
  exact last_any w _ B.cb s S hS
theorem WS.iat5 (h : WS w0 w B V s) (hl : V.its.length ≤ 1048576) (r : Int) : Calls Tryz.prog 74 #[.pointer (some ⟨B.ib, 0, none⟩), .int .i64 r] w fun e w' => e = .returned (.tuple #[.agg #[.string ((atOf V.its r).1).key, .string ((atOf V.its r).1).val, .int .u32 ((atOf V.its r).1).flags, .int .u64 ((atOf V.its r).1).id, .int .i64 ((atOf V.its r).1).dies, .int .i64 ((atOf V.its r).1).gen], .bool (atOf V.its r).2]) ∧ Below w.heap.size w w' := by
  obtain ⟨S, hS⟩ := h.ar
  exact iat_any _ _ _ S r w hS hl
theorem WS.steps5 (h : WS w0 w B V s) : Calls Tryz.prog 63 #[.pointer (some ⟨B.wb, 0, none⟩)] w fun e w' => e = .returned (.int .i64 s.cnt) ∧ w' = w := steps_any h.wld
/-- Do the notes' steps rise up to what was done? -/
def Nsteps (l : List Nte) (c : Int) : Prop := ∀ y ∈ l, y.step ≤ c
theorem Nsteps.le {l : List Nte} {c d : Int} (h : Nsteps l c) (hc : c ≤ d) : Nsteps l d := fun y hy => Int.le_trans (h y hy) hc
theorem Nsteps.add {l : List Nte} {c : Int} {n : Nte} (h : Nsteps l c) (hn : n.step = c) : Nsteps (nadd l n) c := by
  unfold nadd
  split
  · intro y hy
    rcases List.mem_append.1 hy with h1 | h1
    · exact h y h1
    · simp only [List.mem_singleton] at h1; subst h1; rw [hn]; exact Int.le_refl _
  · exact h
theorem nadd_len (l : List Nte) (n : Nte) : (nadd l n).length ≤ l.length + 1 := by unfold nadd; split <;> simp
theorem wladd (h : WS w0 w B V s) (n : Nte) (hl : V.nts.length < 1048576) (hkb : 0 ≤ n.kind) (hs : Nsteps V.nts n.step) :
    Calls Tryz.prog 115 #[.pointer (some ⟨B.nb, 0, none⟩), .agg (nteC .u8 n).toArray] w fun e w' => (∃ k, e = .returned (.int .i64 k)) ∧ WS w0 w' B { V with nts := nadd V.nts n } s ∧ Fr nTy false w w' := by
  by_cases hk : 1 ≤ n.kind ∧ n.kind ≤ 9
  · refine (ladd_ok h.nt h.below h.below.size hl hk (fun y hy => hs y (List.mem_of_getLast? hy))).mono fun e w' ⟨h1, h2, h3, h4⟩ => ⟨h1, ?_, h3⟩
    have : nadd V.nts n = V.nts ++ [n] := by unfold nadd; rw [if_pos hk]
    rw [this]
    exact h.noted h2 h3 h4
  · refine (ladd_no h.nt (by omega)).mono fun e w' ⟨h1, h2⟩ => ⟨h1, ?_, below_fr h2 _ _⟩
    have : nadd V.nts n = V.nts := by unfold nadd; rw [if_neg hk]
    rw [this]
    exact h.keep h2
set_option maxRecDepth 10000 in
set_option maxHeartbeats 2000000 in
theorem wnote_any (h : WS w0 w B V s) (k r b u sl v : Int) (hl : V.nts.length < 1048576) (hkb : (Lit.int .u8 k).wf = true) (hs : Nsteps V.nts s.cnt) :
    Calls Tryz.prog 43 #[.pointer (some ⟨B.wb, 0, none⟩), .int .u8 k, .int .i64 r, .agg #[.int .i64 b, .int .i64 u, .int .i64 sl], .int .i64 v] w fun e w' => e = .returned (.tuple #[]) ∧ WS w0 w' B { V with nts := nadd V.nts ⟨s.cnt, V.hd, k, r, b, u, sl, v⟩ } s ∧ Fr wTy true w w' := by
  have hb := below_alloc w (.cells #[.int .i64 b, .int .i64 u, .int .i64 sl] 43)
  have hz := heap_alloc_new w (.cells #[.int .i64 b, .int .i64 u, .int .i64 sl] 43)
  have h1 := h.keep hb
  have hk0 := (u8_nn hkb).1
  have HB := Lib.hid hb; have HZ := Lib.hid hz; have H1 := Lib.hid h1; have HL := Lib.hid hl; have HS := Lib.hid hs; have HK0 := Lib.hid hk0
  clear h hb hz h1 hl hkb hs hk0
  go_enter Tryz.func43, Tryz.ntmps43
  go_upto_region 2 with (fail)
  change Code.wp _ _ _ _ (w.alloc (.cells #[.int .i64 b, .int .i64 u, .int .i64 sl] 43))
  generalize w.alloc (.cells #[.int .i64 b, .int .i64 u, .int .i64 sl] 43) = w1 at *
  have HB0 : Hid (Fr wTy true w w1) := below_fr HB.out _ _
  clear HB
  generalize w.heap.size = nq at *
  have x2 : ∀ st : ExtW w1, st.val.cell? ⟨B.wb, 2, none⟩ = some (.pointer (some ⟨B.nb, 0, none⟩)) := fun st => st.cell H1.out.hd5.2.2.1
  have x72 : ∀ st : ExtW w1, st.val.cell? ⟨B.wb, 72, none⟩ = some (.int .i64 V.hd) := fun st => st.cell H1.out.hd5.2.2.2
  have z0 : ∀ st : ExtW w1, st.val.cell? ⟨nq, 0, none⟩ = some (.int .i64 b) := fun st => st.cell (hcell HZ.out 0)
  have z1 : ∀ st : ExtW w1, st.val.cell? ⟨nq, 1, none⟩ = some (.int .i64 u) := fun st => st.cell (hcell HZ.out 1)
  have z2 : ∀ st : ExtW w1, st.val.cell? ⟨nq, 2, none⟩ = some (.int .i64 sl) := fun st => st.cell (hcell HZ.out 2)
  have m1 : ∀ st : ExtW w1, Calls Tryz.prog 63 #[.pointer (some ⟨B.wb, 0, none⟩)] st.val fun e w' => e = .returned (.int .i64 s.cnt) ∧ st.val = w' := fun st => (H1.out.keep st.below).steps5.mono fun e w' ⟨h1, h2⟩ => ⟨h1, h2.symm⟩
  refine wp_region_ext_tail 15 (by kernel_rfl) (by kernel_rfl) ?_
  simp only [List.take_succ_cons, List.take_zero, List.drop_succ_cons, List.drop_zero]
  repeat (go_big_quiet_step ((go_at_call 63; with_reducible refine calls_ext_same (m1 _))))
  refine wpQuiet_nil ?_
  rintro W ⟨⟨W2, hW⟩, rfl⟩
  clear x2 x72 z0 z1 z2 m1
  have hadd := wladd (H1.out.keep hW) ⟨s.cnt, V.hd, k, r, b, u, sl, v⟩ HL.out HK0.out HS.out
  have HW := Lib.hid hW
  clear hW
  go_wp2_with (go_at_call 115; refine hadd.mono ?_; intro e w3 hh; obtain ⟨⟨kk, hh1⟩, h3, f3⟩ := hh; subst hh1; have H3 := Lib.hid h3; have F3 := Lib.hid f3; clear h3 f3 hadd)
  go_end0
  exact ⟨rfl, H3.out, (HB0.out.trans (below_fr HW.out _ _)).trans (F3.out.mono nTy_w (fun h => by cases h))⟩
end
end Go.Proofs.YtjfocckdbaaimaaGreat

/-
  Grows: what is not there, what is over, without a world; the document's; a step.
-/
namespace Go.Proofs.YtjfocckdbaaimaaGreat
open Go.RowKit Go.Maps
set_option linter.unusedVariables false

/-- What is left of the acts, by how many there are. -/
def LeftV (w : World) (v : Value) : Nat → Prop
  | 0 => ∃ a c, v = .slice a 0 c
  | 1 => ∃ g o cs, v = .slice (some ⟨g, o, none⟩) 1 1 ∧ w.heap[g]? = some (.cells cs 252 (0, 0)) ∧ cs[o]? = some (.int .i64 1)
  | _ + 2 => ∃ g, v = .slice (some ⟨g, 0, none⟩) 2 2 ∧ w.heap[g]? = some (.cells #[.int .i64 0, .int .i64 1] 252 (0, 0))
def GS (w : World) (b T n : Nat) (word bits : Int) : Prop := ∃ v, w.heap[b]? = some (.cells #[v, .int .u64 word, .int .i64 bits] T (0, 0)) ∧ LeftV w v n
theorem LeftV.fr {K : TypeId → Bool} {mp : Bool} {w w' : World} {v : Value} {n : Nat} (h : LeftV w v n) (hf : Fr K mp w w') (h1 : K 252 = false) : LeftV w' v n := by
  match n, h with
  | 0, h => exact h
  | 1, ⟨g, o, cs, h2, h3, h4⟩ => exact ⟨g, o, cs, h2, hf.cells _ _ _ _ h3 h1, h4⟩
  | _ + 2, ⟨g, h2, h3⟩ => exact ⟨g, h2, hf.cells _ _ _ _ h3 h1⟩
theorem GS.fr {K : TypeId → Bool} {mp : Bool} {w w' : World} {b T n : Nat} {word bits : Int} (h : GS w b T n word bits) (hf : Fr K mp w w') (h1 : K 252 = false) (h2 : K T = false) : GS w' b T n word bits := by
  obtain ⟨v, h3, h4⟩ := h
  exact ⟨v, hf.cells _ _ _ _ h3 h2, h4.fr hf h1⟩
theorem GS.below {w w' : World} {b T n : Nat} {word bits : Int} (h : GS w b T n word bits) (hb : Below w.heap.size w w') : GS w' b T n word bits := h.fr (below_fr hb (fun _ => false) false) rfl rfl
theorem LeftV.sl {w : World} {v : Value} {n : Nat} (hn : n ≤ 2) (h : LeftV w v n) : ∃ a c, v = .slice a n c := by
  match n, hn, h with
  | 0, _, ⟨a, c, h⟩ => exact ⟨a, c, h⟩
  | 1, _, ⟨g, o, cs, h, _⟩ => exact ⟨_, _, h⟩
  | 2, _, ⟨g, h, _⟩ => exact ⟨_, _, h⟩
theorem gover_nil (w : World) : Calls Tryz.prog 47 #[.pointer none] w fun e w' => e = .returned (.bool true) ∧ w' = w := by
  go_enter Tryz.func47, Tryz.ntmps47
  go_wp2
  go_ret
  exact ⟨rfl, rfl⟩
theorem sover_nil (w : World) : Calls Tryz.prog 49 #[.pointer none] w fun e w' => e = .returned (.bool true) ∧ w' = w := by
  go_enter Tryz.func49, Tryz.ntmps49
  go_wp2
  go_ret
  exact ⟨rfl, rfl⟩
theorem gover {w : World} {b n : Nat} {word bits : Int} (hn : n ≤ 2) (h : GS w b 134 n word bits) : Calls Tryz.prog 47 #[.pointer (some ⟨b, 0, none⟩)] w fun e w' => e = .returned (.bool (n == 0)) ∧ w' = w := by
  obtain ⟨v, h1, h2⟩ := h
  obtain ⟨a, c, rfl⟩ := h2.sl hn
  have c0 := hcell h1 0
  have d : ((n : Int) == 0) = (n == 0) := by cases n <;> simp; omega
  generalize (n == 0) = dd at *
  clear h1 h2
  go_enter Tryz.func47, Tryz.ntmps47
  go_wp2
  go_ret
  exact ⟨rfl, rfl⟩
theorem sover {w : World} {b n : Nat} {word bits : Int} (hn : n ≤ 2) (h : GS w b 138 n word bits) : Calls Tryz.prog 49 #[.pointer (some ⟨b, 0, none⟩)] w fun e w' => e = .returned (.bool (n == 0)) ∧ w' = w := by
  obtain ⟨v, h1, h2⟩ := h
  obtain ⟨a, c, rfl⟩ := h2.sl hn
  have c0 := hcell h1 0
  have d : ((n : Int) == 0) = (n == 0) := by cases n <;> simp; omega
  generalize (n == 0) = dd at *
  clear h1 h2
  go_enter Tryz.func49, Tryz.ntmps49
  go_wp2
  go_ret
  exact ⟨rfl, rfl⟩
theorem gstep_nil (u : Value) (w : World) : Calls Tryz.prog 48 #[.pointer none, u] w fun e w' => e = .returned (.bool true) ∧ w' = w := by
  go_enter Tryz.func48, Tryz.ntmps48
  go_wp2_with (go_at_call 47; refine (gover_nil _).mono ?_; rintro e w1 ⟨rfl, hw⟩; obtain rfl := hw.symm)
  go_ret
  exact ⟨rfl, rfl⟩
theorem sstep_nil (u : Value) (w : World) : Calls Tryz.prog 50 #[.pointer none, u] w fun e w' => e = .returned (.bool true) ∧ w' = w := by
  go_enter Tryz.func50, Tryz.ntmps50
  go_wp2_with (go_at_call 49; refine (sover_nil _).mono ?_; rintro e w1 ⟨rfl, hw⟩; obtain rfl := hw.symm)
  go_ret
  exact ⟨rfl, rfl⟩
theorem gstep_over {w : World} {b : Nat} {word bits : Int} (h : GS w b 134 0 word bits) (u : Value) : Calls Tryz.prog 48 #[.pointer (some ⟨b, 0, none⟩), u] w fun e w' => e = .returned (.bool true) ∧ w' = w := by
  have ho := gover (by decide) h
  rw [show ((0 : Nat) == 0) = true from rfl] at ho
  clear h
  go_enter Tryz.func48, Tryz.ntmps48
  go_wp2_with (go_at_call 47; refine ho.mono ?_; rintro e w1 ⟨rfl, hw⟩; obtain rfl := hw.symm)
  go_ret
  exact ⟨rfl, rfl⟩
theorem sstep_over {w : World} {b : Nat} {word bits : Int} (h : GS w b 138 0 word bits) (u : Value) : Calls Tryz.prog 50 #[.pointer (some ⟨b, 0, none⟩), u] w fun e w' => e = .returned (.bool true) ∧ w' = w := by
  have ho := sover (by decide) h
  rw [show ((0 : Nat) == 0) = true from rfl] at ho
  clear h
  go_enter Tryz.func50, Tryz.ntmps50
  go_wp2_with (go_at_call 49; refine ho.mono ?_; rintro e w1 ⟨rfl, hw⟩; obtain rfl := hw.symm)
  go_ret
  exact ⟨rfl, rfl⟩
theorem gstep_no {w : World} {b n : Nat} {word bits : Int} (hn : n ≤ 2) (h : GS w b 134 n word bits) : Calls Tryz.prog 48 #[.pointer (some ⟨b, 0, none⟩), .pointer none] w fun e w' => e = .returned (.bool (n == 0)) ∧ w' = w := by
  have ho := gover hn h
  generalize (n == 0) = dd at *
  clear h hn
  cases dd
  all_goals
    go_enter Tryz.func48, Tryz.ntmps48
    go_wp2_with (go_at_call 47; refine ho.mono ?_; rintro e w1 ⟨rfl, hw⟩; obtain rfl := hw.symm)
    go_ret
    exact ⟨rfl, rfl⟩
theorem sstep_no {w : World} {b n : Nat} {word bits : Int} (hn : n ≤ 2) (h : GS w b 138 n word bits) : Calls Tryz.prog 50 #[.pointer (some ⟨b, 0, none⟩), .pointer none] w fun e w' => e = .returned (.bool (n == 0)) ∧ w' = w := by
  have ho := sover hn h
  generalize (n == 0) = dd at *
  clear h hn
  cases dd
  all_goals
    go_enter Tryz.func50, Tryz.ntmps50
    go_wp2_with (go_at_call 49; refine ho.mono ?_; rintro e w1 ⟨rfl, hw⟩; obtain rfl := hw.symm)
    go_ret
    exact ⟨rfl, rfl⟩
/-- Is a Grow, a Swap, of a word over at once? -/
def gdead (t : Int) : Bool := asNow t != 0 || asOld t == 12
def sdead (t : Int) : Bool := asNow t == 0
theorem gnew (t : Int) (ht : (Lit.int .u64 t).wf = true) (w : World) : Calls Tryz.prog 51 #[.int .u64 t] w fun e w' => ∃ b, e = .returned (.pointer (some ⟨b, 0, none⟩)) ∧ GS w' b 134 (if gdead t then 0 else 2) (if gdead t then 0 else tword (asOld t) (asOld t + 1)) (if gdead t then 0 else asOld t + 1) ∧ w.heap.size ≤ b ∧ Below w.heap.size w w' := by
  have ha := as_any t ht w
  have hw := fun o n W => word_any o n W
  have hob : 0 ≤ asOld t ∧ asOld t < 256 := by unfold asOld; split <;> omega
  unfold gdead
  clear ht
  generalize asOld t = o at *
  generalize asNow t = n at *
  generalize e1 : (n != 0) = d1 at *
  generalize e2 : (o == 12) = d2 at *
  have hb1 := below_alloc w (.cells #[.slice none 0 0, .int .u64 0, .int .i64 0] 134)
  have hz1 : GS (w.alloc (.cells #[.slice none 0 0, .int .u64 0, .int .i64 0] 134)) w.heap.size 134 0 0 0 := ⟨_, heap_alloc_new w _, none, 0, rfl⟩
  have hb2 := below_alloc w (.cells #[.int .i64 0, .int .i64 1] 252)
  have hz2 := heap_alloc_new w (.cells #[.int .i64 0, .int .i64 1] 252)
  have hsz : (w.alloc (.cells #[.int .i64 0, .int .i64 1] 252)).heap.size = w.heap.size + 1 := by simp
  have B1 := Lib.hid hb1; have Z1 := Lib.hid hz1; have B2 := Lib.hid hb2; have Z2 := Lib.hid hz2
  clear hb1 hz1 hb2 hz2
  cases d1 <;> cases d2
  case false.false =>
    go_enter Tryz.func51, Tryz.ntmps51
    go_wp2_with (first
      | (go_at_call 91; refine ha.mono ?_; rintro e w1 ⟨rfl, hw1⟩; obtain rfl := hw1.symm; clear ha)
      | (go_at_call 20; refine (hw _ _ _).mono ?_; rintro e w1 ⟨rfl, hw1⟩; obtain rfl := hw1.symm))
    go_ret
    first
      | exact ⟨_, rfl, ⟨_, heap_alloc_new _ _, ⟨_, rfl, heap_alloc_old Z2.out⟩⟩, B2.out.size, B2.out.trans ((below_alloc _ _).mono B2.out.size)⟩
      | exact ⟨_, rfl, ⟨_, heap_alloc_at _ _ hsz.symm, ⟨_, rfl, heap_alloc_old Z2.out⟩⟩, Nat.le_succ _, B2.out.trans ((below_alloc _ _).mono B2.out.size)⟩
  all_goals
    go_enter Tryz.func51, Tryz.ntmps51
    go_wp2_with (go_at_call 91; refine ha.mono ?_; rintro e w1 ⟨rfl, hw1⟩; obtain rfl := hw1.symm; clear ha)
    go_ret
    exact ⟨_, rfl, Z1.out, Nat.le_refl _, B1.out⟩
theorem snew (t : Int) (ht : (Lit.int .u64 t).wf = true) (w : World) : Calls Tryz.prog 52 #[.int .u64 t] w fun e w' => ∃ b, e = .returned (.pointer (some ⟨b, 0, none⟩)) ∧ GS w' b 138 (if sdead t then 0 else 1) (if sdead t then 0 else tword (asNow t) 0) (if sdead t then 0 else asNow t) ∧ w.heap.size ≤ b ∧ Below w.heap.size w w' := by
  have ha := as_any t ht w
  have hw := fun o n W => word_any o n W
  unfold sdead
  clear ht
  generalize asOld t = o at *
  generalize asNow t = n at *
  generalize e1 : (n == 0) = d1 at *
  have hb1 := below_alloc w (.cells #[.slice none 0 0, .int .u64 0, .int .i64 0] 138)
  have hz1 : GS (w.alloc (.cells #[.slice none 0 0, .int .u64 0, .int .i64 0] 138)) w.heap.size 138 0 0 0 := ⟨_, heap_alloc_new w _, none, 0, rfl⟩
  have hb2 := below_alloc w (.cells #[.int .i64 1] 252)
  have hz2 := heap_alloc_new w (.cells #[.int .i64 1] 252)
  have hsz : (w.alloc (.cells #[.int .i64 1] 252)).heap.size = w.heap.size + 1 := by simp
  have B1 := Lib.hid hb1; have Z1 := Lib.hid hz1; have B2 := Lib.hid hb2; have Z2 := Lib.hid hz2
  clear hb1 hz1 hb2 hz2
  cases d1
  case false =>
    go_enter Tryz.func52, Tryz.ntmps52
    go_wp2_with (first
      | (go_at_call 91; refine ha.mono ?_; rintro e w1 ⟨rfl, hw1⟩; obtain rfl := hw1.symm; clear ha)
      | (go_at_call 20; refine (hw _ _ _).mono ?_; rintro e w1 ⟨rfl, hw1⟩; obtain rfl := hw1.symm))
    go_ret
    first
      | exact ⟨_, rfl, ⟨_, heap_alloc_new _ _, ⟨_, _, _, rfl, heap_alloc_old Z2.out, rfl⟩⟩, B2.out.size, B2.out.trans ((below_alloc _ _).mono B2.out.size)⟩
      | exact ⟨_, rfl, ⟨_, heap_alloc_at _ _ hsz.symm, ⟨_, _, _, rfl, heap_alloc_old Z2.out, rfl⟩⟩, Nat.le_succ _, B2.out.trans ((below_alloc _ _).mono B2.out.size)⟩
  all_goals
    go_enter Tryz.func52, Tryz.ntmps52
    go_wp2_with (go_at_call 91; refine ha.mono ?_; rintro e w1 ⟨rfl, hw1⟩; obtain rfl := hw1.symm; clear ha)
    go_ret
    exact ⟨_, rfl, Z1.out, Nat.le_refl _, B1.out⟩
theorem asNow_nn (t : Int) : 0 ≤ asNow t := by unfold asNow; split <;> omega
theorem rgnew (t : Int) (ht : 0 ≤ t ∧ t < 18446744073709551616) (w : World) : Calls Tryz.prog 53 #[.int .u64 t] w fun e w' => ∃ b, e = .returned (.pointer (some ⟨b, 0, none⟩)) ∧ w'.heap[b]? = some (.cells (if gdead t then #[.int .i64 0, .int .i64 0] else #[.int .i64 1, .int .i64 (asOld t)]) 143 (0, 0)) ∧ w.heap.size ≤ b ∧ Below w.heap.size w w' := by
  have ha := ras_any t ht.1 ht.2 w
  have hnn := asNow_nn t
  unfold gdead
  clear ht
  generalize asOld t = o at *
  generalize asNow t = n at *
  have e0 : decide (0 < n) = (n != 0) := by
    by_cases h : n = 0
    · subst h; rfl
    · rw [bne_iff_ne.2 h, decide_eq_true (by omega)]
  generalize (n != 0) = d1 at *
  generalize e2 : (o == 12) = d2 at *
  have B1 := fun cs => Lib.hid (below_alloc w (.cells cs 143)); have Z1 := fun cs => Lib.hid (heap_alloc_new w (.cells cs 143))
  clear hnn
  cases d1 <;> cases d2
  all_goals
    go_enter Tryz.func53, Tryz.ntmps53
    go_wp2_with (go_at_call 122; refine ha.mono ?_; rintro e w1 ⟨rfl, hw1⟩; obtain rfl := hw1.symm; clear ha)
    go_ret
    exact ⟨_, rfl, (Z1 _).out, Nat.le_refl _, (B1 _).out⟩
theorem rsnew (t : Int) (ht : 0 ≤ t ∧ t < 18446744073709551616) (w : World) : Calls Tryz.prog 54 #[.int .u64 t] w fun e w' => ∃ b, e = .returned (.pointer (some ⟨b, 0, none⟩)) ∧ w'.heap[b]? = some (.cells (if sdead t then #[.int .i64 0, .int .i64 0] else #[.int .i64 1, .int .i64 (asNow t)]) 147 (0, 0)) ∧ w.heap.size ≤ b ∧ Below w.heap.size w w' := by
  have ha := ras_any t ht.1 ht.2 w
  unfold sdead
  clear ht
  generalize asOld t = o at *
  generalize asNow t = n at *
  generalize e1 : (n == 0) = d1 at *
  have B1 := fun cs => Lib.hid (below_alloc w (.cells cs 147)); have Z1 := fun cs => Lib.hid (heap_alloc_new w (.cells cs 147))
  cases d1
  all_goals
    go_enter Tryz.func54, Tryz.ntmps54
    go_wp2_with (go_at_call 122; refine ha.mono ?_; rintro e w1 ⟨rfl, hw1⟩; obtain rfl := hw1.symm; clear ha)
    go_ret
    exact ⟨_, rfl, (Z1 _).out, Nat.le_refl _, (B1 _).out⟩
end Go.Proofs.YtjfocckdbaaimaaGreat

/-
  Grows: a step in a world. (written by gengrow.py)
-/
namespace Go.Proofs.YtjfocckdbaaimaaGreat
open Go.RowKit Go.Maps
set_option linter.unusedVariables false

theorem ws_set4 {w0 w : World} {B : WB} {V : WV} {s : CS} {b o : Nat} {cs : Array Value} {T : TypeId} (h : WS w0 w B V s) (hb : w.heap[b]? = some (.cells cs T (0, 0))) (hT : wTy T = false) (hlo : w0.heap.size ≤ b) (v : Value) : WS w0 (w.setCell ⟨b, o, none⟩ v) B V s :=
  h.fr (set_ty hb o v) (fun X hX => by cases hXT : (X == T); rfl; rw [beq_iff_eq] at hXT; subst hXT; rw [hX] at hT; cases hT) (set_below h.below h.below.size hlo o v)
theorem wu_of_wf {v : Int} (h : 0 ≤ v ∧ v < 18446744073709551616) : (Lit.int .u64 v).wf = true := bd_wf h

set_option maxRecDepth 10000 in
set_option maxHeartbeats 1000000 in
theorem gwork2 {w0 w : World} {B : WB} {V : WV} {s : CS} {b : Nat} {word bits : Int} (h : WS w0 w B V s) (hr : s.room) (hlo : w0.heap.size ≤ b) (hG : GS w b 134 2 word bits) :
    Calls Tryz.prog 120 #[.pointer (some ⟨b, 0, none⟩), .pointer (some ⟨B.wb, 0, none⟩)] w fun e w' => e = .returned (.tuple #[]) ∧ WS w0 w' B V (s.acc 2 3 0) ∧ GS w' b 134 1 word bits ∧ Fx wTy true b w w' := by
  obtain ⟨v, hb, g, rfl, hg⟩ := hG
  have c0 := hcell hb 0
  have g0 := hcell hg 0
  have x0 := h.hd5.1
  have hst := h.store hr 3 (by decide) 0 (by decide)
  have HB := Lib.hid hb; have HG := Lib.hid hg
  clear h hr hb hg
  go_enter Tryz.func120, Tryz.ntmps120
  go_upto_region 7 with (go_at_call 103; refine hst.mono ?_; intro e w2 hh; obtain ⟨hh1, h2, f2⟩ := hh; subst hh1; have H2 := Lib.hid h2; have F2 := Lib.hid f2; clear h2 f2 hst c0 g0 x0)
  have hb2 := F2.out.cells _ _ _ _ HB.out rfl
  have hg2 := F2.out.cells _ _ _ _ HG.out rfl
  have c0 := hcell hb2 0
  have cf := hfrz hb2 0
  have HB2 := Lib.hid hb2; have HG2 := Lib.hid hg2
  clear hb2 hg2
  go_wp2_with fail
  go_end0
  have s1 := setCell_same HB2.out 0 (.slice (some ⟨g, 1, none⟩) 1 1)
  have ft := set_ty HB2.out 0 (.slice (some ⟨g, 1, none⟩) 1 1)
  exact ⟨rfl, ws_set4 H2.out HB2.out rfl hlo _, ⟨_, s1, g, 1, _, rfl, ft.cells _ _ _ _ HG2.out rfl, rfl⟩, (F2.out.fx b).trans (set_fx _ _ _ _ _ _)⟩

theorem gkind (w : World) : Calls Tryz.prog 271 #[.agg #[]] w fun e w' => e = .returned (.int .u8 4) ∧ Below w.heap.size w w' := by
  have hb := below_alloc w (.cells #[] 250)
  go_enter Tryz.func271, Tryz.ntmps271
  go_wp2
  go_ret
  exact ⟨rfl, hb⟩
set_option maxRecDepth 10000 in
set_option maxHeartbeats 2000000 in
theorem gwork1 {w0 w : World} {B : WB} {V : WV} {s : CS} {b : Nat} {word bits : Int} (h : WS w0 w B V s) (hr : s.room) (hlo : w0.heap.size ≤ b) (hwd : (Lit.int .u64 word).wf = true) (hl : V.nts.length < 1048576) (hs : Nsteps V.nts s.cnt) (hG : GS w b 134 1 word bits) :
    Calls Tryz.prog 120 #[.pointer (some ⟨b, 0, none⟩), .pointer (some ⟨B.wb, 0, none⟩)] w fun e w' => e = .returned (.tuple #[]) ∧ WS w0 w' B { V with nts := nadd V.nts ⟨((s.cnt + 1 : Nat) : Int), V.hd, 4, 0, 0, 0, 0, bits⟩ } (s.acc 2 2 word) ∧ GS w' b 134 0 word bits ∧ Fx wTy true b w w' := by
  obtain ⟨v, hb, g, ofs, cs, rfl, hg, hgo⟩ := hG
  have c0 := hcell hb 0
  have g0 := (hcell hg ofs).trans hgo
  have x0 : ∀ st : ExtW w, st.val.cell? ⟨B.wb, 0, none⟩ = some (.pointer (some ⟨B.cb, 0, none⟩)) := fun st => st.cell h.hd5.1
  have x1 : ∀ st : ExtW w, st.val.cell? ⟨b, 1, none⟩ = some (.int .u64 word) := fun st => st.cell (hcell hb 1)
  have H := Lib.hid h; have HR := Lib.hid hr; have HB := Lib.hid hb; have HW := Lib.hid hwd; have HL := Lib.hid hl; have HS := Lib.hid hs
  clear h hr hb hg hgo hwd hl hs
  go_enter Tryz.func120, Tryz.ntmps120
  go_upto_region 4 with (fail)
  clear c0 g0
  refine wp_region_ext_tail 8 (by kernel_rfl) (by kernel_rfl) ?_
  simp only [List.take_succ_cons, List.take_zero, List.drop_succ_cons, List.drop_zero]
  repeat (go_big_quiet_step (fail))
  refine wpQuiet_nil ?_
  rintro W ⟨⟨W2, hW⟩, rfl⟩
  clear x0 x1
  have hst := (H.out.keep hW).store HR.out 2 (by decide) word HW.out
  have hb1 := (hW.block _ (Array.getElem?_eq_some_iff.1 HB.out).1).trans HB.out
  have HB1 := Lib.hid hb1; have HWX := Lib.hid (below_fr hW wTy true)
  clear hW hb1
  go_upto_region 5 with (go_at_call 103; refine hst.mono ?_; intro e w2 hh; obtain ⟨hh1, h2, f2⟩ := hh; subst hh1; have H2 := Lib.hid h2; have F2 := Lib.hid (HWX.out.trans f2); have HB2 := Lib.hid (f2.cells _ _ _ _ HB1.out rfl); clear h2 f2 hst)
  have hba := below_alloc w2 (.cells #[] 250)
  have hza := heap_alloc_new w2 (.cells #[] 250)
  have H3 := Lib.hid (H2.out.keep hba); have F3 := Lib.hid (F2.out.trans (below_fr hba wTy true)); have HB3 := Lib.hid ((hba.block _ (Array.getElem?_eq_some_iff.1 HB2.out).1).trans HB2.out)
  clear hba hza H2 F2 HB2
  go_upto_region 6 with (fail)
  change Code.wp _ _ _ _ (w2.alloc (.cells #[] 250))
  generalize w2.alloc (.cells #[] 250) = w3 at *
  have x2 : ∀ st : ExtW w3, st.val.cell? ⟨b, 2, none⟩ = some (.int .i64 bits) := fun st => st.cell (hcell HB3.out 2)
  have hk : ∀ st : ExtW w3, Calls Tryz.prog 271 #[.agg #[]] st.val fun e w' => e = .returned (.int .u8 4) ∧ Below st.val.heap.size st.val w' := fun st => gkind st.val
  have hmo : ∀ (n : Nat) (W : World), (Go.method (n + 1) 250 (.agg #[]) "nestbox/grows.kind").run Tryz.prog W = .ok (271, .agg #[]) W := fun n W => by kernel_rfl
  refine wp_region_ext_tail 9 (by kernel_rfl) (by kernel_rfl) ?_
  simp only [List.take_succ_cons, List.take_zero, List.drop_succ_cons, List.drop_zero]
  repeat (go_big_quiet_step ((go_at_call 271; with_reducible refine calls_ext (hk _))))
  refine wpQuiet_nil ?_
  rintro W4 ⟨⟨W5, hW4⟩, rfl⟩
  clear x2 hk hmo
  have hnt := wnote_any (H3.out.keep hW4) 4 0 0 0 0 bits HL.out (by decide) (HS.out.le (by simp only [CS.acc]; omega))
  have HB4 := Lib.hid ((hW4.block _ (Array.getElem?_eq_some_iff.1 HB3.out).1).trans HB3.out); have F4 := Lib.hid (F3.out.trans (below_fr hW4 wTy true))
  clear hW4
  go_upto_region 7 with (go_at_call 43; refine hnt.mono ?_; intro e w6 hh; obtain ⟨hh1, h6, f6⟩ := hh; subst hh1; have H6 := Lib.hid h6; have F6 := Lib.hid (F4.out.trans f6); have HB6 := Lib.hid (f6.cells _ _ _ _ HB4.out rfl); clear h6 f6 hnt)
  have c0 := hcell HB6.out 0
  have cf := hfrz HB6.out 0
  go_wp2_with fail
  go_end0
  exact ⟨rfl, ws_set4 H6.out HB6.out rfl hlo _, ⟨_, setCell_same HB6.out 0 _, _, _, rfl⟩, (F6.out.fx b).trans (set_fx _ _ _ _ _ _)⟩

theorem skind (w : World) : Calls Tryz.prog 272 #[.agg #[]] w fun e w' => e = .returned (.int .u8 5) ∧ Below w.heap.size w w' := by
  have hb := below_alloc w (.cells #[] 251)
  go_enter Tryz.func272, Tryz.ntmps272
  go_wp2
  go_ret
  exact ⟨rfl, hb⟩
set_option maxRecDepth 10000 in
set_option maxHeartbeats 2000000 in
theorem swork1 {w0 w : World} {B : WB} {V : WV} {s : CS} {b : Nat} {word bits : Int} (h : WS w0 w B V s) (hr : s.room) (hlo : w0.heap.size ≤ b) (hwd : (Lit.int .u64 word).wf = true) (hl : V.nts.length < 1048576) (hs : Nsteps V.nts s.cnt) (hG : GS w b 138 1 word bits) :
    Calls Tryz.prog 121 #[.pointer (some ⟨b, 0, none⟩), .pointer (some ⟨B.wb, 0, none⟩)] w fun e w' => e = .returned (.tuple #[]) ∧ WS w0 w' B { V with nts := nadd V.nts ⟨((s.cnt + 1 : Nat) : Int), V.hd, 5, 0, 0, 0, 0, bits⟩ } (s.acc 2 2 word) ∧ GS w' b 138 0 word bits ∧ Fx wTy true b w w' := by
  obtain ⟨v, hb, g, ofs, cs, rfl, hg, hgo⟩ := hG
  have c0 := hcell hb 0
  have g0 := (hcell hg ofs).trans hgo
  have x0 : ∀ st : ExtW w, st.val.cell? ⟨B.wb, 0, none⟩ = some (.pointer (some ⟨B.cb, 0, none⟩)) := fun st => st.cell h.hd5.1
  have x1 : ∀ st : ExtW w, st.val.cell? ⟨b, 1, none⟩ = some (.int .u64 word) := fun st => st.cell (hcell hb 1)
  have H := Lib.hid h; have HR := Lib.hid hr; have HB := Lib.hid hb; have HW := Lib.hid hwd; have HL := Lib.hid hl; have HS := Lib.hid hs
  clear h hr hb hg hgo hwd hl hs
  go_enter Tryz.func121, Tryz.ntmps121
  go_upto_region 4 with (fail)
  clear c0 g0
  refine wp_region_ext_tail 8 (by kernel_rfl) (by kernel_rfl) ?_
  simp only [List.take_succ_cons, List.take_zero, List.drop_succ_cons, List.drop_zero]
  repeat (go_big_quiet_step (fail))
  refine wpQuiet_nil ?_
  rintro W ⟨⟨W2, hW⟩, rfl⟩
  clear x0 x1
  have hst := (H.out.keep hW).store HR.out 2 (by decide) word HW.out
  have hb1 := (hW.block _ (Array.getElem?_eq_some_iff.1 HB.out).1).trans HB.out
  have HB1 := Lib.hid hb1; have HWX := Lib.hid (below_fr hW wTy true)
  clear hW hb1
  go_upto_region 5 with (go_at_call 103; refine hst.mono ?_; intro e w2 hh; obtain ⟨hh1, h2, f2⟩ := hh; subst hh1; have H2 := Lib.hid h2; have F2 := Lib.hid (HWX.out.trans f2); have HB2 := Lib.hid (f2.cells _ _ _ _ HB1.out rfl); clear h2 f2 hst)
  have hba := below_alloc w2 (.cells #[] 251)
  have hza := heap_alloc_new w2 (.cells #[] 251)
  have H3 := Lib.hid (H2.out.keep hba); have F3 := Lib.hid (F2.out.trans (below_fr hba wTy true)); have HB3 := Lib.hid ((hba.block _ (Array.getElem?_eq_some_iff.1 HB2.out).1).trans HB2.out)
  clear hba hza H2 F2 HB2
  go_upto_region 6 with (fail)
  change Code.wp _ _ _ _ (w2.alloc (.cells #[] 251))
  generalize w2.alloc (.cells #[] 251) = w3 at *
  have x2 : ∀ st : ExtW w3, st.val.cell? ⟨b, 2, none⟩ = some (.int .i64 bits) := fun st => st.cell (hcell HB3.out 2)
  have hk : ∀ st : ExtW w3, Calls Tryz.prog 272 #[.agg #[]] st.val fun e w' => e = .returned (.int .u8 5) ∧ Below st.val.heap.size st.val w' := fun st => skind st.val
  have hmo : ∀ (n : Nat) (W : World), (Go.method (n + 1) 251 (.agg #[]) "nestbox/grows.kind").run Tryz.prog W = .ok (272, .agg #[]) W := fun n W => by kernel_rfl
  refine wp_region_ext_tail 9 (by kernel_rfl) (by kernel_rfl) ?_
  simp only [List.take_succ_cons, List.take_zero, List.drop_succ_cons, List.drop_zero]
  repeat (go_big_quiet_step ((go_at_call 272; with_reducible refine calls_ext (hk _))))
  refine wpQuiet_nil ?_
  rintro W4 ⟨⟨W5, hW4⟩, rfl⟩
  clear x2 hk hmo
  have hnt := wnote_any (H3.out.keep hW4) 5 0 0 0 0 bits HL.out (by decide) (HS.out.le (by simp only [CS.acc]; omega))
  have HB4 := Lib.hid ((hW4.block _ (Array.getElem?_eq_some_iff.1 HB3.out).1).trans HB3.out); have F4 := Lib.hid (F3.out.trans (below_fr hW4 wTy true))
  clear hW4
  go_upto_region 7 with (go_at_call 43; refine hnt.mono ?_; intro e w6 hh; obtain ⟨hh1, h6, f6⟩ := hh; subst hh1; have H6 := Lib.hid h6; have F6 := Lib.hid (F4.out.trans f6); have HB6 := Lib.hid (f6.cells _ _ _ _ HB4.out rfl); clear h6 f6 hnt)
  have c0 := hcell HB6.out 0
  have cf := hfrz HB6.out 0
  go_wp2_with fail
  go_end0
  exact ⟨rfl, ws_set4 H6.out HB6.out rfl hlo _, ⟨_, setCell_same HB6.out 0 _, _, _, rfl⟩, (F6.out.fx b).trans (set_fx _ _ _ _ _ _)⟩

set_option maxRecDepth 10000 in
set_option maxHeartbeats 1000000 in
theorem gstep2 {w0 w : World} {B : WB} {V : WV} {s : CS} {b : Nat} {word bits : Int} (h : WS w0 w B V s) (hr : s.room) (hlo : w0.heap.size ≤ b) (hG : GS w b 134 2 word bits) :
    Calls Tryz.prog 48 #[.pointer (some ⟨b, 0, none⟩), .pointer (some ⟨B.wb, 0, none⟩)] w fun e w' => e = .returned (.bool false) ∧ WS w0 w' B V (s.acc 2 3 0) ∧ GS w' b 134 1 word bits ∧ Fx wTy true b w w' := by
  have ho := gover (by decide) hG
  have hwk := gwork2 h hr hlo hG
  rw [show ((2 : Nat) == 0) = false from rfl] at ho
  clear h hr hG
  go_enter Tryz.func48, Tryz.ntmps48
  go_wp2_with (first
    | (go_at_call 47; refine ho.mono ?_; intro e w1 hh; obtain ⟨hh1, hh2⟩ := hh; subst hh1; obtain rfl := hh2.symm; clear ho)
    | (go_at_call 120; refine hwk.mono ?_; intro e w2 hh; obtain ⟨hh1, h2, g2, f2⟩ := hh; subst hh1; have ho2 := gover (by decide) g2; rw [show ((1 : Nat) == 0) = false from rfl] at ho2; have H2 := Lib.hid h2; have G2 := Lib.hid g2; have F2 := Lib.hid f2; clear h2 g2 f2 hwk)
    | (go_at_call 47; refine ho2.mono ?_; intro e w3 hh; obtain ⟨hh1, hh2⟩ := hh; subst hh1; obtain rfl := hh2.symm))
  go_ret
  exact ⟨rfl, H2.out, G2.out, F2.out⟩

set_option maxRecDepth 10000 in
set_option maxHeartbeats 1000000 in
theorem gstep1 {w0 w : World} {B : WB} {V : WV} {s : CS} {b : Nat} {word bits : Int} (h : WS w0 w B V s) (hr : s.room) (hlo : w0.heap.size ≤ b) (hwd : (Lit.int .u64 word).wf = true) (hl : V.nts.length < 1048576) (hs : Nsteps V.nts s.cnt) (hG : GS w b 134 1 word bits) :
    Calls Tryz.prog 48 #[.pointer (some ⟨b, 0, none⟩), .pointer (some ⟨B.wb, 0, none⟩)] w fun e w' => e = .returned (.bool true) ∧ WS w0 w' B { V with nts := nadd V.nts ⟨((s.cnt + 1 : Nat) : Int), V.hd, 4, 0, 0, 0, 0, bits⟩ } (s.acc 2 2 word) ∧ GS w' b 134 0 word bits ∧ Fx wTy true b w w' := by
  have ho := gover (by decide) hG
  have hwk := gwork1 h hr hlo hwd hl hs hG
  rw [show ((1 : Nat) == 0) = false from rfl] at ho
  clear h hr hG
  go_enter Tryz.func48, Tryz.ntmps48
  go_wp2_with (first
    | (go_at_call 47; refine ho.mono ?_; intro e w1 hh; obtain ⟨hh1, hh2⟩ := hh; subst hh1; obtain rfl := hh2.symm; clear ho)
    | (go_at_call 120; refine hwk.mono ?_; intro e w2 hh; obtain ⟨hh1, h2, g2, f2⟩ := hh; subst hh1; have ho2 := gover (by decide) g2; rw [show ((0 : Nat) == 0) = true from rfl] at ho2; have H2 := Lib.hid h2; have G2 := Lib.hid g2; have F2 := Lib.hid f2; clear h2 g2 f2 hwk)
    | (go_at_call 47; refine ho2.mono ?_; intro e w3 hh; obtain ⟨hh1, hh2⟩ := hh; subst hh1; obtain rfl := hh2.symm))
  go_ret
  exact ⟨rfl, H2.out, G2.out, F2.out⟩

set_option maxRecDepth 10000 in
set_option maxHeartbeats 1000000 in
theorem sstep1 {w0 w : World} {B : WB} {V : WV} {s : CS} {b : Nat} {word bits : Int} (h : WS w0 w B V s) (hr : s.room) (hlo : w0.heap.size ≤ b) (hwd : (Lit.int .u64 word).wf = true) (hl : V.nts.length < 1048576) (hs : Nsteps V.nts s.cnt) (hG : GS w b 138 1 word bits) :
    Calls Tryz.prog 50 #[.pointer (some ⟨b, 0, none⟩), .pointer (some ⟨B.wb, 0, none⟩)] w fun e w' => e = .returned (.bool true) ∧ WS w0 w' B { V with nts := nadd V.nts ⟨((s.cnt + 1 : Nat) : Int), V.hd, 5, 0, 0, 0, 0, bits⟩ } (s.acc 2 2 word) ∧ GS w' b 138 0 word bits ∧ Fx wTy true b w w' := by
  have ho := sover (by decide) hG
  have hwk := swork1 h hr hlo hwd hl hs hG
  rw [show ((1 : Nat) == 0) = false from rfl] at ho
  clear h hr hG
  go_enter Tryz.func50, Tryz.ntmps50
  go_wp2_with (first
    | (go_at_call 49; refine ho.mono ?_; intro e w1 hh; obtain ⟨hh1, hh2⟩ := hh; subst hh1; obtain rfl := hh2.symm; clear ho)
    | (go_at_call 121; refine hwk.mono ?_; intro e w2 hh; obtain ⟨hh1, h2, g2, f2⟩ := hh; subst hh1; have ho2 := sover (by decide) g2; rw [show ((0 : Nat) == 0) = true from rfl] at ho2; have H2 := Lib.hid h2; have G2 := Lib.hid g2; have F2 := Lib.hid f2; clear h2 g2 f2 hwk)
    | (go_at_call 49; refine ho2.mono ?_; intro e w3 hh; obtain ⟨hh1, hh2⟩ := hh; subst hh1; obtain rfl := hh2.symm))
  go_ret
  exact ⟨rfl, H2.out, G2.out, F2.out⟩

end Go.Proofs.YtjfocckdbaaimaaGreat

/-
  Grows: layer 19's examples.
-/
namespace Go.Proofs.YtjfocckdbaaimaaGreat
open Go.RowKit Go.Maps
set_option linter.unusedVariables false

theorem world12v (b : Int) (hb : 1 ≤ b ∧ b ≤ 12) (w : World) : Calls Tryz.prog 85 #[.int .i64 b] w fun e w' => ∃ B, e = .returned (.pointer (some ⟨B.wb, 0, none⟩)) ∧ WS w w' B (v0 ⟨b, 8, 3, 1, 16⟩) (CS.init [(2, tword b 0)]) := by
  have hn1 : Calls Tryz.prog 62 #[.agg #[.int .i64 b, .int .i64 8, .int .i64 3, .int .i64 1, .int .i64 16]] w fun e w' => ∃ B : WB, e = .returned (.tuple #[.pointer (some ⟨B.wb, 0, none⟩), .int .i64 0]) ∧ WS w w' B (v0 ⟨b, 8, 3, 1, 16⟩) (CS.init [(2, tword b 0)]) :=
    (wnew_ok ⟨b, 8, 3, 1, 16⟩ (by simp [Conf.ok]; omega) w).mono fun e w' ⟨wb, cb, ib, nb, he, g1, g2, g3, g4, g5, g6, g7⟩ => ⟨⟨wb, cb, ib, nb⟩, he, ws_of (Below.refl _ w) g1 g2 g3 g4 g5 g6 g7⟩
  clear hb
  go_enter Tryz.func85, Tryz.ntmps85
  go_wp2_with (go_at_call 62; with_reducible refine hn1.mono ?_; rintro e w1 ⟨B, rfl, h1⟩)
  go_ret
  exact ⟨_, rfl, h1⟩
theorem WS.slow {w0 w : World} {B : WB} {V : WV} {s : CS} (h : WS w0 w B V s) : w0.heap.size ≤ w.heap.size := h.below.size
set_option maxRecDepth 10000 in
set_option maxHeartbeats 2000000 in
theorem grun {w0 w : World} {B : WB} {V : WV} {s : CS} {b m : Nat} {word bits : Int} (h : WS w0 w B V s) (hm : s.n ≤ m ∧ s.cnt ≤ m) (hml : m ≤ 1000) (hlo : w0.heap.size ≤ b) (hwd : (Lit.int .u64 word).wf = true) (hl : V.nts.length < 1000) (hs : Nsteps V.nts s.cnt) (hG : GS w b 134 2 word bits) :
    Calls Tryz.prog 25 #[.pointer (some ⟨B.wb, 0, none⟩), .iface 128 (.pointer (some ⟨b, 0, none⟩)), .int .i64 9] w fun e w' => e = .returned (.int .i64 2) ∧ ∃ V', WS w0 w' B V' ((s.acc 2 3 0).acc 2 2 word) ∧ V'.nts.length ≤ V.nts.length + 1 ∧ Nsteps V'.nts ((s.acc 2 3 0).acc 2 2 word).cnt := by
  have r0 : s.room := CS.room_of m hm (by unfold lim; omega)
  have r1 : (s.acc 2 3 0).room := CS.room_of (m + 1) (room_acc m hm) (by unfold lim; omega)
  have hs1 : Nsteps V.nts (s.acc 2 3 0).cnt := hs.le (by simp only [CS.acc]; omega)
  obtain ⟨V1, hV1⟩ : ∃ V1, V1 = { V with nts := nadd V.nts ⟨(((s.acc 2 3 0).cnt + 1 : Nat) : Int), V.hd, 4, 0, 0, 0, 0, bits⟩ } := ⟨_, rfl⟩
  have hfin : V1.nts.length ≤ V.nts.length + 1 ∧ Nsteps V1.nts ((s.acc 2 3 0).acc 2 2 word).cnt := by
    rw [hV1]
    have h2 : Nsteps V.nts (((s.acc 2 3 0).cnt + 1 : Nat) : Int) := hs1.le (by omega)
    have h3 := h2.add (n := ⟨(((s.acc 2 3 0).cnt + 1 : Nat) : Int), V.hd, 4, 0, 0, 0, 0, bits⟩) rfl
    exact ⟨nadd_len V.nts ⟨(((s.acc 2 3 0).cnt + 1 : Nat) : Int), V.hd, 4, 0, 0, 0, 0, bits⟩, h3⟩
  have st2 : ∀ W, WS w0 W B V s → GS W b 134 2 word bits → Calls Tryz.prog 48 #[.pointer (some ⟨b, 0, none⟩), .pointer (some ⟨B.wb, 0, none⟩)] W fun e w' => e = .returned (.bool false) ∧ WS w0 w' B V (s.acc 2 3 0) ∧ GS w' b 134 1 word bits ∧ Fx wTy true b W w' := fun W h1 h2 => gstep2 h1 r0 hlo h2
  have st1 : ∀ W, WS w0 W B V (s.acc 2 3 0) → GS W b 134 1 word bits → Calls Tryz.prog 48 #[.pointer (some ⟨b, 0, none⟩), .pointer (some ⟨B.wb, 0, none⟩)] W fun e w' => e = .returned (.bool true) ∧ WS w0 w' B V1 ((s.acc 2 3 0).acc 2 2 word) ∧ GS w' b 134 0 word bits ∧ Fx wTy true b W w' := fun W h1 h2 => by rw [hV1]; exact gstep1 h1 r1 hlo hwd (by omega) hs1 h2
  generalize s.acc 2 3 0 = s1 at *
  generalize s1.acc 2 2 word = s2 at *
  have H := Lib.hid h; have HG := Lib.hid hG; have HF := Lib.hid hfin; have S2 := Lib.hid st2; have S1 := Lib.hid st1
  clear h hm hml hwd hl hs hG r0 r1 hs1 hV1 hfin st2 st1
  go_enter Tryz.func25, Tryz.ntmps25
  go_wp2
  go_loopw [7] (fun i wr => (i = .int .i64 0 ∧ WS w0 wr B V s ∧ GS wr b 134 2 word bits) ∨ (i = .int .i64 1 ∧ WS w0 wr B V s1 ∧ GS wr b 134 1 word bits) ∨ (i = .int .i64 2 ∧ WS w0 wr B V1 s2 ∧ GS wr b 134 0 word bits)) (fun i _ => 2 - (intOf i).toNat)
  case atStart => exact .inl ⟨rfl, H.out, HG.out⟩
  case round =>
    clear H HG
    rcases hrel with ⟨rfl, h1, h2⟩ | ⟨rfl, h1, h2⟩ | ⟨rfl, h1, h2⟩
    · have hov := gover (by decide) h2
      rw [show ((2 : Nat) == 0) = false from rfl] at hov
      have hst := S2.out _ h1 h2
      clear h1 h2
      go_wp2_with (first
        | (go_at_call 47; refine hov.mono ?_; intro e w2 hh; obtain ⟨hh1, hh2⟩ := hh; subst hh1; obtain rfl := hh2.symm; clear hov)
        | (go_at_call 48; refine hst.mono ?_; intro e w3 hh; obtain ⟨hh1, g1, g2, -⟩ := hh; subst hh1))
      exact ⟨.inr (.inl ⟨rfl, g1, g2⟩), by simp [intOf]⟩
    · have hov := gover (by decide) h2
      rw [show ((1 : Nat) == 0) = false from rfl] at hov
      have hst := S1.out _ h1 h2
      clear h1 h2
      go_wp2_with (first
        | (go_at_call 47; refine hov.mono ?_; intro e w2 hh; obtain ⟨hh1, hh2⟩ := hh; subst hh1; obtain rfl := hh2.symm; clear hov)
        | (go_at_call 48; refine hst.mono ?_; intro e w3 hh; obtain ⟨hh1, g1, g2, -⟩ := hh; subst hh1))
      exact ⟨.inr (.inr ⟨rfl, g1, g2⟩), by simp [intOf]⟩
    · have hov := gover (by decide) h2
      rw [show ((0 : Nat) == 0) = true from rfl] at hov
      have H1 := Lib.hid h1
      clear h1 h2
      go_wp2_with (go_at_call 47; refine hov.mono ?_; intro e w2 hh; obtain ⟨hh1, hh2⟩ := hh; subst hh1; obtain rfl := hh2.symm; clear hov)
      go_ret
      exact ⟨rfl, V1, H1.out, HF.out⟩
set_option maxRecDepth 10000 in
set_option maxHeartbeats 2000000 in
theorem srun {w0 w : World} {B : WB} {V : WV} {s : CS} {b m : Nat} {word bits : Int} (h : WS w0 w B V s) (hm : s.n ≤ m ∧ s.cnt ≤ m) (hml : m ≤ 1000) (hlo : w0.heap.size ≤ b) (hwd : (Lit.int .u64 word).wf = true) (hl : V.nts.length < 1000) (hs : Nsteps V.nts s.cnt) (hG : GS w b 138 1 word bits) :
    Calls Tryz.prog 25 #[.pointer (some ⟨B.wb, 0, none⟩), .iface 129 (.pointer (some ⟨b, 0, none⟩)), .int .i64 9] w fun e w' => e = .returned (.int .i64 1) ∧ ∃ V', WS w0 w' B V' (s.acc 2 2 word) := by
  have r0 : s.room := CS.room_of m hm (by unfold lim; omega)
  obtain ⟨V1, hV1⟩ : ∃ V1, V1 = { V with nts := nadd V.nts ⟨((s.cnt + 1 : Nat) : Int), V.hd, 5, 0, 0, 0, 0, bits⟩ } := ⟨_, rfl⟩
  have st1 : ∀ W, WS w0 W B V s → GS W b 138 1 word bits → Calls Tryz.prog 50 #[.pointer (some ⟨b, 0, none⟩), .pointer (some ⟨B.wb, 0, none⟩)] W fun e w' => e = .returned (.bool true) ∧ WS w0 w' B V1 (s.acc 2 2 word) ∧ GS w' b 138 0 word bits ∧ Fx wTy true b W w' := fun W h1 h2 => by rw [hV1]; exact sstep1 h1 r0 hlo hwd (by omega) hs h2
  generalize s.acc 2 2 word = s2 at *
  have H := Lib.hid h; have HG := Lib.hid hG; have S1 := Lib.hid st1
  clear h hm hml hwd hl hs hG r0 hV1 st1
  go_enter Tryz.func25, Tryz.ntmps25
  go_wp2
  go_loopw [7] (fun i wr => (i = .int .i64 0 ∧ WS w0 wr B V s ∧ GS wr b 138 1 word bits) ∨ (i = .int .i64 1 ∧ WS w0 wr B V1 s2 ∧ GS wr b 138 0 word bits)) (fun i _ => 1 - (intOf i).toNat)
  case atStart => exact .inl ⟨rfl, H.out, HG.out⟩
  case round =>
    clear H HG
    rcases hrel with ⟨rfl, h1, h2⟩ | ⟨rfl, h1, h2⟩
    · have hov := sover (by decide) h2
      rw [show ((1 : Nat) == 0) = false from rfl] at hov
      have hst := S1.out _ h1 h2
      clear h1 h2
      go_wp2_with (first
        | (go_at_call 49; refine hov.mono ?_; intro e w2 hh; obtain ⟨hh1, hh2⟩ := hh; subst hh1; obtain rfl := hh2.symm; clear hov)
        | (go_at_call 50; refine hst.mono ?_; intro e w3 hh; obtain ⟨hh1, g1, g2, -⟩ := hh; subst hh1))
      exact ⟨.inr ⟨rfl, g1, g2⟩, by simp [intOf]⟩
    · have hov := sover (by decide) h2
      rw [show ((0 : Nat) == 0) = true from rfl] at hov
      have H1 := Lib.hid h1
      clear h1 h2
      go_wp2_with (go_at_call 49; refine hov.mono ?_; intro e w2 hh; obtain ⟨hh1, hh2⟩ := hh; subst hh1; obtain rfl := hh2.symm; clear hov)
      go_ret
      exact ⟨rfl, V1, H1.out⟩
set_option maxRecDepth 10000 in
set_option maxHeartbeats 4000000 in
theorem lives19 (w : World) : Calls Tryz.prog 55 #[] w fun e w' => e = .returned (.bool true) ∧ Below w.heap.size w w' := by
  have g2 := fun W => gnew 2 (by decide) W
  rw [show gdead 2 = false by decide] at g2
  have k770 := fun W => gnew 770 (by decide) W
  rw [show gdead 770 = true by decide] at k770
  have k12 := fun W => gnew 12 (by decide) W
  rw [show gdead 12 = true by decide] at k12
  have t770 := fun W => snew 770 (by decide) W
  rw [show sdead 770 = false by decide] at t770
  have t3 := fun W => snew 3 (by decide) W
  rw [show sdead 3 = true by decide] at t3
  have ew1 : tword (asOld 2) (asOld 2 + 1) = 770 := by decide
  have ew2 : tword (asNow 770) 0 = 3 := by decide
  simp only [Bool.false_eq_true, if_false, if_true, ew1, ew2] at g2 k770 k12 t770 t3
  clear ew1 ew2
  go_enter Tryz.func55, Tryz.ntmps55
  go_upto_region 4 with (go_at_call 85; refine (world12v 2 (by decide) w).mono ?_; intro e w1 hh; obtain ⟨B, hh1, h1⟩ := hh; subst hh1; have H1 := Lib.hid h1; clear h1)
  have hm0 : (CS.init [(2, tword 2 0)]).n ≤ 1 ∧ (CS.init [(2, tword 2 0)]).cnt ≤ 1 := ⟨by decide, by decide⟩
  have hn0 : (v0 ⟨2, 8, 3, 1, 16⟩).nts = [] := rfl
  generalize CS.init [(2, tword 2 0)] = s at *
  generalize v0 ⟨2, 8, 3, 1, 16⟩ = V at *
  have hrun : ∀ (W : World) (b : Nat) (bits : Int), Below w1.heap.size w1 W → w1.heap.size ≤ b → GS W b 134 2 770 bits → Calls Tryz.prog 25 #[.pointer (some ⟨B.wb, 0, none⟩), .iface 128 (.pointer (some ⟨b, 0, none⟩)), .int .i64 9] W fun e w' => e = .returned (.int .i64 2) ∧ ∃ V', WS w w' B V' ((s.acc 2 3 0).acc 2 2 770) ∧ V'.nts.length ≤ V.nts.length + 1 ∧ Nsteps V'.nts ((s.acc 2 3 0).acc 2 2 770).cnt := fun W b bits h1 h2 h3 =>
    grun (m := 1) (H1.out.keep h1) hm0 (by decide) (Nat.le_trans H1.out.slow h2) (by decide) (by rw [hn0]; decide) (by rw [hn0]; intro y hy; cases hy) h3
  have HRUN := Lib.hid hrun
  have HM := Lib.hid hm0; have HN := Lib.hid hn0
  clear hm0 hn0 hrun
  go_upto_region 5 with (first
    | (go_at_call 51; with_reducible refine (g2 _).mono ?_; intro e w2 hh; obtain ⟨b, hh1, hG, hlb, hbb⟩ := hh; subst hh1; have hrn := HRUN.out _ _ _ hbb hlb hG; clear hG hlb hbb g2)
    | (go_at_call 25; with_reducible refine hrn.mono ?_; intro e w3 hh; obtain ⟨hh1, V3, h3, hl3, hs3⟩ := hh; subst hh1; have H3 := Lib.hid h3; have HL3 := Lib.hid hl3; have HS3 := Lib.hid hs3; clear h3 hl3 hs3 hrn))
  have v2 : ((s.acc 2 3 0).acc 2 2 770).val 2 = 770 := by simp [CS.acc, upd]
  have v3 : (((s.acc 2 3 0).acc 2 2 770).acc 2 2 3).val 3 = 0 := by simp [CS.acc, upd]
  have v4 : (((s.acc 2 3 0).acc 2 2 770).acc 2 2 3).val 2 = 3 := by simp [CS.acc, upd]
  have hm3 : ((s.acc 2 3 0).acc 2 2 770).n ≤ 3 ∧ ((s.acc 2 3 0).acc 2 2 770).cnt ≤ 3 := by have := HM.out; simp only [CS.acc]; omega
  generalize (s.acc 2 3 0).acc 2 2 770 = s3 at *
  have p2 := H3.out.peek 2 (by decide)
  rw [v2] at p2
  have c3 := H3.out.hd5.1
  have hrun3 : ∀ (W : World) (b : Nat) (bits : Int), Below w3.heap.size w3 W → w3.heap.size ≤ b → GS W b 138 1 3 bits → Calls Tryz.prog 25 #[.pointer (some ⟨B.wb, 0, none⟩), .iface 129 (.pointer (some ⟨b, 0, none⟩)), .int .i64 9] W fun e w' => e = .returned (.int .i64 1) ∧ ∃ V', WS w w' B V' (s3.acc 2 2 3) := fun W b bits h1 h2 h3 =>
    srun (m := 3) (H3.out.keep h1) hm3 (by decide) (Nat.le_trans H3.out.slow h2) (by decide) (by have h1 := HL3.out; have h2 := congrArg List.length HN.out; simp only [List.length_nil] at h2; omega) HS3.out h3
  have HRUN3 := Lib.hid hrun3
  clear hrun3
  have HV3 := Lib.hid v3; have HV4 := Lib.hid v4
  clear v2 v3 v4 hm3
  go_upto_region 7 with (first
    | (go_at_call 30; with_reducible refine p2.mono ?_; intro e w4 hh; obtain ⟨hh1, hh2⟩ := hh; subst hh1; obtain rfl := hh2.symm; clear p2 c3)
    | (go_at_call 52; with_reducible refine (t770 _).mono ?_; intro e w4 hh; obtain ⟨b4, hh1, hG, hlb, hbb⟩ := hh; subst hh1; have hrn := HRUN3.out _ _ _ hbb hlb hG; clear hG hlb hbb t770)
    | (go_at_call 25; with_reducible refine hrn.mono ?_; intro e w5 hh; obtain ⟨hh1, V5, h5⟩ := hh; subst hh1; have H5 := Lib.hid h5; have p3 := h5.peek 3 (by decide); rw [HV3.out] at p3; have p4 := h5.peek 2 (by decide); rw [HV4.out] at p4; have c5 := h5.hd5.1; clear h5 hrn))
  go_wp2_with (first
    | (go_at_call 30; with_reducible refine p3.mono ?_; intro e w6 hh; obtain ⟨hh1, hh2⟩ := hh; subst hh1; obtain rfl := hh2.symm; clear p3)
    | (go_at_call 30; with_reducible refine p4.mono ?_; intro e w6 hh; obtain ⟨hh1, hh2⟩ := hh; subst hh1; obtain rfl := hh2.symm; clear p4)
    | (go_at_call 51; with_reducible refine (k770 _).mono ?_; intro e w7 hh; obtain ⟨b7, hh1, hG7, -, hb7⟩ := hh; subst hh1; have ho7 := gover (by decide) hG7; rw [show ((0 : Nat) == 0) = true from rfl] at ho7; have B7 := Lib.hid (H5.out.keep hb7); clear hG7 hb7 k770)
    | (go_at_call 47; with_reducible refine ho7.mono ?_; intro e w8 hh; obtain ⟨hh1, hh2⟩ := hh; subst hh1; obtain rfl := hh2.symm; clear ho7)
    | (go_at_call 52; with_reducible refine (t3 _).mono ?_; intro e w9 hh; obtain ⟨b9, hh1, hG9, -, hb9⟩ := hh; subst hh1; have ho9 := sover (by decide) hG9; rw [show ((0 : Nat) == 0) = true from rfl] at ho9; have B9 := Lib.hid (B7.out.keep hb9); clear hG9 hb9 t3)
    | (go_at_call 49; with_reducible refine ho9.mono ?_; intro e w10 hh; obtain ⟨hh1, hh2⟩ := hh; subst hh1; obtain rfl := hh2.symm; clear ho9)
    | (go_at_call 51; with_reducible refine (k12 _).mono ?_; intro e w11 hh; obtain ⟨b11, hh1, hG11, -, hb11⟩ := hh; subst hh1; have ho11 := gover (by decide) hG11; rw [show ((0 : Nat) == 0) = true from rfl] at ho11; have B11 := Lib.hid (B9.out.keep hb11); clear hG11 hb11 k12)
    | (go_at_call 47; with_reducible refine ho11.mono ?_; intro e w12 hh; obtain ⟨hh1, hh2⟩ := hh; subst hh1; obtain rfl := hh2.symm; clear ho11))
  go_ret
  exact ⟨rfl, B11.out.below⟩
end Go.Proofs.YtjfocckdbaaimaaGreat

/-
  GrowsVoid.
-/
namespace Go.Proofs.YtjfocckdbaaimaaGreat
open Go.RowKit Go.Maps
set_option linter.unusedVariables false

set_option maxRecDepth 100000 in
set_option maxHeartbeats 4000000 in
theorem gvoid_any (t : Int) (ht : (Lit.int .u64 t).wf = true) (w : World) : Calls Tryz.prog 9 #[.int .u64 t] w fun e w' => e = .returned (.bool true) ∧ Below w.heap.size w w' := by
  have HT := Lib.hid ht
  have HT2 := Lib.hid (wf_bd ht)
  clear ht
  go_enter Tryz.func9, Tryz.ntmps9
  go_upto_region 2 with (go_at_call 13; refine (begin_zero w).mono ?_; rintro e w3 ⟨B, R, V, s, x, rfl, hpr, hV, hfar, -, -⟩; have HPR := Lib.hid hpr; have HFAR := Lib.hid hfar; have HV : Hid (V.its = [] ∧ V.nts = []) := ⟨by rw [hV]; rfl, by rw [hV]; rfl⟩; clear hpr hV hfar)
  have hq0 := heap_alloc_new w3 (.cells #[.pointer (some ⟨B.wb, 0, none⟩), .pointer (some ⟨R.wb, 0, none⟩)] 34)
  have hB4 := below_alloc w3 (.cells #[.pointer (some ⟨B.wb, 0, none⟩), .pointer (some ⟨R.wb, 0, none⟩)] 34)
  have HP4 := Lib.hid (HPR.out.keep hB4)
  change Code.wp _ _ _ _ (w3.alloc (.cells #[.pointer (some ⟨B.wb, 0, none⟩), .pointer (some ⟨R.wb, 0, none⟩)] 34))
  generalize w3.alloc (.cells #[.pointer (some ⟨B.wb, 0, none⟩), .pointer (some ⟨R.wb, 0, none⟩)] 34) = w4 at *
  generalize w3.heap.size = q at *
  have HQ4 := Lib.hid hq0
  clear hq0 hB4 HPR
  go_upto_region 6 with (fail)
  have hb : Below w4.heap.size w4 ((((w4.alloc (.cells #[.slice none 0 0, .int .u64 0, .int .i64 0] 134)).alloc (.cells #[.pointer none, .pointer (some ⟨w4.heap.size, 0, none⟩)] 128)).alloc (.cells #[.slice none 0 0, .int .u64 0, .int .i64 0] 138)).alloc (.cells #[.pointer none, .pointer (some ⟨w4.heap.size + 1 + 1, 0, none⟩)] 129)) := (((below_alloc w4 _).trans ((below_alloc _ _).mono (by simp))).trans ((below_alloc _ _).mono (by simp; omega))).trans ((below_alloc _ _).mono (by simp; omega))
  have z0 : ((((w4.alloc (.cells #[.slice none 0 0, .int .u64 0, .int .i64 0] 134)).alloc (.cells #[.pointer none, .pointer (some ⟨w4.heap.size, 0, none⟩)] 128)).alloc (.cells #[.slice none 0 0, .int .u64 0, .int .i64 0] 138)).alloc (.cells #[.pointer none, .pointer (some ⟨w4.heap.size + 1 + 1, 0, none⟩)] 129)).heap[w4.heap.size]? = some (.cells #[.slice none 0 0, .int .u64 0, .int .i64 0] 134 (0, 0)) := heap_alloc_old (heap_alloc_old (heap_alloc_old (heap_alloc_new w4 _)))
  have z1 : ((((w4.alloc (.cells #[.slice none 0 0, .int .u64 0, .int .i64 0] 134)).alloc (.cells #[.pointer none, .pointer (some ⟨w4.heap.size, 0, none⟩)] 128)).alloc (.cells #[.slice none 0 0, .int .u64 0, .int .i64 0] 138)).alloc (.cells #[.pointer none, .pointer (some ⟨w4.heap.size + 1 + 1, 0, none⟩)] 129)).heap[w4.heap.size + 1]? = some (.cells #[.pointer none, .pointer (some ⟨w4.heap.size, 0, none⟩)] 128 (0, 0)) := heap_alloc_old (heap_alloc_old (heap_alloc_at _ _ (by simp)))
  have z2 : ((((w4.alloc (.cells #[.slice none 0 0, .int .u64 0, .int .i64 0] 134)).alloc (.cells #[.pointer none, .pointer (some ⟨w4.heap.size, 0, none⟩)] 128)).alloc (.cells #[.slice none 0 0, .int .u64 0, .int .i64 0] 138)).alloc (.cells #[.pointer none, .pointer (some ⟨w4.heap.size + 1 + 1, 0, none⟩)] 129)).heap[w4.heap.size + 1 + 1]? = some (.cells #[.slice none 0 0, .int .u64 0, .int .i64 0] 138 (0, 0)) := heap_alloc_old (heap_alloc_at _ _ (by simp))
  have z3 : ((((w4.alloc (.cells #[.slice none 0 0, .int .u64 0, .int .i64 0] 134)).alloc (.cells #[.pointer none, .pointer (some ⟨w4.heap.size, 0, none⟩)] 128)).alloc (.cells #[.slice none 0 0, .int .u64 0, .int .i64 0] 138)).alloc (.cells #[.pointer none, .pointer (some ⟨w4.heap.size + 1 + 1, 0, none⟩)] 129)).heap[w4.heap.size + 1 + 1 + 1]? = some (.cells #[.pointer none, .pointer (some ⟨w4.heap.size + 1 + 1, 0, none⟩)] 129 (0, 0)) := heap_alloc_at _ _ (by simp)
  have HP5 := Lib.hid (HP4.out.keep hb); have HQ5 := Lib.hid ((hb.block _ (Array.getElem?_eq_some_iff.1 HQ4.out).1).trans HQ4.out)
  have Z0 := Lib.hid z0; have Z1 := Lib.hid z1; have Z2 := Lib.hid z2; have Z3 := Lib.hid z3
  clear hb z0 z1 z2 z3 HP4 HQ4
  change Code.wp _ _ _ _ ((((w4.alloc (.cells #[.slice none 0 0, .int .u64 0, .int .i64 0] 134)).alloc (.cells #[.pointer none, .pointer (some ⟨w4.heap.size, 0, none⟩)] 128)).alloc (.cells #[.slice none 0 0, .int .u64 0, .int .i64 0] 138)).alloc (.cells #[.pointer none, .pointer (some ⟨w4.heap.size + 1 + 1, 0, none⟩)] 129))
  generalize ((((w4.alloc (.cells #[.slice none 0 0, .int .u64 0, .int .i64 0] 134)).alloc (.cells #[.pointer none, .pointer (some ⟨w4.heap.size, 0, none⟩)] 128)).alloc (.cells #[.slice none 0 0, .int .u64 0, .int .i64 0] 138)).alloc (.cells #[.pointer none, .pointer (some ⟨w4.heap.size + 1 + 1, 0, none⟩)] 129)) = w5 at *
  generalize w4.heap.size + 1 + 1 + 1 = n3 at *
  generalize w4.heap.size + 1 + 1 = n2 at *
  generalize w4.heap.size + 1 = n1 at *
  generalize w4.heap.size = n0 at *
  go_wp2_with fail
  go_loopw [8] (fun i wr => ∃ k : Nat, k ≤ 2 ∧ i = .int .i64 k ∧ Below w5.heap.size w5 wr) (fun i _ => 2 - (intOf i).toNat)
  case atStart => exact ⟨0, by omega, rfl, Below.refl _ _⟩
  case round =>
    obtain ⟨k, hk, rfl, hB⟩ := hrel
    have u0 := (hB.block _ (Array.getElem?_eq_some_iff.1 Z0.out).1).trans Z0.out
    have u1 := (hB.block _ (Array.getElem?_eq_some_iff.1 Z1.out).1).trans Z1.out
    have u2 := (hB.block _ (Array.getElem?_eq_some_iff.1 Z2.out).1).trans Z2.out
    have u3 := (hB.block _ (Array.getElem?_eq_some_iff.1 Z3.out).1).trans Z3.out
    have uq := (hB.block _ (Array.getElem?_eq_some_iff.1 HQ5.out).1).trans HQ5.out
    have xq : ∀ st : ExtW wr, st.val.cell? ⟨q, 0, none⟩ = some (.pointer (some ⟨B.wb, 0, none⟩)) := fun st => st.cell (hcell uq 0)
    have HB := Lib.hid hB
    rcases (show k = 0 ∨ k = 1 ∨ k = 2 by omega) with rfl | rfl | rfl
    · have x0 : ∀ st : ExtW wr, st.val.cell? ⟨n1, 0, none⟩ = some (.pointer none) := fun st => st.cell (hcell u1 0)
      have x1 : ∀ st : ExtW wr, st.val.cell? ⟨n3, 0, none⟩ = some (.pointer none) := fun st => st.cell (hcell u3 0)
      have m1 : ∀ st : ExtW wr, Calls Tryz.prog 47 #[.pointer none] st.val fun e w' => e = .returned (.bool true) ∧ st.val = w' := fun st => (gover_nil _).mono fun e w' ⟨h1, h2⟩ => ⟨h1, h2.symm⟩
      have m2 : ∀ (u : Value) (st : ExtW wr), Calls Tryz.prog 48 #[.pointer none, u] st.val fun e w' => e = .returned (.bool true) ∧ st.val = w' := fun u st => (gstep_nil u _).mono fun e w' ⟨h1, h2⟩ => ⟨h1, h2.symm⟩
      have m3 : ∀ st : ExtW wr, Calls Tryz.prog 49 #[.pointer none] st.val fun e w' => e = .returned (.bool true) ∧ st.val = w' := fun st => (sover_nil _).mono fun e w' ⟨h1, h2⟩ => ⟨h1, h2.symm⟩
      have m4 : ∀ (u : Value) (st : ExtW wr), Calls Tryz.prog 50 #[.pointer none, u] st.val fun e w' => e = .returned (.bool true) ∧ st.val = w' := fun u st => (sstep_nil u _).mono fun e w' ⟨h1, h2⟩ => ⟨h1, h2.symm⟩
      clear u0 u1 u2 u3 uq hB
      go_upto_region 9 with (fail)
      refine wp_region_ext (by kernel_rfl) (by kernel_rfl) ?_
      repeat (go_big_quiet_step (first
        | (go_at_call 47; with_reducible refine calls_ext_same (m1 _))
        | (go_at_call 48; with_reducible refine calls_ext_same (m2 _ _))
        | (go_at_call 49; with_reducible refine calls_ext_same (m3 _))
        | (go_at_call 50; with_reducible refine calls_ext_same (m4 _ _))))
      refine wpQuiet_nil ?_
      rintro W ⟨⟨W2, hW⟩, rfl⟩
      have HW := Lib.hid hW
      clear x0 x1 xq m1 m2 m3 m4 hW
      go_wp2_with fail
      go_roundw
      case rel => exact ⟨1, by omega, rfl, HB.out.trans (HW.out.mono HB.out.size)⟩
      case measure => simp [intOf]
    · have g0 : GS wr n0 134 0 0 0 := ⟨_, u0, none, 0, rfl⟩
      have g2 : GS wr n2 138 0 0 0 := ⟨_, u2, none, 0, rfl⟩
      have x0 : ∀ st : ExtW wr, st.val.cell? ⟨n1, 1, none⟩ = some (.pointer (some ⟨n0, 0, none⟩)) := fun st => st.cell (hcell u1 1)
      have x1 : ∀ st : ExtW wr, st.val.cell? ⟨n3, 1, none⟩ = some (.pointer (some ⟨n2, 0, none⟩)) := fun st => st.cell (hcell u3 1)
      have m1 : ∀ st : ExtW wr, Calls Tryz.prog 47 #[.pointer (some ⟨n0, 0, none⟩)] st.val fun e w' => e = .returned (.bool true) ∧ st.val = w' := fun st => (gover (by decide) (g0.below st.below)).mono fun e w' ⟨h1, h2⟩ => ⟨h1, h2.symm⟩
      have m2 : ∀ (u : Value) (st : ExtW wr), Calls Tryz.prog 48 #[.pointer (some ⟨n0, 0, none⟩), u] st.val fun e w' => e = .returned (.bool true) ∧ st.val = w' := fun u st => (gstep_over (g0.below st.below) u).mono fun e w' ⟨h1, h2⟩ => ⟨h1, h2.symm⟩
      have m3 : ∀ st : ExtW wr, Calls Tryz.prog 49 #[.pointer (some ⟨n2, 0, none⟩)] st.val fun e w' => e = .returned (.bool true) ∧ st.val = w' := fun st => (sover (by decide) (g2.below st.below)).mono fun e w' ⟨h1, h2⟩ => ⟨h1, h2.symm⟩
      have m4 : ∀ (u : Value) (st : ExtW wr), Calls Tryz.prog 50 #[.pointer (some ⟨n2, 0, none⟩), u] st.val fun e w' => e = .returned (.bool true) ∧ st.val = w' := fun u st => (sstep_over (g2.below st.below) u).mono fun e w' ⟨h1, h2⟩ => ⟨h1, h2.symm⟩
      clear u0 u1 u2 u3 uq hB g0 g2
      go_upto_region 9 with (fail)
      refine wp_region_ext (by kernel_rfl) (by kernel_rfl) ?_
      repeat (go_big_quiet_step (first
        | (go_at_call 47; with_reducible refine calls_ext_same (m1 _))
        | (go_at_call 48; with_reducible refine calls_ext_same (m2 _ _))
        | (go_at_call 49; with_reducible refine calls_ext_same (m3 _))
        | (go_at_call 50; with_reducible refine calls_ext_same (m4 _ _))))
      refine wpQuiet_nil ?_
      rintro W ⟨⟨W2, hW⟩, rfl⟩
      have HW := Lib.hid hW
      clear x0 x1 xq m1 m2 m3 m4 hW
      go_wp2_with fail
      go_roundw
      case rel => exact ⟨2, by omega, rfl, HB.out.trans (HW.out.mono HB.out.size)⟩
      case measure => simp [intOf]
    · have hp6 := HP5.out.keep hB
      have HP6 := Lib.hid hp6
      have HQ6 := Lib.hid uq
      have gn := fun W => gnew t HT.out W
      have sn := fun W => snew t HT.out W
      have rg := fun W => rgnew t HT2.out W
      have rs := fun W => rsnew t HT2.out W
      generalize gdead t = gd at *
      generalize sdead t = sd at *
      clear u0 u1 u2 u3 uq hB xq hp6
      have key : ∀ W, Below wr.heap.size wr W → Calls Tryz.prog 14 #[.agg #[.pointer (some ⟨B.wb, 0, none⟩), .pointer (some ⟨R.wb, 0, none⟩)]] W fun e w' => e = .returned (.bool true) ∧ Below W.heap.size W w' := fun W hW => psall_any (HP6.out.keep hW) HV.out.2 (by rw [HV.out.1]; simp) (by have := HFAR.out.1; omega)
      have KEY := Lib.hid key
      clear key
      go_upto_region 15 with (first
        | (go_at_call 51; refine (gn _).mono ?_; intro e w7 hh; obtain ⟨b7, hh1, hG7, -, hb7⟩ := hh; subst hh1; have G7 := Lib.hid hG7; have B7 := Lib.hid hb7; clear hG7 hb7 gn)
        | (go_at_call 52; refine (sn _).mono ?_; intro e w8 hh; obtain ⟨b8, hh1, hG8, -, hb8⟩ := hh; subst hh1; have S8 := Lib.hid hG8; have G8 := Lib.hid (G7.out.below hb8); have B8 := Lib.hid (B7.out.trans (hb8.mono B7.out.size)); clear hG8 hb8 sn)
        | (go_at_call 53; refine (rg _).mono ?_; intro e w9 hh; obtain ⟨b9, hh1, hz9, -, hb9⟩ := hh; subst hh1; have c9 := hcell hz9 0; have S9 := Lib.hid (S8.out.below hb9); have G9 := Lib.hid (G8.out.below hb9); have B9 := Lib.hid (B8.out.trans (hb9.mono B8.out.size)); cases gd <;> clear hz9 hb9 rg)
        | (go_at_call 54; refine (rs _).mono ?_; intro e w10 hh; obtain ⟨b10, hh1, hz10, -, hb10⟩ := hh; subst hh1; have c10 := hcell hz10 0; have S10 := Lib.hid (S9.out.below hb10); have G10 := Lib.hid (G9.out.below hb10); have B10 := Lib.hid (B9.out.trans (hb10.mono B9.out.size)); cases sd <;> clear hz10 hb10 rs c9))
      all_goals (
        have hG := G10.out
        have hS := S10.out
        simp only [Bool.false_eq_true, if_false, if_true] at hG hS
        have a1 := gstep_no (by decide) hG
        have a2 := gover (by decide) hG
        have a3 := sstep_no (by decide) hS
        have a4 := sover (by decide) hS
        simp only [show ((2 : Nat) == 0) = false from rfl, show ((1 : Nat) == 0) = false from rfl, show ((0 : Nat) == 0) = true from rfl] at a1 a2 a3 a4
        have hsm := KEY.out _ B10.out
        have hq10 := (B10.out.block _ (Array.getElem?_eq_some_iff.1 HQ6.out).1).trans HQ6.out
        have p0 := hcell hq10 0
        have p1 := hcell hq10 1
        clear hG hS hq10 c10)
      all_goals
        go_wp2_with (first
          | (go_at_call 48; refine a1.mono ?_; intro e w11 hh; obtain ⟨hh1, hh2⟩ := hh; subst hh1; obtain rfl := hh2.symm; clear a1)
          | (go_at_call 47; refine a2.mono ?_; intro e w11 hh; obtain ⟨hh1, hh2⟩ := hh; subst hh1; obtain rfl := hh2.symm; clear a2)
          | (go_at_call 50; refine a3.mono ?_; intro e w11 hh; obtain ⟨hh1, hh2⟩ := hh; subst hh1; obtain rfl := hh2.symm; clear a3)
          | (go_at_call 49; refine a4.mono ?_; intro e w11 hh; obtain ⟨hh1, hh2⟩ := hh; subst hh1; obtain rfl := hh2.symm; clear a4)
          | (go_at_call 14; refine hsm.mono ?_; intro e w12 hh; obtain ⟨hh1, b12⟩ := hh; subst hh1; have B12 := Lib.hid (B10.out.trans (b12.mono B10.out.size)); clear hsm b12 p0 p1)
          | (go_at_call 55; refine (lives19 _).mono ?_; intro e w13 hh; obtain ⟨hh1, b13⟩ := hh; subst hh1; have B13 := Lib.hid (B12.out.trans (b13.mono B12.out.size)); clear b13))
        go_ret
        have h0 := HP6.out.ws.below
        exact ⟨rfl, h0.trans (B13.out.mono h0.size)⟩
theorem walkGrowsVoid (t : Int) (ht : (Lit.int .u64 t).wf = true) (w : World) : Calls Tryz.prog 9 #[.int .u64 t] w fun e w' => e = .returned (.bool true) ∧ Below w.heap.size w w' := gvoid_any t ht w
end Go.Proofs.YtjfocckdbaaimaaGreat
