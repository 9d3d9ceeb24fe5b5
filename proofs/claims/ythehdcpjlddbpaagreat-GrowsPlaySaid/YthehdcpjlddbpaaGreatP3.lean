/-
  Texts of this prover, merged: Tickets, NotesAll, NoteAdd, WorldNote, Grows, GrowDo, RefNote, GrowRef, PairAllN, RefMay, WActs, WDo, GrowLives, GrowGps, GrowStep, GActs, GrowPlay.
-/
import Derived.Test.YthehdcpjlddbpaaGreatBegin0
import Derived.Test.YthehdcpjlddbpaaGreatFrame
import Derived.Test.YthehdcpjlddbpaaGreatP1
import Derived.Test.YthehdcpjlddbpaaGreatPairDo
import Derived.Test.YthehdcpjlddbpaaGreatPlacesMay
import Derived.Test.YthehdcpjlddbpaaGreatOpen
import Derived.Test.YthehdcpjlddbpaaGreatItems
import Derived.Laws.EntriesVeiled
import Derived.Deep.DeepCutAuto
import Derived.Deep.AppendLies
import Derived.Deep.CutBlock
import Derived.Deep.RegionHeld2
/-
  Tickets: a Take, a Give, who waits.
-/
namespace Go.Proofs.YthehdcpjlddbpaaGreat
open Go.RowKit
set_option linter.unusedVariables false

/-- Of the old blocks only b, and such of some types, have turned. -/
structure Fx (K : TypeId → Bool) (mp : Bool) (b : Nat) (w w' : World) : Prop where
  size : w.heap.size ≤ w'.heap.size
  cells : ∀ (k : Nat) (cs : Array Value) (T : TypeId) (fr : Nat × Nat), w.heap[k]? = some (.cells cs T fr) → K T = false → k ≠ b → w'.heap[k]? = some (.cells cs T fr)
  map : mp = false → ∀ (k : Nat) (es : Array MapEntry) (cl : Nat), w.heap[k]? = some (.map es cl) → k ≠ b → w'.heap[k]? = some (.map es cl)
theorem Fr.fx {K : TypeId → Bool} {mp : Bool} {w w' : World} (h : Fr K mp w w') (b : Nat) : Fx K mp b w w' := ⟨h.size, fun k cs T fr h1 h2 _ => h.cells k cs T fr h1 h2, fun hm k es cl h1 _ => h.map hm k es cl h1⟩
theorem Fx.trans {K : TypeId → Bool} {mp : Bool} {b : Nat} {a c d : World} (h : Fx K mp b a c) (k : Fx K mp b c d) : Fx K mp b a d :=
  ⟨Nat.le_trans h.size k.size, fun i cs T fr hi hT hb => k.cells i cs T fr (h.cells i cs T fr hi hT hb) hT hb, fun hm i es cl hi hb => k.map hm i es cl (h.map hm i es cl hi hb) hb⟩
theorem set_fx (K : TypeId → Bool) (mp : Bool) (w : World) (b o : Nat) (v : Value) : Fx K mp b w (w.setCell ⟨b, o, none⟩ v) :=
  ⟨by simp [World.setCell], fun k cs T fr h _ hb => (Below.heap_setCell _ _ _ _ hb).trans h, fun _ k es cl h hb => (Below.heap_setCell _ _ _ _ hb).trans h⟩
theorem Fx.fr {K : TypeId → Bool} {mp : Bool} {b : Nat} {w w' : World} (h : Fx K mp b w w') {cs : Array Value} {T : TypeId} {fr : Nat × Nat} (hb : w.heap[b]? = some (.cells cs T fr)) : Fr (fun x => K x || x == T) mp w w' := by
  refine ⟨h.size, fun k cs2 T2 fr2 h2 hT => ?_, fun hm k es cl h2 => h.map hm k es cl h2 fun c => ?_⟩
  · simp only [Bool.or_eq_false_iff] at hT
    refine h.cells k cs2 T2 fr2 h2 hT.1 fun c => ?_
    subst c
    have := hb.symm.trans h2; simp only [Option.some.injEq, Obj.cells.injEq] at this
    have h3 := hT.2; rw [this.2.1] at h3; simp at h3
  · subst c; rw [hb] at h2; cases h2

theorem mkfunc (fn : Fn) (first cap : Array Value) (w : World) : (Instr.makeFunc fn first cap).run Tryz.prog w = .ok (.func fn first cap) w := rfl
/-- The worlds' types, and a Take's. -/
theorem WS.cellb {w0 w : World} {B : WB} {V : WV} {s : CS} (h : WS w0 w B V s) (t : Nat) (ht : t < 64) : w.cell? ⟨B.wb, 8 + t, none⟩ = some (.int .u64 (V.tk.getD t 0)) := (h.cell (8 + t)).trans (val_tkat B V h.tkl t ht)
theorem WS.hcell' {w0 w : World} {B : WB} {V : WV} {s : CS} (h : WS w0 w B V s) : w.cell? ⟨B.wb, 72, none⟩ = some (.int .i64 V.hd) := (h.cell 72).trans (val_at B V h.tkl).2.2.2.2.2
theorem WS.frz {w0 w : World} {B : WB} {V : WV} {s : CS} (h : WS w0 w B V s) (o : Nat) : w.frozen? ⟨B.wb, o, none⟩ = false := hfrz h.blk o
theorem WS.fx {w0 w w' : World} {B : WB} {V : WV} {s : CS} {K : TypeId → Bool} {b : Nat} (h : WS w0 w B V s) (hf : Fx K false b w w') (hK : ∀ T, wTy T = true → K T = false) {cs : Array Value} {T : TypeId} {fr : Nat × Nat} (hb : w.heap[b]? = some (.cells cs T fr)) (hT : wTy T = false) (hB : Below w0.heap.size w0 w') : WS w0 w' B V s :=
  h.fr (hf.fr hb) (fun x hx => by simp only [Bool.or_eq_false_iff]; exact ⟨hK x hx, by cases hxT : (x == T); rfl; rw [beq_iff_eq] at hxT; subst hxT; rw [hx] at hT; cases hT⟩) hB
theorem set_take {w0 w : World} {B : WB} {V : WV} {s : CS} {b o : Nat} {cs : Array Value} {T : TypeId} (h : WS w0 w B V s) (hb : w.heap[b]? = some (.cells cs T (0, 0))) (hT : wTy T = false) (hlo : w0.heap.size ≤ b) (v : Value) : WS w0 (w.setCell ⟨b, o, none⟩ v) B V s :=
  h.fx (set_fx (fun _ => false) false w b o v) (fun _ _ => rfl) hb hT (keeps_below (setCell_keeps w b o v) h.below h.below.size fun k e => e ▸ hlo)

section
variable {w0 w : World} {B : WB} {V : WV} {s : CS} {b t : Nat} {d : Bool} {k : Int} (h : WS w0 w B V s) (hr : s.room) (hlo : w0.heap.size ≤ b) (ht : t < 64)
include h hr hlo ht
end
end Go.Proofs.YthehdcpjlddbpaaGreat

/-
  notes.List.All: all notes, in new memory.
-/
namespace Go.Proofs.YthehdcpjlddbpaaGreat
open Go.RowKit
set_option linter.unusedVariables false

theorem lnotes_any {w : World} {base nb TN : Nat} {l : List Nte} (h : NL w base nb 282 TN .u8 l) : ∃ a cap, w.cell? ⟨nb, 0, none⟩ = some (.slice a l.length cap) ∧ w.ownsRow base TN 8 (.slice a l.length cap) l.length (l.flatMap (nteC .u8)) ∧ Calls Tryz.prog 151 #[.pointer (some ⟨nb, 0, none⟩)] w fun e w' => e = .returned (.slice a l.length cap) ∧ w' = w := by
  obtain ⟨v, h1, h2, h3⟩ := h
  obtain ⟨a, cap, rfl⟩ := own_sl2 h3
  have c0 : w.cell? ⟨nb, 0, none⟩ = some (.slice a l.length cap) := hcell h1 0
  refine ⟨a, cap, c0, h3, ?_⟩
  clear h1 h2 h3
  go_enter Tryz.func151, Tryz.ntmps151
  go_wp2
  go_ret
  exact ⟨rfl, rfl⟩
theorem since_ask {w : World} {cb : Nat} {i : Nat} (n : Nte) (hc : w.cell? ⟨cb, 0, none⟩ = some (.int .i64 0)) : Calls Tryz.prog 185 #[.int .i64 i, .agg (nteC .u8 n).toArray, .pointer (some ⟨cb, 0, none⟩)] w fun e w' => e = .returned (.bool true) ∧ Below w.heap.size w w' := by
  have hb := below_alloc w (.cells (nteC .u8 n).toArray 219)
  have hlt := World.block_lt_of_cell? _ _ hc
  have c0 : (w.alloc (.cells (nteC .u8 n).toArray 219)).cell? ⟨cb, 0, none⟩ = some (.int .i64 0) := by rw [World.cell?_alloc_past _ _ _ hlt]; exact hc
  have d0 : decide ((0 : Int) ≤ (i : Int)) = true := decide_eq_true (by omega)
  have HB := Lib.hid hb
  clear hb hc hlt
  go_enter Tryz.func185, Tryz.ntmps185
  go_upto_region 1 with (fail)
  change Code.wp _ _ _ _ (w.alloc (.cells (nteC .u8 n).toArray 219))
  generalize w.alloc (.cells (nteC .u8 n).toArray 219) = w1 at *
  go_wp2
  go_ret
  exact ⟨rfl, HB.out⟩
theorem info_note : (Tryz.prog.info? 219).map (fun i => (i.zero, i.size, i.bytes)) = some (some (.agg #[.int .i64 0, .int .i64 0, .int .u8 0, .int .i64 0, .int .i64 0, .int .i64 0, .int .i64 0, .int .i64 0]), 8, 64) := by kernel_rfl
/-- A row of notes that the call made, without room behind it. -/
def NRow (w : World) (base : Nat) (v : Value) (l : List Nte) : Prop :=
  (v = .slice none 0 0 ∧ l = []) ∨ ∃ g cur, v = .slice (some ⟨g, 0, none⟩) l.length l.length ∧ base ≤ g ∧ w.heap[g]? = some (.cells cur 219 (0, 0)) ∧ l.length ≤ maxLen ∧ cur.toList.take (l.length * 8) = l.flatMap (nteC .u8)
theorem nclip_any {w : World} {base : Nat} {v : Value} {l : List Nte} (h : w.ownsRow base 219 8 v l.length (l.flatMap (nteC .u8))) : Calls Tryz.prog 207 #[v] w fun e w' => ∃ v', e = .returned v' ∧ NRow w base v' l ∧ w' = w := by
  obtain ⟨h1, ⟨rfl, h0⟩ | ⟨g, cap, cur, rfl, hb, hg, hn, hm, hs, ht⟩⟩ := h
  · have : l = [] := List.length_eq_zero_iff.1 h0
    subst this
    clear h1 h0
    go_enter Tryz.func207, Tryz.ntmps207
    go_wp2
    go_ret
    exact ⟨_, rfl, .inl ⟨rfl, rfl⟩, rfl⟩
  · have hm2 := Nat.le_trans hn hm
    have H : Hid (NRow w base (.slice (some ⟨g, 0, none⟩) l.length l.length) l) := .inr ⟨g, cur, rfl, hb, hg, hm2, ht⟩
    unfold maxLen at hm hm2
    clear h1 hb hg hs ht
    go_enter Tryz.func207, Tryz.ntmps207
    go_wp2
    go_ret
    exact ⟨_, rfl, H.out, rfl⟩
theorem nte_at (l : List Nte) (k : Nat) (hk : k < l.length) (j : Nat) (hj : j < 8) : (l.flatMap (nteC .u8))[k * 8 + j]? = (nteC .u8 l[k])[j]? := by
  induction l generalizing k with
  | nil => simp at hk
  | cons x r ih =>
    rw [List.flatMap_cons]
    match k with
    | 0 =>
      rw [List.getElem?_append_left (by simp [nteC]; omega)]
      simp
    | k + 1 =>
      rw [List.getElem?_append_right (by simp [nteC]; omega)]
      have := ih k (by simp at hk; omega)
      simp only [List.getElem_cons_succ]
      rw [← this]
      congr 1
      simp [nteC]; omega
theorem row8_at {w : World} {base : Nat} {a : Option Addr} {cap : Nat} {l : List Nte} (h : w.ownsRow base 219 8 (.slice a l.length cap) l.length (l.flatMap (nteC .u8))) (k : Nat) (hk : k < l.length) :
    ∃ g, a = some ⟨g, 0, none⟩ ∧ ∀ j, j < 8 → w.cell? ⟨g, k * 8 + j, none⟩ = (nteC .u8 l[k])[j]? := by
  obtain ⟨h1, ⟨h2, h0⟩ | ⟨g, cap', cur, hv, hb, hg, hn, hm, hs, ht⟩⟩ := h
  · omega
  · simp only [Value.slice.injEq] at hv
    refine ⟨g, hv.1, fun j hj => ?_⟩
    rw [hcell hg, ← nte_at l k hk j hj, ← ht, List.getElem?_take, if_pos (by omega)]
    simp
set_option maxRecDepth 10000 in
set_option maxHeartbeats 2000000 in
theorem picked_any {w : World} {base nb cb : Nat} {l : List Nte} (h : NL w base nb 282 219 .u8 l) (hl : l.length ≤ 1048576) (hc : w.cell? ⟨cb, 0, none⟩ = some (.int .i64 0)) :
    Calls Tryz.prog 184 #[.pointer (some ⟨nb, 0, none⟩), .func (.func 185) #[] #[.pointer (some ⟨cb, 0, none⟩)]] w fun e w' => ∃ v, e = .returned v ∧ NRow w' w.heap.size v l ∧ Below w.heap.size w w' := by
  obtain ⟨a, cap, c0, hrow, hn⟩ := lnotes_any h
  obtain ⟨i0, hi0, hz0, hz1, hz2⟩ := info_parts info_note
  have HI := Lib.hid hi0; have HZ0 := Lib.hid hz0; have HZ1 := Lib.hid hz1; have HZ2 := Lib.hid hz2
  have HROW := Lib.hid hrow; have HC := Lib.hid hc; have HL := Lib.hid hl
  clear h hrow hc hl c0 hi0 hz0 hz1 hz2
  go_enter Tryz.func184, Tryz.ntmps184
  go_wp2_with (go_at_call 151; refine hn.mono ?_; rintro e w' ⟨rfl, hw⟩; obtain rfl := hw.symm; clear hn)
  go_loopw [5, 11] (fun v i wr => ∃ k : Nat, k ≤ l.length ∧ i = .int .i64 k ∧ wr.ownsRow w.heap.size 219 8 v k ((l.take k).flatMap (nteC .u8)) ∧ Below w.heap.size w wr) (fun _ i _ => l.length - (intOf i).toNat)
  case atStart => exact ⟨0, by omega, rfl, World.ownsRow_nil _ _ _ _, Below.refl _ _⟩
  case round =>
    obtain ⟨k, hk, rfl, hown, hbl⟩ := hrel
    have hl := HL.out
    by_cases hlt : k < l.length
    · have hlt' : (k : Int) < l.length := by omega
      obtain ⟨g, rfl, hcs⟩ := row8_at HROW.out k hlt
      obtain ⟨y, hy⟩ : ∃ y, y = l[k] := ⟨_, rfl⟩
      rw [← hy] at hcs
      have hgl : g < w.heap.size := World.block_lt_of_cell? _ _ ((hcs 0 (by omega)).trans rfl)
      have x : ∀ j, j < 8 → wr.cell? ⟨g, k * 8 + j, none⟩ = (nteC .u8 y)[j]? := fun j hj => (hbl.cell (p := ⟨g, k * 8 + j, none⟩) hgl).trans (hcs j hj)
      have x0 : wr.cell? ⟨g, k * 8, none⟩ = some (.int .i64 y.step) := x 0 (by omega)
      have x1 : wr.cell? ⟨g, k * 8 + 1, none⟩ = some (.int .i64 y.thread) := x 1 (by omega)
      have x2 : wr.cell? ⟨g, k * 8 + 2, none⟩ = some (.int .u8 y.kind) := x 2 (by omega)
      have x3 : wr.cell? ⟨g, k * 8 + 3, none⟩ = some (.int .i64 y.ref) := x 3 (by omega)
      have x4 : wr.cell? ⟨g, k * 8 + 4, none⟩ = some (.int .i64 y.bits) := x 4 (by omega)
      have x5 : wr.cell? ⟨g, k * 8 + 5, none⟩ = some (.int .i64 y.bucket) := x 5 (by omega)
      have x6 : wr.cell? ⟨g, k * 8 + 6, none⟩ = some (.int .i64 y.slot) := x 6 (by omega)
      have x7 : wr.cell? ⟨g, k * 8 + 7, none⟩ = some (.int .i64 y.value) := x 7 (by omega)
      have HOWN := Lib.hid hown; have HBL := Lib.hid hbl; have HY := Lib.hid hy
      clear hown hbl hcs x hy
      go_upto_region 5 with (fail)
      clear x0 x1 x2 x3 x4 x5 x6 x7
      have hb1 := below_alloc wr (.cells #[.int .i64 y.step, .int .i64 y.thread, .int .u8 y.kind, .int .i64 y.ref, .int .i64 y.bits, .int .i64 y.bucket, .int .i64 y.slot, .int .i64 y.value] 219)
      have hz1 := heap_alloc_new wr (.cells #[.int .i64 y.step, .int .i64 y.thread, .int .u8 y.kind, .int .i64 y.ref, .int .i64 y.bits, .int .i64 y.bucket, .int .i64 y.slot, .int .i64 y.value] 219)
      change Code.wp _ _ _ _ (wr.alloc (.cells #[.int .i64 y.step, .int .i64 y.thread, .int .u8 y.kind, .int .i64 y.ref, .int .i64 y.bits, .int .i64 y.bucket, .int .i64 y.slot, .int .i64 y.value] 219))
      generalize wr.alloc (.cells #[.int .i64 y.step, .int .i64 y.thread, .int .u8 y.kind, .int .i64 y.ref, .int .i64 y.bits, .int .i64 y.bucket, .int .i64 y.slot, .int .i64 y.value] 219) = w7 at *
      have hle := HBL.out.size
      have HR0 := Lib.hid (own_fr HOWN.out (below_fr hb1 (fun _ => false) false) rfl)
      generalize wr.heap.size = nq at *
      have x0 := hcell hz1 0; have x1 := hcell hz1 1; have x2 := hcell hz1 2; have x3 := hcell hz1 3
      have x4 := hcell hz1 4; have x5 := hcell hz1 5; have x6 := hcell hz1 6; have x7 := hcell hz1 7
      have hc7 : w7.cell? ⟨cb, 0, none⟩ = some (.int .i64 0) := by
        have hB : Below w.heap.size w w7 := HBL.out.trans (hb1.mono hle)
        exact (hB.cell (p := ⟨cb, 0, none⟩) (World.block_lt_of_cell? _ _ HC.out)).trans HC.out
      have hask := since_ask (i := k) y hc7
      have HB1 : Hid (Below w.heap.size w w7) := HBL.out.trans (hb1.mono hle)
      have HZ := Lib.hid hz1
      clear hb1 hz1 hc7
      go_upto_region 6 with (go_at_call 185; refine hask.mono ?_; intro e w8 hh; obtain ⟨hh1, b8⟩ := hh; subst hh1; have HB8 : Hid (Below w.heap.size w w8) := HB1.out.trans (b8.mono HB1.out.size); have hr8 := own_fr HR0.out (below_fr b8 (fun _ => false) false) rfl; have hz8 := (b8.block _ (Array.getElem?_eq_some_iff.1 HZ.out).1).trans HZ.out; clear b8 hask)
      clear x0 x1 x2 x3 x4 x5 x6 x7
      have x0 := hcell hz8 0; have x1 := hcell hz8 1; have x2 := hcell hz8 2; have x3 := hcell hz8 3
      have x4 := hcell hz8 4; have x5 := hcell hz8 5; have x6 := hcell hz8 6; have x7 := hcell hz8 7
      have HR8 := Lib.hid hr8
      clear hz8 hr8
      go_wp2_with (at_builtin; refine wpList_append_own _ rfl _ _ 213 rfl w.heap.size 219 i0 (.agg #[.int .i64 0, .int .i64 0, .int .u8 0, .int .i64 0, .int .i64 0, .int .i64 0, .int .i64 0, .int .i64 0]) 8 64 Tryz.underlying213 HI.out HZ0.out HZ1.out HZ2.out rfl (by decide) _ _ _ rfl (HR8.out.alloc _) ⟨w8.heap.size, 0, none⟩ 1 1 (nteC .u8 y) rfl rfl ?c1 ?c2 ?c3 ?c4 ?c5 ?_)
      case c1 => exact World.news_of_block (heap_alloc_new w8 _)
      case c2 => simp [Value.oneCell', nteC]
      case c3 => unfold maxLen; omega
      case c4 => omega
      case c5 => have := HB8.out.size; simp; omega
      intro v' w11 hown' hgrow _
      have hb10 := below_alloc w8 (.cells #[.int .i64 y.step, .int .i64 y.thread, .int .u8 y.kind, .int .i64 y.ref, .int .i64 y.bits, .int .i64 y.bucket, .int .i64 y.slot, .int .i64 y.value] 219)
      have hB11 : Below w.heap.size w w11 := grown_below (HR8.out.alloc _) hgrow (HB8.out.trans (hb10.mono HB8.out.size)) (Nat.le_trans HB8.out.size hb10.size) (Nat.le_refl _)
      have e1 : (l.take (k + 1)).flatMap (nteC .u8) = (l.take k).flatMap (nteC .u8) ++ nteC .u8 y := by
        rw [List.take_add_one, List.getElem?_eq_getElem hlt, List.flatMap_append, ← show y = l[k] from HY.out]; simp
      rw [← e1] at hown'
      have HOW := Lib.hid hown'; have HBW := Lib.hid hB11
      clear hown' hB11 hgrow hb10 e1 x0 x1 x2 x3 x4 x5 x6 x7
      go_wp2_with fail
      go_roundw
      case rel => exact ⟨k + 1, by omega, by go_num, HOW.out, HBW.out⟩
      case measure => simp [intOf]; omega
    · obtain rfl : k = l.length := by omega
      rw [List.take_length] at hown
      have hcl := nclip_any hown
      have HBL := Lib.hid hbl
      clear hown hbl
      go_wp2_with (go_at_call 207; refine hcl.mono ?_; intro e w9 hh; obtain ⟨v', hh1, hr, hw⟩ := hh; subst hh1; obtain rfl := hw.symm; have HR := Lib.hid hr; clear hr hcl)
      go_ret
      exact ⟨_, rfl, HR.out, HBL.out⟩
theorem lsince_any {w : World} {base nb : Nat} {l : List Nte} (h : NL w base nb 282 219 .u8 l) (hl : l.length ≤ 1048576) :
    Calls Tryz.prog 152 #[.pointer (some ⟨nb, 0, none⟩), .int .i64 0] w fun e w' => ∃ v, e = .returned v ∧ NRow w' w.heap.size v l ∧ Below w.heap.size w w' := by
  have hb := below_alloc w (.cells #[.int .i64 0] 3)
  have hz := heap_alloc_new w (.cells #[.int .i64 0] 3)
  have hp := picked_any (cb := w.heap.size) (h.fr (below_fr hb (fun _ => false) false) rfl rfl) hl (hcell hz 0)
  have HB := Lib.hid hb
  clear h hz hb
  go_enter Tryz.func152, Tryz.ntmps152
  go_wp2_with (go_at_call 184; refine hp.mono ?_; intro e w2 hh; obtain ⟨v, hh1, hr, b2⟩ := hh; subst hh1; have HR := Lib.hid hr; have B2 := Lib.hid b2; clear hr b2 hp)
  go_ret
  refine ⟨_, rfl, ?_, HB.out.trans (B2.out.mono HB.out.size)⟩
  rcases HR.out with h | ⟨g, cur, h1, h2, h3⟩
  · exact .inl h
  · exact .inr ⟨g, cur, h1, Nat.le_trans HB.out.size h2, h3⟩
theorem lall_any {w : World} {base nb : Nat} {l : List Nte} (h : NL w base nb 282 219 .u8 l) (hl : l.length ≤ 1048576) :
    Calls Tryz.prog 103 #[.pointer (some ⟨nb, 0, none⟩)] w fun e w' => ∃ v, e = .returned v ∧ NRow w' w.heap.size v l ∧ Below w.heap.size w w' := by
  have hp := lsince_any h hl
  clear h
  go_enter Tryz.func103, Tryz.ntmps103
  go_wp2_with (go_at_call 152; refine hp.mono ?_; intro e w2 hh; obtain ⟨v, hh1, hr, b2⟩ := hh; subst hh1; have HR := Lib.hid hr; have B2 := Lib.hid b2; clear hr b2 hp)
  go_ret
  exact ⟨_, rfl, HR.out, B2.out⟩
theorem NRow.at {w : World} {base : Nat} {v : Value} {l : List Nte} (h : NRow w base v l) (k : Nat) (hk : k < l.length) : ∃ g, v = .slice (some ⟨g, 0, none⟩) l.length l.length ∧ ∀ j, j < 8 → w.cell? ⟨g, k * 8 + j, none⟩ = (nteC .u8 l[k])[j]? := by
  rcases h with ⟨-, h0⟩ | ⟨g, cur, hv, hb, hg, hm, ht⟩
  · subst h0; simp at hk
  · refine ⟨g, hv, fun j hj => ?_⟩
    rw [hcell hg, ← nte_at l k hk j hj, ← ht, List.getElem?_take, if_pos (by omega)]
    simp
end Go.Proofs.YthehdcpjlddbpaaGreat

/-
  notes.List.Add, and a world's note.
-/
namespace Go.Proofs.YthehdcpjlddbpaaGreat
open Go.RowKit
set_option linter.unusedVariables false

theorem lcount_any {w : World} {base nb TN : Nat} {l : List Nte} (h : NL w base nb 282 TN .u8 l) : Calls Tryz.prog 99 #[.pointer (some ⟨nb, 0, none⟩)] w fun e w' => e = .returned (.int .i64 l.length) ∧ w' = w := by
  obtain ⟨a, cap, -, -, hn⟩ := lnotes_any h
  clear h
  go_enter Tryz.func99, Tryz.ntmps99
  go_wp2_with (go_at_call 151; refine hn.mono ?_; rintro e w' ⟨rfl, rfl⟩)
  go_ret
  exact ⟨rfl, rfl⟩
/-- Behind an Add: a note of a kind that is one. -/
def nadd (l : List Nte) (n : Nte) : List Nte := if 1 ≤ n.kind ∧ n.kind ≤ 9 then l ++ [n] else l
def nTy (T : TypeId) : Bool := T == 282 || T == 219
theorem nTy_l (T : TypeId) (h : nTy T = false) : (T == 282) = false := by unfold nTy at h; simp only [Bool.or_eq_false_iff] at h; exact h.1
theorem nTy_n (T : TypeId) (h : nTy T = false) : (T == 219) = false := by unfold nTy at h; simp only [Bool.or_eq_false_iff] at h; exact h.2
set_option maxRecDepth 10000 in
set_option maxHeartbeats 2000000 in
theorem ladd_no {w : World} {base nb : Nat} {l : List Nte} {n : Nte} (h : NL w base nb 282 219 .u8 l) (hk : n.kind = 0 ∨ 9 < n.kind) :
    Calls Tryz.prog 208 #[.pointer (some ⟨nb, 0, none⟩), .agg (nteC .u8 n).toArray] w fun e w' => (∃ k, e = .returned (.int .i64 k)) ∧ Below w.heap.size w w' := by
  have hb := below_alloc w (.cells (nteC .u8 n).toArray 219)
  have hz := heap_alloc_new w (.cells (nteC .u8 n).toArray 219)
  have h1 := h.fr (below_fr hb (fun _ => false) false) rfl rfl
  have hcn := lcount_any h1
  have HB := Lib.hid hb; have HZ := Lib.hid hz; have HK := Lib.hid hk
  clear h hb hz h1 hk
  go_enter Tryz.func208, Tryz.ntmps208
  go_upto_region 1 with (fail)
  change Code.wp _ _ _ _ (w.alloc (.cells (nteC .u8 n).toArray 219))
  generalize w.alloc (.cells (nteC .u8 n).toArray 219) = w1 at *
  go_upto_region 4 with (go_at_call 99; refine hcn.mono ?_; rintro e w2 ⟨rfl, hw⟩; obtain rfl := hw.symm; clear hcn)
  have x2 : ∀ st : ExtW w1, st.val.cell? ⟨w.heap.size, 2, none⟩ = some (.int .u8 n.kind) := fun st => st.cell (hcell HZ.out 2)
  rcases HK.out with hk | hk
  · have d1 : (n.kind == 0) = true := beq_iff_eq.2 hk
    refine wp_region_ext (by kernel_rfl) (by kernel_rfl) ?_
    repeat (go_big_quiet_step (fail))
    refine wpQuiet_nil ?_
    rintro W ⟨⟨W2, hW⟩, rfl⟩
    have HW := Lib.hid hW
    clear x2 hW
    go_wp2
    go_ret
    exact ⟨⟨_, rfl⟩, HB.out.trans (HW.out.mono HB.out.size)⟩
  · have d1 : (n.kind == 0) = false := beq_eq_false_iff_ne.2 (by omega)
    have d2 : decide (9 < n.kind) = true := decide_eq_true hk
    refine wp_region_ext (by kernel_rfl) (by kernel_rfl) ?_
    repeat (go_big_quiet_step (fail))
    refine wpQuiet_nil ?_
    rintro W ⟨⟨W2, hW⟩, rfl⟩
    have HW := Lib.hid hW
    clear x2 hW
    go_wp2
    go_ret
    exact ⟨⟨_, rfl⟩, HB.out.trans (HW.out.mono HB.out.size)⟩
set_option maxRecDepth 10000 in
set_option maxHeartbeats 4000000 in
theorem ladd_ok {w0 w : World} {base nb : Nat} {l : List Nte} {n : Nte} (h : NL w base nb 282 219 .u8 l) (hB : Below base w0 w) (hsz : base ≤ w.heap.size) (hl : l.length < 1048576) (hk : 1 ≤ n.kind ∧ n.kind ≤ 9) (hs : ∀ y, l.getLast? = some y → y.step ≤ n.step) :
    Calls Tryz.prog 208 #[.pointer (some ⟨nb, 0, none⟩), .agg (nteC .u8 n).toArray] w fun e w' => (∃ k, e = .returned (.int .i64 k)) ∧ NL w' base nb 282 219 .u8 (l ++ [n]) ∧ Fr nTy false w w' ∧ Below base w0 w' := by
  obtain ⟨i0, hi0, hz0, hz1, hz2⟩ := info_parts info_note
  have HI := Lib.hid hi0; have HZ0 := Lib.hid hz0; have HZ1 := Lib.hid hz1; have HZ2 := Lib.hid hz2
  have hb := below_alloc w (.cells (nteC .u8 n).toArray 219)
  have hz := heap_alloc_new w (.cells (nteC .u8 n).toArray 219)
  have h1 := h.fr (below_fr hb (fun _ => false) false) rfl rfl
  have hcn := lcount_any h1
  have HBB : Hid (Below base w0 (w.alloc (.cells (nteC .u8 n).toArray 219))) := hB.trans (hb.mono hsz)
  have HSZ : Hid (base ≤ (w.alloc (.cells (nteC .u8 n).toArray 219)).heap.size) := Nat.le_trans hsz hb.size
  have HB := Lib.hid hb; have H1 := Lib.hid h1; have HZ := Lib.hid hz; have HL := Lib.hid hl; have HK := Lib.hid hk; have HS := Lib.hid hs
  clear h hb hz h1 hl hk hs hi0 hz0 hz1 hz2 hB hsz
  go_enter Tryz.func208, Tryz.ntmps208
  go_upto_region 1 with (fail)
  change Code.wp _ _ _ _ (w.alloc (.cells (nteC .u8 n).toArray 219))
  generalize w.alloc (.cells (nteC .u8 n).toArray 219) = w1 at *
  go_upto_region 4 with (go_at_call 99; refine hcn.mono ?_; rintro e w2 ⟨rfl, hw⟩; obtain rfl := hw.symm; clear hcn)
  have HFC0 : Hid (Fr nTy false w w1) := below_fr HB.out _ _
  clear HB
  generalize w.heap.size = nq at *
  go_cut [11] (fun v wx => v = .bool false ∧ Below w1.heap.size w1 wx)
  case first =>
    obtain ⟨a, cap, c0, hrow, -⟩ := lnotes_any H1.out
    have hk := HK.out
    have d1 : (n.kind == 0) = false := beq_eq_false_iff_ne.2 (by omega)
    have d2 : decide (9 < n.kind) = false := decide_eq_false (by omega)
    have hl := HL.out
    have x0 : ∀ st : ExtW w1, st.val.cell? ⟨nq, 0, none⟩ = some (.int .i64 n.step) := fun st => st.cell (hcell HZ.out 0)
    have x2 : ∀ st : ExtW w1, st.val.cell? ⟨nq, 2, none⟩ = some (.int .u8 n.kind) := fun st => st.cell (hcell HZ.out 2)
    have y0 : ∀ st : ExtW w1, st.val.cell? ⟨nb, 0, none⟩ = some (.slice a l.length cap) := fun st => st.cell c0
    by_cases h0 : l.length = 0
    · have e0 : decide ((0 : Int) < l.length) = false := decide_eq_false (by omega)
      have e0n : decide (0 < l.length) = false := decide_eq_false (by omega)
      clear hrow c0 hk hl h0
      refine wp_region_ext (by kernel_rfl) (by kernel_rfl) ?_
      repeat (go_big_quiet_step (fail))
      refine wpQuiet_nil ?_
      rintro W ⟨⟨W2, hW⟩, rfl⟩
      clear x0 x2 y0
      have HW := Lib.hid hW
      go_wp2_with fail
      go_meet
      case rel => exact ⟨rfl, HW.out⟩
    · obtain ⟨k, hk1⟩ : ∃ k, l.length = k + 1 := ⟨l.length - 1, by omega⟩
      have hkl : k < l.length := by omega
      obtain ⟨g, rfl, hcs⟩ := row8_at hrow k hkl
      have hst : (l[k]).step ≤ n.step := HS.out _ (by rw [List.getLast?_eq_getElem?, show l.length - 1 = k by omega]; exact List.getElem?_eq_getElem hkl)
      have y1 : ∀ st : ExtW w1, st.val.cell? ⟨g, k * 8, none⟩ = some (.int .i64 (l[k]).step) := fun st => st.cell (hcs 0 (by omega))
      generalize (l[k]).step = ys at *
      clear hrow c0 hk hcs hkl h0
      generalize l.length = L at *
      subst hk1
      have e0 : decide ((0 : Int) < ((k + 1 : Nat) : Int)) = true := decide_eq_true (by omega)
      have e0n : decide (0 < k + 1) = true := decide_eq_true (by omega)
      have d3 : decide (n.step < ys) = false := decide_eq_false (by omega)
      clear hst
      refine wp_region_ext (by kernel_rfl) (by kernel_rfl) ?_
      repeat (go_big_quiet_step (fail))
      refine wpQuiet_nil ?_
      rintro W ⟨⟨W2, hW⟩, rfl⟩
      clear x0 x2 y0 y1
      have HW := Lib.hid hW
      go_wp2_with fail
      go_meet
      case rel => exact ⟨rfl, HW.out⟩
  case rest =>
  obtain ⟨hcv, hbx⟩ := hcut
  subst hcv
  have hnl := H1.out.fr (below_fr hbx (fun _ => false) false) rfl rfl
  have hnq := (hbx.block _ (Array.getElem?_eq_some_iff.1 HZ.out).1).trans HZ.out
  obtain ⟨v, hl1, hl2, hl3⟩ := hnl
  obtain ⟨ao, cap, rfl⟩ := own_sl2 hl3
  have hqlt := (Array.getElem?_eq_some_iff.1 hl1).1
  have hnlt := (Array.getElem?_eq_some_iff.1 hnq).1
  have l0 := hcell hl1 0
  have lf := hfrz hl1 0
  have l0' : ∀ o, (wc.alloc o).cell? ⟨nb, 0, none⟩ = some (.slice ao l.length cap) := fun o => by rw [World.cell?_alloc_past _ _ _ hqlt]; exact l0
  have lf' : ∀ o, (wc.alloc o).frozen? ⟨nb, 0, none⟩ = false := fun o => by rw [World.frozen?_alloc_past _ _ _ hqlt]; exact lf
  have hl := HL.out
  have dm : decide ((1048576 : Int) ≤ l.length) = false := decide_eq_false (by omega)
  have k0 : wc.cell? ⟨nq, 0, none⟩ = some (.int .i64 n.step) := hcell hnq 0
  have k1 : wc.cell? ⟨nq, 1, none⟩ = some (.int .i64 n.thread) := hcell hnq 1
  have k2 : wc.cell? ⟨nq, 2, none⟩ = some (.int .u8 n.kind) := hcell hnq 2
  have k3 : wc.cell? ⟨nq, 3, none⟩ = some (.int .i64 n.ref) := hcell hnq 3
  have k4 : wc.cell? ⟨nq, 4, none⟩ = some (.int .i64 n.bits) := hcell hnq 4
  have k5 : wc.cell? ⟨nq, 5, none⟩ = some (.int .i64 n.bucket) := hcell hnq 5
  have k6 : wc.cell? ⟨nq, 6, none⟩ = some (.int .i64 n.slot) := hcell hnq 6
  have k7 : wc.cell? ⟨nq, 7, none⟩ = some (.int .i64 n.value) := hcell hnq 7
  have E2 : Hid (l.length + 1 ≤ maxLen) := by unfold maxLen; show l.length + 1 ≤ _; omega
  have E3 : Hid ((l.length + 1) * 64 ≤ 140737488355328) := by show (l.length + 1) * 64 ≤ 140737488355328; omega
  have E4 : Hid (base ≤ wc.heap.size) := Nat.le_trans HSZ.out hbx.size
  have HNW : Hid (((wc.drew).alloc (.cells #[.int .i64 n.step, .int .i64 n.thread, .int .u8 n.kind, .int .i64 n.ref, .int .i64 n.bits, .int .i64 n.bucket, .int .i64 n.slot, .int .i64 n.value] 219)).heap[wc.heap.size]? = some (.cells #[.int .i64 n.step, .int .i64 n.thread, .int .u8 n.kind, .int .i64 n.ref, .int .i64 n.bits, .int .i64 n.bucket, .int .i64 n.slot, .int .i64 n.value] 219 (0, 0))) := heap_alloc_new (wc.drew) _
  have HW0 : Hid (Below wc.heap.size wc ((wc.drew).alloc (.cells #[.int .i64 n.step, .int .i64 n.thread, .int .u8 n.kind, .int .i64 n.ref, .int .i64 n.bits, .int .i64 n.bucket, .int .i64 n.slot, .int .i64 n.value] 219))) := ((Below.refl _ _).drew).alloc (Nat.le_refl _) _
  have HBC : Hid (Below base w0 wc) := HBB.out.trans (hbx.mono HSZ.out)
  have HFC : Hid (Fr nTy false w wc) := HFC0.out.trans (below_fr hbx _ _)
  have HL1 := Lib.hid hl1; have HL3 := Lib.hid hl3; have HLO := Lib.hid hl2
  clear hl1 hl3 hl2 hnq hbx H1 HS HK
  go_upto_region 8 with (fail)
  clear dm hl
  go_region_law ((refine step_append_lies _ (by rfl) _ _ _ (by rfl) base 219 i0 _ 8 64 Tryz.underlying213 HI.out HZ0.out HZ1.out HZ2.out rfl (by decide) (.slice ao l.length cap) l.length (l.flatMap (nteC .u8)) (by rfl) ((HL3.out.drew).alloc _) ⟨wc.heap.size, 0, none⟩ 1 1 (nteC .u8 n) (by rfl) (by rfl) (World.news_of_block (cs := #[.int .i64 n.step, .int .i64 n.thread, .int .u8 n.kind, .int .i64 n.ref, .int .i64 n.bits, .int .i64 n.bucket, .int .i64 n.slot, .int .i64 n.value]) (t := 219) (fr := (0, 0)) HNW.out) (by simp [Value.oneCell', nteC]) (by omega) E2.out E3.out (by have := E4.out; simp; omega) (wc.heap.size + 1) (by simp) ?_; intro g cap1 w4 hown1 hgrow hat hlt; have HOW := Lib.hid hown1; have HGR := Lib.hid hgrow; have hq4 : w4.heap[nb]? = some (.cells #[.slice ao l.length cap] 282 (0, 0)) := (grown_ty ((HL3.out.drew).alloc _) hgrow).cells _ _ _ _ ((HW0.out.block _ (Array.getElem?_eq_some_iff.1 HL1.out).1).trans HL1.out) rfl; have t0 := hcell hq4 0; have t1 := hfrz hq4 0; have HQ4 := Lib.hid hq4; clear hown1 hgrow hat hlt hq4))
  all_goals
    have hB4 : Below base w0 w4 := grown_below ((HL3.out.drew).alloc _) HGR.out (HBC.out.trans (HW0.out.mono E4.out)) (Nat.le_trans E4.out HW0.out.size) (Nat.le_refl _)
    have f4 : Fr nTy false wc w4 := (below_fr HW0.out _ _).trans ((grown_ty ((HL3.out.drew).alloc _) HGR.out).mono nTy_n id)
    have f5 := set_ty HQ4.out 0 (.slice (some ⟨g, 0, none⟩) (l.length + 1) cap1)
    have hB5 := set_below hB4 (Nat.le_trans E4.out f4.size) HLO.out 0 (.slice (some ⟨g, 0, none⟩) (l.length + 1) cap1)
    have hq5 := setCell_same HQ4.out 0 (.slice (some ⟨g, 0, none⟩) (l.length + 1) cap1)
    have h1 := own_fr HOW.out f5 rfl
    have FIN : Hid (NL (w4.setCell ⟨nb, 0, none⟩ (.slice (some ⟨g, 0, none⟩) (l.length + 1) cap1)) base nb 282 219 .u8 (l ++ [n]) ∧ Fr nTy false w (w4.setCell ⟨nb, 0, none⟩ (.slice (some ⟨g, 0, none⟩) (l.length + 1) cap1)) ∧ Below base w0 (w4.setCell ⟨nb, 0, none⟩ (.slice (some ⟨g, 0, none⟩) (l.length + 1) cap1))) := by
      refine ⟨⟨_, hq5, HLO.out, ?_⟩, (HFC.out.trans f4).trans (f5.mono nTy_l id), hB5⟩
      rw [List.length_append, List.flatMap_append]
      simpa using h1
    clear hB4 f4 f5 hB5 hq5 h1 HQ4 HGR HOW t0 t1 l0 l0' lf lf' k0 k1 k2 k3 k4 k5 k6 k7
    generalize w4.setCell ⟨nb, 0, none⟩ (.slice (some ⟨g, 0, none⟩) (l.length + 1) cap1) = w5 at *
    go_wp2_with fail
    go_ret
    exact ⟨⟨_, rfl⟩, FIN.out⟩
end Go.Proofs.YthehdcpjlddbpaaGreat

/-
  A world's note.
-/
namespace Go.Proofs.YthehdcpjlddbpaaGreat
open Go.RowKit Go.Maps
set_option linter.unusedVariables false

theorem u8_nn {k : Int} (h : (Lit.int .u8 k).wf = true) : 0 ≤ k ∧ k < 256 := by
  have hmin : IntKind.u8.min = 0 := rfl
  have hmax : IntKind.u8.max = 255 := rfl
  simp only [Lit.wf, Bool.and_eq_true, decide_eq_true_eq] at h; omega
theorem nTy_w (T : TypeId) (h : wTy T = false) : nTy T = false := by
  unfold wTy at h
  simp only [Bool.or_eq_false_iff] at h
  unfold nTy
  rw [h.1.2, h.2]; rfl
section
variable {w0 w w' : World} {B : WB} {V : WV} {s : CS}
theorem WS.noted (h : WS w0 w B V s) {l : List Nte} (hn : NL w' w0.heap.size B.nb 282 219 .u8 l) (hf : Fr nTy false w w') (hB : Below w0.heap.size w0 w') : WS w0 w' B { V with nts := l } s := by
  obtain ⟨S, ha⟩ := h.ar
  exact ⟨h.own.fr hf hB rfl rfl, hf.cells _ _ _ _ h.blk rfl, h.lo, ⟨S, ha.fr hf rfl rfl rfl⟩, hn, h.tkl, h.fmk.fr h.own hf rfl⟩
theorem WS.hd5 (h : WS w0 w B V s) : w.cell? ⟨B.wb, 0, none⟩ = some (.pointer (some ⟨B.cb, 0, none⟩)) ∧ w.cell? ⟨B.wb, 1, none⟩ = some (.pointer (some ⟨B.ib, 0, none⟩)) ∧ w.cell? ⟨B.wb, 2, none⟩ = some (.pointer (some ⟨B.nb, 0, none⟩)) ∧ w.cell? ⟨B.wb, 72, none⟩ = some (.int .i64 V.hd) :=
  ⟨h.c0, (h.cell 1).trans (val_at B V h.tkl).2.1, (h.cell 2).trans (val_at B V h.tkl).2.2.1, (h.cell 72).trans (val_at B V h.tkl).2.2.2.2.2⟩
theorem WS.last5 (h : WS w0 w B V s) : Calls Tryz.prog 38 #[.pointer (some ⟨B.cb, 0, none⟩)] w fun e w' => e = .returned (.agg #[.int .u8 s.kind, .int .u64 s.addr, .int .u64 s.was, .int .u64 s.is]) ∧ Below w.heap.size w w' := by
  obtain ⟨⟨S, hS⟩, hB⟩ := h.own
  exact last_any w _ B.cb s S hS
theorem WS.iat5 (h : WS w0 w B V s) (hl : V.its.length ≤ 1048576) (r : Int) : Calls Tryz.prog 71 #[.pointer (some ⟨B.ib, 0, none⟩), .int .i64 r] w fun e w' => e = .returned (.tuple #[.agg #[.string ((atOf V.its r).1).key, .string ((atOf V.its r).1).val, .int .u32 ((atOf V.its r).1).flags, .int .u64 ((atOf V.its r).1).id, .int .i64 ((atOf V.its r).1).dies, .int .i64 ((atOf V.its r).1).gen], .bool (atOf V.its r).2]) ∧ Below w.heap.size w w' := by
  obtain ⟨S, hS⟩ := h.ar
  exact iat_any _ _ _ S r w hS hl
theorem WS.steps5 (h : WS w0 w B V s) : Calls Tryz.prog 36 #[.pointer (some ⟨B.wb, 0, none⟩)] w fun e w' => e = .returned (.int .i64 s.cnt) ∧ w' = w := steps_any h.wld
/-- Do the notes' steps rise up to what was done? -/
def Nsteps (l : List Nte) (c : Int) : Prop := ∀ y ∈ l, y.step ≤ c
theorem Nsteps.le {l : List Nte} {c d : Int} (h : Nsteps l c) (hc : c ≤ d) : Nsteps l d := fun y hy => Int.le_trans (h y hy) hc
theorem Nsteps.add {l : List Nte} {c : Int} {n : Nte} (h : Nsteps l c) (hn : n.step = c) : Nsteps (nadd l n) c := by
  unfold nadd
  split
  · intro y hy
    rcases List.mem_append.1 hy with h1 | h1
    · exact h y h1
    · simp only [List.mem_singleton] at h1; subst h1; rw [hn]; exact Int.le_refl _
  · exact h
theorem nadd_len (l : List Nte) (n : Nte) : (nadd l n).length ≤ l.length + 1 := by unfold nadd; split <;> simp
theorem wladd (h : WS w0 w B V s) (n : Nte) (hl : V.nts.length < 1048576) (hkb : 0 ≤ n.kind) (hs : Nsteps V.nts n.step) :
    Calls Tryz.prog 208 #[.pointer (some ⟨B.nb, 0, none⟩), .agg (nteC .u8 n).toArray] w fun e w' => (∃ k, e = .returned (.int .i64 k)) ∧ WS w0 w' B { V with nts := nadd V.nts n } s ∧ Fr nTy false w w' := by
  by_cases hk : 1 ≤ n.kind ∧ n.kind ≤ 9
  · refine (ladd_ok h.nt h.below h.below.size hl hk (fun y hy => hs y (List.mem_of_getLast? hy))).mono fun e w' ⟨h1, h2, h3, h4⟩ => ⟨h1, ?_, h3⟩
    have : nadd V.nts n = V.nts ++ [n] := by unfold nadd; rw [if_pos hk]
    rw [this]
    exact h.noted h2 h3 h4
  · refine (ladd_no h.nt (by omega)).mono fun e w' ⟨h1, h2⟩ => ⟨h1, ?_, below_fr h2 _ _⟩
    have : nadd V.nts n = V.nts := by unfold nadd; rw [if_neg hk]
    rw [this]
    exact h.keep h2
set_option maxRecDepth 10000 in
set_option maxHeartbeats 2000000 in
theorem wnote_any (h : WS w0 w B V s) (k r b u sl v : Int) (hl : V.nts.length < 1048576) (hkb : (Lit.int .u8 k).wf = true) (hs : Nsteps V.nts s.cnt) :
    Calls Tryz.prog 187 #[.pointer (some ⟨B.wb, 0, none⟩), .int .u8 k, .int .i64 r, .agg #[.int .i64 b, .int .i64 u, .int .i64 sl], .int .i64 v] w fun e w' => e = .returned (.tuple #[]) ∧ WS w0 w' B { V with nts := nadd V.nts ⟨s.cnt, V.hd, k, r, b, u, sl, v⟩ } s ∧ Fr wTy true w w' := by
  have hb := below_alloc w (.cells #[.int .i64 b, .int .i64 u, .int .i64 sl] 42)
  have hz := heap_alloc_new w (.cells #[.int .i64 b, .int .i64 u, .int .i64 sl] 42)
  have h1 := h.keep hb
  have hk0 := (u8_nn hkb).1
  have HB := Lib.hid hb; have HZ := Lib.hid hz; have H1 := Lib.hid h1; have HL := Lib.hid hl; have HS := Lib.hid hs; have HK0 := Lib.hid hk0
  clear h hb hz h1 hl hkb hs hk0
  go_enter Tryz.func187, Tryz.ntmps187
  go_upto_region 2 with (fail)
  change Code.wp _ _ _ _ (w.alloc (.cells #[.int .i64 b, .int .i64 u, .int .i64 sl] 42))
  generalize w.alloc (.cells #[.int .i64 b, .int .i64 u, .int .i64 sl] 42) = w1 at *
  have HB0 : Hid (Fr wTy true w w1) := below_fr HB.out _ _
  clear HB
  generalize w.heap.size = nq at *
  have x2 : ∀ st : ExtW w1, st.val.cell? ⟨B.wb, 2, none⟩ = some (.pointer (some ⟨B.nb, 0, none⟩)) := fun st => st.cell H1.out.hd5.2.2.1
  have x72 : ∀ st : ExtW w1, st.val.cell? ⟨B.wb, 72, none⟩ = some (.int .i64 V.hd) := fun st => st.cell H1.out.hd5.2.2.2
  have z0 : ∀ st : ExtW w1, st.val.cell? ⟨nq, 0, none⟩ = some (.int .i64 b) := fun st => st.cell (hcell HZ.out 0)
  have z1 : ∀ st : ExtW w1, st.val.cell? ⟨nq, 1, none⟩ = some (.int .i64 u) := fun st => st.cell (hcell HZ.out 1)
  have z2 : ∀ st : ExtW w1, st.val.cell? ⟨nq, 2, none⟩ = some (.int .i64 sl) := fun st => st.cell (hcell HZ.out 2)
  have m1 : ∀ st : ExtW w1, Calls Tryz.prog 36 #[.pointer (some ⟨B.wb, 0, none⟩)] st.val fun e w' => e = .returned (.int .i64 s.cnt) ∧ st.val = w' := fun st => (H1.out.keep st.below).steps5.mono fun e w' ⟨h1, h2⟩ => ⟨h1, h2.symm⟩
  refine wp_region_ext_tail 15 (by kernel_rfl) (by kernel_rfl) ?_
  simp only [List.take_succ_cons, List.take_zero, List.drop_succ_cons, List.drop_zero]
  repeat (go_big_quiet_step ((go_at_call 36; with_reducible refine calls_ext_same (m1 _))))
  refine wpQuiet_nil ?_
  rintro W ⟨⟨W2, hW⟩, rfl⟩
  clear x2 x72 z0 z1 z2 m1
  have hadd := wladd (H1.out.keep hW) ⟨s.cnt, V.hd, k, r, b, u, sl, v⟩ HL.out HK0.out HS.out
  have HW := Lib.hid hW
  clear hW
  go_wp2_with (go_at_call 208; refine hadd.mono ?_; intro e w3 hh; obtain ⟨⟨kk, hh1⟩, h3, f3⟩ := hh; subst hh1; have H3 := Lib.hid h3; have F3 := Lib.hid f3; clear h3 f3 hadd)
  go_end0
  exact ⟨rfl, H3.out, (HB0.out.trans (below_fr HW.out _ _)).trans (F3.out.mono nTy_w (fun h => by cases h))⟩
end
end Go.Proofs.YthehdcpjlddbpaaGreat

/-
  Grows: what is not there, what is over, without a world; the document's; a step.
-/
namespace Go.Proofs.YthehdcpjlddbpaaGreat
open Go.RowKit Go.Maps
set_option linter.unusedVariables false

/-- What is left of the acts, by how many there are. -/
def LeftV (w : World) (v : Value) : Nat → Prop
  | 0 => ∃ a c, v = .slice a 0 c
  | 1 => ∃ g o cs, v = .slice (some ⟨g, o, none⟩) 1 1 ∧ w.heap[g]? = some (.cells cs 225 (0, 0)) ∧ cs[o]? = some (.int .i64 1)
  | _ + 2 => ∃ g, v = .slice (some ⟨g, 0, none⟩) 2 2 ∧ w.heap[g]? = some (.cells #[.int .i64 0, .int .i64 1] 225 (0, 0))
def GS (w : World) (b T n : Nat) (word bits : Int) : Prop := ∃ v, w.heap[b]? = some (.cells #[v, .int .u64 word, .int .i64 bits] T (0, 0)) ∧ LeftV w v n
theorem LeftV.fr {K : TypeId → Bool} {mp : Bool} {w w' : World} {v : Value} {n : Nat} (h : LeftV w v n) (hf : Fr K mp w w') (h1 : K 225 = false) : LeftV w' v n := by
  match n, h with
  | 0, h => exact h
  | 1, ⟨g, o, cs, h2, h3, h4⟩ => exact ⟨g, o, cs, h2, hf.cells _ _ _ _ h3 h1, h4⟩
  | _ + 2, ⟨g, h2, h3⟩ => exact ⟨g, h2, hf.cells _ _ _ _ h3 h1⟩
theorem GS.fr {K : TypeId → Bool} {mp : Bool} {w w' : World} {b T n : Nat} {word bits : Int} (h : GS w b T n word bits) (hf : Fr K mp w w') (h1 : K 225 = false) (h2 : K T = false) : GS w' b T n word bits := by
  obtain ⟨v, h3, h4⟩ := h
  exact ⟨v, hf.cells _ _ _ _ h3 h2, h4.fr hf h1⟩
theorem GS.below {w w' : World} {b T n : Nat} {word bits : Int} (h : GS w b T n word bits) (hb : Below w.heap.size w w') : GS w' b T n word bits := h.fr (below_fr hb (fun _ => false) false) rfl rfl
theorem LeftV.sl {w : World} {v : Value} {n : Nat} (hn : n ≤ 2) (h : LeftV w v n) : ∃ a c, v = .slice a n c := by
  match n, hn, h with
  | 0, _, ⟨a, c, h⟩ => exact ⟨a, c, h⟩
  | 1, _, ⟨g, o, cs, h, _⟩ => exact ⟨_, _, h⟩
  | 2, _, ⟨g, h, _⟩ => exact ⟨_, _, h⟩
theorem gover_nil (w : World) : Calls Tryz.prog 49 #[.pointer none] w fun e w' => e = .returned (.bool true) ∧ w' = w := by
  go_enter Tryz.func49, Tryz.ntmps49
  go_wp2
  go_ret
  exact ⟨rfl, rfl⟩
theorem sover_nil (w : World) : Calls Tryz.prog 52 #[.pointer none] w fun e w' => e = .returned (.bool true) ∧ w' = w := by
  go_enter Tryz.func52, Tryz.ntmps52
  go_wp2
  go_ret
  exact ⟨rfl, rfl⟩
theorem gover {w : World} {b n : Nat} {word bits : Int} (hn : n ≤ 2) (h : GS w b 224 n word bits) : Calls Tryz.prog 49 #[.pointer (some ⟨b, 0, none⟩)] w fun e w' => e = .returned (.bool (n == 0)) ∧ w' = w := by
  obtain ⟨v, h1, h2⟩ := h
  obtain ⟨a, c, rfl⟩ := h2.sl hn
  have c0 := hcell h1 0
  have d : ((n : Int) == 0) = (n == 0) := by cases n <;> simp; omega
  generalize (n == 0) = dd at *
  clear h1 h2
  go_enter Tryz.func49, Tryz.ntmps49
  go_wp2
  go_ret
  exact ⟨rfl, rfl⟩
theorem sover {w : World} {b n : Nat} {word bits : Int} (hn : n ≤ 2) (h : GS w b 228 n word bits) : Calls Tryz.prog 52 #[.pointer (some ⟨b, 0, none⟩)] w fun e w' => e = .returned (.bool (n == 0)) ∧ w' = w := by
  obtain ⟨v, h1, h2⟩ := h
  obtain ⟨a, c, rfl⟩ := h2.sl hn
  have c0 := hcell h1 0
  have d : ((n : Int) == 0) = (n == 0) := by cases n <;> simp; omega
  generalize (n == 0) = dd at *
  clear h1 h2
  go_enter Tryz.func52, Tryz.ntmps52
  go_wp2
  go_ret
  exact ⟨rfl, rfl⟩
theorem gstep_nil (u : Value) (w : World) : Calls Tryz.prog 107 #[.pointer none, u] w fun e w' => e = .returned (.bool true) ∧ w' = w := by
  go_enter Tryz.func107, Tryz.ntmps107
  go_wp2_with (go_at_call 49; refine (gover_nil _).mono ?_; rintro e w1 ⟨rfl, hw⟩; obtain rfl := hw.symm)
  go_ret
  exact ⟨rfl, rfl⟩
theorem sstep_nil (u : Value) (w : World) : Calls Tryz.prog 109 #[.pointer none, u] w fun e w' => e = .returned (.bool true) ∧ w' = w := by
  go_enter Tryz.func109, Tryz.ntmps109
  go_wp2_with (go_at_call 52; refine (sover_nil _).mono ?_; rintro e w1 ⟨rfl, hw⟩; obtain rfl := hw.symm)
  go_ret
  exact ⟨rfl, rfl⟩
theorem gstep_over {w : World} {b : Nat} {word bits : Int} (h : GS w b 224 0 word bits) (u : Value) : Calls Tryz.prog 107 #[.pointer (some ⟨b, 0, none⟩), u] w fun e w' => e = .returned (.bool true) ∧ w' = w := by
  have ho := gover (by decide) h
  rw [show ((0 : Nat) == 0) = true from rfl] at ho
  clear h
  go_enter Tryz.func107, Tryz.ntmps107
  go_wp2_with (go_at_call 49; refine ho.mono ?_; rintro e w1 ⟨rfl, hw⟩; obtain rfl := hw.symm)
  go_ret
  exact ⟨rfl, rfl⟩
theorem sstep_over {w : World} {b : Nat} {word bits : Int} (h : GS w b 228 0 word bits) (u : Value) : Calls Tryz.prog 109 #[.pointer (some ⟨b, 0, none⟩), u] w fun e w' => e = .returned (.bool true) ∧ w' = w := by
  have ho := sover (by decide) h
  rw [show ((0 : Nat) == 0) = true from rfl] at ho
  clear h
  go_enter Tryz.func109, Tryz.ntmps109
  go_wp2_with (go_at_call 52; refine ho.mono ?_; rintro e w1 ⟨rfl, hw⟩; obtain rfl := hw.symm)
  go_ret
  exact ⟨rfl, rfl⟩
theorem gstep_no {w : World} {b n : Nat} {word bits : Int} (hn : n ≤ 2) (h : GS w b 224 n word bits) : Calls Tryz.prog 107 #[.pointer (some ⟨b, 0, none⟩), .pointer none] w fun e w' => e = .returned (.bool (n == 0)) ∧ w' = w := by
  have ho := gover hn h
  generalize (n == 0) = dd at *
  clear h hn
  cases dd
  all_goals
    go_enter Tryz.func107, Tryz.ntmps107
    go_wp2_with (go_at_call 49; refine ho.mono ?_; rintro e w1 ⟨rfl, hw⟩; obtain rfl := hw.symm)
    go_ret
    exact ⟨rfl, rfl⟩
theorem sstep_no {w : World} {b n : Nat} {word bits : Int} (hn : n ≤ 2) (h : GS w b 228 n word bits) : Calls Tryz.prog 109 #[.pointer (some ⟨b, 0, none⟩), .pointer none] w fun e w' => e = .returned (.bool (n == 0)) ∧ w' = w := by
  have ho := sover hn h
  generalize (n == 0) = dd at *
  clear h hn
  cases dd
  all_goals
    go_enter Tryz.func109, Tryz.ntmps109
    go_wp2_with (go_at_call 52; refine ho.mono ?_; rintro e w1 ⟨rfl, hw⟩; obtain rfl := hw.symm)
    go_ret
    exact ⟨rfl, rfl⟩
/-- Is a Grow, a Swap, of a word over at once? -/
def gdead (t : Int) : Bool := asNow t != 0 || asOld t == 12
def sdead (t : Int) : Bool := asNow t == 0
theorem gnew (t : Int) (ht : (Lit.int .u64 t).wf = true) (w : World) : Calls Tryz.prog 47 #[.int .u64 t] w fun e w' => ∃ b, e = .returned (.pointer (some ⟨b, 0, none⟩)) ∧ GS w' b 224 (if gdead t then 0 else 2) (if gdead t then 0 else tword (asOld t) (asOld t + 1)) (if gdead t then 0 else asOld t + 1) ∧ w.heap.size ≤ b ∧ Below w.heap.size w w' := by
  have ha := as_any t ht w
  have hw := fun o n W => word_any o n W
  have hob : 0 ≤ asOld t ∧ asOld t < 256 := by unfold asOld; split <;> omega
  unfold gdead
  clear ht
  generalize asOld t = o at *
  generalize asNow t = n at *
  generalize e1 : (n != 0) = d1 at *
  generalize e2 : (o == 12) = d2 at *
  have hb1 := below_alloc w (.cells #[.slice none 0 0, .int .u64 0, .int .i64 0] 224)
  have hz1 : GS (w.alloc (.cells #[.slice none 0 0, .int .u64 0, .int .i64 0] 224)) w.heap.size 224 0 0 0 := ⟨_, heap_alloc_new w _, none, 0, rfl⟩
  have hb2 := below_alloc w (.cells #[.int .i64 0, .int .i64 1] 225)
  have hz2 := heap_alloc_new w (.cells #[.int .i64 0, .int .i64 1] 225)
  have hsz : (w.alloc (.cells #[.int .i64 0, .int .i64 1] 225)).heap.size = w.heap.size + 1 := by simp
  have B1 := Lib.hid hb1; have Z1 := Lib.hid hz1; have B2 := Lib.hid hb2; have Z2 := Lib.hid hz2
  clear hb1 hz1 hb2 hz2
  cases d1 <;> cases d2
  case false.false =>
    go_enter Tryz.func47, Tryz.ntmps47
    go_wp2_with (first
      | (go_at_call 67; refine ha.mono ?_; rintro e w1 ⟨rfl, hw1⟩; obtain rfl := hw1.symm; clear ha)
      | (go_at_call 15; refine (hw _ _ _).mono ?_; rintro e w1 ⟨rfl, hw1⟩; obtain rfl := hw1.symm))
    go_ret
    first
      | exact ⟨_, rfl, ⟨_, heap_alloc_new _ _, ⟨_, rfl, heap_alloc_old Z2.out⟩⟩, B2.out.size, B2.out.trans ((below_alloc _ _).mono B2.out.size)⟩
      | exact ⟨_, rfl, ⟨_, heap_alloc_at _ _ hsz.symm, ⟨_, rfl, heap_alloc_old Z2.out⟩⟩, Nat.le_succ _, B2.out.trans ((below_alloc _ _).mono B2.out.size)⟩
  all_goals
    go_enter Tryz.func47, Tryz.ntmps47
    go_wp2_with (go_at_call 67; refine ha.mono ?_; rintro e w1 ⟨rfl, hw1⟩; obtain rfl := hw1.symm; clear ha)
    go_ret
    exact ⟨_, rfl, Z1.out, Nat.le_refl _, B1.out⟩
theorem snew (t : Int) (ht : (Lit.int .u64 t).wf = true) (w : World) : Calls Tryz.prog 50 #[.int .u64 t] w fun e w' => ∃ b, e = .returned (.pointer (some ⟨b, 0, none⟩)) ∧ GS w' b 228 (if sdead t then 0 else 1) (if sdead t then 0 else tword (asNow t) 0) (if sdead t then 0 else asNow t) ∧ w.heap.size ≤ b ∧ Below w.heap.size w w' := by
  have ha := as_any t ht w
  have hw := fun o n W => word_any o n W
  unfold sdead
  clear ht
  generalize asOld t = o at *
  generalize asNow t = n at *
  generalize e1 : (n == 0) = d1 at *
  have hb1 := below_alloc w (.cells #[.slice none 0 0, .int .u64 0, .int .i64 0] 228)
  have hz1 : GS (w.alloc (.cells #[.slice none 0 0, .int .u64 0, .int .i64 0] 228)) w.heap.size 228 0 0 0 := ⟨_, heap_alloc_new w _, none, 0, rfl⟩
  have hb2 := below_alloc w (.cells #[.int .i64 1] 225)
  have hz2 := heap_alloc_new w (.cells #[.int .i64 1] 225)
  have hsz : (w.alloc (.cells #[.int .i64 1] 225)).heap.size = w.heap.size + 1 := by simp
  have B1 := Lib.hid hb1; have Z1 := Lib.hid hz1; have B2 := Lib.hid hb2; have Z2 := Lib.hid hz2
  clear hb1 hz1 hb2 hz2
  cases d1
  case false =>
    go_enter Tryz.func50, Tryz.ntmps50
    go_wp2_with (first
      | (go_at_call 67; refine ha.mono ?_; rintro e w1 ⟨rfl, hw1⟩; obtain rfl := hw1.symm; clear ha)
      | (go_at_call 15; refine (hw _ _ _).mono ?_; rintro e w1 ⟨rfl, hw1⟩; obtain rfl := hw1.symm))
    go_ret
    first
      | exact ⟨_, rfl, ⟨_, heap_alloc_new _ _, ⟨_, _, _, rfl, heap_alloc_old Z2.out, rfl⟩⟩, B2.out.size, B2.out.trans ((below_alloc _ _).mono B2.out.size)⟩
      | exact ⟨_, rfl, ⟨_, heap_alloc_at _ _ hsz.symm, ⟨_, _, _, rfl, heap_alloc_old Z2.out, rfl⟩⟩, Nat.le_succ _, B2.out.trans ((below_alloc _ _).mono B2.out.size)⟩
  all_goals
    go_enter Tryz.func50, Tryz.ntmps50
    go_wp2_with (go_at_call 67; refine ha.mono ?_; rintro e w1 ⟨rfl, hw1⟩; obtain rfl := hw1.symm; clear ha)
    go_ret
    exact ⟨_, rfl, Z1.out, Nat.le_refl _, B1.out⟩
theorem asNow_nn (t : Int) : 0 ≤ asNow t := by unfold asNow; split <;> omega
theorem rgnew (t : Int) (ht : 0 ≤ t ∧ t < 18446744073709551616) (w : World) : Calls Tryz.prog 48 #[.int .u64 t] w fun e w' => ∃ b, e = .returned (.pointer (some ⟨b, 0, none⟩)) ∧ w'.heap[b]? = some (.cells (if gdead t then #[.int .i64 0, .int .i64 0] else #[.int .i64 1, .int .i64 (asOld t)]) 136 (0, 0)) ∧ w.heap.size ≤ b ∧ Below w.heap.size w w' := by
  have ha := ras_any t ht.1 ht.2 w
  have hnn := asNow_nn t
  unfold gdead
  clear ht
  generalize asOld t = o at *
  generalize asNow t = n at *
  have e0 : decide (0 < n) = (n != 0) := by
    by_cases h : n = 0
    · subst h; rfl
    · rw [bne_iff_ne.2 h, decide_eq_true (by omega)]
  generalize (n != 0) = d1 at *
  generalize e2 : (o == 12) = d2 at *
  have B1 := fun cs => Lib.hid (below_alloc w (.cells cs 136)); have Z1 := fun cs => Lib.hid (heap_alloc_new w (.cells cs 136))
  clear hnn
  cases d1 <;> cases d2
  all_goals
    go_enter Tryz.func48, Tryz.ntmps48
    go_wp2_with (go_at_call 105; refine ha.mono ?_; rintro e w1 ⟨rfl, hw1⟩; obtain rfl := hw1.symm; clear ha)
    go_ret
    exact ⟨_, rfl, (Z1 _).out, Nat.le_refl _, (B1 _).out⟩
theorem rsnew (t : Int) (ht : 0 ≤ t ∧ t < 18446744073709551616) (w : World) : Calls Tryz.prog 51 #[.int .u64 t] w fun e w' => ∃ b, e = .returned (.pointer (some ⟨b, 0, none⟩)) ∧ w'.heap[b]? = some (.cells (if sdead t then #[.int .i64 0, .int .i64 0] else #[.int .i64 1, .int .i64 (asNow t)]) 140 (0, 0)) ∧ w.heap.size ≤ b ∧ Below w.heap.size w w' := by
  have ha := ras_any t ht.1 ht.2 w
  unfold sdead
  clear ht
  generalize asOld t = o at *
  generalize asNow t = n at *
  generalize e1 : (n == 0) = d1 at *
  have B1 := fun cs => Lib.hid (below_alloc w (.cells cs 140)); have Z1 := fun cs => Lib.hid (heap_alloc_new w (.cells cs 140))
  cases d1
  all_goals
    go_enter Tryz.func51, Tryz.ntmps51
    go_wp2_with (go_at_call 105; refine ha.mono ?_; rintro e w1 ⟨rfl, hw1⟩; obtain rfl := hw1.symm; clear ha)
    go_ret
    exact ⟨_, rfl, (Z1 _).out, Nat.le_refl _, (B1 _).out⟩
end Go.Proofs.YthehdcpjlddbpaaGreat

/-
  Grows: a step in a world. (written by gengrow.py)
-/
namespace Go.Proofs.YthehdcpjlddbpaaGreat
open Go.RowKit Go.Maps
set_option linter.unusedVariables false

theorem ws_set4 {w0 w : World} {B : WB} {V : WV} {s : CS} {b o : Nat} {cs : Array Value} {T : TypeId} (h : WS w0 w B V s) (hb : w.heap[b]? = some (.cells cs T (0, 0))) (hT : wTy T = false) (hlo : w0.heap.size ≤ b) (v : Value) : WS w0 (w.setCell ⟨b, o, none⟩ v) B V s :=
  h.fr (set_ty hb o v) (fun X hX => by cases hXT : (X == T); rfl; rw [beq_iff_eq] at hXT; subst hXT; rw [hX] at hT; cases hT) (set_below h.below h.below.size hlo o v)
theorem wu_of_wf {v : Int} (h : 0 ≤ v ∧ v < 18446744073709551616) : (Lit.int .u64 v).wf = true := bd_wf h

set_option maxRecDepth 10000 in
set_option maxHeartbeats 1000000 in
theorem gwork2 {w0 w : World} {B : WB} {V : WV} {s : CS} {b : Nat} {word bits : Int} (h : WS w0 w B V s) (hr : s.room) (hlo : w0.heap.size ≤ b) (hG : GS w b 224 2 word bits) :
    Calls Tryz.prog 154 #[.pointer (some ⟨b, 0, none⟩), .pointer (some ⟨B.wb, 0, none⟩)] w fun e w' => e = .returned (.tuple #[]) ∧ WS w0 w' B V (s.acc 2 3 0) ∧ GS w' b 224 1 word bits ∧ Fx wTy true b w w' := by
  obtain ⟨v, hb, g, rfl, hg⟩ := hG
  have c0 := hcell hb 0
  have g0 := hcell hg 0
  have x0 := h.hd5.1
  have hst := h.store hr 3 (by decide) 0 (by decide)
  have HB := Lib.hid hb; have HG := Lib.hid hg
  clear h hr hb hg
  go_enter Tryz.func154, Tryz.ntmps154
  go_upto_region 7 with (go_at_call 87; refine hst.mono ?_; intro e w2 hh; obtain ⟨hh1, h2, f2⟩ := hh; subst hh1; have H2 := Lib.hid h2; have F2 := Lib.hid f2; clear h2 f2 hst c0 g0 x0)
  have hb2 := F2.out.cells _ _ _ _ HB.out rfl
  have hg2 := F2.out.cells _ _ _ _ HG.out rfl
  have c0 := hcell hb2 0
  have cf := hfrz hb2 0
  have HB2 := Lib.hid hb2; have HG2 := Lib.hid hg2
  clear hb2 hg2
  go_wp2_with fail
  go_end0
  have s1 := setCell_same HB2.out 0 (.slice (some ⟨g, 1, none⟩) 1 1)
  have ft := set_ty HB2.out 0 (.slice (some ⟨g, 1, none⟩) 1 1)
  exact ⟨rfl, ws_set4 H2.out HB2.out rfl hlo _, ⟨_, s1, g, 1, _, rfl, ft.cells _ _ _ _ HG2.out rfl, rfl⟩, (F2.out.fx b).trans (set_fx _ _ _ _ _ _)⟩

theorem gkind (w : World) : Calls Tryz.prog 240 #[.agg #[]] w fun e w' => e = .returned (.int .u8 4) ∧ Below w.heap.size w w' := by
  have hb := below_alloc w (.cells #[] 273)
  go_enter Tryz.func240, Tryz.ntmps240
  go_wp2
  go_ret
  exact ⟨rfl, hb⟩
set_option maxRecDepth 10000 in
set_option maxHeartbeats 2000000 in
theorem gwork1 {w0 w : World} {B : WB} {V : WV} {s : CS} {b : Nat} {word bits : Int} (h : WS w0 w B V s) (hr : s.room) (hlo : w0.heap.size ≤ b) (hwd : (Lit.int .u64 word).wf = true) (hl : V.nts.length < 1048576) (hs : Nsteps V.nts s.cnt) (hG : GS w b 224 1 word bits) :
    Calls Tryz.prog 154 #[.pointer (some ⟨b, 0, none⟩), .pointer (some ⟨B.wb, 0, none⟩)] w fun e w' => e = .returned (.tuple #[]) ∧ WS w0 w' B { V with nts := nadd V.nts ⟨((s.cnt + 1 : Nat) : Int), V.hd, 4, 0, 0, 0, 0, bits⟩ } (s.acc 2 2 word) ∧ GS w' b 224 0 word bits ∧ Fx wTy true b w w' := by
  obtain ⟨v, hb, g, ofs, cs, rfl, hg, hgo⟩ := hG
  have c0 := hcell hb 0
  have g0 := (hcell hg ofs).trans hgo
  have x0 : ∀ st : ExtW w, st.val.cell? ⟨B.wb, 0, none⟩ = some (.pointer (some ⟨B.cb, 0, none⟩)) := fun st => st.cell h.hd5.1
  have x1 : ∀ st : ExtW w, st.val.cell? ⟨b, 1, none⟩ = some (.int .u64 word) := fun st => st.cell (hcell hb 1)
  have H := Lib.hid h; have HR := Lib.hid hr; have HB := Lib.hid hb; have HW := Lib.hid hwd; have HL := Lib.hid hl; have HS := Lib.hid hs
  clear h hr hb hg hgo hwd hl hs
  go_enter Tryz.func154, Tryz.ntmps154
  go_upto_region 4 with (fail)
  clear c0 g0
  refine wp_region_ext_tail 8 (by kernel_rfl) (by kernel_rfl) ?_
  simp only [List.take_succ_cons, List.take_zero, List.drop_succ_cons, List.drop_zero]
  repeat (go_big_quiet_step (fail))
  refine wpQuiet_nil ?_
  rintro W ⟨⟨W2, hW⟩, rfl⟩
  clear x0 x1
  have hst := (H.out.keep hW).store HR.out 2 (by decide) word HW.out
  have hb1 := (hW.block _ (Array.getElem?_eq_some_iff.1 HB.out).1).trans HB.out
  have HB1 := Lib.hid hb1; have HWX := Lib.hid (below_fr hW wTy true)
  clear hW hb1
  go_upto_region 5 with (go_at_call 87; refine hst.mono ?_; intro e w2 hh; obtain ⟨hh1, h2, f2⟩ := hh; subst hh1; have H2 := Lib.hid h2; have F2 := Lib.hid (HWX.out.trans f2); have HB2 := Lib.hid (f2.cells _ _ _ _ HB1.out rfl); clear h2 f2 hst)
  have hba := below_alloc w2 (.cells #[] 273)
  have hza := heap_alloc_new w2 (.cells #[] 273)
  have H3 := Lib.hid (H2.out.keep hba); have F3 := Lib.hid (F2.out.trans (below_fr hba wTy true)); have HB3 := Lib.hid ((hba.block _ (Array.getElem?_eq_some_iff.1 HB2.out).1).trans HB2.out)
  clear hba hza H2 F2 HB2
  go_upto_region 6 with (fail)
  change Code.wp _ _ _ _ (w2.alloc (.cells #[] 273))
  generalize w2.alloc (.cells #[] 273) = w3 at *
  have x2 : ∀ st : ExtW w3, st.val.cell? ⟨b, 2, none⟩ = some (.int .i64 bits) := fun st => st.cell (hcell HB3.out 2)
  have hk : ∀ st : ExtW w3, Calls Tryz.prog 240 #[.agg #[]] st.val fun e w' => e = .returned (.int .u8 4) ∧ Below st.val.heap.size st.val w' := fun st => gkind st.val
  have hmo : ∀ (n : Nat) (W : World), (Go.method (n + 1) 273 (.agg #[]) "nestbox/grows.kind").run Tryz.prog W = .ok (240, .agg #[]) W := fun n W => by kernel_rfl
  refine wp_region_ext_tail 9 (by kernel_rfl) (by kernel_rfl) ?_
  simp only [List.take_succ_cons, List.take_zero, List.drop_succ_cons, List.drop_zero]
  repeat (go_big_quiet_step ((go_at_call 240; with_reducible refine calls_ext (hk _))))
  refine wpQuiet_nil ?_
  rintro W4 ⟨⟨W5, hW4⟩, rfl⟩
  clear x2 hk hmo
  have hnt := wnote_any (H3.out.keep hW4) 4 0 0 0 0 bits HL.out (by decide) (HS.out.le (by simp only [CS.acc]; omega))
  have HB4 := Lib.hid ((hW4.block _ (Array.getElem?_eq_some_iff.1 HB3.out).1).trans HB3.out); have F4 := Lib.hid (F3.out.trans (below_fr hW4 wTy true))
  clear hW4
  go_upto_region 7 with (go_at_call 187; refine hnt.mono ?_; intro e w6 hh; obtain ⟨hh1, h6, f6⟩ := hh; subst hh1; have H6 := Lib.hid h6; have F6 := Lib.hid (F4.out.trans f6); have HB6 := Lib.hid (f6.cells _ _ _ _ HB4.out rfl); clear h6 f6 hnt)
  have c0 := hcell HB6.out 0
  have cf := hfrz HB6.out 0
  go_wp2_with fail
  go_end0
  exact ⟨rfl, ws_set4 H6.out HB6.out rfl hlo _, ⟨_, setCell_same HB6.out 0 _, _, _, rfl⟩, (F6.out.fx b).trans (set_fx _ _ _ _ _ _)⟩

theorem skind (w : World) : Calls Tryz.prog 241 #[.agg #[]] w fun e w' => e = .returned (.int .u8 5) ∧ Below w.heap.size w w' := by
  have hb := below_alloc w (.cells #[] 274)
  go_enter Tryz.func241, Tryz.ntmps241
  go_wp2
  go_ret
  exact ⟨rfl, hb⟩
set_option maxRecDepth 10000 in
set_option maxHeartbeats 2000000 in
theorem swork1 {w0 w : World} {B : WB} {V : WV} {s : CS} {b : Nat} {word bits : Int} (h : WS w0 w B V s) (hr : s.room) (hlo : w0.heap.size ≤ b) (hwd : (Lit.int .u64 word).wf = true) (hl : V.nts.length < 1048576) (hs : Nsteps V.nts s.cnt) (hG : GS w b 228 1 word bits) :
    Calls Tryz.prog 155 #[.pointer (some ⟨b, 0, none⟩), .pointer (some ⟨B.wb, 0, none⟩)] w fun e w' => e = .returned (.tuple #[]) ∧ WS w0 w' B { V with nts := nadd V.nts ⟨((s.cnt + 1 : Nat) : Int), V.hd, 5, 0, 0, 0, 0, bits⟩ } (s.acc 2 2 word) ∧ GS w' b 228 0 word bits ∧ Fx wTy true b w w' := by
  obtain ⟨v, hb, g, ofs, cs, rfl, hg, hgo⟩ := hG
  have c0 := hcell hb 0
  have g0 := (hcell hg ofs).trans hgo
  have x0 : ∀ st : ExtW w, st.val.cell? ⟨B.wb, 0, none⟩ = some (.pointer (some ⟨B.cb, 0, none⟩)) := fun st => st.cell h.hd5.1
  have x1 : ∀ st : ExtW w, st.val.cell? ⟨b, 1, none⟩ = some (.int .u64 word) := fun st => st.cell (hcell hb 1)
  have H := Lib.hid h; have HR := Lib.hid hr; have HB := Lib.hid hb; have HW := Lib.hid hwd; have HL := Lib.hid hl; have HS := Lib.hid hs
  clear h hr hb hg hgo hwd hl hs
  go_enter Tryz.func155, Tryz.ntmps155
  go_upto_region 4 with (fail)
  clear c0 g0
  refine wp_region_ext_tail 8 (by kernel_rfl) (by kernel_rfl) ?_
  simp only [List.take_succ_cons, List.take_zero, List.drop_succ_cons, List.drop_zero]
  repeat (go_big_quiet_step (fail))
  refine wpQuiet_nil ?_
  rintro W ⟨⟨W2, hW⟩, rfl⟩
  clear x0 x1
  have hst := (H.out.keep hW).store HR.out 2 (by decide) word HW.out
  have hb1 := (hW.block _ (Array.getElem?_eq_some_iff.1 HB.out).1).trans HB.out
  have HB1 := Lib.hid hb1; have HWX := Lib.hid (below_fr hW wTy true)
  clear hW hb1
  go_upto_region 5 with (go_at_call 87; refine hst.mono ?_; intro e w2 hh; obtain ⟨hh1, h2, f2⟩ := hh; subst hh1; have H2 := Lib.hid h2; have F2 := Lib.hid (HWX.out.trans f2); have HB2 := Lib.hid (f2.cells _ _ _ _ HB1.out rfl); clear h2 f2 hst)
  have hba := below_alloc w2 (.cells #[] 274)
  have hza := heap_alloc_new w2 (.cells #[] 274)
  have H3 := Lib.hid (H2.out.keep hba); have F3 := Lib.hid (F2.out.trans (below_fr hba wTy true)); have HB3 := Lib.hid ((hba.block _ (Array.getElem?_eq_some_iff.1 HB2.out).1).trans HB2.out)
  clear hba hza H2 F2 HB2
  go_upto_region 6 with (fail)
  change Code.wp _ _ _ _ (w2.alloc (.cells #[] 274))
  generalize w2.alloc (.cells #[] 274) = w3 at *
  have x2 : ∀ st : ExtW w3, st.val.cell? ⟨b, 2, none⟩ = some (.int .i64 bits) := fun st => st.cell (hcell HB3.out 2)
  have hk : ∀ st : ExtW w3, Calls Tryz.prog 241 #[.agg #[]] st.val fun e w' => e = .returned (.int .u8 5) ∧ Below st.val.heap.size st.val w' := fun st => skind st.val
  have hmo : ∀ (n : Nat) (W : World), (Go.method (n + 1) 274 (.agg #[]) "nestbox/grows.kind").run Tryz.prog W = .ok (241, .agg #[]) W := fun n W => by kernel_rfl
  refine wp_region_ext_tail 9 (by kernel_rfl) (by kernel_rfl) ?_
  simp only [List.take_succ_cons, List.take_zero, List.drop_succ_cons, List.drop_zero]
  repeat (go_big_quiet_step ((go_at_call 241; with_reducible refine calls_ext (hk _))))
  refine wpQuiet_nil ?_
  rintro W4 ⟨⟨W5, hW4⟩, rfl⟩
  clear x2 hk hmo
  have hnt := wnote_any (H3.out.keep hW4) 5 0 0 0 0 bits HL.out (by decide) (HS.out.le (by simp only [CS.acc]; omega))
  have HB4 := Lib.hid ((hW4.block _ (Array.getElem?_eq_some_iff.1 HB3.out).1).trans HB3.out); have F4 := Lib.hid (F3.out.trans (below_fr hW4 wTy true))
  clear hW4
  go_upto_region 7 with (go_at_call 187; refine hnt.mono ?_; intro e w6 hh; obtain ⟨hh1, h6, f6⟩ := hh; subst hh1; have H6 := Lib.hid h6; have F6 := Lib.hid (F4.out.trans f6); have HB6 := Lib.hid (f6.cells _ _ _ _ HB4.out rfl); clear h6 f6 hnt)
  have c0 := hcell HB6.out 0
  have cf := hfrz HB6.out 0
  go_wp2_with fail
  go_end0
  exact ⟨rfl, ws_set4 H6.out HB6.out rfl hlo _, ⟨_, setCell_same HB6.out 0 _, _, _, rfl⟩, (F6.out.fx b).trans (set_fx _ _ _ _ _ _)⟩

set_option maxRecDepth 10000 in
set_option maxHeartbeats 1000000 in
theorem gstep2 {w0 w : World} {B : WB} {V : WV} {s : CS} {b : Nat} {word bits : Int} (h : WS w0 w B V s) (hr : s.room) (hlo : w0.heap.size ≤ b) (hG : GS w b 224 2 word bits) :
    Calls Tryz.prog 107 #[.pointer (some ⟨b, 0, none⟩), .pointer (some ⟨B.wb, 0, none⟩)] w fun e w' => e = .returned (.bool false) ∧ WS w0 w' B V (s.acc 2 3 0) ∧ GS w' b 224 1 word bits ∧ Fx wTy true b w w' := by
  have ho := gover (by decide) hG
  have hwk := gwork2 h hr hlo hG
  rw [show ((2 : Nat) == 0) = false from rfl] at ho
  clear h hr hG
  go_enter Tryz.func107, Tryz.ntmps107
  go_wp2_with (first
    | (go_at_call 49; refine ho.mono ?_; intro e w1 hh; obtain ⟨hh1, hh2⟩ := hh; subst hh1; obtain rfl := hh2.symm; clear ho)
    | (go_at_call 154; refine hwk.mono ?_; intro e w2 hh; obtain ⟨hh1, h2, g2, f2⟩ := hh; subst hh1; have ho2 := gover (by decide) g2; rw [show ((1 : Nat) == 0) = false from rfl] at ho2; have H2 := Lib.hid h2; have G2 := Lib.hid g2; have F2 := Lib.hid f2; clear h2 g2 f2 hwk)
    | (go_at_call 49; refine ho2.mono ?_; intro e w3 hh; obtain ⟨hh1, hh2⟩ := hh; subst hh1; obtain rfl := hh2.symm))
  go_ret
  exact ⟨rfl, H2.out, G2.out, F2.out⟩

set_option maxRecDepth 10000 in
set_option maxHeartbeats 1000000 in
theorem gstep1 {w0 w : World} {B : WB} {V : WV} {s : CS} {b : Nat} {word bits : Int} (h : WS w0 w B V s) (hr : s.room) (hlo : w0.heap.size ≤ b) (hwd : (Lit.int .u64 word).wf = true) (hl : V.nts.length < 1048576) (hs : Nsteps V.nts s.cnt) (hG : GS w b 224 1 word bits) :
    Calls Tryz.prog 107 #[.pointer (some ⟨b, 0, none⟩), .pointer (some ⟨B.wb, 0, none⟩)] w fun e w' => e = .returned (.bool true) ∧ WS w0 w' B { V with nts := nadd V.nts ⟨((s.cnt + 1 : Nat) : Int), V.hd, 4, 0, 0, 0, 0, bits⟩ } (s.acc 2 2 word) ∧ GS w' b 224 0 word bits ∧ Fx wTy true b w w' := by
  have ho := gover (by decide) hG
  have hwk := gwork1 h hr hlo hwd hl hs hG
  rw [show ((1 : Nat) == 0) = false from rfl] at ho
  clear h hr hG
  go_enter Tryz.func107, Tryz.ntmps107
  go_wp2_with (first
    | (go_at_call 49; refine ho.mono ?_; intro e w1 hh; obtain ⟨hh1, hh2⟩ := hh; subst hh1; obtain rfl := hh2.symm; clear ho)
    | (go_at_call 154; refine hwk.mono ?_; intro e w2 hh; obtain ⟨hh1, h2, g2, f2⟩ := hh; subst hh1; have ho2 := gover (by decide) g2; rw [show ((0 : Nat) == 0) = true from rfl] at ho2; have H2 := Lib.hid h2; have G2 := Lib.hid g2; have F2 := Lib.hid f2; clear h2 g2 f2 hwk)
    | (go_at_call 49; refine ho2.mono ?_; intro e w3 hh; obtain ⟨hh1, hh2⟩ := hh; subst hh1; obtain rfl := hh2.symm))
  go_ret
  exact ⟨rfl, H2.out, G2.out, F2.out⟩

set_option maxRecDepth 10000 in
set_option maxHeartbeats 1000000 in
theorem sstep1 {w0 w : World} {B : WB} {V : WV} {s : CS} {b : Nat} {word bits : Int} (h : WS w0 w B V s) (hr : s.room) (hlo : w0.heap.size ≤ b) (hwd : (Lit.int .u64 word).wf = true) (hl : V.nts.length < 1048576) (hs : Nsteps V.nts s.cnt) (hG : GS w b 228 1 word bits) :
    Calls Tryz.prog 109 #[.pointer (some ⟨b, 0, none⟩), .pointer (some ⟨B.wb, 0, none⟩)] w fun e w' => e = .returned (.bool true) ∧ WS w0 w' B { V with nts := nadd V.nts ⟨((s.cnt + 1 : Nat) : Int), V.hd, 5, 0, 0, 0, 0, bits⟩ } (s.acc 2 2 word) ∧ GS w' b 228 0 word bits ∧ Fx wTy true b w w' := by
  have ho := sover (by decide) hG
  have hwk := swork1 h hr hlo hwd hl hs hG
  rw [show ((1 : Nat) == 0) = false from rfl] at ho
  clear h hr hG
  go_enter Tryz.func109, Tryz.ntmps109
  go_wp2_with (first
    | (go_at_call 52; refine ho.mono ?_; intro e w1 hh; obtain ⟨hh1, hh2⟩ := hh; subst hh1; obtain rfl := hh2.symm; clear ho)
    | (go_at_call 155; refine hwk.mono ?_; intro e w2 hh; obtain ⟨hh1, h2, g2, f2⟩ := hh; subst hh1; have ho2 := sover (by decide) g2; rw [show ((0 : Nat) == 0) = true from rfl] at ho2; have H2 := Lib.hid h2; have G2 := Lib.hid g2; have F2 := Lib.hid f2; clear h2 g2 f2 hwk)
    | (go_at_call 52; refine ho2.mono ?_; intro e w3 hh; obtain ⟨hh1, hh2⟩ := hh; subst hh1; obtain rfl := hh2.symm))
  go_ret
  exact ⟨rfl, H2.out, G2.out, F2.out⟩

end Go.Proofs.YthehdcpjlddbpaaGreat

/-
  The document's notes: List.Add, and its world's note.
-/
namespace Go.Proofs.YthehdcpjlddbpaaGreat
open Go.RowKit Go.Maps
set_option linter.unusedVariables false

theorem rinfo_note : (Tryz.prog.info? 216).map (fun i => (i.zero, i.size, i.bytes)) = some (some (.agg #[.int .i64 0, .int .i64 0, .int .i64 0, .int .i64 0, .int .i64 0, .int .i64 0, .int .i64 0, .int .i64 0]), 8, 64) := by kernel_rfl
def rnTy (T : TypeId) : Bool := T == 211 || T == 216
theorem rnTy_l (T : TypeId) (h : rnTy T = false) : (T == 211) = false := by unfold rnTy at h; simp only [Bool.or_eq_false_iff] at h; exact h.1
theorem rnTy_n (T : TypeId) (h : rnTy T = false) : (T == 216) = false := by unfold rnTy at h; simp only [Bool.or_eq_false_iff] at h; exact h.2
theorem rnte_at (l : List Nte) (k : Nat) (hk : k < l.length) (j : Nat) (hj : j < 8) : (l.flatMap (nteC .i64))[k * 8 + j]? = (nteC .i64 l[k])[j]? := by
  induction l generalizing k with
  | nil => simp at hk
  | cons x r ih =>
    rw [List.flatMap_cons]
    match k with
    | 0 =>
      rw [List.getElem?_append_left (by simp [nteC]; omega)]
      simp
    | k + 1 =>
      rw [List.getElem?_append_right (by simp [nteC]; omega)]
      have := ih k (by simp at hk; omega)
      simp only [List.getElem_cons_succ]
      rw [← this]
      congr 1
      simp [nteC]; omega
theorem rrow8_at {w : World} {base : Nat} {a : Option Addr} {cap : Nat} {l : List Nte} (h : w.ownsRow base 216 8 (.slice a l.length cap) l.length (l.flatMap (nteC .i64))) (k : Nat) (hk : k < l.length) :
    ∃ g, a = some ⟨g, 0, none⟩ ∧ ∀ j, j < 8 → w.cell? ⟨g, k * 8 + j, none⟩ = (nteC .i64 l[k])[j]? := by
  obtain ⟨h1, ⟨h2, h0⟩ | ⟨g, cap', cur, hv, hb, hg, hn, hm, hs, ht⟩⟩ := h
  · omega
  · simp only [Value.slice.injEq] at hv
    refine ⟨g, hv.1, fun j hj => ?_⟩
    rw [hcell hg, ← rnte_at l k hk j hj, ← ht, List.getElem?_take, if_pos (by omega)]
    simp
set_option maxRecDepth 10000 in
set_option maxHeartbeats 2000000 in
theorem rladd_no {w : World} {nb : Nat} {n : Nte} (hk : n.kind < 1 ∨ 9 < n.kind) :
    Calls Tryz.prog 186 #[.pointer (some ⟨nb, 0, none⟩), .agg (nteC .i64 n).toArray] w fun e w' => (∃ k, e = .returned (.int .i64 k)) ∧ Below w.heap.size w w' := by
  have hb := below_alloc w (.cells (nteC .i64 n).toArray 216)
  have hz := heap_alloc_new w (.cells (nteC .i64 n).toArray 216)
  have HB := Lib.hid hb; have HZ := Lib.hid hz; have HK := Lib.hid hk
  clear hb hz hk
  go_enter Tryz.func186, Tryz.ntmps186
  go_upto_region 1 with (fail)
  change Code.wp _ _ _ _ (w.alloc (.cells (nteC .i64 n).toArray 216))
  generalize w.alloc (.cells (nteC .i64 n).toArray 216) = w1 at *
  have z2 : w1.cell? ⟨w.heap.size, 2, none⟩ = some (.int .i64 n.kind) := hcell HZ.out 2
  rcases HK.out with hk | hk
  · have d1 : decide (n.kind < 1) = true := decide_eq_true hk
    go_wp2
    go_ret
    exact ⟨⟨_, rfl⟩, HB.out⟩
  · have d1 : decide (n.kind < 1) = false := decide_eq_false (by omega)
    have d2 : decide (9 < n.kind) = true := decide_eq_true hk
    go_wp2
    go_ret
    exact ⟨⟨_, rfl⟩, HB.out⟩
set_option maxRecDepth 10000 in
set_option maxHeartbeats 4000000 in
theorem rladd_ok {w0 w : World} {base nb : Nat} {l : List Nte} {n : Nte} (h : NL w base nb 211 216 .i64 l) (hB : Below base w0 w) (hsz : base ≤ w.heap.size) (hl : l.length < 1048576) (hk : 1 ≤ n.kind ∧ n.kind ≤ 9) (hs : ∀ y, l.getLast? = some y → y.step ≤ n.step) :
    Calls Tryz.prog 186 #[.pointer (some ⟨nb, 0, none⟩), .agg (nteC .i64 n).toArray] w fun e w' => (∃ k, e = .returned (.int .i64 k)) ∧ NL w' base nb 211 216 .i64 (l ++ [n]) ∧ Fr rnTy false w w' ∧ Below base w0 w' := by
  obtain ⟨i0, hi0, hz0, hz1, hz2⟩ := info_parts rinfo_note
  have HI := Lib.hid hi0; have HZ0 := Lib.hid hz0; have HZ1 := Lib.hid hz1; have HZ2 := Lib.hid hz2
  have hb := below_alloc w (.cells (nteC .i64 n).toArray 216)
  have hz := heap_alloc_new w (.cells (nteC .i64 n).toArray 216)
  have h1 := h.fr (below_fr hb (fun _ => false) false) rfl rfl
  have HBB : Hid (Below base w0 (w.alloc (.cells (nteC .i64 n).toArray 216))) := hB.trans (hb.mono hsz)
  have HSZ : Hid (base ≤ (w.alloc (.cells (nteC .i64 n).toArray 216)).heap.size) := Nat.le_trans hsz hb.size
  have HB := Lib.hid hb; have H1 := Lib.hid h1; have HZ := Lib.hid hz; have HL := Lib.hid hl; have HK := Lib.hid hk; have HS := Lib.hid hs
  clear h hb hz h1 hl hk hs hi0 hz0 hz1 hz2 hB hsz
  go_enter Tryz.func186, Tryz.ntmps186
  go_upto_region 1 with (fail)
  change Code.wp _ _ _ _ (w.alloc (.cells (nteC .i64 n).toArray 216))
  generalize w.alloc (.cells (nteC .i64 n).toArray 216) = w1 at *
  have z2 := hcell HZ.out 2
  have dk1 : decide (n.kind < 1) = false := decide_eq_false (by have := HK.out; omega)
  have dk2 : decide (9 < n.kind) = false := decide_eq_false (by have := HK.out; omega)
  have z2' : w1.cell? ⟨w.heap.size, 2, none⟩ = some (.int .i64 n.kind) := z2
  clear z2
  go_upto_region 3 with (fail)
  clear dk1 dk2 z2'
  have HFC0 : Hid (Fr rnTy false w w1) := below_fr HB.out _ _
  clear HB
  generalize w.heap.size = nq at *
  go_cut [36] (fun v wx => v = .bool false ∧ Below w1.heap.size w1 wx)
  case first =>
    obtain ⟨v0, hb1, hb2, hrow⟩ := H1.out
    obtain ⟨a, cap, rfl⟩ := own_sl2 hrow
    have c0 := hcell hb1 0
    clear hb1 hb2
    have hk := HK.out
    have hl := HL.out
    have x0 : ∀ st : ExtW w1, st.val.cell? ⟨nq, 0, none⟩ = some (.int .i64 n.step) := fun st => st.cell (hcell HZ.out 0)
    have y0 : ∀ st : ExtW w1, st.val.cell? ⟨nb, 0, none⟩ = some (.slice a l.length cap) := fun st => st.cell c0
    by_cases h0 : l.length = 0
    · have e0 : decide ((0 : Int) < l.length) = false := decide_eq_false (by omega)
      have e0n : decide (0 < l.length) = false := decide_eq_false (by omega)
      clear hrow c0 hk hl h0
      refine wp_region_ext (by kernel_rfl) (by kernel_rfl) ?_
      repeat (go_big_quiet_step (fail))
      refine wpQuiet_nil ?_
      rintro W ⟨⟨W2, hW⟩, rfl⟩
      clear x0 y0
      have HW := Lib.hid hW
      go_wp2_with fail
      go_meet
      case rel => exact ⟨rfl, HW.out⟩
    · obtain ⟨k, hk1⟩ : ∃ k, l.length = k + 1 := ⟨l.length - 1, by omega⟩
      have hkl : k < l.length := by omega
      obtain ⟨g, rfl, hcs⟩ := rrow8_at hrow k hkl
      have hst : (l[k]).step ≤ n.step := HS.out _ (by rw [List.getLast?_eq_getElem?, show l.length - 1 = k by omega]; exact List.getElem?_eq_getElem hkl)
      have y1 : ∀ st : ExtW w1, st.val.cell? ⟨g, k * 8, none⟩ = some (.int .i64 (l[k]).step) := fun st => st.cell (hcs 0 (by omega))
      generalize (l[k]).step = ys at *
      clear hrow c0 hk hcs hkl h0
      generalize l.length = L at *
      subst hk1
      have e0 : decide ((0 : Int) < ((k + 1 : Nat) : Int)) = true := decide_eq_true (by omega)
      have e0n : decide (0 < k + 1) = true := decide_eq_true (by omega)
      have d3 : decide (n.step < ys) = false := decide_eq_false (by omega)
      clear hst
      refine wp_region_ext (by kernel_rfl) (by kernel_rfl) ?_
      repeat (go_big_quiet_step (fail))
      refine wpQuiet_nil ?_
      rintro W ⟨⟨W2, hW⟩, rfl⟩
      clear x0 y0 y1
      have HW := Lib.hid hW
      go_wp2_with fail
      go_meet
      case rel => exact ⟨rfl, HW.out⟩
  case rest =>
  obtain ⟨hcv, hbx⟩ := hcut
  subst hcv
  have hnl := H1.out.fr (below_fr hbx (fun _ => false) false) rfl rfl
  have hnq := (hbx.block _ (Array.getElem?_eq_some_iff.1 HZ.out).1).trans HZ.out
  obtain ⟨v, hl1, hl2, hl3⟩ := hnl
  obtain ⟨ao, cap, rfl⟩ := own_sl2 hl3
  have hqlt := (Array.getElem?_eq_some_iff.1 hl1).1
  have hnlt := (Array.getElem?_eq_some_iff.1 hnq).1
  have l0 := hcell hl1 0
  have lf := hfrz hl1 0
  have l0' : ∀ o, (wc.alloc o).cell? ⟨nb, 0, none⟩ = some (.slice ao l.length cap) := fun o => by rw [World.cell?_alloc_past _ _ _ hqlt]; exact l0
  have lf' : ∀ o, (wc.alloc o).frozen? ⟨nb, 0, none⟩ = false := fun o => by rw [World.frozen?_alloc_past _ _ _ hqlt]; exact lf
  have hl := HL.out
  have dm : decide ((1048576 : Int) ≤ l.length) = false := decide_eq_false (by omega)
  have k0 : wc.cell? ⟨nq, 0, none⟩ = some (.int .i64 n.step) := hcell hnq 0
  have k1 : wc.cell? ⟨nq, 1, none⟩ = some (.int .i64 n.thread) := hcell hnq 1
  have k2 : wc.cell? ⟨nq, 2, none⟩ = some (.int .i64 n.kind) := hcell hnq 2
  have k3 : wc.cell? ⟨nq, 3, none⟩ = some (.int .i64 n.ref) := hcell hnq 3
  have k4 : wc.cell? ⟨nq, 4, none⟩ = some (.int .i64 n.bits) := hcell hnq 4
  have k5 : wc.cell? ⟨nq, 5, none⟩ = some (.int .i64 n.bucket) := hcell hnq 5
  have k6 : wc.cell? ⟨nq, 6, none⟩ = some (.int .i64 n.slot) := hcell hnq 6
  have k7 : wc.cell? ⟨nq, 7, none⟩ = some (.int .i64 n.value) := hcell hnq 7
  have E2 : Hid (l.length + 1 ≤ maxLen) := by unfold maxLen; show l.length + 1 ≤ _; omega
  have E3 : Hid ((l.length + 1) * 64 ≤ 140737488355328) := by show (l.length + 1) * 64 ≤ 140737488355328; omega
  have E4 : Hid (base ≤ wc.heap.size) := Nat.le_trans HSZ.out hbx.size
  have HNW : Hid (((wc.drew).alloc (.cells #[.int .i64 n.step, .int .i64 n.thread, .int .i64 n.kind, .int .i64 n.ref, .int .i64 n.bits, .int .i64 n.bucket, .int .i64 n.slot, .int .i64 n.value] 216)).heap[wc.heap.size]? = some (.cells #[.int .i64 n.step, .int .i64 n.thread, .int .i64 n.kind, .int .i64 n.ref, .int .i64 n.bits, .int .i64 n.bucket, .int .i64 n.slot, .int .i64 n.value] 216 (0, 0))) := heap_alloc_new (wc.drew) _
  have HW0 : Hid (Below wc.heap.size wc ((wc.drew).alloc (.cells #[.int .i64 n.step, .int .i64 n.thread, .int .i64 n.kind, .int .i64 n.ref, .int .i64 n.bits, .int .i64 n.bucket, .int .i64 n.slot, .int .i64 n.value] 216))) := ((Below.refl _ _).drew).alloc (Nat.le_refl _) _
  have HBC : Hid (Below base w0 wc) := HBB.out.trans (hbx.mono HSZ.out)
  have HFC : Hid (Fr rnTy false w wc) := HFC0.out.trans (below_fr hbx _ _)
  have HL1 := Lib.hid hl1; have HL3 := Lib.hid hl3; have HLO := Lib.hid hl2
  clear hl1 hl3 hl2 hnq hbx H1 HS HK
  go_upto_region 7 with (fail)
  clear dm hl
  go_region_law ((refine step_append_lies _ (by rfl) _ _ _ (by rfl) base 216 i0 _ 8 64 Tryz.underlying209 HI.out HZ0.out HZ1.out HZ2.out rfl (by decide) (.slice ao l.length cap) l.length (l.flatMap (nteC .i64)) (by rfl) ((HL3.out.drew).alloc _) ⟨wc.heap.size, 0, none⟩ 1 1 (nteC .i64 n) (by rfl) (by rfl) (World.news_of_block (cs := #[.int .i64 n.step, .int .i64 n.thread, .int .i64 n.kind, .int .i64 n.ref, .int .i64 n.bits, .int .i64 n.bucket, .int .i64 n.slot, .int .i64 n.value]) (t := 216) (fr := (0, 0)) HNW.out) (by simp [Value.oneCell', nteC]) (by omega) E2.out E3.out (by have := E4.out; simp; omega) (wc.heap.size + 1) (by simp) ?_; intro g cap1 w4 hown1 hgrow hat hlt; have HOW := Lib.hid hown1; have HGR := Lib.hid hgrow; have hq4 : w4.heap[nb]? = some (.cells #[.slice ao l.length cap] 211 (0, 0)) := (grown_ty ((HL3.out.drew).alloc _) hgrow).cells _ _ _ _ ((HW0.out.block _ (Array.getElem?_eq_some_iff.1 HL1.out).1).trans HL1.out) rfl; have t0 := hcell hq4 0; have t1 := hfrz hq4 0; have HQ4 := Lib.hid hq4; clear hown1 hgrow hat hlt hq4))
  all_goals
    have hB4 : Below base w0 w4 := grown_below ((HL3.out.drew).alloc _) HGR.out (HBC.out.trans (HW0.out.mono E4.out)) (Nat.le_trans E4.out HW0.out.size) (Nat.le_refl _)
    have f4 : Fr rnTy false wc w4 := (below_fr HW0.out _ _).trans ((grown_ty ((HL3.out.drew).alloc _) HGR.out).mono rnTy_n id)
    have f5 := set_ty HQ4.out 0 (.slice (some ⟨g, 0, none⟩) (l.length + 1) cap1)
    have hB5 := set_below hB4 (Nat.le_trans E4.out f4.size) HLO.out 0 (.slice (some ⟨g, 0, none⟩) (l.length + 1) cap1)
    have hq5 := setCell_same HQ4.out 0 (.slice (some ⟨g, 0, none⟩) (l.length + 1) cap1)
    have h1 := own_fr HOW.out f5 rfl
    have FIN : Hid (NL (w4.setCell ⟨nb, 0, none⟩ (.slice (some ⟨g, 0, none⟩) (l.length + 1) cap1)) base nb 211 216 .i64 (l ++ [n]) ∧ Fr rnTy false w (w4.setCell ⟨nb, 0, none⟩ (.slice (some ⟨g, 0, none⟩) (l.length + 1) cap1)) ∧ Below base w0 (w4.setCell ⟨nb, 0, none⟩ (.slice (some ⟨g, 0, none⟩) (l.length + 1) cap1))) := by
      refine ⟨⟨_, hq5, HLO.out, ?_⟩, (HFC.out.trans f4).trans (f5.mono rnTy_l id), hB5⟩
      rw [List.length_append, List.flatMap_append]
      simpa using h1
    clear hB4 f4 f5 hB5 hq5 h1 HQ4 HGR HOW t0 t1 l0 l0' lf lf' k0 k1 k2 k3 k4 k5 k6 k7
    generalize w4.setCell ⟨nb, 0, none⟩ (.slice (some ⟨g, 0, none⟩) (l.length + 1) cap1) = w5 at *
    go_wp2_with fail
    go_ret
    exact ⟨⟨_, rfl⟩, FIN.out⟩
theorem rnTy_r (T : TypeId) (h : rTy T = false) : rnTy T = false := by
  unfold rTy at h
  simp only [Bool.or_eq_false_iff] at h
  unfold rnTy
  rw [h.1.2, h.2]; rfl
section
variable {w0 w w' : World} {B : WB} {V : WV} {x : RS}
theorem RD.noted (h : RD w0 w B V x) {l : List Nte} (hn : NL w' w0.heap.size B.nb 211 216 .i64 l) (hf : Fr rnTy false w w') (hB : Below w0.heap.size w0 w') : RD w0 w' B { V with nts := l } x := by
  obtain ⟨S, ha⟩ := h.ar
  obtain ⟨lv, hr⟩ := h.ref
  exact ⟨hB, ⟨lv, hf.cells _ _ _ _ hr.hdr rfl, hr.lo, own_fr hr.row hf rfl, hr.wf⟩, hf.cells _ _ _ _ h.blk rfl, h.lo, ⟨S, ha.fr hf rfl rfl⟩, hn, h.tkl⟩
theorem RD.hd5 (h : RD w0 w B V x) : w.cell? ⟨B.wb, 0, none⟩ = some (.pointer (some ⟨B.cb, 0, none⟩)) ∧ w.cell? ⟨B.wb, 1, none⟩ = some (.pointer (some ⟨B.ib, 0, none⟩)) ∧ w.cell? ⟨B.wb, 2, none⟩ = some (.pointer (some ⟨B.nb, 0, none⟩)) ∧ w.cell? ⟨B.wb, 72, none⟩ = some (.int .i64 V.hd) :=
  ⟨h.c0, (h.cell 1).trans (val_at B V h.tkl).2.1, (h.cell 2).trans (val_at B V h.tkl).2.2.1, (h.cell 72).trans (val_at B V h.tkl).2.2.2.2.2⟩
theorem rwladd (h : RD w0 w B V x) (n : Nte) (hl : V.nts.length < 1048576) (hs : Nsteps V.nts n.step) :
    Calls Tryz.prog 186 #[.pointer (some ⟨B.nb, 0, none⟩), .agg (nteC .i64 n).toArray] w fun e w' => (∃ k, e = .returned (.int .i64 k)) ∧ RD w0 w' B { V with nts := nadd V.nts n } x ∧ Fr rnTy false w w' := by
  by_cases hk : 1 ≤ n.kind ∧ n.kind ≤ 9
  · refine (rladd_ok h.nt h.below h.below.size hl hk (fun y hy => hs y (List.mem_of_getLast? hy))).mono fun e w' ⟨h1, h2, h3, h4⟩ => ⟨h1, ?_, h3⟩
    have : nadd V.nts n = V.nts ++ [n] := by unfold nadd; rw [if_pos hk]
    rw [this]
    exact h.noted h2 h3 h4
  · refine (rladd_no (by omega)).mono fun e w' ⟨h1, h2⟩ => ⟨h1, ?_, below_fr h2 _ _⟩
    have : nadd V.nts n = V.nts := by unfold nadd; rw [if_neg hk]
    rw [this]
    exact h.keep h2
set_option maxRecDepth 10000 in
set_option maxHeartbeats 2000000 in
theorem rnote_any (h : RD w0 w B V x) (k r b u sl v : Int) (hl : V.nts.length < 1048576) (hs : Nsteps V.nts x.cnt) :
    Calls Tryz.prog 153 #[.pointer (some ⟨B.wb, 0, none⟩), .int .i64 k, .int .i64 r, .agg #[.int .i64 b, .int .i64 u, .int .i64 sl], .int .i64 v] w fun e w' => e = .returned (.tuple #[]) ∧ RD w0 w' B { V with nts := nadd V.nts ⟨x.cnt, V.hd, k, r, b, u, sl, v⟩ } x ∧ Fr rTy false w w' := by
  have hb := below_alloc w (.cells #[.int .i64 b, .int .i64 u, .int .i64 sl] 42)
  have hz := heap_alloc_new w (.cells #[.int .i64 b, .int .i64 u, .int .i64 sl] 42)
  have h1 := h.keep hb
  have HB := Lib.hid hb; have HZ := Lib.hid hz; have H1 := Lib.hid h1; have HL := Lib.hid hl; have HS := Lib.hid hs
  clear h hb hz h1 hl hs
  go_enter Tryz.func153, Tryz.ntmps153
  go_upto_region 1 with (fail)
  change Code.wp _ _ _ _ (w.alloc (.cells #[.int .i64 b, .int .i64 u, .int .i64 sl] 42))
  generalize w.alloc (.cells #[.int .i64 b, .int .i64 u, .int .i64 sl] 42) = w1 at *
  have HB0 : Hid (Fr rTy false w w1) := below_fr HB.out _ _
  clear HB
  generalize w.heap.size = nq at *
  have x2 : ∀ st : ExtW w1, st.val.cell? ⟨B.wb, 2, none⟩ = some (.pointer (some ⟨B.nb, 0, none⟩)) := fun st => st.cell H1.out.hd5.2.2.1
  have x72 : ∀ st : ExtW w1, st.val.cell? ⟨B.wb, 72, none⟩ = some (.int .i64 V.hd) := fun st => st.cell H1.out.hd5.2.2.2
  have z0 : ∀ st : ExtW w1, st.val.cell? ⟨nq, 0, none⟩ = some (.int .i64 b) := fun st => st.cell (hcell HZ.out 0)
  have z1 : ∀ st : ExtW w1, st.val.cell? ⟨nq, 1, none⟩ = some (.int .i64 u) := fun st => st.cell (hcell HZ.out 1)
  have z2 : ∀ st : ExtW w1, st.val.cell? ⟨nq, 2, none⟩ = some (.int .i64 sl) := fun st => st.cell (hcell HZ.out 2)
  have m1 : ∀ st : ExtW w1, Calls Tryz.prog 98 #[.pointer (some ⟨B.wb, 0, none⟩)] st.val fun e w' => e = .returned (.int .i64 x.cnt) ∧ st.val = w' := fun st => (rwsteps (H1.out.keep st.below)).mono fun e w' ⟨h1, h2⟩ => ⟨h1, h2.symm⟩
  refine wp_region_ext_tail 15 (by kernel_rfl) (by kernel_rfl) ?_
  simp only [List.take_succ_cons, List.take_zero, List.drop_succ_cons, List.drop_zero]
  repeat (go_big_quiet_step ((go_at_call 98; with_reducible refine calls_ext_same (m1 _))))
  refine wpQuiet_nil ?_
  rintro W ⟨⟨W2, hW⟩, rfl⟩
  clear x2 x72 z0 z1 z2 m1
  have hadd := rwladd (H1.out.keep hW) ⟨x.cnt, V.hd, k, r, b, u, sl, v⟩ HL.out HS.out
  have HW := Lib.hid hW
  clear hW
  go_wp2_with (go_at_call 186; refine hadd.mono ?_; intro e w3 hh; obtain ⟨⟨kk, hh1⟩, h3, f3⟩ := hh; subst hh1; have H3 := Lib.hid h3; have F3 := Lib.hid f3; clear h3 f3 hadd)
  go_end0
  exact ⟨rfl, H3.out, (HB0.out.trans (below_fr HW.out _ _)).trans (F3.out.mono rnTy_r id)⟩
end
end Go.Proofs.YthehdcpjlddbpaaGreat

/-
  The document's Grow and Swap: a step.
-/
namespace Go.Proofs.YthehdcpjlddbpaaGreat
open Go.RowKit Go.Maps
set_option linter.unusedVariables false

theorem rd_set4 {w0 w : World} {B : WB} {V : WV} {x : RS} {b o : Nat} {cs : Array Value} {T : TypeId} (h : RD w0 w B V x) (hb : w.heap[b]? = some (.cells cs T (0, 0))) (hT : rTy T = false) (hlo : w0.heap.size ≤ b) (v : Value) : RD w0 (w.setCell ⟨b, o, none⟩ v) B V x :=
  h.fr (set_ty hb o v) (fun X hX => by cases hXT : (X == T); rfl; rw [beq_iff_eq] at hXT; subst hXT; rw [hX] at hT; cases hT) (set_below h.below h.below.size hlo o v)
/-- The document's object: its line, and its bits. -/
def RG (w : World) (rb T : Nat) (ln old : Int) : Prop := w.heap[rb]? = some (.cells #[.int .i64 ln, .int .i64 old] T (0, 0))
theorem rg_fin (ln : Int) {w : World} {b : Nat} {old : Int} (h : RG w b 136 0 old) (v : Value) : Calls Tryz.prog 106 #[.pointer (some ⟨b, 0, none⟩), v] w fun e w' => e = .returned (.tuple #[]) ∧ w' = w := by
  have c0 := hcell h 0
  clear h
  go_enter Tryz.func106, Tryz.ntmps106
  go_wp2
  go_end0
  exact ⟨rfl, rfl⟩
theorem rs_fin {w : World} {b : Nat} {old : Int} (h : RG w b 140 0 old) (v : Value) : Calls Tryz.prog 108 #[.pointer (some ⟨b, 0, none⟩), v] w fun e w' => e = .returned (.tuple #[]) ∧ w' = w := by
  have c0 := hcell h 0
  clear h
  go_enter Tryz.func108, Tryz.ntmps108
  go_wp2
  go_end0
  exact ⟨rfl, rfl⟩
section
variable {w0 w : World} {B : WB} {V : WV} {x : RS} {b : Nat} {old : Int} (h : RD w0 w B V x) (hr : x.room) (hlo : w0.heap.size ≤ b)
include h hr hlo
set_option maxRecDepth 10000 in
set_option maxHeartbeats 1000000 in
theorem rg_one (hG : RG w b 136 1 old) : Calls Tryz.prog 106 #[.pointer (some ⟨b, 0, none⟩), .pointer (some ⟨B.wb, 0, none⟩)] w fun e w' => e = .returned (.tuple #[]) ∧ RD w0 w' B V (x.acc 2 3 0) ∧ RG w' b 136 2 old ∧ Fx rTy false b w w' := by
  have c0 := hcell hG 0
  have hst := rwstore h hr 3 (by decide) 0 (by decide)
  have HG := Lib.hid hG
  clear h hr hG
  go_enter Tryz.func106, Tryz.ntmps106
  go_upto_region 3 with (go_at_call 88; refine hst.mono ?_; intro e w2 hh; obtain ⟨hh1, h2, f2⟩ := hh; subst hh1; have H2 := Lib.hid h2; have F2 := Lib.hid f2; clear h2 f2 hst c0)
  have hg2 := F2.out.cells _ _ _ _ HG.out rfl
  have c0 := hcell hg2 0
  have cf := hfrz hg2 0
  have HG2 := Lib.hid hg2
  clear hg2
  go_wp2
  go_end0
  exact ⟨rfl, rd_set4 H2.out HG2.out rfl hlo _, setCell_same HG2.out 0 _, (F2.out.fx b).trans (set_fx _ _ _ _ _ _)⟩
variable (hl : V.nts.length < 1048576) (hs : Nsteps V.nts x.cnt)
include hl hs
set_option maxRecDepth 10000 in
set_option maxHeartbeats 2000000 in
theorem rg_two (ho : 1 ≤ old ∧ old ≤ 12) (hG : RG w b 136 2 old) : Calls Tryz.prog 106 #[.pointer (some ⟨b, 0, none⟩), .pointer (some ⟨B.wb, 0, none⟩)] w fun e w' => e = .returned (.tuple #[]) ∧ RD w0 w' B { V with nts := nadd V.nts ⟨((x.cnt + 1 : Nat) : Int), V.hd, 4, 0, 0, 0, 0, old + 1⟩ } (x.acc 2 2 (tword old (old + 1))) ∧ RG w' b 136 0 old ∧ Fx rTy false b w w' := by
  have c0 := hcell hG 0
  have hw0 : tword old (old + 1) = old + 256 * (old + 1) := by unfold tword; omega
  have hwf : (Lit.int .u64 (tword old (old + 1))).wf = true := bd_wf (by rw [hw0]; omega)
  have e64 : IntKind.u64.wrap (old + 256 * (old + 1)) = tword old (old + 1) := by rw [hw0, show IntKind.u64.wrap (old + 256 * (old + 1)) = (old + 256 * (old + 1)) % 18446744073709551616 from wu_eq _]; omega
  have x1 : ∀ st : ExtW w, st.val.cell? ⟨b, 1, none⟩ = some (.int .i64 old) := fun st => st.cell (hcell hG 1)
  have hstW : ∀ W, Below w.heap.size w W → Calls Tryz.prog 88 #[.pointer (some ⟨B.wb, 0, none⟩), .int .u64 2, .int .u64 (tword old (old + 1))] W fun e w' => e = .returned (.int .u64 (rlook x.l 2)) ∧ RD w0 w' B V (x.acc 2 2 (tword old (old + 1))) ∧ Fr rTy false W w' := fun W hW => rwstore (h.keep hW) hr 2 (by decide) _ hwf
  have HST := Lib.hid hstW; have HG := Lib.hid hG; have HL := Lib.hid hl; have HS : Hid (Nsteps V.nts (((x.cnt + 1 : Nat)) : Int)) := hs.le (by omega)
  generalize tword old (old + 1) = wd at *
  clear h hr hG hw0 hwf hstW hl hs
  go_enter Tryz.func106, Tryz.ntmps106
  go_upto_region 5 with (fail)
  clear c0
  refine wp_region_ext_tail 13 (by kernel_rfl) (by kernel_rfl) ?_
  simp only [List.take_succ_cons, List.take_zero, List.drop_succ_cons, List.drop_zero]
  repeat (go_big_quiet_step (fail))
  refine wpQuiet_nil ?_
  rintro W ⟨⟨W2, hW⟩, rfl⟩
  clear x1
  have hst := HST.out _ hW
  have HG1 := Lib.hid ((hW.block _ (Array.getElem?_eq_some_iff.1 HG.out).1).trans HG.out)
  have HWX := Lib.hid (below_fr hW rTy false)
  clear hW
  go_upto_region 6 with (go_at_call 88; refine hst.mono ?_; intro e w2 hh; obtain ⟨hh1, h2, f2⟩ := hh; subst hh1; have hg2 := f2.cells _ _ _ _ HG1.out rfl; have c1 := hcell hg2 1; have hnt := rnote_any h2 4 0 0 0 0 (old + 1) HL.out HS.out; have HG2 := Lib.hid hg2; have F2 := Lib.hid (HWX.out.trans f2); clear h2 f2 hg2 hst)
  go_upto_region 7 with (go_at_call 153; refine hnt.mono ?_; intro e w3 hh; obtain ⟨hh1, h3, f3⟩ := hh; subst hh1; have H3 := Lib.hid h3; have F3 := Lib.hid (F2.out.trans f3); have hg3 := f3.cells _ _ _ _ HG2.out rfl; have c0 := hcell hg3 0; have cf := hfrz hg3 0; have HG3 := Lib.hid hg3; clear h3 f3 hg3 hnt c1)
  go_wp2
  go_end0
  exact ⟨rfl, rd_set4 H3.out HG3.out rfl hlo _, setCell_same HG3.out 0 _, (F3.out.fx b).trans (set_fx _ _ _ _ _ _)⟩
set_option maxRecDepth 10000 in
set_option maxHeartbeats 2000000 in
theorem rs_one (ho : 1 ≤ old ∧ old ≤ 12) (hG : RG w b 140 1 old) : Calls Tryz.prog 108 #[.pointer (some ⟨b, 0, none⟩), .pointer (some ⟨B.wb, 0, none⟩)] w fun e w' => e = .returned (.tuple #[]) ∧ RD w0 w' B { V with nts := nadd V.nts ⟨((x.cnt + 1 : Nat) : Int), V.hd, 5, 0, 0, 0, 0, old⟩ } (x.acc 2 2 (tword old 0)) ∧ RG w' b 140 0 old ∧ Fx rTy false b w w' := by
  have c0 := hcell hG 0
  have c1 := hcell hG 1
  have hw0 : tword old 0 = old := by unfold tword; omega
  have hwf : (Lit.int .u64 old).wf = true := bd_wf (by omega)
  have e64 : IntKind.u64.wrap old = old := by rw [show IntKind.u64.wrap old = old % 18446744073709551616 from wu_eq _]; omega
  have hst := rwstore h hr 2 (by decide) old hwf
  rw [hw0]
  have HG := Lib.hid hG; have HL := Lib.hid hl; have HS : Hid (Nsteps V.nts (((x.cnt + 1 : Nat)) : Int)) := hs.le (by omega)
  clear h hr hG hw0 hwf hl hs
  go_enter Tryz.func108, Tryz.ntmps108
  go_upto_region 2 with (go_at_call 88; refine hst.mono ?_; intro e w2 hh; obtain ⟨hh1, h2, f2⟩ := hh; subst hh1; have hg2 := f2.cells _ _ _ _ HG.out rfl; have hnt := rnote_any h2 5 0 0 0 0 old HL.out HS.out; have HG2 := Lib.hid hg2; have F2 := Lib.hid f2; clear h2 f2 hst c0 c1; have c1 := hcell hg2 1; clear hg2)
  go_upto_region 3 with (go_at_call 153; refine hnt.mono ?_; intro e w3 hh; obtain ⟨hh1, h3, f3⟩ := hh; subst hh1; have H3 := Lib.hid h3; have F3 := Lib.hid (F2.out.trans f3); have hg3 := f3.cells _ _ _ _ HG2.out rfl; have c0 := hcell hg3 0; have cf := hfrz hg3 0; have HG3 := Lib.hid hg3; clear h3 f3 hg3 hnt c1)
  go_wp2
  go_end0
  exact ⟨rfl, rd_set4 H3.out HG3.out rfl hlo _, setCell_same HG3.out 0 _, (F3.out.fx b).trans (set_fx _ _ _ _ _ _)⟩
end
end Go.Proofs.YthehdcpjlddbpaaGreat

/-
  SameAll, with notes.
-/
namespace Go.Proofs.YthehdcpjlddbpaaGreat
open Go.RowKit Go.Maps
set_option linter.unusedVariables false

/-- Are the notes of kinds? -/
def Nkinds (l : List Nte) : Prop := ∀ y ∈ l, 1 ≤ y.kind ∧ y.kind ≤ 9
theorem Nkinds.add {l : List Nte} {n : Nte} (h : Nkinds l) : Nkinds (nadd l n) := by
  unfold nadd
  split
  · rename_i hk
    intro y hy
    rcases List.mem_append.1 hy with h1 | h1
    · exact h y h1
    · simp only [List.mem_singleton] at h1; subst h1; exact hk
  · exact h
theorem NRow.sl {w : World} {base : Nat} {v : Value} {l : List Nte} (h : NRow w base v l) : ∃ a, v = .slice a l.length l.length := by
  rcases h with ⟨rfl, rfl⟩ | ⟨g, cur, rfl, _⟩
  · exact ⟨none, rfl⟩
  · exact ⟨_, rfl⟩
theorem NRow.below {w w' : World} {base : Nat} {v : Value} {l : List Nte} (h : NRow w base v l) (hb : Below w.heap.size w w') : NRow w' base v l := by
  rcases h with h | ⟨g, cur, hv, h1, h2, h3⟩
  · exact .inl h
  · exact .inr ⟨g, cur, hv, h1, (hb.block _ (Array.getElem?_eq_some_iff.1 h2).1).trans h2, h3⟩
section
variable {w0 w : World} {B R : WB} {V : WV} {s : CS} {x : RS}
set_option maxRecDepth 10000 in
set_option maxHeartbeats 4000000 in
theorem psalln_any (h : Pr w0 w B R V s x) (hnl : V.nts.length ≤ 1000000) (hkd : Nkinds V.nts) (hl : V.its.length ≤ 1000000) (hsn : s.n ≤ 1000000) :
    Calls Tryz.prog 45 #[.agg #[.pointer (some ⟨B.wb, 0, none⟩), .pointer (some ⟨R.wb, 0, none⟩)]] w fun e w' => e = .returned (.bool true) ∧ Below w.heap.size w w' := by
  have hq0 := heap_alloc_new w (.cells #[.pointer (some ⟨B.wb, 0, none⟩), .pointer (some ⟨R.wb, 0, none⟩)] 37)
  have hB1 := below_alloc w (.cells #[.pointer (some ⟨B.wb, 0, none⟩), .pointer (some ⟨R.wb, 0, none⟩)] 37)
  have H1 := Lib.hid (h.keep hB1); have HQ := Lib.hid hq0; have HB1 := Lib.hid hB1; have HNL := Lib.hid hnl; have HKD := Lib.hid hkd; have HL := Lib.hid hl; have HSN := Lib.hid hsn
  clear h hq0 hB1 hnl hkd hl hsn
  go_enter Tryz.func45, Tryz.ntmps45
  go_upto_region 1 with (fail)
  change Code.wp _ _ _ _ (w.alloc (.cells #[.pointer (some ⟨B.wb, 0, none⟩), .pointer (some ⟨R.wb, 0, none⟩)] 37))
  generalize w.alloc (.cells #[.pointer (some ⟨B.wb, 0, none⟩), .pointer (some ⟨R.wb, 0, none⟩)] 37) = w1 at *
  have hq := HQ.out
  have q0 := fun st : ExtW w1 => st.cell (hcell hq 0)
  have q1 := fun st : ExtW w1 => st.cell (hcell hq 1)
  have d0 := fun st : ExtW w1 => st.cell H1.out.ws.hd.1
  have g0 := fun st : ExtW w1 => st.cell H1.out.rd.hd.1
  have hs := fun st : ExtW w1 => psame_any (H1.out.keep st.below)
  have h5 := fun st : ExtW w1 => same05_any (⟨(H1.out.keep st.below).ws.own, (H1.out.keep st.below).rd.ref, (H1.out.keep st.below).al⟩ : Both w0 st.val B.cb R.cb s x) HSN.out
  clear hq
  refine wp_region_ext (by kernel_rfl) (by kernel_rfl) ?_
  repeat (go_big_quiet_step (first
    | (go_at_call 44; with_reducible refine calls_ext (hs _))
    | (go_at_call 102; with_reducible refine calls_ext (h5 _))))
  refine wpQuiet_nil ?_
  rintro W2 ⟨⟨W3, hW⟩, rfl⟩
  have H2 := Lib.hid (H1.out.keep hW)
  have HQ2 := Lib.hid ((hW.block _ (Array.getElem?_eq_some_iff.1 HQ.out).1).trans HQ.out)
  have HB2 : Hid (Below w.heap.size w W2) := HB1.out.trans (hW.mono HB1.out.size)
  clear q0 q1 d0 g0 hs h5 hW H1 HQ HB1
  have p0 := hcell HQ2.out 0
  have p1 := hcell HQ2.out 1
  obtain ⟨c0, c1, c2, c72⟩ := H2.out.ws.hd
  have hal := lall_any H2.out.ws.nt (by have := HNL.out; omega)
  go_upto_region 4 with (go_at_call 103; refine hal.mono ?_; intro e w4 hh; obtain ⟨v, hh1, hr, b4⟩ := hh; subst hh1; have HNR := Lib.hid hr; have H4 := Lib.hid (H2.out.keep b4); have HQ4 := Lib.hid ((b4.block _ (Array.getElem?_eq_some_iff.1 HQ2.out).1).trans HQ2.out); have HB4 : Hid (Below w.heap.size w w4) := HB2.out.trans (b4.mono HB2.out.size); clear hr b4 hal p0 p1 c0 c1 c2 c72)
  clear H2 HQ2 HB2
  obtain ⟨va, rfl⟩ := HNR.out.sl
  have p0 := hcell HQ4.out 0
  have p1 := hcell HQ4.out 1
  obtain ⟨r0, r1, r2, r72⟩ := H4.out.rd.hd
  obtain ⟨nv, hn1, hn2, hn3⟩ := H4.out.rd.nt
  obtain ⟨na, ncap, hnv⟩ := own_sl hn3
  subst hnv
  have n0 : w4.cell? ⟨R.nb, 0, none⟩ = some (.slice na V.nts.length ncap) := hcell hn1 0
  clear hn1 hn2 hn3
  go_wp2_with fail
  clear p0 p1 r0 r1 r2 r72 n0
  go_loopw [4] (fun i wr => ∃ k : Nat, k ≤ V.nts.length ∧ i = .int .i64 k ∧ Pr w0 wr B R V s x ∧ wr.heap[w.heap.size]? = some (.cells #[.pointer (some ⟨B.wb, 0, none⟩), .pointer (some ⟨R.wb, 0, none⟩)] 37 (0, 0)) ∧ NRow wr W2.heap.size (.slice va V.nts.length V.nts.length) V.nts ∧ Below w.heap.size w wr) (fun i _ => V.nts.length - (intOf i).toNat)
  case atStart => exact ⟨0, by omega, rfl, H4.out, HQ4.out, HNR.out, HB4.out⟩
  case round =>
   clear H4 HQ4 HB4 HNR
   obtain ⟨k, hk, rfl, h, hq, hnr, hB⟩ := hrel
   have hnlb := HNL.out
   by_cases hlt : k < V.nts.length
   · have hlt' : (k : Int) < V.nts.length := by omega
     have p0 := hcell hq 0
     have p1 := hcell hq 1
     obtain ⟨r0, r1, r2, r72⟩ := h.rd.hd
     obtain ⟨nv, hn1, hn2, hn3⟩ := h.rd.nt
     obtain ⟨na, ncap, hnv⟩ := own_sl hn3
     subst hnv
     have n0 : wr.cell? ⟨R.nb, 0, none⟩ = some (.slice na V.nts.length ncap) := hcell hn1 0
     obtain ⟨g, hv, hcs⟩ := hnr.at k hlt
     simp only [Value.slice.injEq, and_true] at hv
     obtain ⟨rg, hrv, hrs⟩ := rrow8_at hn3 k hlt
     subst hrv
     obtain ⟨y, hy⟩ : ∃ y, y = V.nts[k]'hlt := ⟨_, rfl⟩
     rw [← hy] at hcs hrs
     have hkk := HKD.out y (by rw [hy]; exact List.getElem_mem hlt)
     have q0 : wr.cell? ⟨rg, k * 8, none⟩ = some (.int .i64 y.step) := hrs 0 (by omega)
     have q1 : wr.cell? ⟨rg, k * 8 + 1, none⟩ = some (.int .i64 y.thread) := hrs 1 (by omega)
     have q2 : wr.cell? ⟨rg, k * 8 + 2, none⟩ = some (.int .i64 y.kind) := hrs 2 (by omega)
     have q3 : wr.cell? ⟨rg, k * 8 + 3, none⟩ = some (.int .i64 y.ref) := hrs 3 (by omega)
     have q4 : wr.cell? ⟨rg, k * 8 + 4, none⟩ = some (.int .i64 y.bits) := hrs 4 (by omega)
     have q5 : wr.cell? ⟨rg, k * 8 + 5, none⟩ = some (.int .i64 y.bucket) := hrs 5 (by omega)
     have q6 : wr.cell? ⟨rg, k * 8 + 6, none⟩ = some (.int .i64 y.slot) := hrs 6 (by omega)
     have q7 : wr.cell? ⟨rg, k * 8 + 7, none⟩ = some (.int .i64 y.value) := hrs 7 (by omega)
     have HR := Lib.hid h; have HQ := Lib.hid hq; have HNRR := Lib.hid hnr; have HB := Lib.hid hB; have HCS := Lib.hid hcs; have HVV := Lib.hid hv; have HKK := Lib.hid hkk
     clear h hq hnr hB hn1 hn2 hn3 hcs hrs hy hv hkk r0 r1 r72
     go_upto_region 10 with (fail)
     have hb5 := below_alloc wr (.cells (nteC .i64 y).toArray 216)
     have hz5 := heap_alloc_new wr (.cells (nteC .i64 y).toArray 216)
     have HB5 := Lib.hid hb5; have HZ5 := Lib.hid hz5
     clear hb5 hz5 p0 p1 r2 n0 q0 q1 q2 q3 q4 q5 q6 q7
     change Code.wp _ _ _ _ (wr.alloc (.cells (nteC .i64 y).toArray 216))
     have x0 : ∀ st : ExtW (wr.alloc (.cells (nteC .i64 y).toArray 216)), st.val.cell? ⟨g, k * 8, none⟩ = some (.int .i64 y.step) := fun st => st.cell ((HB5.out.cell (p := ⟨g, k * 8, none⟩) (World.block_lt_of_cell? _ _ (HCS.out 0 (by omega)))).trans (HCS.out 0 (by omega)))
     have x1 : ∀ st : ExtW (wr.alloc (.cells (nteC .i64 y).toArray 216)), st.val.cell? ⟨g, k * 8 + 1, none⟩ = some (.int .i64 y.thread) := fun st => st.cell ((HB5.out.cell (p := ⟨g, k * 8 + 1, none⟩) (World.block_lt_of_cell? _ _ (HCS.out 1 (by omega)))).trans (HCS.out 1 (by omega)))
     have x2 : ∀ st : ExtW (wr.alloc (.cells (nteC .i64 y).toArray 216)), st.val.cell? ⟨g, k * 8 + 2, none⟩ = some (.int .u8 y.kind) := fun st => st.cell ((HB5.out.cell (p := ⟨g, k * 8 + 2, none⟩) (World.block_lt_of_cell? _ _ (HCS.out 2 (by omega)))).trans (HCS.out 2 (by omega)))
     have x3 : ∀ st : ExtW (wr.alloc (.cells (nteC .i64 y).toArray 216)), st.val.cell? ⟨g, k * 8 + 3, none⟩ = some (.int .i64 y.ref) := fun st => st.cell ((HB5.out.cell (p := ⟨g, k * 8 + 3, none⟩) (World.block_lt_of_cell? _ _ (HCS.out 3 (by omega)))).trans (HCS.out 3 (by omega)))
     have x4 : ∀ st : ExtW (wr.alloc (.cells (nteC .i64 y).toArray 216)), st.val.cell? ⟨g, k * 8 + 4, none⟩ = some (.int .i64 y.bits) := fun st => st.cell ((HB5.out.cell (p := ⟨g, k * 8 + 4, none⟩) (World.block_lt_of_cell? _ _ (HCS.out 4 (by omega)))).trans (HCS.out 4 (by omega)))
     have x5 : ∀ st : ExtW (wr.alloc (.cells (nteC .i64 y).toArray 216)), st.val.cell? ⟨g, k * 8 + 5, none⟩ = some (.int .i64 y.bucket) := fun st => st.cell ((HB5.out.cell (p := ⟨g, k * 8 + 5, none⟩) (World.block_lt_of_cell? _ _ (HCS.out 5 (by omega)))).trans (HCS.out 5 (by omega)))
     have x6 : ∀ st : ExtW (wr.alloc (.cells (nteC .i64 y).toArray 216)), st.val.cell? ⟨g, k * 8 + 6, none⟩ = some (.int .i64 y.slot) := fun st => st.cell ((HB5.out.cell (p := ⟨g, k * 8 + 6, none⟩) (World.block_lt_of_cell? _ _ (HCS.out 6 (by omega)))).trans (HCS.out 6 (by omega)))
     have x7 : ∀ st : ExtW (wr.alloc (.cells (nteC .i64 y).toArray 216)), st.val.cell? ⟨g, k * 8 + 7, none⟩ = some (.int .i64 y.value) := fun st => st.cell ((HB5.out.cell (p := ⟨g, k * 8 + 7, none⟩) (World.block_lt_of_cell? _ _ (HCS.out 7 (by omega)))).trans (HCS.out 7 (by omega)))
     generalize wr.alloc (.cells (nteC .i64 y).toArray 216) = w5 at *
     have HR5 := Lib.hid (HR.out.keep HB5.out)
     have HQ5 := Lib.hid ((HB5.out.block _ (Array.getElem?_eq_some_iff.1 HQ.out).1).trans HQ.out)
     have HN5 := Lib.hid (HNRR.out.below HB5.out)
     have HBB : Hid (Below w.heap.size w w5) := HB.out.trans (HB5.out.mono HB.out.size)
     clear HR HQ HNRR HB HCS HB5
     generalize wr.heap.size = nq at *
     have z0 : ∀ st : ExtW w5, st.val.cell? ⟨nq, 0, none⟩ = some (.int .i64 y.step) := fun st => st.cell (hcell HZ5.out 0)
     have z1 : ∀ st : ExtW w5, st.val.cell? ⟨nq, 1, none⟩ = some (.int .i64 y.thread) := fun st => st.cell (hcell HZ5.out 1)
     have z2 : ∀ st : ExtW w5, st.val.cell? ⟨nq, 2, none⟩ = some (.int .i64 y.kind) := fun st => st.cell (hcell HZ5.out 2)
     have z3 : ∀ st : ExtW w5, st.val.cell? ⟨nq, 3, none⟩ = some (.int .i64 y.ref) := fun st => st.cell (hcell HZ5.out 3)
     have z4 : ∀ st : ExtW w5, st.val.cell? ⟨nq, 4, none⟩ = some (.int .i64 y.bits) := fun st => st.cell (hcell HZ5.out 4)
     have z5 : ∀ st : ExtW w5, st.val.cell? ⟨nq, 5, none⟩ = some (.int .i64 y.bucket) := fun st => st.cell (hcell HZ5.out 5)
     have z6 : ∀ st : ExtW w5, st.val.cell? ⟨nq, 6, none⟩ = some (.int .i64 y.slot) := fun st => st.cell (hcell HZ5.out 6)
     have z7 : ∀ st : ExtW w5, st.val.cell? ⟨nq, 7, none⟩ = some (.int .i64 y.value) := fun st => st.cell (hcell HZ5.out 7)
     have hva := HVV.out
     have hkk := HKK.out
     have ekk : wrap64 y.kind = y.kind := IntWalk.wrap64_in _ (by omega)
     clear hkk
     subst hva
     refine wp_region_ext (by kernel_rfl) (by kernel_rfl) ?_
     repeat (go_big_quiet_step (fail))
     refine wpQuiet_nil ?_
     rintro W9 ⟨⟨W8, hW⟩, rfl⟩
     clear x0 x1 x2 x3 x4 x5 x6 x7 z0 z1 z2 z3 z4 z5 z6 z7 ekk
     have HW := Lib.hid hW
     clear hW
     go_wp2_with fail
     go_roundw
     case rel => exact ⟨k + 1, by omega, by go_num, HR5.out.keep HW.out, (HW.out.block _ (Array.getElem?_eq_some_iff.1 HQ5.out).1).trans HQ5.out, HN5.out.below HW.out, HBB.out.trans (HW.out.mono HBB.out.size)⟩
     case measure => simp [intOf]; omega
   obtain rfl : k = V.nts.length := by omega
   have H4 := Lib.hid h; have HQ4 := Lib.hid hq; have HB4 := Lib.hid hB
   clear h hq hB hnr hlt
   go_wp2_with fail
   go_loopw [6] (fun i wr => ∃ k : Nat, k ≤ V.its.length + 2 ∧ i = .int .i64 k ∧ Pr w0 wr B R V s x ∧ wr.heap[w.heap.size]? = some (.cells #[.pointer (some ⟨B.wb, 0, none⟩), .pointer (some ⟨R.wb, 0, none⟩)] 37 (0, 0)) ∧ Below w.heap.size w wr) (fun i _ => V.its.length + 2 - (intOf i).toNat)
   case atStart => exact ⟨0, by omega, rfl, H4.out, HQ4.out, HB4.out⟩
   case round =>
     clear H4 HQ4 HB4
     obtain ⟨k, hk, rfl, h, hq, hB⟩ := hrel
     have p0 := hcell hq 0
     have p1 := hcell hq 1
     obtain ⟨c0, c1, c2, c72⟩ := h.ws.hd
     obtain ⟨r0, r1, r2, r72⟩ := h.rd.hd
     have hri := h.rd.icount
     have hl := HL.out
     by_cases hlt : k ≤ V.its.length + 1
     · have hlt' : (k : Int) ≤ V.its.length + 1 := by omega
       have hia := h.ws.iat (by omega) k
       obtain ⟨yy, hye⟩ : ∃ yy, atOf V.its k = yy := ⟨_, rfl⟩
       rw [hye] at hia
       have HYE := Lib.hid hye
       clear hye
       have HRI := Lib.hid h; have HQ := Lib.hid hq; have HB := Lib.hid hB
       clear h hq hB
       go_upto_region 16 with (first
         | (go_at_call 101; with_reducible refine hri.mono ?_; rintro e w' ⟨rfl, hw⟩; obtain rfl := hw; clear hri)
         | (go_at_call 71; with_reducible refine hia.mono ?_; rintro e w5 ⟨rfl, b5⟩; clear hia p0 p1 c0 c1 c2 c72 r0 r1 r2 r72; have H5 := Lib.hid b5))
       obtain ⟨y, yb⟩ := yy
       simp only []
       have hb6 := below_alloc w5 (.cells y.cells.toArray 79)
       have hy6 : Box (w5.alloc (.cells y.cells.toArray 79)) w5.heap.size y := heap_alloc_new w5 _
       change Code.wp _ _ _ _ (w5.alloc (.cells y.cells.toArray 79))
       generalize w5.alloc (.cells y.cells.toArray 79) = w6 at *
       have hb16 : Below wr.heap.size wr w6 := H5.out.trans (hb6.mono H5.out.size)
       generalize w5.heap.size = qa at *
       have HY6 := Lib.hid hy6
       have H6 := Lib.hid (HRI.out.keep hb16)
       have HQ6 := Lib.hid ((hb16.block _ (Array.getElem?_eq_some_iff.1 HQ.out).1).trans HQ.out)
       have HB6 : Hid (Below w.heap.size w w6) := HB.out.trans (hb16.mono HB.out.size)
       have p1 := hcell HQ6.out 1
       have r1 := H6.out.rd.hd.2.1
       have hrb := H6.out.rd.iat (by have := HL.out; omega) k
       rw [HYE.out] at hrb
       clear hb6 hy6 hb16 H5 HRI HQ HB
       go_upto_region 17 with (go_at_call 104; with_reducible refine hrb.mono ?_; rintro e w7 ⟨rfl, b7⟩; clear hrb p1 r1; have H7 := Lib.hid b7)
       have hb8 := below_alloc w7 (.cells y.cells.toArray 79)
       have hy8 : Box (w7.alloc (.cells y.cells.toArray 79)) w7.heap.size y := heap_alloc_new w7 _
       change Code.wp _ _ _ _ (w7.alloc (.cells y.cells.toArray 79))
       generalize w7.alloc (.cells y.cells.toArray 79) = w8 at *
       have hb68 : Below w6.heap.size w6 w8 := H7.out.trans (hb8.mono H7.out.size)
       generalize w7.heap.size = qb at *
       have hya : Box w8 qa y := HY6.out.below hb68
       obtain ⟨a0, a1, a2, a3, a4, a5⟩ := hya.cells
       obtain ⟨e0, e1, e2, e3, e4, e5⟩ := hy8.cells
       have H8 := Lib.hid (H6.out.keep hb68)
       have HQ8 := Lib.hid ((hb68.block _ (Array.getElem?_eq_some_iff.1 HQ6.out).1).trans HQ6.out)
       have HB8 : Hid (Below w.heap.size w w8) := HB6.out.trans (hb68.mono HB6.out.size)
       clear hb8 hb68 hya hy8 H6 HQ6 HB6 HY6 H7
       go_wp2_with fail
       go_roundw
       case rel => exact ⟨k + 1, by omega, by go_num, H8.out, HQ8.out, HB8.out⟩
       case measure => simp [intOf]; omega
     · obtain rfl : k = V.its.length + 2 := by omega
       have hlt' : (V.its.length : Int) + 1 < ((V.its.length + 2 : Nat) : Int) := by omega
       have HB9 := Lib.hid hB
       clear h hq hB
       go_wp2_with (go_at_call 101; with_reducible refine hri.mono ?_; rintro e w' ⟨rfl, hw⟩; obtain rfl := hw; clear hri)
       go_ret
       exact ⟨rfl, HB9.out⟩
end
end Go.Proofs.YthehdcpjlddbpaaGreat

/-
  The document's rule of growing; what both worlds tell.
-/
namespace Go.Proofs.YthehdcpjlddbpaaGreat
open Go.RowKit Go.Maps
set_option linter.unusedVariables false

theorem tsize_pw (b : Int) (h : 1 ≤ b ∧ b ≤ 12) : 2 ≤ tsize b ∧ tsize b ≤ 4096 := by
  have : b = 1 ∨ b = 2 ∨ b = 3 ∨ b = 4 ∨ b = 5 ∨ b = 6 ∨ b = 7 ∨ b = 8 ∨ b = 9 ∨ b = 10 ∨ b = 11 ∨ b = 12 := by omega
  rcases this with rfl | rfl | rfl | rfl | rfl | rfl | rfl | rfl | rfl | rfl | rfl | rfl <;> decide
theorem pmay_out (f g b : Int) (h : f < 1 ∨ 12 < f ∨ b < 1 ∨ 11 < b) : pmay f g b = false := by
  have : tsize f = 0 ∨ tsize b = 0 ∨ tsize (b + 1) = 0 := by
    rcases h with h | h | h | h
    · exact .inl (tsize_out (.inl h))
    · exact .inl (tsize_out (.inr h))
    · exact .inr (.inl (tsize_out (.inl h)))
    · exact .inr (.inr (tsize_out (.inr (by omega))))
  unfold pmay
  rcases this with h | h | h <;> simp [h]
end Go.Proofs.YthehdcpjlddbpaaGreat

/-
  A list of a world's acts that came in.
-/
namespace Go.Proofs.YthehdcpjlddbpaaGreat
open Go.RowKit Go.Maps
set_option linter.unusedVariables false

structure WAc where
  k : Int
  n : Int
  r : Int
  b : Int
  u : Int
  s : Int
  v : Int
  a : Int
  w : Int
  it : Itm
def WAc.cells (x : WAc) : List Value := [.int .u8 x.k, .int .u8 x.n, .int .i64 x.r, .int .i64 x.b, .int .i64 x.u, .int .i64 x.s, .int .i64 x.v, .int .u64 x.a, .int .u64 x.w, .string x.it.key, .string x.it.val, .int .u32 x.it.flags, .int .u64 x.it.id, .int .i64 x.it.dies, .int .i64 x.it.gen]
structure WAc.wf (x : WAc) : Prop where
  k : (Lit.int .u8 x.k).wf = true
  n : (Lit.int .u8 x.n).wf = true
  r : (Lit.int .i64 x.r).wf = true
  b : (Lit.int .i64 x.b).wf = true
  u : (Lit.int .i64 x.u).wf = true
  s : (Lit.int .i64 x.s).wf = true
  v : (Lit.int .i64 x.v).wf = true
  a : (Lit.int .u64 x.a).wf = true
  w : (Lit.int .u64 x.w).wf = true
def wacLeaves : List Leaf := [.int .u8, .int .u8, .int .i64, .int .i64, .int .i64, .int .i64, .int .i64, .int .u64, .int .u64, .str, .str, .int .u32, .int .u64, .int .i64, .int .i64]
theorem wac_of {w : World} {cs : List Value} (h : Leaf.allHold w wacLeaves cs) : ∃ x : WAc, cs = x.cells ∧ x.wf := by
  obtain ⟨c0, r, rfl, g0, h⟩ := allHold_cons h
  obtain ⟨c1, r, rfl, g1, h⟩ := allHold_cons h
  obtain ⟨c2, r, rfl, g2, h⟩ := allHold_cons h
  obtain ⟨c3, r, rfl, g3, h⟩ := allHold_cons h
  obtain ⟨c4, r, rfl, g4, h⟩ := allHold_cons h
  obtain ⟨c5, r, rfl, g5, h⟩ := allHold_cons h
  obtain ⟨c6, r, rfl, g6, h⟩ := allHold_cons h
  obtain ⟨c7, r, rfl, g7, h⟩ := allHold_cons h
  obtain ⟨c8, r, rfl, g8, h⟩ := allHold_cons h
  obtain ⟨c9, r, rfl, g9, h⟩ := allHold_cons h
  obtain ⟨c10, r, rfl, g10, h⟩ := allHold_cons h
  obtain ⟨c11, r, rfl, g11, h⟩ := allHold_cons h
  obtain ⟨c12, r, rfl, g12, h⟩ := allHold_cons h
  obtain ⟨c13, r, rfl, g13, h⟩ := allHold_cons h
  obtain ⟨c14, r, rfl, g14, h⟩ := allHold_cons h
  obtain rfl := allHold_nil h
  obtain ⟨n0, rfl, w0⟩ := holds_int g0
  obtain ⟨n1, rfl, w1⟩ := holds_int g1
  obtain ⟨n2, rfl, w2⟩ := holds_int g2
  obtain ⟨n3, rfl, w3⟩ := holds_int g3
  obtain ⟨n4, rfl, w4⟩ := holds_int g4
  obtain ⟨n5, rfl, w5⟩ := holds_int g5
  obtain ⟨n6, rfl, w6⟩ := holds_int g6
  obtain ⟨n7, rfl, w7⟩ := holds_int g7
  obtain ⟨n8, rfl, w8⟩ := holds_int g8
  obtain ⟨n9, rfl, w9⟩ := holds_str g9
  obtain ⟨n10, rfl, w10⟩ := holds_str g10
  obtain ⟨n11, rfl, w11⟩ := holds_int g11
  obtain ⟨n12, rfl, w12⟩ := holds_int g12
  obtain ⟨n13, rfl, w13⟩ := holds_int g13
  obtain ⟨n14, rfl, w14⟩ := holds_int g14
  exact ⟨⟨n0, n1, n2, n3, n4, n5, n6, n7, n8, ⟨n9, n10, n11, n12, n13, n14⟩⟩, rfl, w0, w1, w2, w3, w4, w5, w6, w7, w8⟩
/-- Accesses that may be read. -/
structure WActs (w : World) (a : Option Addr) (cap : Nat) (l : List WAc) : Prop where
  le : l.length ≤ cap
  most : cap ≤ maxLen
  nil : a = none → cap = 0
  wf : ∀ x ∈ l, x.wf
  cell : l = [] ∨ ∃ b off, a = some ⟨b, off, none⟩ ∧ ∀ i, (hi : i < l.length) → ∀ j, j < 15 → w.cell? ⟨b, off + (i * 15 + j), none⟩ = (l[i]).cells[j]?
theorem wacts_of {w : World} {a : Option Addr} {n cap : Nat} (h : Leaf.holds w (.sl wacLeaves) (.slice a n cap)) : ∃ l, l.length = n ∧ WActs w a cap l := by
  obtain ⟨l, a', cap', hv, h1, h2, h3, h4, h5⟩ := recs_of h
  simp only [Value.slice.injEq] at hv
  obtain ⟨rfl, rfl, rfl⟩ := hv
  obtain ⟨m, hm, hp⟩ := list_of (fun i (x : WAc) => l[i]? = some x.cells ∧ x.wf) l.length (fun i hi => by
    obtain ⟨x, hx, hw⟩ := wac_of (h4 _ (List.getElem_mem hi))
    exact ⟨x, by rw [List.getElem?_eq_getElem hi, hx], hw⟩)
  refine ⟨m, hm, by omega, h2, h3, fun x hx => ?_, ?_⟩
  · obtain ⟨i, hi, rfl⟩ := List.mem_iff_getElem.1 hx
    exact (hp i hi).2
  · rcases h5 with rfl | ⟨b, off, rfl, h5⟩
    · left; simpa using hm
    · refine .inr ⟨b, off, rfl, fun i hi j hj => ?_⟩
      have h6 := h5 i (by omega) j hj
      have h7 := (hp i hi).1
      rw [List.getElem?_eq_getElem (by omega)] at h7
      simp only [Option.some.injEq] at h7
      rw [h7] at h6
      exact h6
theorem WActs.at {w : World} {a : Option Addr} {cap : Nat} {l : List WAc} (h : WActs w a cap l) (i : Nat) (hi : i < l.length) :
    ∃ b off x, a = some ⟨b, off, none⟩ ∧ l[i]? = some x ∧ x.wf ∧ w.cell? ⟨b, off + i * 15, none⟩ = some (.int .u8 x.k) ∧ w.cell? ⟨b, off + i * 15 + 1, none⟩ = some (.int .u8 x.n) ∧ w.cell? ⟨b, off + i * 15 + 2, none⟩ = some (.int .i64 x.r) ∧ w.cell? ⟨b, off + i * 15 + 3, none⟩ = some (.int .i64 x.b) ∧ w.cell? ⟨b, off + i * 15 + 4, none⟩ = some (.int .i64 x.u) ∧ w.cell? ⟨b, off + i * 15 + 5, none⟩ = some (.int .i64 x.s) ∧ w.cell? ⟨b, off + i * 15 + 6, none⟩ = some (.int .i64 x.v) ∧ w.cell? ⟨b, off + i * 15 + 7, none⟩ = some (.int .u64 x.a) ∧ w.cell? ⟨b, off + i * 15 + 8, none⟩ = some (.int .u64 x.w) ∧ w.cell? ⟨b, off + i * 15 + 9, none⟩ = some (.string x.it.key) ∧ w.cell? ⟨b, off + i * 15 + 10, none⟩ = some (.string x.it.val) ∧ w.cell? ⟨b, off + i * 15 + 11, none⟩ = some (.int .u32 x.it.flags) ∧ w.cell? ⟨b, off + i * 15 + 12, none⟩ = some (.int .u64 x.it.id) ∧ w.cell? ⟨b, off + i * 15 + 13, none⟩ = some (.int .i64 x.it.dies) ∧ w.cell? ⟨b, off + i * 15 + 14, none⟩ = some (.int .i64 x.it.gen) := by
  rcases h.cell with rfl | ⟨b, off, rfl, h5⟩
  · simp at hi
  · have h6 := h5 i hi
    refine ⟨b, off, l[i], rfl, List.getElem?_eq_getElem hi, h.wf _ (List.getElem_mem hi), h6 0 (by omega), ?_, ?_, ?_, ?_, ?_, ?_, ?_, ?_, ?_, ?_, ?_, ?_, ?_, ?_⟩
    · rw [Nat.add_assoc]; exact h6 1 (by omega)
    · rw [Nat.add_assoc]; exact h6 2 (by omega)
    · rw [Nat.add_assoc]; exact h6 3 (by omega)
    · rw [Nat.add_assoc]; exact h6 4 (by omega)
    · rw [Nat.add_assoc]; exact h6 5 (by omega)
    · rw [Nat.add_assoc]; exact h6 6 (by omega)
    · rw [Nat.add_assoc]; exact h6 7 (by omega)
    · rw [Nat.add_assoc]; exact h6 8 (by omega)
    · rw [Nat.add_assoc]; exact h6 9 (by omega)
    · rw [Nat.add_assoc]; exact h6 10 (by omega)
    · rw [Nat.add_assoc]; exact h6 11 (by omega)
    · rw [Nat.add_assoc]; exact h6 12 (by omega)
    · rw [Nat.add_assoc]; exact h6 13 (by omega)
    · rw [Nat.add_assoc]; exact h6 14 (by omega)

theorem WActs.below {w w' : World} {a : Option Addr} {cap : Nat} {l : List WAc} (h : WActs w a cap l) (hb : Below w.heap.size w w') : WActs w' a cap l := by
  refine ⟨h.le, h.most, h.nil, h.wf, h.cell.imp id fun ⟨b, off, e, h5⟩ => ⟨b, off, e, fun i hi j hj => ?_⟩⟩
  have h6 := h5 i hi j hj
  obtain ⟨v, hv⟩ : ∃ v, (l[i]).cells[j]? = some v := by
    match j, hj with
    | 0, _ | 1, _ | 2, _ | 3, _ | 4, _ | 5, _ | 6, _ | 7, _ | 8, _ | 9, _ | 10, _ | 11, _ | 12, _ | 13, _ | 14, _ => exact ⟨_, rfl⟩
  rw [hv] at h6 ⊢
  exact (hb.cell (World.block_lt_of_cell? _ _ h6)).trans h6
end Go.Proofs.YthehdcpjlddbpaaGreat

/-
  WorldsPlay: an act, in both worlds. (written by genwplay.py)
-/
namespace Go.Proofs.YthehdcpjlddbpaaGreat
open Go.RowKit Go.Maps
set_option linter.unusedVariables false

theorem cbudget {c : Conf} (h : c.ok = true) : (1 ≤ c.budget ∧ c.budget ≤ 65536) ∧ (Lit.int .i64 c.budget).wf = true := by
  unfold Conf.ok at h
  simp only [Bool.and_eq_true, decide_eq_true_eq] at h
  have hb := h.1.1.1.2
  have hmin : IntKind.i64.min = -9223372036854775808 := rfl
  have hmax : IntKind.i64.max = 9223372036854775807 := rfl
  exact ⟨hb, by simp only [Lit.wf, Bool.and_eq_true, decide_eq_true_eq]; omega⟩
/-- What stands between two acts. -/
structure DPS (w0 w : World) (B R : WB) (V : WV) (s : CS) (x : RS) (m : Nat) : Prop where
  pr : Pr w0 w B R V s x
  far : Far s x (300 + m)
  cok : V.c.ok = true
  nn : V.nts.length ≤ m
  ni : V.its.length ≤ 100 + m
  st : Nsteps V.nts s.cnt
  nk : Nkinds V.nts
section
variable {w0 w w' : World} {B R : WB} {V : WV} {s : CS} {x : RS} {m m' : Nat}
theorem DPS.keep (h : DPS w0 w B R V s x m) (hb : Below w.heap.size w w') : DPS w0 w' B R V s x m := ⟨h.pr.keep hb, h.far, h.cok, h.nn, h.ni, h.st, h.nk⟩
theorem DPS.le (h : DPS w0 w B R V s x m) (hm : m ≤ m') : DPS w0 w B R V s x m' := ⟨h.pr, ⟨Nat.le_trans h.far.1 (by omega), Nat.le_trans h.far.2.1 (by omega), Nat.le_trans h.far.2.2 (by omega)⟩, h.cok, Nat.le_trans h.nn hm, by have := h.ni; omega, h.st, h.nk⟩
theorem DPS.acc (h : DPS w0 w B R V s x m) (k a i : Int) (hp : Pr w0 w' B R V (s.acc k a i) (x.acc k a i)) : DPS w0 w' B R V (s.acc k a i) (x.acc k a i) (m + 1) :=
  ⟨hp, by have := h.far.acc h.pr.al k a i; rw [Nat.add_assoc] at this; exact this, h.cok, Nat.le_succ_of_le h.nn, by have := h.ni; omega, h.st.le (by simp only [CS.acc]; omega), h.nk⟩
end
section
variable {w0 w : World} {B R : WB} {V : WV} {s : CS} {x : RS} {m : Nat}
def DoPost (w0 w : World) (B R : WB) (m : Nat) (e : Ending) (w' : World) : Prop := e = .returned (.bool true) ∧ Fr wrTy true w w' ∧ ∃ V s x, DPS w0 w' B R V s x (m + 1)
abbrev SFour (q ab : Nat) (B R : WB) (a : Int) (W : World) : Prop := W.cell? ⟨q, 0, none⟩ = some (.pointer (some ⟨B.wb, 0, none⟩)) ∧ W.cell? ⟨q, 1, none⟩ = some (.pointer (some ⟨R.wb, 0, none⟩)) ∧ W.cell? ⟨B.wb, 0, none⟩ = some (.pointer (some ⟨B.cb, 0, none⟩)) ∧ W.cell? ⟨ab, 7, none⟩ = some (.int .u64 a)
theorem fr_drew {K : TypeId → Bool} {mp : Bool} {w w' : World} (h : Fr K mp w.drew w') : Fr K mp w w' := ⟨h.size, fun k cs T fr hk hT => h.cells k cs T fr hk hT, fun hm k es cl hk => h.map hm k es cl hk⟩
end
end Go.Proofs.YthehdcpjlddbpaaGreat

/-
  Grows: layer 19's examples.
-/
namespace Go.Proofs.YthehdcpjlddbpaaGreat
open Go.RowKit Go.Maps
set_option linter.unusedVariables false

theorem world12v (b : Int) (hb : 1 ≤ b ∧ b ≤ 12) (w : World) : Calls Tryz.prog 54 #[.int .i64 b] w fun e w' => ∃ B, e = .returned (.pointer (some ⟨B.wb, 0, none⟩)) ∧ WS w w' B (v0 ⟨b, 8, 3, 1, 16⟩) (CS.init [(2, tword b 0)]) := by
  have hn1 : Calls Tryz.prog 62 #[.agg #[.int .i64 b, .int .i64 8, .int .i64 3, .int .i64 1, .int .i64 16]] w fun e w' => ∃ B : WB, e = .returned (.tuple #[.pointer (some ⟨B.wb, 0, none⟩), .int .i64 0]) ∧ WS w w' B (v0 ⟨b, 8, 3, 1, 16⟩) (CS.init [(2, tword b 0)]) :=
    (wnew_ok ⟨b, 8, 3, 1, 16⟩ (by simp [Conf.ok]; omega) w).mono fun e w' ⟨wb, cb, ib, nb, he, g1, g2, g3, g4, g5, g6, g7⟩ => ⟨⟨wb, cb, ib, nb⟩, he, ws_of (Below.refl _ w) g1 g2 g3 g4 g5 g6 g7⟩
  clear hb
  go_enter Tryz.func54, Tryz.ntmps54
  go_wp2_with (go_at_call 62; with_reducible refine hn1.mono ?_; rintro e w1 ⟨B, rfl, h1⟩)
  go_ret
  exact ⟨_, rfl, h1⟩
theorem WS.slow {w0 w : World} {B : WB} {V : WV} {s : CS} (h : WS w0 w B V s) : w0.heap.size ≤ w.heap.size := h.below.size
set_option maxRecDepth 10000 in
set_option maxHeartbeats 2000000 in
theorem grun {w0 w : World} {B : WB} {V : WV} {s : CS} {b m : Nat} {word bits : Int} (h : WS w0 w B V s) (hm : s.n ≤ m ∧ s.cnt ≤ m) (hml : m ≤ 1000) (hlo : w0.heap.size ≤ b) (hwd : (Lit.int .u64 word).wf = true) (hl : V.nts.length < 1000) (hs : Nsteps V.nts s.cnt) (hG : GS w b 224 2 word bits) :
    Calls Tryz.prog 20 #[.pointer (some ⟨B.wb, 0, none⟩), .iface 127 (.pointer (some ⟨b, 0, none⟩)), .int .i64 9] w fun e w' => e = .returned (.int .i64 2) ∧ ∃ V', WS w0 w' B V' ((s.acc 2 3 0).acc 2 2 word) ∧ V'.nts.length ≤ V.nts.length + 1 ∧ Nsteps V'.nts ((s.acc 2 3 0).acc 2 2 word).cnt := by
  have r0 : s.room := CS.room_of m hm (by unfold lim; omega)
  have r1 : (s.acc 2 3 0).room := CS.room_of (m + 1) (room_acc m hm) (by unfold lim; omega)
  have hs1 : Nsteps V.nts (s.acc 2 3 0).cnt := hs.le (by simp only [CS.acc]; omega)
  obtain ⟨V1, hV1⟩ : ∃ V1, V1 = { V with nts := nadd V.nts ⟨(((s.acc 2 3 0).cnt + 1 : Nat) : Int), V.hd, 4, 0, 0, 0, 0, bits⟩ } := ⟨_, rfl⟩
  have hfin : V1.nts.length ≤ V.nts.length + 1 ∧ Nsteps V1.nts ((s.acc 2 3 0).acc 2 2 word).cnt := by
    rw [hV1]
    have h2 : Nsteps V.nts (((s.acc 2 3 0).cnt + 1 : Nat) : Int) := hs1.le (by omega)
    have h3 := h2.add (n := ⟨(((s.acc 2 3 0).cnt + 1 : Nat) : Int), V.hd, 4, 0, 0, 0, 0, bits⟩) rfl
    exact ⟨nadd_len V.nts ⟨(((s.acc 2 3 0).cnt + 1 : Nat) : Int), V.hd, 4, 0, 0, 0, 0, bits⟩, h3⟩
  have st2 : ∀ W, WS w0 W B V s → GS W b 224 2 word bits → Calls Tryz.prog 107 #[.pointer (some ⟨b, 0, none⟩), .pointer (some ⟨B.wb, 0, none⟩)] W fun e w' => e = .returned (.bool false) ∧ WS w0 w' B V (s.acc 2 3 0) ∧ GS w' b 224 1 word bits ∧ Fx wTy true b W w' := fun W h1 h2 => gstep2 h1 r0 hlo h2
  have st1 : ∀ W, WS w0 W B V (s.acc 2 3 0) → GS W b 224 1 word bits → Calls Tryz.prog 107 #[.pointer (some ⟨b, 0, none⟩), .pointer (some ⟨B.wb, 0, none⟩)] W fun e w' => e = .returned (.bool true) ∧ WS w0 w' B V1 ((s.acc 2 3 0).acc 2 2 word) ∧ GS w' b 224 0 word bits ∧ Fx wTy true b W w' := fun W h1 h2 => by rw [hV1]; exact gstep1 h1 r1 hlo hwd (by omega) hs1 h2
  generalize s.acc 2 3 0 = s1 at *
  generalize s1.acc 2 2 word = s2 at *
  have H := Lib.hid h; have HG := Lib.hid hG; have HF := Lib.hid hfin; have S2 := Lib.hid st2; have S1 := Lib.hid st1
  clear h hm hml hwd hl hs hG r0 r1 hs1 hV1 hfin st2 st1
  go_enter Tryz.func20, Tryz.ntmps20
  go_wp2
  go_loopw [7] (fun i wr => (i = .int .i64 0 ∧ WS w0 wr B V s ∧ GS wr b 224 2 word bits) ∨ (i = .int .i64 1 ∧ WS w0 wr B V s1 ∧ GS wr b 224 1 word bits) ∨ (i = .int .i64 2 ∧ WS w0 wr B V1 s2 ∧ GS wr b 224 0 word bits)) (fun i _ => 2 - (intOf i).toNat)
  case atStart => exact .inl ⟨rfl, H.out, HG.out⟩
  case round =>
    clear H HG
    rcases hrel with ⟨rfl, h1, h2⟩ | ⟨rfl, h1, h2⟩ | ⟨rfl, h1, h2⟩
    · have hov := gover (by decide) h2
      rw [show ((2 : Nat) == 0) = false from rfl] at hov
      have hst := S2.out _ h1 h2
      clear h1 h2
      go_wp2_with (first
        | (go_at_call 49; refine hov.mono ?_; intro e w2 hh; obtain ⟨hh1, hh2⟩ := hh; subst hh1; obtain rfl := hh2.symm; clear hov)
        | (go_at_call 107; refine hst.mono ?_; intro e w3 hh; obtain ⟨hh1, g1, g2, -⟩ := hh; subst hh1))
      exact ⟨.inr (.inl ⟨rfl, g1, g2⟩), by simp [intOf]⟩
    · have hov := gover (by decide) h2
      rw [show ((1 : Nat) == 0) = false from rfl] at hov
      have hst := S1.out _ h1 h2
      clear h1 h2
      go_wp2_with (first
        | (go_at_call 49; refine hov.mono ?_; intro e w2 hh; obtain ⟨hh1, hh2⟩ := hh; subst hh1; obtain rfl := hh2.symm; clear hov)
        | (go_at_call 107; refine hst.mono ?_; intro e w3 hh; obtain ⟨hh1, g1, g2, -⟩ := hh; subst hh1))
      exact ⟨.inr (.inr ⟨rfl, g1, g2⟩), by simp [intOf]⟩
    · have hov := gover (by decide) h2
      rw [show ((0 : Nat) == 0) = true from rfl] at hov
      have H1 := Lib.hid h1
      clear h1 h2
      go_wp2_with (go_at_call 49; refine hov.mono ?_; intro e w2 hh; obtain ⟨hh1, hh2⟩ := hh; subst hh1; obtain rfl := hh2.symm; clear hov)
      go_ret
      exact ⟨rfl, V1, H1.out, HF.out⟩
set_option maxRecDepth 10000 in
set_option maxHeartbeats 2000000 in
theorem srun {w0 w : World} {B : WB} {V : WV} {s : CS} {b m : Nat} {word bits : Int} (h : WS w0 w B V s) (hm : s.n ≤ m ∧ s.cnt ≤ m) (hml : m ≤ 1000) (hlo : w0.heap.size ≤ b) (hwd : (Lit.int .u64 word).wf = true) (hl : V.nts.length < 1000) (hs : Nsteps V.nts s.cnt) (hG : GS w b 228 1 word bits) :
    Calls Tryz.prog 20 #[.pointer (some ⟨B.wb, 0, none⟩), .iface 131 (.pointer (some ⟨b, 0, none⟩)), .int .i64 9] w fun e w' => e = .returned (.int .i64 1) ∧ ∃ V', WS w0 w' B V' (s.acc 2 2 word) := by
  have r0 : s.room := CS.room_of m hm (by unfold lim; omega)
  obtain ⟨V1, hV1⟩ : ∃ V1, V1 = { V with nts := nadd V.nts ⟨((s.cnt + 1 : Nat) : Int), V.hd, 5, 0, 0, 0, 0, bits⟩ } := ⟨_, rfl⟩
  have st1 : ∀ W, WS w0 W B V s → GS W b 228 1 word bits → Calls Tryz.prog 109 #[.pointer (some ⟨b, 0, none⟩), .pointer (some ⟨B.wb, 0, none⟩)] W fun e w' => e = .returned (.bool true) ∧ WS w0 w' B V1 (s.acc 2 2 word) ∧ GS w' b 228 0 word bits ∧ Fx wTy true b W w' := fun W h1 h2 => by rw [hV1]; exact sstep1 h1 r0 hlo hwd (by omega) hs h2
  generalize s.acc 2 2 word = s2 at *
  have H := Lib.hid h; have HG := Lib.hid hG; have S1 := Lib.hid st1
  clear h hm hml hwd hl hs hG r0 hV1 st1
  go_enter Tryz.func20, Tryz.ntmps20
  go_wp2
  go_loopw [7] (fun i wr => (i = .int .i64 0 ∧ WS w0 wr B V s ∧ GS wr b 228 1 word bits) ∨ (i = .int .i64 1 ∧ WS w0 wr B V1 s2 ∧ GS wr b 228 0 word bits)) (fun i _ => 1 - (intOf i).toNat)
  case atStart => exact .inl ⟨rfl, H.out, HG.out⟩
  case round =>
    clear H HG
    rcases hrel with ⟨rfl, h1, h2⟩ | ⟨rfl, h1, h2⟩
    · have hov := sover (by decide) h2
      rw [show ((1 : Nat) == 0) = false from rfl] at hov
      have hst := S1.out _ h1 h2
      clear h1 h2
      go_wp2_with (first
        | (go_at_call 52; refine hov.mono ?_; intro e w2 hh; obtain ⟨hh1, hh2⟩ := hh; subst hh1; obtain rfl := hh2.symm; clear hov)
        | (go_at_call 109; refine hst.mono ?_; intro e w3 hh; obtain ⟨hh1, g1, g2, -⟩ := hh; subst hh1))
      exact ⟨.inr ⟨rfl, g1, g2⟩, by simp [intOf]⟩
    · have hov := sover (by decide) h2
      rw [show ((0 : Nat) == 0) = true from rfl] at hov
      have H1 := Lib.hid h1
      clear h1 h2
      go_wp2_with (go_at_call 52; refine hov.mono ?_; intro e w2 hh; obtain ⟨hh1, hh2⟩ := hh; subst hh1; obtain rfl := hh2.symm; clear hov)
      go_ret
      exact ⟨rfl, V1, H1.out⟩
set_option maxRecDepth 10000 in
set_option maxHeartbeats 4000000 in
theorem lives19 (w : World) : Calls Tryz.prog 46 #[] w fun e w' => e = .returned (.bool true) ∧ Below w.heap.size w w' := by
  have g2 := fun W => gnew 2 (by decide) W
  rw [show gdead 2 = false by decide] at g2
  have k770 := fun W => gnew 770 (by decide) W
  rw [show gdead 770 = true by decide] at k770
  have k12 := fun W => gnew 12 (by decide) W
  rw [show gdead 12 = true by decide] at k12
  have t770 := fun W => snew 770 (by decide) W
  rw [show sdead 770 = false by decide] at t770
  have t3 := fun W => snew 3 (by decide) W
  rw [show sdead 3 = true by decide] at t3
  have ew1 : tword (asOld 2) (asOld 2 + 1) = 770 := by decide
  have ew2 : tword (asNow 770) 0 = 3 := by decide
  simp only [Bool.false_eq_true, if_false, if_true, ew1, ew2] at g2 k770 k12 t770 t3
  clear ew1 ew2
  go_enter Tryz.func46, Tryz.ntmps46
  go_upto_region 4 with (go_at_call 54; refine (world12v 2 (by decide) w).mono ?_; intro e w1 hh; obtain ⟨B, hh1, h1⟩ := hh; subst hh1; have H1 := Lib.hid h1; clear h1)
  have hm0 : (CS.init [(2, tword 2 0)]).n ≤ 1 ∧ (CS.init [(2, tword 2 0)]).cnt ≤ 1 := ⟨by decide, by decide⟩
  have hn0 : (v0 ⟨2, 8, 3, 1, 16⟩).nts = [] := rfl
  generalize CS.init [(2, tword 2 0)] = s at *
  generalize v0 ⟨2, 8, 3, 1, 16⟩ = V at *
  have hrun : ∀ (W : World) (b : Nat) (bits : Int), Below w1.heap.size w1 W → w1.heap.size ≤ b → GS W b 224 2 770 bits → Calls Tryz.prog 20 #[.pointer (some ⟨B.wb, 0, none⟩), .iface 127 (.pointer (some ⟨b, 0, none⟩)), .int .i64 9] W fun e w' => e = .returned (.int .i64 2) ∧ ∃ V', WS w w' B V' ((s.acc 2 3 0).acc 2 2 770) ∧ V'.nts.length ≤ V.nts.length + 1 ∧ Nsteps V'.nts ((s.acc 2 3 0).acc 2 2 770).cnt := fun W b bits h1 h2 h3 =>
    grun (m := 1) (H1.out.keep h1) hm0 (by decide) (Nat.le_trans H1.out.slow h2) (by decide) (by rw [hn0]; decide) (by rw [hn0]; intro y hy; cases hy) h3
  have HRUN := Lib.hid hrun
  have HM := Lib.hid hm0; have HN := Lib.hid hn0
  clear hm0 hn0 hrun
  go_upto_region 5 with (first
    | (go_at_call 47; with_reducible refine (g2 _).mono ?_; intro e w2 hh; obtain ⟨b, hh1, hG, hlb, hbb⟩ := hh; subst hh1; have hrn := HRUN.out _ _ _ hbb hlb hG; clear hG hlb hbb g2)
    | (go_at_call 20; with_reducible refine hrn.mono ?_; intro e w3 hh; obtain ⟨hh1, V3, h3, hl3, hs3⟩ := hh; subst hh1; have H3 := Lib.hid h3; have HL3 := Lib.hid hl3; have HS3 := Lib.hid hs3; clear h3 hl3 hs3 hrn))
  have v2 : ((s.acc 2 3 0).acc 2 2 770).val 2 = 770 := by simp [CS.acc, upd]
  have v3 : (((s.acc 2 3 0).acc 2 2 770).acc 2 2 3).val 3 = 0 := by simp [CS.acc, upd]
  have v4 : (((s.acc 2 3 0).acc 2 2 770).acc 2 2 3).val 2 = 3 := by simp [CS.acc, upd]
  have hm3 : ((s.acc 2 3 0).acc 2 2 770).n ≤ 3 ∧ ((s.acc 2 3 0).acc 2 2 770).cnt ≤ 3 := by have := HM.out; simp only [CS.acc]; omega
  generalize (s.acc 2 3 0).acc 2 2 770 = s3 at *
  have p2 := H3.out.peek 2 (by decide)
  rw [v2] at p2
  have c3 := H3.out.hd5.1
  have hrun3 : ∀ (W : World) (b : Nat) (bits : Int), Below w3.heap.size w3 W → w3.heap.size ≤ b → GS W b 228 1 3 bits → Calls Tryz.prog 20 #[.pointer (some ⟨B.wb, 0, none⟩), .iface 131 (.pointer (some ⟨b, 0, none⟩)), .int .i64 9] W fun e w' => e = .returned (.int .i64 1) ∧ ∃ V', WS w w' B V' (s3.acc 2 2 3) := fun W b bits h1 h2 h3 =>
    srun (m := 3) (H3.out.keep h1) hm3 (by decide) (Nat.le_trans H3.out.slow h2) (by decide) (by have h1 := HL3.out; have h2 := congrArg List.length HN.out; simp only [List.length_nil] at h2; omega) HS3.out h3
  have HRUN3 := Lib.hid hrun3
  clear hrun3
  have HV3 := Lib.hid v3; have HV4 := Lib.hid v4
  clear v2 v3 v4 hm3
  go_upto_region 7 with (first
    | (go_at_call 25; with_reducible refine p2.mono ?_; intro e w4 hh; obtain ⟨hh1, hh2⟩ := hh; subst hh1; obtain rfl := hh2.symm; clear p2 c3)
    | (go_at_call 50; with_reducible refine (t770 _).mono ?_; intro e w4 hh; obtain ⟨b4, hh1, hG, hlb, hbb⟩ := hh; subst hh1; have hrn := HRUN3.out _ _ _ hbb hlb hG; clear hG hlb hbb t770)
    | (go_at_call 20; with_reducible refine hrn.mono ?_; intro e w5 hh; obtain ⟨hh1, V5, h5⟩ := hh; subst hh1; have H5 := Lib.hid h5; have p3 := h5.peek 3 (by decide); rw [HV3.out] at p3; have p4 := h5.peek 2 (by decide); rw [HV4.out] at p4; have c5 := h5.hd5.1; clear h5 hrn))
  go_wp2_with (first
    | (go_at_call 25; with_reducible refine p3.mono ?_; intro e w6 hh; obtain ⟨hh1, hh2⟩ := hh; subst hh1; obtain rfl := hh2.symm; clear p3)
    | (go_at_call 25; with_reducible refine p4.mono ?_; intro e w6 hh; obtain ⟨hh1, hh2⟩ := hh; subst hh1; obtain rfl := hh2.symm; clear p4)
    | (go_at_call 47; with_reducible refine (k770 _).mono ?_; intro e w7 hh; obtain ⟨b7, hh1, hG7, -, hb7⟩ := hh; subst hh1; have ho7 := gover (by decide) hG7; rw [show ((0 : Nat) == 0) = true from rfl] at ho7; have B7 := Lib.hid (H5.out.keep hb7); clear hG7 hb7 k770)
    | (go_at_call 49; with_reducible refine ho7.mono ?_; intro e w8 hh; obtain ⟨hh1, hh2⟩ := hh; subst hh1; obtain rfl := hh2.symm; clear ho7)
    | (go_at_call 50; with_reducible refine (t3 _).mono ?_; intro e w9 hh; obtain ⟨b9, hh1, hG9, -, hb9⟩ := hh; subst hh1; have ho9 := sover (by decide) hG9; rw [show ((0 : Nat) == 0) = true from rfl] at ho9; have B9 := Lib.hid (B7.out.keep hb9); clear hG9 hb9 t3)
    | (go_at_call 52; with_reducible refine ho9.mono ?_; intro e w10 hh; obtain ⟨hh1, hh2⟩ := hh; subst hh1; obtain rfl := hh2.symm; clear ho9)
    | (go_at_call 47; with_reducible refine (k12 _).mono ?_; intro e w11 hh; obtain ⟨b11, hh1, hG11, -, hb11⟩ := hh; subst hh1; have ho11 := gover (by decide) hG11; rw [show ((0 : Nat) == 0) = true from rfl] at ho11; have B11 := Lib.hid (B9.out.keep hb11); clear hG11 hb11 k12)
    | (go_at_call 49; with_reducible refine ho11.mono ?_; intro e w12 hh; obtain ⟨hh1, hh2⟩ := hh; subst hh1; obtain rfl := hh2.symm; clear ho11))
  go_ret
  exact ⟨rfl, B11.out.below⟩
end Go.Proofs.YthehdcpjlddbpaaGreat

/-
  GrowsPlay: an operation of both sides; what stands between two acts.
-/
namespace Go.Proofs.YthehdcpjlddbpaaGreat
open Go.RowKit Go.Maps
set_option linter.unusedVariables false

structure Gw where
  swap : Bool
  pb : Nat
  rb : Nat
  n : Nat
  old : Int
def Gw.vals (o : Gw) : List Value := if o.swap then [.pointer none, .pointer (some ⟨o.pb, 0, none⟩), .pointer none, .pointer (some ⟨o.rb, 0, none⟩)] else [.pointer (some ⟨o.pb, 0, none⟩), .pointer none, .pointer (some ⟨o.rb, 0, none⟩), .pointer none]
def Gw.T (o : Gw) : TypeId := if o.swap then 228 else 224
def Gw.RT (o : Gw) : TypeId := if o.swap then 140 else 136
def Gw.word (o : Gw) : Int := if o.swap then tword o.old 0 else tword o.old (o.old + 1)
def Gw.bits (o : Gw) : Int := if o.swap then o.old else o.old + 1
def Gw.line (o : Gw) : Int := if o.swap then o.n else (if o.n = 2 then 1 else if o.n = 1 then 2 else 0)
structure Gw.ok (w : World) (base : Nat) (o : Gw) : Prop where
  p : ∃ wd bt, GS w o.pb o.T o.n wd bt ∧ (0 < o.n → wd = o.word ∧ bt = o.bits)
  r : ∃ x, RG w o.rb o.RT o.line x ∧ (0 < o.n → x = o.old)
  nn : o.n ≤ (if o.swap then 1 else 2)
  ob : 0 < o.n → 1 ≤ o.old ∧ o.old ≤ 12
  lop : base ≤ o.pb
  lor : base ≤ o.rb
theorem Gw.T_or (o : Gw) : o.T = 224 ∨ o.T = 228 := by unfold Gw.T; split <;> simp
theorem Gw.RT_or (o : Gw) : o.RT = 136 ∨ o.RT = 140 := by unfold Gw.RT; split <;> simp
theorem Gw.ok.blkp {w : World} {base : Nat} {o : Gw} (h : o.ok w base) : ∃ cs, w.heap[o.pb]? = some (.cells cs o.T (0, 0)) := by
  obtain ⟨wd, bt, ⟨v, h1, _⟩, _⟩ := h.p; exact ⟨_, h1⟩
theorem Gw.ok.blkr {w : World} {base : Nat} {o : Gw} (h : o.ok w base) : ∃ cs, w.heap[o.rb]? = some (.cells cs o.RT (0, 0)) := by
  obtain ⟨x, h1, _⟩ := h.r; exact ⟨_, h1⟩
theorem Gw.ok.fr {K : TypeId → Bool} {mp : Bool} {w w' : World} {base : Nat} {o : Gw} (h : o.ok w base) (hf : Fr K mp w w') (h1 : K 224 = false) (h2 : K 228 = false) (h3 : K 136 = false) (h4 : K 140 = false) (h5 : K 225 = false) : o.ok w' base := by
  obtain ⟨wd, bt, g1, g2⟩ := h.p
  obtain ⟨x, g3, g4⟩ := h.r
  refine ⟨⟨wd, bt, g1.fr hf h5 (by rcases o.T_or with e | e <;> rw [e] <;> assumption), g2⟩, ⟨x, hf.cells _ _ _ _ g3 (by rcases o.RT_or with e | e <;> rw [e] <;> assumption), g4⟩, h.nn, h.ob, h.lop, h.lor⟩
theorem Gw.ok.below {w w' : World} {base : Nat} {o : Gw} (h : o.ok w base) (hb : Below w.heap.size w w') : o.ok w' base := h.fr (below_fr hb (fun _ => false) false) rfl rfl rfl rfl rfl
theorem Gw.ok.ltp {w : World} {base : Nat} {o : Gw} (h : o.ok w base) : o.pb < w.heap.size := by obtain ⟨cs, h1⟩ := h.blkp; exact (Array.getElem?_eq_some_iff.1 h1).1
theorem Gw.ok.ltr {w : World} {base : Nat} {o : Gw} (h : o.ok w base) : o.rb < w.heap.size := by obtain ⟨cs, h1⟩ := h.blkr; exact (Array.getElem?_eq_some_iff.1 h1).1
theorem Gw.ok.base {w : World} {base base' : Nat} {o : Gw} (h : o.ok w base) (hb : base' ≤ base) : o.ok w base' := ⟨h.p, h.r, h.nn, h.ob, Nat.le_trans hb h.lop, Nat.le_trans hb h.lor⟩
theorem gcell_ty {w : World} {k : Nat} {cs cs' : Array Value} {T T' : TypeId} {fr fr' : Nat × Nat} (h : w.heap[k]? = some (.cells cs T fr)) (h' : w.heap[k]? = some (.cells cs' T' fr')) : T = T' := by
  have := h.symm.trans h'; simp only [Option.some.injEq, Obj.cells.injEq] at this; exact this.2.1
/-- Of the old blocks only such of a world, and two, have turned. -/
structure GTw (x y : Nat) (w w' : World) : Prop where
  size : w.heap.size ≤ w'.heap.size
  cells : ∀ (k : Nat) (cs : Array Value) (T : TypeId) (fr : Nat × Nat), w.heap[k]? = some (.cells cs T fr) → wrTy T = false → k ≠ x → k ≠ y → w'.heap[k]? = some (.cells cs T fr)
theorem gwr_pt {T : TypeId} (h : wrTy T = false) : wTy T = false ∧ rTy T = false := by unfold wrTy at h; simpa only [Bool.or_eq_false_iff] using h
theorem GTw.trans {x y : Nat} {a b c : World} (h : GTw x y a b) (k : GTw x y b c) : GTw x y a c :=
  ⟨Nat.le_trans h.size k.size, fun i cs T fr hi hT h1 h2 => k.cells i cs T fr (h.cells i cs T fr hi hT h1 h2) hT h1 h2⟩
theorem below_gtw {w w' : World} (h : Below w.heap.size w w') (x y : Nat) : GTw x y w w' := ⟨h.size, fun k cs T fr hk _ _ _ => (h.block k (Array.getElem?_eq_some_iff.1 hk).1).trans hk⟩
theorem Fx.gtP {mp : Bool} {x y : Nat} {w w' : World} (h : Fx wTy mp x w w') : GTw x y w w' := ⟨h.size, fun k c T f hk hT h1 _ => h.cells k c T f hk (gwr_pt hT).1 h1⟩
theorem Fx.gtR {mp : Bool} {x y : Nat} {w w' : World} (h : Fx rTy mp y w w') : GTw x y w w' := ⟨h.size, fun k c T f hk hT _ h1 => h.cells k c T f hk (gwr_pt hT).2 h1⟩
theorem Gw.T_wr (o : Gw) : wrTy o.T = false := by rcases o.T_or with e | e <;> rw [e] <;> rfl
theorem Gw.RT_wr (o : Gw) : wrTy o.RT = false := by rcases o.RT_or with e | e <;> rw [e] <;> rfl
theorem gw_ne {w : World} {base base' : Nat} {o o' : Gw} (h : o.ok w base) (h' : o'.ok w base') : o.pb ≠ o'.rb := fun e => by
  obtain ⟨cs, h1⟩ := h.blkp
  obtain ⟨cs', h2⟩ := h'.blkr
  rw [e] at h1
  have := gcell_ty h1 h2
  rcases o.T_or with e | e <;> rcases o'.RT_or with e' | e' <;> rw [e, e'] at this <;> exact absurd this (by decide)
theorem LeftV.gtw {x y : Nat} {w w' : World} {v : Value} {n : Nat} (h : LeftV w v n) (hf : GTw x y w w') {cx cy : Array Value} {Tx Ty : TypeId} {fx fy : Nat × Nat} (hx : w.heap[x]? = some (.cells cx Tx fx)) (hy : w.heap[y]? = some (.cells cy Ty fy)) (h1 : 225 ≠ Tx) (h2 : 225 ≠ Ty) : LeftV w' v n := by
  have k : ∀ {g : Nat} {cs : Array Value}, w.heap[g]? = some (.cells cs 225 (0, 0)) → w'.heap[g]? = some (.cells cs 225 (0, 0)) := fun hg => hf.cells _ _ _ _ hg rfl (fun e => by subst e; exact h1 (gcell_ty hg hx)) (fun e => by subst e; exact h2 (gcell_ty hg hy))
  match n, h with
  | 0, h => exact h
  | 1, ⟨g, o, cs, h3, h4, h5⟩ => exact ⟨g, o, cs, h3, k h4, h5⟩
  | _ + 2, ⟨g, h3, h4⟩ => exact ⟨g, h3, k h4⟩
theorem Gw.ok.gtw {w w' : World} {base base' : Nat} {o oj : Gw} (h : o.ok w base) (hj : oj.ok w base') (hf : GTw oj.pb oj.rb w w') (h1 : o.pb ≠ oj.pb) (h2 : o.rb ≠ oj.rb) : o.ok w' base := by
  obtain ⟨cp, hp⟩ := hj.blkp
  obtain ⟨cr, hr⟩ := hj.blkr
  obtain ⟨wd, bt, ⟨v, g0, g1⟩, g2⟩ := h.p
  obtain ⟨x, g3, g4⟩ := h.r
  have t1 : 225 ≠ oj.T := by rcases oj.T_or with e | e <;> rw [e] <;> decide
  have t2 : 225 ≠ oj.RT := by rcases oj.RT_or with e | e <;> rw [e] <;> decide
  exact ⟨⟨wd, bt, ⟨v, hf.cells _ _ _ _ g0 o.T_wr h1 (gw_ne h hj), g1.gtw hf hp hr t1 t2⟩, g2⟩, ⟨x, hf.cells _ _ _ _ g3 o.RT_wr (gw_ne hj h).symm h2, g4⟩, h.nn, h.ob, h.lop, h.lor⟩
theorem own_gtw {x y : Nat} {w w' : World} {base e size n : Nat} {v : Value} {xs : List Value} (h : w.ownsRow base e size v n xs) (hf : GTw x y w w') (he : wrTy e = false) {cx cy : Array Value} {Tx Ty : TypeId} {fx fy : Nat × Nat} (hx : w.heap[x]? = some (.cells cx Tx fx)) (hy : w.heap[y]? = some (.cells cy Ty fy)) (h1 : e ≠ Tx) (h2 : e ≠ Ty) : w'.ownsRow base e size v n xs := by
  obtain ⟨h3, h4 | ⟨g, cap, cur, hv, hb1, hg, r⟩⟩ := h
  · exact ⟨h3, .inl h4⟩
  · exact ⟨h3, .inr ⟨g, cap, cur, hv, hb1, hf.cells _ _ _ _ hg he (fun e => by subst e; exact h1 (gcell_ty hg hx)) (fun e => by subst e; exact h2 (gcell_ty hg hy)), r⟩⟩
/-- Behind a step of an operation, of both sides. -/
def GStepPost (w0 w : World) (B R : WB) (m : Nat) (o : Gw) (e : Ending) (w' : World) : Prop :=
  e = .returned (.bool true) ∧ ∃ (V : WV) (s : CS) (x : RS) (o' : Gw), o'.pb = o.pb ∧ o'.rb = o.rb ∧ o'.vals = o.vals ∧ DPS w0 w' B R V s x (m + 1) ∧ o'.ok w' w0.heap.size ∧ GTw o.pb o.rb w w'
structure GPS (w0 w : World) (B R : WB) (q : Nat) (V : WV) (s : CS) (x : RS) (m : Nat) (L : List Gw) (v : Value) : Prop where
  d : DPS w0 w B R V s x m
  pq : w.heap[q]? = some (.cells #[.pointer (some ⟨B.wb, 0, none⟩), .pointer (some ⟨R.wb, 0, none⟩)] 37 (0, 0))
  row : w.ownsRow w0.heap.size 134 4 v L.length (L.flatMap Gw.vals)
  ops : ∀ o ∈ L, o.ok w w0.heap.size
  dist : ∀ i j (hi : i < L.length) (hj : j < L.length), i ≠ j → (L[i]).pb ≠ (L[j]).pb ∧ (L[i]).rb ≠ (L[j]).rb
section
variable {w0 w w' : World} {B R : WB} {q : Nat} {V V' : WV} {s s' : CS} {x x' : RS} {m m' : Nat} {L : List Gw} {v : Value}
theorem GPS.below (h : GPS w0 w B R q V s x m L v) (hb : Below w.heap.size w w') : GPS w0 w' B R q V s x m L v :=
  ⟨h.d.keep hb, (hb.block _ (Array.getElem?_eq_some_iff.1 h.pq).1).trans h.pq, own_fr h.row (below_fr hb (fun _ => false) false) rfl, fun o ho => (h.ops o ho).below hb, h.dist⟩
theorem GPS.le (h : GPS w0 w B R q V s x m L v) (hm : m ≤ m') : GPS w0 w B R q V s x m' L v := ⟨h.d.le hm, h.pq, h.row, h.ops, h.dist⟩
theorem GPS.world (h : GPS w0 w B R q V s x m L v) (hp : DPS w0 w' B R V' s' x' m') (hf : Fr wrTy true w w') : GPS w0 w' B R q V' s' x' m' L v :=
  ⟨hp, hf.cells _ _ _ _ h.pq rfl, own_fr h.row hf rfl, fun o ho => (h.ops o ho).fr hf rfl rfl rfl rfl rfl, h.dist⟩
theorem gflat_set (L : List Gw) (j : Nat) (hj : j < L.length) (o : Gw) (e1 : o.vals = (L[j]).vals) : (L.set j o).flatMap Gw.vals = L.flatMap Gw.vals := by
  induction L generalizing j with
  | nil => rfl
  | cons a L ih =>
    cases j with
    | zero => simp only [List.set_cons_zero, List.flatMap_cons]; simp only [List.getElem_cons_zero] at e1; rw [e1]
    | succ j => simp only [List.set_cons_succ, List.flatMap_cons]; rw [ih j (by simpa using hj) (by simpa using e1)]
theorem GPS.step (h : GPS w0 w B R q V s x m L v) (j : Nat) (hj : j < L.length) (o : Gw) (e1 : o.pb = (L[j]).pb) (e2 : o.rb = (L[j]).rb) (e3 : o.vals = (L[j]).vals) (hp : DPS w0 w' B R V' s' x' m') (ho : o.ok w' w0.heap.size) (hf : GTw (L[j]).pb (L[j]).rb w w') : GPS w0 w' B R q V' s' x' m' (L.set j o) v := by
  have hoj := h.ops _ (List.getElem_mem hj)
  obtain ⟨cp, hcp⟩ := hoj.blkp
  obtain ⟨cr, hcr⟩ := hoj.blkr
  have hT : 134 ≠ (L[j]).T := by rcases (L[j]).T_or with e | e <;> rw [e] <;> decide
  have hT2 : 37 ≠ (L[j]).T := by rcases (L[j]).T_or with e | e <;> rw [e] <;> decide
  have hR : 134 ≠ (L[j]).RT := by rcases (L[j]).RT_or with e | e <;> rw [e] <;> decide
  have hR2 : 37 ≠ (L[j]).RT := by rcases (L[j]).RT_or with e | e <;> rw [e] <;> decide
  have hget : ∀ i (hi : i < (L.set j o).length), ((L.set j o)[i]).pb = (L[i]'(by simpa using hi)).pb ∧ ((L.set j o)[i]).rb = (L[i]'(by simpa using hi)).rb := fun i hi => by
    rw [List.getElem_set]
    split
    · rename_i e; subst e; exact ⟨e1, e2⟩
    · exact ⟨rfl, rfl⟩
  refine ⟨hp, hf.cells _ _ _ _ h.pq rfl (fun e => by have hq := h.pq; rw [e] at hq; exact hT2 (gcell_ty hq hcp)) (fun e => by have hq := h.pq; rw [e] at hq; exact hR2 (gcell_ty hq hcr)), ?_, fun o' ho' => ?_, fun a b ha hb hab => ?_⟩
  · rw [List.length_set, gflat_set L j hj o e3]
    exact own_gtw h.row hf rfl hcp hcr hT hR
  · obtain ⟨i, hi, rfl⟩ := List.mem_iff_getElem.1 ho'
    rw [List.getElem_set]
    split
    · exact ho
    · rename_i hne
      have hi' : i < L.length := by simpa using hi
      have d := h.dist i j hi' hj (fun e => hne e.symm)
      exact (h.ops _ (List.getElem_mem hi')).gtw hoj hf d.1 d.2
  · rw [(hget a ha).1, (hget a ha).2, (hget b hb).1, (hget b hb).2]
    exact h.dist a b (by simpa using ha) (by simpa using hb) hab
theorem GPS.push {wF : World} {o : Gw} {v' : Value} (h : GPS w0 w B R q V s x m L v) (hb : Below w.heap.size w wF) (ho : o.ok wF w.heap.size) (hr : w'.ownsRow w0.heap.size 134 4 v' (L.length + 1) (L.flatMap Gw.vals ++ o.vals)) (hf : Fr (fun T => T == 134) false wF w') (hB : Below w0.heap.size w0 w') : GPS w0 w' B R q V s x m (L ++ [o]) v' := by
  have hF := h.below hb
  have hopw : ∀ T, wrTy T = true → (T == 134) = false := fun T hT => by
    cases hc : (T == 134)
    · rfl
    · rw [beq_iff_eq] at hc; subst hc; cases hT
  have hlo : w0.heap.size ≤ w.heap.size := h.d.pr.ws.below.size
  refine ⟨⟨⟨hF.d.pr.ws.fr hf (fun T hT => hopw T (by unfold wrTy; rw [hT]; rfl)) hB, hF.d.pr.rd.fr hf (fun T hT => hopw T (by unfold wrTy; rw [hT]; simp)) hB, h.d.pr.al⟩, h.d.far, h.d.cok, h.d.nn, h.d.ni, h.d.st, h.d.nk⟩, hf.cells _ _ _ _ hF.pq rfl, ?_, fun o' ho' => ?_, fun a b ha hb hab => ?_⟩
  · rw [List.length_append, List.flatMap_append]; simpa using hr
  · rcases List.mem_append.1 ho' with h1 | h1
    · exact (hF.ops _ h1).fr hf rfl rfl rfl rfl rfl
    · simp only [List.mem_singleton] at h1; subst h1; exact (ho.base hlo).fr hf rfl rfl rfl rfl rfl
  · have old : ∀ i (hi : i < L.length), (L[i]).pb < w.heap.size ∧ (L[i]).rb < w.heap.size := fun i hi => ⟨(h.ops _ (List.getElem_mem hi)).ltp, (h.ops _ (List.getElem_mem hi)).ltr⟩
    simp only [List.length_append, List.length_singleton] at ha hb
    by_cases a1 : a < L.length <;> by_cases b1 : b < L.length
    · rw [List.getElem_append_left a1, List.getElem_append_left b1]; exact h.dist a b a1 b1 hab
    · obtain rfl : b = L.length := by omega
      rw [List.getElem_append_left a1, List.getElem_append_right (Nat.le_refl _)]
      have := old a a1; have h1 := ho.lop; have h2 := ho.lor
      simp only [Nat.sub_self, List.getElem_cons_zero]; omega
    · obtain rfl : a = L.length := by omega
      rw [List.getElem_append_left b1, List.getElem_append_right (Nat.le_refl _)]
      have := old b b1; have h1 := ho.lop; have h2 := ho.lor
      simp only [Nat.sub_self, List.getElem_cons_zero]; omega
    · omega
end
theorem gw_vals4 (o : Gw) : ∃ c0 c1 c2 c3 : Option Addr, o.vals = [.pointer c0, .pointer c1, .pointer c2, .pointer c3] := by
  unfold Gw.vals; split <;> exact ⟨_, _, _, _, rfl⟩
theorem gvals_at (L : List Gw) (k : Nat) (hk : k < L.length) (j : Nat) (hj : j < 4) : (L.flatMap Gw.vals)[k * 4 + j]? = ((L[k]).vals)[j]? := by
  have hlen : ∀ o : Gw, o.vals.length = 4 := fun o => by obtain ⟨_, _, _, _, e⟩ := gw_vals4 o; rw [e]; rfl
  induction L generalizing k with
  | nil => simp at hk
  | cons a L ih =>
    rw [List.flatMap_cons]
    cases k with
    | zero => rw [List.getElem?_append_left (by rw [hlen]; omega)]; simp
    | succ k =>
      rw [List.getElem?_append_right (by rw [hlen]; omega)]
      have := ih k (by simpa using hk)
      simp only [List.getElem_cons_succ]
      rw [← this]; congr 1; rw [hlen]; omega
theorem GPS.at {w0 w : World} {B R : WB} {q : Nat} {V : WV} {s : CS} {x : RS} {m : Nat} {L : List Gw} {v : Value} (h : GPS w0 w B R q V s x m L v) (k : Nat) (hk : k < L.length) : ∃ g cap c0 c1 c2 c3, v = .slice (some ⟨g, 0, none⟩) L.length cap ∧ (L[k]).vals = [.pointer c0, .pointer c1, .pointer c2, .pointer c3] ∧ w.cell? ⟨g, k * 4, none⟩ = some (.pointer c0) ∧ w.cell? ⟨g, k * 4 + 1, none⟩ = some (.pointer c1) ∧ w.cell? ⟨g, k * 4 + 2, none⟩ = some (.pointer c2) ∧ w.cell? ⟨g, k * 4 + 3, none⟩ = some (.pointer c3) := by
  obtain ⟨c0, c1, c2, c3, e⟩ := gw_vals4 (L[k])
  obtain ⟨h1, ⟨h2, h0⟩ | ⟨g, cap', cur, hv, hb, hg, hn, hm, hs, ht⟩⟩ := h.row
  · omega
  · have key : ∀ j, j < 4 → w.cell? ⟨g, k * 4 + j, none⟩ = ((L[k]).vals)[j]? := fun j hj => by
      rw [hcell hg, ← gvals_at L k hk j hj, ← ht, List.getElem?_take, if_pos (by omega)]; simp
    refine ⟨g, cap', c0, c1, c2, c3, hv, e, ?_, ?_, ?_, ?_⟩
    · have := key 0 (by omega); rw [e] at this; exact this
    · have := key 1 (by omega); rw [e] at this; exact this
    · have := key 2 (by omega); rw [e] at this; exact this
    · have := key 3 (by omega); rw [e] at this; exact this
end Go.Proofs.YthehdcpjlddbpaaGreat

/-
  GrowsPlay: a step of an operation, on both sides. (written by gengrowstep.py)
-/
namespace Go.Proofs.YthehdcpjlddbpaaGreat
open Go.RowKit Go.Maps
set_option linter.unusedVariables false

theorem grd_bes {w0 w w' : World} {B : WB} {V : WV} {x : RS} {tb : Nat} {cs : Array Value} {T : TypeId} {fr : Nat × Nat} (h : RD w0 w B V x) (hf : Fx wTy true tb w w') (hb : w.heap[tb]? = some (.cells cs T fr)) (hT : rTy T = false) (hB : Below w0.heap.size w0 w') : RD w0 w' B V x :=
  h.fr (hf.fr hb) (fun X hX => by
    simp only [Bool.or_eq_false_iff]
    refine ⟨r_not_w X hX, ?_⟩
    cases hXT : (X == T)
    · rfl
    · rw [beq_iff_eq] at hXT; subst hXT; rw [hX] at hT; cases hT) hB
theorem GS.bes {w w' : World} {b T n y : Nat} {word bits : Int} {cy : Array Value} {Ty : TypeId} {fy : Nat × Nat} (h : GS w b T n word bits) (hf : Fx rTy false y w w') (hy : w.heap[y]? = some (.cells cy Ty fy)) (hT : rTy T = false) (h1 : (T == Ty) = false) (h2 : (225 == Ty) = false) : GS w' b T n word bits :=
  h.fr (hf.fr hy) (by rw [h2]; rfl) (by rw [h1, hT]; rfl)
def GStepP (w0 w : World) (B R : WB) (V : WV) (s : CS) (x : RS) (pb rb T RT n : Nat) (wd bt ln xo : Int) (e : Ending) (w' : World) : Prop :=
  e = .returned (.bool true) ∧ Pr w0 w' B R V s x ∧ GS w' pb T n wd bt ∧ RG w' rb RT ln xo ∧ GTw pb rb w w'
section
variable {w0 w : World} {B R : WB} {V V' : WV} {s s' : CS} {x x' : RS} {pb rb n n' : Nat} {wd bt ln xo ln0 xo0 : Int}

set_option maxRecDepth 10000 in
set_option maxHeartbeats 2000000 in
theorem gostep (h : Pr w0 w B R V s x) (hP : GS w pb 224 n wd bt) (hO : w.heap[rb]? = some (.cells #[.int .i64 ln0, .int .i64 xo0] 136 (0, 0))) (hlp : w0.heap.size ≤ pb) (hlr : w0.heap.size ≤ rb) (hn : n' ≤ 2) (hov : (ln == 0) = (n' == 0)) (hal : Alike s' x')
    (hR : ∀ W, Below w.heap.size w W → Calls Tryz.prog 106 #[.pointer (some ⟨rb, 0, none⟩), .pointer (some ⟨R.wb, 0, none⟩)] W fun e w' => e = .returned (.tuple #[]) ∧ RD w0 w' R V' x' ∧ RG w' rb 136 ln xo ∧ Fx rTy false rb W w')
    (hS : ∀ W, WS w0 W B V s → GS W pb 224 n wd bt → Calls Tryz.prog 107 #[.pointer (some ⟨pb, 0, none⟩), .pointer (some ⟨B.wb, 0, none⟩)] W fun e w' => e = .returned (.bool (n' == 0)) ∧ WS w0 w' B V' s' ∧ GS w' pb 224 n' wd bt ∧ Fx wTy true pb W w') :
    Calls Tryz.prog 53 #[.agg #[.pointer (some ⟨pb, 0, none⟩), .pointer none, .pointer (some ⟨rb, 0, none⟩), .pointer none], .agg #[.pointer (some ⟨B.wb, 0, none⟩), .pointer (some ⟨R.wb, 0, none⟩)]] w (GStepP w0 w B R V' s' x' pb rb 224 136 n' wd bt ln xo) := by
  obtain ⟨csp, hpb, hlv⟩ := id hP
  have hne : pb ≠ rb := fun e => by rw [e] at hpb; exact absurd (gcell_ty hpb hO) (by decide)
  have hb1 := below_alloc w (.cells #[.pointer (some ⟨pb, 0, none⟩), .pointer none, .pointer (some ⟨rb, 0, none⟩), .pointer none] 134)
  have hb : Below w.heap.size w ((w.alloc (.cells #[.pointer (some ⟨pb, 0, none⟩), .pointer none, .pointer (some ⟨rb, 0, none⟩), .pointer none] 134)).alloc (.cells #[.pointer (some ⟨B.wb, 0, none⟩), .pointer (some ⟨R.wb, 0, none⟩)] 37)) := hb1.trans ((below_alloc _ _).mono hb1.size)
  have z : ((w.alloc (.cells #[.pointer (some ⟨pb, 0, none⟩), .pointer none, .pointer (some ⟨rb, 0, none⟩), .pointer none] 134)).alloc (.cells #[.pointer (some ⟨B.wb, 0, none⟩), .pointer (some ⟨R.wb, 0, none⟩)] 37)).heap[w.heap.size]? = some (.cells #[.pointer (some ⟨pb, 0, none⟩), .pointer none, .pointer (some ⟨rb, 0, none⟩), .pointer none] 134 (0, 0)) := heap_alloc_old (heap_alloc_new w _)
  have zp : ((w.alloc (.cells #[.pointer (some ⟨pb, 0, none⟩), .pointer none, .pointer (some ⟨rb, 0, none⟩), .pointer none] 134)).alloc (.cells #[.pointer (some ⟨B.wb, 0, none⟩), .pointer (some ⟨R.wb, 0, none⟩)] 37)).heap[w.heap.size + 1]? = some (.cells #[.pointer (some ⟨B.wb, 0, none⟩), .pointer (some ⟨R.wb, 0, none⟩)] 37 (0, 0)) := heap_alloc_at _ _ (by simp)
  have hrm := hR _ hb
  have hnq : w.heap.size ≠ rb ∧ w.heap.size + 1 ≠ rb ∧ w.heap.size ≠ pb ∧ w.heap.size + 1 ≠ pb := by
    have h1 := (Array.getElem?_eq_some_iff.1 hpb).1; have h2 := (Array.getElem?_eq_some_iff.1 hO).1; omega
  have hv : ∀ w2, Fx rTy false rb ((w.alloc (.cells #[.pointer (some ⟨pb, 0, none⟩), .pointer none, .pointer (some ⟨rb, 0, none⟩), .pointer none] 134)).alloc (.cells #[.pointer (some ⟨B.wb, 0, none⟩), .pointer (some ⟨R.wb, 0, none⟩)] 37)) w2 → GS w2 pb 224 n wd bt := fun w2 hf => (hP.below hb).bes hf ((hb.block _ (Array.getElem?_eq_some_iff.1 hO).1).trans hO) rfl rfl rfl
  have HH := Lib.hid h; have HB := Lib.hid hb; have Z := Lib.hid z; have ZP := Lib.hid zp; have HS := Lib.hid hS; have HRB := Lib.hid hO; have HPB := Lib.hid hpb; have HNE := Lib.hid hne; have HAL := Lib.hid hal; have HNQ := Lib.hid hnq; have HOV := Lib.hid hov; have HV := Lib.hid hv; have HN := Lib.hid hn
  have c2 := hcell z 2
  have p1 := hcell zp 1
  clear h hP hO hlp hlr hn hov hal hR hS hpb hlv hne hb1 hb z zp hnq hv
  go_enter Tryz.func53, Tryz.ntmps53
  go_upto_region 1 with (fail)
  change Code.wp _ _ _ _ ((w.alloc (.cells #[.pointer (some ⟨pb, 0, none⟩), .pointer none, .pointer (some ⟨rb, 0, none⟩), .pointer none] 134)).alloc (.cells #[.pointer (some ⟨B.wb, 0, none⟩), .pointer (some ⟨R.wb, 0, none⟩)] 37))
  generalize ((w.alloc (.cells #[.pointer (some ⟨pb, 0, none⟩), .pointer none, .pointer (some ⟨rb, 0, none⟩), .pointer none] 134)).alloc (.cells #[.pointer (some ⟨B.wb, 0, none⟩), .pointer (some ⟨R.wb, 0, none⟩)] 37)) = w1 at *
  generalize w.heap.size + 1 = qp at *
  go_upto_region 3 with (go_at_call 106; refine hrm.mono ?_; intro e w2 hh; obtain ⟨hh1, h2, hr2, f2⟩ := hh; subst hh1; have H2 := Lib.hid h2; have R2 := Lib.hid hr2; have F2 := Lib.hid f2; have hg2 := HV.out _ f2; have HG2 := Lib.hid hg2; clear h2 hr2 f2 hg2 hrm p1)
  have z2 := F2.out.cells _ _ _ _ Z.out rfl HNQ.out.1
  have zp2 := F2.out.cells _ _ _ _ ZP.out rfl HNQ.out.2.1
  have hr1 := (HB.out.block _ (Array.getElem?_eq_some_iff.1 HRB.out).1).trans HRB.out
  have hw2 := (HH.out.ws.keep HB.out).fx F2.out w_not_r hr1 rfl H2.out.below
  have hst := HS.out w2 hw2 HG2.out
  clear c2
  have c0 := hcell z2 0
  have c2 := hcell z2 2
  have p0 := hcell zp2 0
  have r0 := hcell R2.out 0
  obtain ⟨cs2, hp2, -⟩ := id HG2.out
  have Z2 := Lib.hid z2; have HP2 := Lib.hid hp2
  clear z2 zp2 hr1 hw2 hp2
  have hov := HOV.out
  generalize hd : (n' == 0) = d at *
  have HD := Lib.hid hd
  clear hd
  cases d
  all_goals
    go_wp2_with (first
      | (go_at_call 107; refine hst.mono ?_; intro e w3 hh; obtain ⟨hh1, h3, hk3, f3⟩ := hh; subst hh1; have hr3 := f3.cells _ _ _ _ R2.out rfl (fun e => HNE.out e.symm); have hz3 := f3.cells _ _ _ _ Z2.out rfl HNQ.out.2.2.1; have hov3 := gover HN.out hk3; rw [HD.out] at hov3; clear c0 c2; have c0 := hcell hz3 0; have H3 := Lib.hid h3; have K3 := Lib.hid hk3; have R3 := Lib.hid hr3; have F3 := Lib.hid f3; clear h3 hk3 f3 hr3 hz3 hst p0 r0)
      | (go_at_call 49; refine hov3.mono ?_; intro e w4 hh; obtain ⟨hh1, hh2⟩ := hh; subst hh1; obtain rfl := hh2.symm; clear hov3))
    go_ret
    exact ⟨rfl, ⟨H3.out, grd_bes H2.out F3.out HP2.out rfl H3.out.below, HAL.out⟩, K3.out, R3.out, ((below_gtw HB.out _ _).trans F2.out.gtR).trans F3.out.gtP⟩
set_option maxRecDepth 10000 in
set_option maxHeartbeats 2000000 in
theorem sostep (h : Pr w0 w B R V s x) (hP : GS w pb 228 n wd bt) (hO : w.heap[rb]? = some (.cells #[.int .i64 ln0, .int .i64 xo0] 140 (0, 0))) (hlp : w0.heap.size ≤ pb) (hlr : w0.heap.size ≤ rb) (hn : n' ≤ 2) (hov : (ln == 0) = (n' == 0)) (hal : Alike s' x')
    (hR : ∀ W, Below w.heap.size w W → Calls Tryz.prog 108 #[.pointer (some ⟨rb, 0, none⟩), .pointer (some ⟨R.wb, 0, none⟩)] W fun e w' => e = .returned (.tuple #[]) ∧ RD w0 w' R V' x' ∧ RG w' rb 140 ln xo ∧ Fx rTy false rb W w')
    (hS : ∀ W, WS w0 W B V s → GS W pb 228 n wd bt → Calls Tryz.prog 109 #[.pointer (some ⟨pb, 0, none⟩), .pointer (some ⟨B.wb, 0, none⟩)] W fun e w' => e = .returned (.bool (n' == 0)) ∧ WS w0 w' B V' s' ∧ GS w' pb 228 n' wd bt ∧ Fx wTy true pb W w') :
    Calls Tryz.prog 53 #[.agg #[.pointer none, .pointer (some ⟨pb, 0, none⟩), .pointer none, .pointer (some ⟨rb, 0, none⟩)], .agg #[.pointer (some ⟨B.wb, 0, none⟩), .pointer (some ⟨R.wb, 0, none⟩)]] w (GStepP w0 w B R V' s' x' pb rb 228 140 n' wd bt ln xo) := by
  obtain ⟨csp, hpb, hlv⟩ := id hP
  have hne : pb ≠ rb := fun e => by rw [e] at hpb; exact absurd (gcell_ty hpb hO) (by decide)
  have hb1 := below_alloc w (.cells #[.pointer none, .pointer (some ⟨pb, 0, none⟩), .pointer none, .pointer (some ⟨rb, 0, none⟩)] 134)
  have hb : Below w.heap.size w ((w.alloc (.cells #[.pointer none, .pointer (some ⟨pb, 0, none⟩), .pointer none, .pointer (some ⟨rb, 0, none⟩)] 134)).alloc (.cells #[.pointer (some ⟨B.wb, 0, none⟩), .pointer (some ⟨R.wb, 0, none⟩)] 37)) := hb1.trans ((below_alloc _ _).mono hb1.size)
  have z : ((w.alloc (.cells #[.pointer none, .pointer (some ⟨pb, 0, none⟩), .pointer none, .pointer (some ⟨rb, 0, none⟩)] 134)).alloc (.cells #[.pointer (some ⟨B.wb, 0, none⟩), .pointer (some ⟨R.wb, 0, none⟩)] 37)).heap[w.heap.size]? = some (.cells #[.pointer none, .pointer (some ⟨pb, 0, none⟩), .pointer none, .pointer (some ⟨rb, 0, none⟩)] 134 (0, 0)) := heap_alloc_old (heap_alloc_new w _)
  have zp : ((w.alloc (.cells #[.pointer none, .pointer (some ⟨pb, 0, none⟩), .pointer none, .pointer (some ⟨rb, 0, none⟩)] 134)).alloc (.cells #[.pointer (some ⟨B.wb, 0, none⟩), .pointer (some ⟨R.wb, 0, none⟩)] 37)).heap[w.heap.size + 1]? = some (.cells #[.pointer (some ⟨B.wb, 0, none⟩), .pointer (some ⟨R.wb, 0, none⟩)] 37 (0, 0)) := heap_alloc_at _ _ (by simp)
  have hrm := hR _ hb
  have hnq : w.heap.size ≠ rb ∧ w.heap.size + 1 ≠ rb ∧ w.heap.size ≠ pb ∧ w.heap.size + 1 ≠ pb := by
    have h1 := (Array.getElem?_eq_some_iff.1 hpb).1; have h2 := (Array.getElem?_eq_some_iff.1 hO).1; omega
  have hv : ∀ w2, Fx rTy false rb ((w.alloc (.cells #[.pointer none, .pointer (some ⟨pb, 0, none⟩), .pointer none, .pointer (some ⟨rb, 0, none⟩)] 134)).alloc (.cells #[.pointer (some ⟨B.wb, 0, none⟩), .pointer (some ⟨R.wb, 0, none⟩)] 37)) w2 → GS w2 pb 228 n wd bt := fun w2 hf => (hP.below hb).bes hf ((hb.block _ (Array.getElem?_eq_some_iff.1 hO).1).trans hO) rfl rfl rfl
  have HH := Lib.hid h; have HB := Lib.hid hb; have Z := Lib.hid z; have ZP := Lib.hid zp; have HS := Lib.hid hS; have HRB := Lib.hid hO; have HPB := Lib.hid hpb; have HNE := Lib.hid hne; have HAL := Lib.hid hal; have HNQ := Lib.hid hnq; have HOV := Lib.hid hov; have HV := Lib.hid hv; have HN := Lib.hid hn
  have c3 := hcell z 3
  have c2 := hcell z 2
  have p1 := hcell zp 1
  clear h hP hO hlp hlr hn hov hal hR hS hpb hlv hne hb1 hb z zp hnq hv
  go_enter Tryz.func53, Tryz.ntmps53
  go_upto_region 1 with (fail)
  change Code.wp _ _ _ _ ((w.alloc (.cells #[.pointer none, .pointer (some ⟨pb, 0, none⟩), .pointer none, .pointer (some ⟨rb, 0, none⟩)] 134)).alloc (.cells #[.pointer (some ⟨B.wb, 0, none⟩), .pointer (some ⟨R.wb, 0, none⟩)] 37))
  generalize ((w.alloc (.cells #[.pointer none, .pointer (some ⟨pb, 0, none⟩), .pointer none, .pointer (some ⟨rb, 0, none⟩)] 134)).alloc (.cells #[.pointer (some ⟨B.wb, 0, none⟩), .pointer (some ⟨R.wb, 0, none⟩)] 37)) = w1 at *
  generalize w.heap.size + 1 = qp at *
  go_upto_region 6 with (go_at_call 108; refine hrm.mono ?_; intro e w2 hh; obtain ⟨hh1, h2, hr2, f2⟩ := hh; subst hh1; have H2 := Lib.hid h2; have R2 := Lib.hid hr2; have F2 := Lib.hid f2; have hg2 := HV.out _ f2; have HG2 := Lib.hid hg2; clear h2 hr2 f2 hg2 hrm p1)
  have z2 := F2.out.cells _ _ _ _ Z.out rfl HNQ.out.1
  have zp2 := F2.out.cells _ _ _ _ ZP.out rfl HNQ.out.2.1
  have hr1 := (HB.out.block _ (Array.getElem?_eq_some_iff.1 HRB.out).1).trans HRB.out
  have hw2 := (HH.out.ws.keep HB.out).fx F2.out w_not_r hr1 rfl H2.out.below
  have hst := HS.out w2 hw2 HG2.out
  clear c2 c3
  have c1 := hcell z2 1
  have c3 := hcell z2 3
  have p0 := hcell zp2 0
  have r0 := hcell R2.out 0
  obtain ⟨cs2, hp2, -⟩ := id HG2.out
  have Z2 := Lib.hid z2; have HP2 := Lib.hid hp2
  clear z2 zp2 hr1 hw2 hp2
  have hov := HOV.out
  generalize hd : (n' == 0) = d at *
  have HD := Lib.hid hd
  clear hd
  cases d
  all_goals
    go_wp2_with (first
      | (go_at_call 109; refine hst.mono ?_; intro e w3 hh; obtain ⟨hh1, h3, hk3, f3⟩ := hh; subst hh1; have hr3 := f3.cells _ _ _ _ R2.out rfl (fun e => HNE.out e.symm); have hz3 := f3.cells _ _ _ _ Z2.out rfl HNQ.out.2.2.1; have hov3 := sover HN.out hk3; rw [HD.out] at hov3; clear c1 c3; have c1 := hcell hz3 1; have H3 := Lib.hid h3; have K3 := Lib.hid hk3; have R3 := Lib.hid hr3; have F3 := Lib.hid f3; clear h3 hk3 f3 hr3 hz3 hst p0 r0)
      | (go_at_call 52; refine hov3.mono ?_; intro e w4 hh; obtain ⟨hh1, hh2⟩ := hh; subst hh1; obtain rfl := hh2.symm; clear hov3))
    go_ret
    exact ⟨rfl, ⟨H3.out, grd_bes H2.out F3.out HP2.out rfl H3.out.below, HAL.out⟩, K3.out, R3.out, ((below_gtw HB.out _ _).trans F2.out.gtR).trans F3.out.gtP⟩
end
theorem wf64 {n : Int} (h : 0 ≤ n ∧ n < 18446744073709551616) : (Lit.int .u64 n).wf = true := bd_wf h
theorem DPS.accn {w0 w w' : World} {B R : WB} {V : WV} {s : CS} {x : RS} {m : Nat} (h : DPS w0 w B R V s x m) (k a i c bt : Int) (hp : Pr w0 w' B R { V with nts := nadd V.nts ⟨((s.cnt + 1 : Nat) : Int), V.hd, c, 0, 0, 0, 0, bt⟩ } (s.acc k a i) (x.acc k a i)) : DPS w0 w' B R { V with nts := nadd V.nts ⟨((s.cnt + 1 : Nat) : Int), V.hd, c, 0, 0, 0, 0, bt⟩ } (s.acc k a i) (x.acc k a i) (m + 1) := by
  have h9 := h.le (Nat.le_succ m)
  have hnn := h.nn
  have hni := h.ni
  have hln := nadd_len V.nts ⟨((s.cnt + 1 : Nat) : Int), V.hd, c, 0, 0, 0, 0, bt⟩
  have hs1 : Nsteps V.nts (((s.cnt + 1 : Nat)) : Int) := h.st.le (by omega)
  have hst := hs1.add (n := ⟨((s.cnt + 1 : Nat) : Int), V.hd, c, 0, 0, 0, 0, bt⟩) rfl
  refine ⟨hp, by have := h.far.acc h.pr.al k a i; rw [Nat.add_assoc] at this; exact this, h9.cok, by show (nadd _ _).length ≤ _; omega, by show V.its.length ≤ _; omega, hst, h.nk.add⟩
set_option maxRecDepth 10000 in
/-- A step of whatever operation. -/
theorem gostep_any {w0 w : World} {B R : WB} {V : WV} {s : CS} {x : RS} {m : Nat} {o : Gw} (h : DPS w0 w B R V s x m) (hm : m ≤ 1000) (hok : o.ok w w0.heap.size) :
    Calls Tryz.prog 53 #[.agg o.vals.toArray, .agg #[.pointer (some ⟨B.wb, 0, none⟩), .pointer (some ⟨R.wb, 0, none⟩)]] w (GStepPost w0 w B R m o) := by
  obtain ⟨rm1, rm2⟩ := far_rooms h.far h.pr.al (by omega)
  have hcnt : (x.cnt : Int) = (s.cnt : Int) := by rw [h.pr.al.cnt]
  have hnl : V.nts.length < 1048576 := by have := h.nn; omega
  have hnx : Nsteps V.nts x.cnt := by rw [hcnt]; exact h.st
  have hcx : ((x.cnt + 1 : Nat) : Int) = ((s.cnt + 1 : Nat) : Int) := by omega
  obtain ⟨sw, pb, rb, n, old⟩ := o
  obtain ⟨⟨wd, bt, hP, hpw⟩, ⟨xo, hO, hxo⟩, hn, hob, hlp, hlr⟩ := hok
  simp only at hn hob hlp hlr hpw hxo hP hO
  cases sw
  · simp only [Bool.false_eq_true, if_false] at hn
    have hP' : GS w pb 224 n wd bt := hP
    have hO' : RG w rb 136 (if n = 2 then 1 else if n = 1 then 2 else 0) xo := hO
    have hlow : ∀ W, Below w.heap.size w W → RG W rb 136 (if n = 2 then 1 else if n = 1 then 2 else 0) xo := fun W hW => (hW.block _ (Array.getElem?_eq_some_iff.1 hO').1).trans hO'
    rcases (show n = 0 ∨ n = 1 ∨ n = 2 by omega) with rfl | rfl | rfl
    · refine (gostep (V' := V) (s' := s) (x' := x) (n' := 0) (ln := 0) (xo := xo) h.pr hP' hO' hlp hlr (by decide) rfl h.pr.al (fun W hW => ?_) (fun W h1 h2 => ?_)).mono fun e w' hh => ⟨hh.1, V, s, x, ⟨false, pb, rb, 0, old⟩, rfl, rfl, rfl, ?_, ⟨⟨wd, bt, hh.2.2.1, fun hc => absurd hc (by simp)⟩, ⟨xo, hh.2.2.2.1, fun hc => absurd hc (by simp)⟩, by simp, fun hc => absurd hc (by simp), hlp, hlr⟩, hh.2.2.2.2⟩
      · have hO1 := hlow W hW
        exact (rg_fin 0 hO1 _).mono fun e w' ⟨g1, g2⟩ => by subst g2; exact ⟨g1, h.pr.rd.keep hW, hO1, (below_fr (Below.refl _ _) rTy false).fx _⟩
      · exact (gstep_over h2 _).mono fun e w' ⟨g1, g2⟩ => by subst g2; exact ⟨g1, h1, h2, (below_fr (Below.refl _ _) wTy true).fx _⟩
      · have h9 := h.le (Nat.le_succ m)
        exact ⟨hh.2.1, h9.far, h9.cok, h9.nn, h9.ni, h9.st, h9.nk⟩
    · obtain ⟨hwd, hbt⟩ := hpw (by decide)
      obtain rfl := hxo (by decide)
      have hob' := hob (by decide)
      have hwd' : wd = tword xo (xo + 1) := hwd
      have hbt' : bt = xo + 1 := hbt
      have hwf : (Lit.int .u64 wd).wf = true := by rw [hwd']; exact bd_wf (by unfold tword; omega)
      refine (gostep (V' := { V with nts := nadd V.nts ⟨((s.cnt + 1 : Nat) : Int), V.hd, 4, 0, 0, 0, 0, bt⟩ }) (s' := s.acc 2 2 wd) (x' := x.acc 2 2 wd) (n' := 0) (ln := 0) (xo := xo) h.pr hP' hO' hlp hlr (by decide) rfl (h.pr.al.acc _ _ _) (fun W hW => ?_) (fun W h1 h2 => ?_)).mono fun e w' hh => ⟨hh.1, _, _, _, ⟨false, pb, rb, 0, xo⟩, rfl, rfl, rfl, h.accn _ _ _ _ _ hh.2.1, ⟨⟨wd, bt, hh.2.2.1, fun hc => absurd hc (by simp)⟩, ⟨xo, hh.2.2.2.1, fun hc => absurd hc (by simp)⟩, by simp, fun hc => absurd hc (by simp), hlp, hlr⟩, hh.2.2.2.2⟩
      · have := rg_two (h.pr.rd.keep hW) rm2 hlr hnl hnx hob' (hlow W hW)
        rw [hcx] at this
        rw [hwd', hbt']
        exact this
      · exact gstep1 h1 rm1 hlp hwf hnl h.st h2
    · obtain ⟨hwd, hbt⟩ := hpw (by decide)
      obtain rfl := hxo (by decide)
      have hob' := hob (by decide)
      refine (gostep (V' := V) (s' := s.acc 2 3 0) (x' := x.acc 2 3 0) (n' := 1) (ln := 2) (xo := xo) h.pr hP' hO' hlp hlr (by decide) rfl (h.pr.al.acc _ _ _) (fun W hW => ?_) (fun W h1 h2 => ?_)).mono fun e w' hh => ⟨hh.1, _, _, _, ⟨false, pb, rb, 1, xo⟩, rfl, rfl, rfl, h.acc _ _ _ hh.2.1, ⟨⟨wd, bt, hh.2.2.1, fun hc => ⟨hwd, hbt⟩⟩, ⟨xo, hh.2.2.2.1, fun hc => rfl⟩, by simp, fun hc => hob', hlp, hlr⟩, hh.2.2.2.2⟩
      · exact rg_one (h.pr.rd.keep hW) rm2 hlr (hlow W hW)
      · exact gstep2 h1 rm1 hlp h2
  · simp only [if_true] at hn
    have hP' : GS w pb 228 n wd bt := hP
    have hO' : RG w rb 140 n xo := hO
    have hlow : ∀ W, Below w.heap.size w W → RG W rb 140 n xo := fun W hW => (hW.block _ (Array.getElem?_eq_some_iff.1 hO').1).trans hO'
    rcases (show n = 0 ∨ n = 1 by omega) with rfl | rfl
    · refine (sostep (V' := V) (s' := s) (x' := x) (n' := 0) (ln := 0) (xo := xo) h.pr hP' hO' hlp hlr (by decide) rfl h.pr.al (fun W hW => ?_) (fun W h1 h2 => ?_)).mono fun e w' hh => ⟨hh.1, V, s, x, ⟨true, pb, rb, 0, old⟩, rfl, rfl, rfl, ?_, ⟨⟨wd, bt, hh.2.2.1, fun hc => absurd hc (by simp)⟩, ⟨xo, hh.2.2.2.1, fun hc => absurd hc (by simp)⟩, by simp, fun hc => absurd hc (by simp), hlp, hlr⟩, hh.2.2.2.2⟩
      · have hO1 := hlow W hW
        exact (rs_fin hO1 _).mono fun e w' ⟨g1, g2⟩ => by subst g2; exact ⟨g1, h.pr.rd.keep hW, hO1, (below_fr (Below.refl _ _) rTy false).fx _⟩
      · exact (sstep_over h2 _).mono fun e w' ⟨g1, g2⟩ => by subst g2; exact ⟨g1, h1, h2, (below_fr (Below.refl _ _) wTy true).fx _⟩
      · have h9 := h.le (Nat.le_succ m)
        exact ⟨hh.2.1, h9.far, h9.cok, h9.nn, h9.ni, h9.st, h9.nk⟩
    · obtain ⟨hwd, hbt⟩ := hpw (by decide)
      obtain rfl := hxo (by decide)
      have hob' := hob (by decide)
      have hwd' : wd = tword xo 0 := hwd
      have hbt' : bt = xo := hbt
      have hwf : (Lit.int .u64 wd).wf = true := by rw [hwd']; exact bd_wf (by unfold tword; omega)
      refine (sostep (V' := { V with nts := nadd V.nts ⟨((s.cnt + 1 : Nat) : Int), V.hd, 5, 0, 0, 0, 0, bt⟩ }) (s' := s.acc 2 2 wd) (x' := x.acc 2 2 wd) (n' := 0) (ln := 0) (xo := xo) h.pr hP' hO' hlp hlr (by decide) rfl (h.pr.al.acc _ _ _) (fun W hW => ?_) (fun W h1 h2 => ?_)).mono fun e w' hh => ⟨hh.1, _, _, _, ⟨true, pb, rb, 0, xo⟩, rfl, rfl, rfl, h.accn _ _ _ _ _ hh.2.1, ⟨⟨wd, bt, hh.2.2.1, fun hc => absurd hc (by simp)⟩, ⟨xo, hh.2.2.2.1, fun hc => absurd hc (by simp)⟩, by simp, fun hc => absurd hc (by simp), hlp, hlr⟩, hh.2.2.2.2⟩
      · have := rs_one (h.pr.rd.keep hW) rm2 hlr hnl hnx hob' (hlow W hW)
        rw [hcx] at this
        rw [hwd', hbt']
        exact this
      · exact sstep1 h1 rm1 hlp hwf hnl h.st h2
end Go.Proofs.YthehdcpjlddbpaaGreat

/-
  A list of a grow's acts that came in.
-/
namespace Go.Proofs.YthehdcpjlddbpaaGreat
open Go.RowKit Go.Maps
set_option linter.unusedVariables false

structure GAc where
  k : Int
  a : Int
  t : Int
  v : Int
  i : Int
def GAc.cells (x : GAc) : List Value := [.int .u8 x.k, .int .u8 x.a, .int .u64 x.t, .int .u64 x.v, .int .u64 x.i]
structure GAc.wf (x : GAc) : Prop where
  k : (Lit.int .u8 x.k).wf = true
  a : (Lit.int .u8 x.a).wf = true
  t : (Lit.int .u64 x.t).wf = true
  v : (Lit.int .u64 x.v).wf = true
  i : (Lit.int .u64 x.i).wf = true
def gacLeaves : List Leaf := [.int .u8, .int .u8, .int .u64, .int .u64, .int .u64]
theorem gac_of {w : World} {cs : List Value} (h : Leaf.allHold w gacLeaves cs) : ∃ x : GAc, cs = x.cells ∧ x.wf := by
  obtain ⟨c0, r, rfl, g0, h⟩ := allHold_cons h
  obtain ⟨c1, r, rfl, g1, h⟩ := allHold_cons h
  obtain ⟨c2, r, rfl, g2, h⟩ := allHold_cons h
  obtain ⟨c3, r, rfl, g3, h⟩ := allHold_cons h
  obtain ⟨c4, r, rfl, g4, h⟩ := allHold_cons h
  obtain rfl := allHold_nil h
  obtain ⟨n0, rfl, w0⟩ := holds_int g0
  obtain ⟨n1, rfl, w1⟩ := holds_int g1
  obtain ⟨n2, rfl, w2⟩ := holds_int g2
  obtain ⟨n3, rfl, w3⟩ := holds_int g3
  obtain ⟨n4, rfl, w4⟩ := holds_int g4
  exact ⟨⟨n0, n1, n2, n3, n4⟩, rfl, w0, w1, w2, w3, w4⟩
/-- Accesses that may be read. -/
structure GActs (w : World) (a : Option Addr) (cap : Nat) (l : List GAc) : Prop where
  le : l.length ≤ cap
  most : cap ≤ maxLen
  nil : a = none → cap = 0
  wf : ∀ x ∈ l, x.wf
  cell : l = [] ∨ ∃ b off, a = some ⟨b, off, none⟩ ∧ ∀ i, (hi : i < l.length) → ∀ j, j < 5 → w.cell? ⟨b, off + (i * 5 + j), none⟩ = (l[i]).cells[j]?
theorem gacts_of {w : World} {a : Option Addr} {n cap : Nat} (h : Leaf.holds w (.sl gacLeaves) (.slice a n cap)) : ∃ l, l.length = n ∧ GActs w a cap l := by
  obtain ⟨l, a', cap', hv, h1, h2, h3, h4, h5⟩ := recs_of h
  simp only [Value.slice.injEq] at hv
  obtain ⟨rfl, rfl, rfl⟩ := hv
  obtain ⟨m, hm, hp⟩ := list_of (fun i (x : GAc) => l[i]? = some x.cells ∧ x.wf) l.length (fun i hi => by
    obtain ⟨x, hx, hw⟩ := gac_of (h4 _ (List.getElem_mem hi))
    exact ⟨x, by rw [List.getElem?_eq_getElem hi, hx], hw⟩)
  refine ⟨m, hm, by omega, h2, h3, fun x hx => ?_, ?_⟩
  · obtain ⟨i, hi, rfl⟩ := List.mem_iff_getElem.1 hx
    exact (hp i hi).2
  · rcases h5 with rfl | ⟨b, off, rfl, h5⟩
    · left; simpa using hm
    · refine .inr ⟨b, off, rfl, fun i hi j hj => ?_⟩
      have h6 := h5 i (by omega) j hj
      have h7 := (hp i hi).1
      rw [List.getElem?_eq_getElem (by omega)] at h7
      simp only [Option.some.injEq] at h7
      rw [h7] at h6
      exact h6
theorem GActs.at {w : World} {a : Option Addr} {cap : Nat} {l : List GAc} (h : GActs w a cap l) (i : Nat) (hi : i < l.length) :
    ∃ b off x, a = some ⟨b, off, none⟩ ∧ l[i]? = some x ∧ x.wf ∧ w.cell? ⟨b, off + i * 5, none⟩ = some (.int .u8 x.k) ∧ w.cell? ⟨b, off + i * 5 + 1, none⟩ = some (.int .u8 x.a) ∧ w.cell? ⟨b, off + i * 5 + 2, none⟩ = some (.int .u64 x.t) ∧ w.cell? ⟨b, off + i * 5 + 3, none⟩ = some (.int .u64 x.v) ∧ w.cell? ⟨b, off + i * 5 + 4, none⟩ = some (.int .u64 x.i) := by
  rcases h.cell with rfl | ⟨b, off, rfl, h5⟩
  · simp at hi
  · have h6 := h5 i hi
    refine ⟨b, off, l[i], rfl, List.getElem?_eq_getElem hi, h.wf _ (List.getElem_mem hi), h6 0 (by omega), ?_, ?_, ?_, ?_⟩
    · rw [Nat.add_assoc]; exact h6 1 (by omega)
    · rw [Nat.add_assoc]; exact h6 2 (by omega)
    · rw [Nat.add_assoc]; exact h6 3 (by omega)
    · rw [Nat.add_assoc]; exact h6 4 (by omega)

theorem GActs.below {w w' : World} {a : Option Addr} {cap : Nat} {l : List GAc} (h : GActs w a cap l) (hb : Below w.heap.size w w') : GActs w' a cap l := by
  refine ⟨h.le, h.most, h.nil, h.wf, h.cell.imp id fun ⟨b, off, e, h5⟩ => ⟨b, off, e, fun i hi j hj => ?_⟩⟩
  have h6 := h5 i hi j hj
  obtain ⟨v, hv⟩ : ∃ v, (l[i]).cells[j]? = some v := by
    match j, hj with
    | 0, _ | 1, _ | 2, _ | 3, _ | 4, _ => exact ⟨_, rfl⟩
  rw [hv] at h6 ⊢
  exact (hb.cell (World.block_lt_of_cell? _ _ h6)).trans h6
end Go.Proofs.YthehdcpjlddbpaaGreat

/-
  GrowsPlay: the walk. (written by gengrowplay.py)
-/
namespace Go.Proofs.YthehdcpjlddbpaaGreat
open Go.RowKit Go.Maps
set_option linter.unusedVariables false

theorem gdps_begin {w0 w : World} {B R : WB} {V : WV} {s : CS} {x : RS} {f : Fst} (hpr : Pr w0 w B R V s x) (hV : V = { v0 f.conf with its := f.its }) (hfar : Far s x 300) (hcok : f.conf.ok = true) (hitl : f.its.length ≤ 40) : DPS w0 w B R V s x 0 := by
  refine ⟨hpr, hfar, by rw [hV]; exact hcok, by rw [hV]; exact Nat.zero_le _, by rw [hV]; show f.its.length ≤ _; omega, (by rw [hV]; intro y hy; cases hy), (by rw [hV]; intro y hy; cases hy)⟩
theorem below_drw {w w' : World} (h : Below w.drew.heap.size w.drew w') : Below w.heap.size w w' := ⟨h.os, h.tape, h.output, h.size, fun k hk => h.block k hk⟩
theorem drw_le {w : World} {n : Nat} (h : w.drew.heap.size ≤ n) : w.heap.size ≤ n := h
theorem id' (w : World) {w' : World} (h : Below w.heap.size w w') : Below w.heap.size w w' := h
theorem below_al {w w' : World} {o : Obj} (h : Below (w.alloc o).heap.size (w.alloc o) w') : Below w.heap.size w w' := (below_alloc w o).trans (h.mono (below_alloc w o).size)
abbrev GOne (ab : Nat) (t v : Int) (W : World) : Prop := W.cell? ⟨ab, 2, none⟩ = some (.int .u64 t) ∧ W.cell? ⟨ab, 3, none⟩ = some (.int .u64 v)
theorem gone_al {ab : Nat} {t v : Int} {W : World} {o : Obj} (h : GOne ab t v W) : GOne ab t v (W.alloc o) := by
  have k : ∀ {j : Nat} {v : Value}, W.cell? ⟨ab, j, none⟩ = some v → (W.alloc o).cell? ⟨ab, j, none⟩ = some v := fun h => by rw [World.cell?_alloc_past _ _ _ (World.block_lt_of_cell? _ _ h)]; exact h
  exact ⟨k h.1, k h.2⟩
theorem gone_drew {ab : Nat} {t v : Int} {W : World} (h : GOne ab t v W) : GOne ab t v W.drew := h
theorem gone_below {ab : Nat} {t v : Int} {W W' : World} (h : GOne ab t v W) (hb : Below W.heap.size W W') : GOne ab t v W' := by
  have k : ∀ {j : Nat} {v : Value}, W.cell? ⟨ab, j, none⟩ = some v → W'.cell? ⟨ab, j, none⟩ = some v := fun h => (hb.cell (World.block_lt_of_cell? _ _ h)).trans h
  exact ⟨k h.1, k h.2⟩
theorem gone_set {ab obk o : Nat} {t v : Int} {W : World} {u : Value} (h : GOne ab t v W) (hne : ab ≠ obk) : GOne ab t v (W.setCell ⟨obk, o, none⟩ u) := by
  have k : ∀ {j : Nat} {u' : Value}, W.cell? ⟨ab, j, none⟩ = some u' → (W.setCell ⟨obk, o, none⟩ u).cell? ⟨ab, j, none⟩ = some u' := fun h => (World.cell?_setCell_other _ _ _ _ (by first | (simp; done) | (simp; omega))).trans h
  exact ⟨k h.1, k h.2⟩
theorem gw_store {w w1 : World} {obk : Nat} {o : Gw} {a b c d v0 v1 v2 v3 : Value} (hz : w1.heap[obk]? = some (.cells #[a, b, c, d] 134 (0, 0))) (ho : o.ok w1 w.heap.size) (hb : Below w.heap.size w w1) (hl : w.heap.size ≤ obk) (hv : o.vals = [v0, v1, v2, v3]) :
    ((((w1.setCell ⟨obk, 0, none⟩ v0).setCell ⟨obk, 1, none⟩ v1).setCell ⟨obk, 2, none⟩ v2).setCell ⟨obk, 3, none⟩ v3).heap[obk]? = some (.cells o.vals.toArray 134 (0, 0)) ∧ o.ok ((((w1.setCell ⟨obk, 0, none⟩ v0).setCell ⟨obk, 1, none⟩ v1).setCell ⟨obk, 2, none⟩ v2).setCell ⟨obk, 3, none⟩ v3) w.heap.size ∧ w.heap.size ≤ obk ∧ Below w.heap.size w ((((w1.setCell ⟨obk, 0, none⟩ v0).setCell ⟨obk, 1, none⟩ v1).setCell ⟨obk, 2, none⟩ v2).setCell ⟨obk, 3, none⟩ v3) := by
  have s1 := setCell_same hz 0 v0
  have s2 := setCell_same s1 1 v1
  have s3 := setCell_same s2 2 v2
  have s4 := setCell_same s3 3 v3
  have f : Fr (fun T => T == 134) false w1 ((((w1.setCell ⟨obk, 0, none⟩ v0).setCell ⟨obk, 1, none⟩ v1).setCell ⟨obk, 2, none⟩ v2).setCell ⟨obk, 3, none⟩ v3) := (((set_ty hz 0 v0).trans (set_ty s1 1 v1)).trans (set_ty s2 2 v2)).trans (set_ty s3 3 v3)
  have b1 := set_below hb hb.size hl 0 v0
  have b2 := set_below b1 b1.size hl 1 v1
  have b3 := set_below b2 b2.size hl 2 v2
  refine ⟨?_, ho.fr f rfl rfl rfl rfl rfl, hl, set_below b3 b3.size hl 3 v3⟩
  rw [hv]; exact s4
theorem tsize_nz {b : Int} (h : ¬ tsize b = 0) : 1 ≤ b ∧ b ≤ 12 := by
  unfold tsize at h
  split at h
  · exact absurd rfl h
  · omega
theorem asOld_in (t : Int) : 1 ≤ asOld t ∧ asOld t ≤ 12 := by
  unfold asOld
  split
  · omega
  · rename_i h; exact tsize_nz h
theorem asNow_in {t : Int} (h : asNow t ≠ 0) : 1 ≤ asNow t ∧ asNow t ≤ 12 := by
  unfold asNow at h ⊢
  split at h
  · exact absurd rfl h
  · rename_i h2
    rw [if_neg h2]
    exact tsize_nz (fun e => h2 (.inr e))
def GBeg (sw : Bool) (T RT new rnew : Nat) (t : Int) (n : Nat) (wd bt ln xo old : Int) : Prop :=
  n ≤ 2 ∧ (ln == 0) = (n == 0) ∧ (∀ W, Calls Tryz.prog new #[.int .u64 t] W fun e w' => ∃ b, e = .returned (.pointer (some ⟨b, 0, none⟩)) ∧ GS w' b T n wd bt ∧ W.heap.size ≤ b ∧ Below W.heap.size W w') ∧ (∀ W, Calls Tryz.prog rnew #[.int .u64 t] W fun e w' => ∃ b, e = .returned (.pointer (some ⟨b, 0, none⟩)) ∧ RG w' b RT ln xo ∧ W.heap.size ≤ b ∧ Below W.heap.size W w') ∧ ∀ (W : World) (base pb rb : Nat), GS W pb T n wd bt → RG W rb RT ln xo → base ≤ pb → base ≤ rb → Gw.ok W base ⟨sw, pb, rb, n, old⟩ ∧ RG W rb RT ln xo
theorem gbegin (t : Int) (ht : (Lit.int .u64 t).wf = true) : ∃ n wd bt ln xo old, GBeg false 224 136 47 48 t n wd bt ln xo old := by
  have h1 := fun W => gnew t ht W
  have h2 := fun W => rgnew t (wf_bd ht) W
  have hoi := asOld_in t
  cases hd : gdead t
  · simp only [hd, Bool.false_eq_true, if_false] at h1 h2
    have ho : asOld t ≤ 12 := hoi.2
    exact ⟨2, _, _, 1, asOld t, asOld t, by decide, rfl, h1, h2, fun W base pb rb g1 g2 g3 g4 => ⟨⟨⟨_, _, g1, fun _ => ⟨rfl, rfl⟩⟩, ⟨_, g2, fun _ => rfl⟩, (show (2 : Nat) ≤ 2 by decide), fun _ => hoi, g3, g4⟩, g2⟩⟩
  · simp only [hd, if_true] at h1 h2
    exact ⟨0, _, _, 0, 0, 1, by decide, rfl, h1, h2, fun W base pb rb g1 g2 g3 g4 => ⟨⟨⟨_, _, g1, fun hc => absurd hc (by simp)⟩, ⟨_, g2, fun hc => absurd hc (by simp)⟩, (show (0 : Nat) ≤ 2 by decide), fun _ => (show (1 : Int) ≤ 1 ∧ (1 : Int) ≤ 12 by decide), g3, g4⟩, g2⟩⟩
theorem sbegin (t : Int) (ht : (Lit.int .u64 t).wf = true) : ∃ n wd bt ln xo old, GBeg true 228 140 50 51 t n wd bt ln xo old := by
  have h1 := fun W => snew t ht W
  have h2 := fun W => rsnew t (wf_bd ht) W
  cases hd : sdead t
  · have hoi : 1 ≤ asNow t ∧ asNow t ≤ 12 := asNow_in (by unfold sdead at hd; exact beq_eq_false_iff_ne.1 hd)
    simp only [hd, Bool.false_eq_true, if_false] at h1 h2
    exact ⟨1, _, _, 1, asNow t, asNow t, by decide, rfl, h1, h2, fun W base pb rb g1 g2 g3 g4 => ⟨⟨⟨_, _, g1, fun _ => ⟨rfl, rfl⟩⟩, ⟨_, g2, fun _ => rfl⟩, (show (1 : Nat) ≤ 1 by decide), fun _ => hoi, g3, g4⟩, g2⟩⟩
  · simp only [hd, if_true] at h1 h2
    exact ⟨0, _, _, 0, 0, 1, by decide, rfl, h1, h2, fun W base pb rb g1 g2 g3 g4 => ⟨⟨⟨_, _, g1, fun hc => absurd hc (by simp)⟩, ⟨_, g2, fun hc => absurd hc (by simp)⟩, (show (0 : Nat) ≤ 1 by decide), fun _ => (show (1 : Int) ≤ 1 ∧ (1 : Int) ≤ 12 by decide), g3, g4⟩, g2⟩⟩
theorem info_gop : (Tryz.prog.info? 134).map (fun i => (i.zero, i.size, i.bytes)) = some (some (.agg #[.pointer none, .pointer none, .pointer none, .pointer none]), 4, 32) := by kernel_rfl
theorem rg_below {w w' : World} {rb T : Nat} {ln xo : Int} (h : RG w rb T ln xo) (hb : Below w.heap.size w w') : RG w' rb T ln xo := (hb.block _ (Array.getElem?_eq_some_iff.1 h).1).trans h
theorem gset4 {w : World} {obk rb T : Nat} {ln xo : Int} {cs : Array Value} {v0 v1 v2 v3 : Value} (hz : w.heap[obk]? = some (.cells cs 134 (0, 0))) (h : RG w rb T ln xo) (hT : (T == 134) = false := by rfl) : RG ((((w.setCell ⟨obk, 0, none⟩ v0).setCell ⟨obk, 1, none⟩ v1).setCell ⟨obk, 2, none⟩ v2).setCell ⟨obk, 3, none⟩ v3) rb T ln xo := by
  have s1 := setCell_same hz 0 v0
  have s2 := setCell_same s1 1 v1
  have s3 := setCell_same s2 2 v2
  have f : Fr (fun T => T == 134) false w ((((w.setCell ⟨obk, 0, none⟩ v0).setCell ⟨obk, 1, none⟩ v1).setCell ⟨obk, 2, none⟩ v2).setCell ⟨obk, 3, none⟩ v3) := (((set_ty hz 0 v0).trans (set_ty s1 1 v1)).trans (set_ty s2 2 v2)).trans (set_ty s3 3 v3)
  exact f.cells _ _ _ _ h hT
set_option maxRecDepth 100000 in
set_option maxHeartbeats 8000000 in
theorem gplay_any (f : Fst) (l : List GAc) (al : Option Addr) (capl : Nat) (w : World) (hr : FstRd w f) (hl : GActs w al capl l) :
    Calls Tryz.prog 9 #[.agg #[.int .i64 f.c.bits, .int .i64 f.c.budget, .int .i64 f.c.tries, .int .i64 f.c.quantum, .int .i64 f.c.way, .bool f.gr, .slice f.ia f.its.length f.ic, .slice f.pa f.puts.length f.pc, .slice f.sa f.sts.length f.sc, .int .i64 f.ticks], .slice al l.length capl] w
    fun e w' => e = .returned (.bool true) ∧ Below w.heap.size w w' := by
  have hml : l.length ≤ maxLen := Nat.le_trans hl.le hl.most
  unfold maxLen at hml
  obtain ⟨i0, hi0, hi1, hi2, hi3⟩ := info_parts info_gop
  have I0 := Lib.hid hi0; have I1 := Lib.hid hi1; have I2 := Lib.hid hi2; have I3 := Lib.hid hi3
  clear hi0 hi1 hi2 hi3
  have hB := below_alloc w (.cells f.cells 28)
  have z := heap_alloc_new w (.cells f.cells 28)
  have HR := Lib.hid (hr.below hB); have HB := Lib.hid hB; have HZ := Lib.hid z; have HLL := Lib.hid hl
  clear hr hB z hl
  go_enter Tryz.func9, Tryz.ntmps9
  go_upto_region 1 with (fail)
  change Code.wp _ _ _ _ (w.alloc (.cells f.cells 28))
  generalize w.alloc (.cells f.cells 28) = w1 at *
  have z := HZ.out
  obtain ⟨e0, e1, e2, e3, e4, e5, e6, e7, e8, e9⟩ := fst_cells z
  clear z
  by_cases h3 : 200 < l.length
  · have d3 : decide ((200 : Int) < l.length) = true := decide_eq_true (by omega)
    clear h3
    go_upto_if 18 with (go_at_call 10; refine (great_any f w1 HR.out).mono ?_; rintro e w2 ⟨g, rfl, b2, hg⟩; have B2 := Lib.hid b2; clear b2 hg e0 e1 e2 e3 e4 e5 e6 e7 e8 e9; cases g)
    all_goals
      go_wp2_with (go_at_call 46; refine (lives19 _).mono ?_; rintro e w3 ⟨rfl, b3⟩)
      go_ret
      have h1 := HB.out.trans (B2.out.mono HB.out.size)
      exact ⟨rfl, h1.trans (b3.mono h1.size)⟩
  have d3 : decide ((200 : Int) < l.length) = false := decide_eq_false (by omega)
  have HL3 : Hid (l.length ≤ 200) := by show l.length ≤ 200; omega
  clear h3
  go_upto_if 18 with (go_at_call 10; refine (great_any f w1 HR.out).mono ?_; rintro e w2 ⟨g, rfl, b2, hg⟩; have B2 := Lib.hid b2; have HG := Lib.hid hg; clear b2 hg e0 e1 e2 e3 e4 e5 e6 e7 e8 e9; cases g)
  rotate_left
  · go_wp2_with (go_at_call 46; refine (lives19 _).mono ?_; rintro e w3 ⟨rfl, b3⟩)
    go_ret
    have h1 := HB.out.trans (B2.out.mono HB.out.size)
    exact ⟨rfl, h1.trans (b3.mono h1.size)⟩
  obtain ⟨hin, hsz⟩ := HG.out trivial
  have HIN := Lib.hid (hin.below B2.out)
  have hitl : f.its.length ≤ 40 := hin.ni
  have HBB : Hid (Below w.heap.size w w2) := HB.out.trans (B2.out.mono HB.out.size)
  have z := (B2.out.block _ (Array.getElem?_eq_some_iff.1 HZ.out).1).trans HZ.out
  obtain ⟨e0, e1, e2, e3, e4, e5, e6, e7, e8, e9⟩ := fst_cells z
  clear z hin hsz
  go_upto_region 4 with (go_at_call 12; refine (begin_any f w2 HIN.out).mono ?_; rintro e w3 ⟨B, R, V, s, x, rfl, hpr, hV, hfar, hcok, -⟩; have hdp := gdps_begin hpr hV hfar hcok hitl; have HPR := Lib.hid hdp; clear hdp; clear hpr hV hfar hcok e0 e1 e2 e3 e4 e5 e6 e7 e8 e9)
  have hq0 := heap_alloc_new w3 (.cells #[.pointer (some ⟨B.wb, 0, none⟩), .pointer (some ⟨R.wb, 0, none⟩)] 37)
  have hB4 := below_alloc w3 (.cells #[.pointer (some ⟨B.wb, 0, none⟩), .pointer (some ⟨R.wb, 0, none⟩)] 37)
  have HPR4 := Lib.hid (HPR.out.keep hB4)
  change Code.wp _ _ _ _ (w3.alloc (.cells #[.pointer (some ⟨B.wb, 0, none⟩), .pointer (some ⟨R.wb, 0, none⟩)] 37))
  generalize w3.alloc (.cells #[.pointer (some ⟨B.wb, 0, none⟩), .pointer (some ⟨R.wb, 0, none⟩)] 37) = w4 at *
  generalize w3.heap.size = q at *
  have HQ4 := Lib.hid hq0
  clear HPR hq0 hB4
  have HMP : Hid (GPS w2 w4 B R q V s x 0 [] (.slice none 0 0)) := ⟨HPR4.out, HQ4.out, World.ownsRow_nil _ _ _ _, fun o ho => (by cases ho), fun i j hi => (by cases hi)⟩
  clear HPR4 HQ4 d3 hitl HIN B2 HG HZ HR HB
  have HLL2 := Lib.hid (HLL.out.below HBB.out)
  clear HLL
  generalize (Value.agg #[.int .i64 f.c.bits, .int .i64 f.c.budget, .int .i64 f.c.tries, .int .i64 f.c.quantum, .int .i64 f.c.way, .bool f.gr, .slice f.ia f.its.length f.ic, .slice f.pa f.puts.length f.pc, .slice f.sa f.sts.length f.sc, .int .i64 f.ticks]) = va at *
  go_wp2_with fail
  go_loopw [6, 7] (fun v i wr => ∃ (k : Nat) (V : WV) (s : CS) (x : RS) (L : List Gw), k ≤ l.length ∧ i = .int .i64 k ∧ GPS w2 wr B R q V s x k L v ∧ L.length ≤ k) (fun _ i _ => l.length - (intOf i).toNat)
  case atStart => exact ⟨0, V, s, x, [], by omega, rfl, HMP.out, by simp⟩
  case round =>
    clear HMP V s x
    obtain ⟨i, V, s, x, L, hi, rfl, hT, hLi⟩ := hrel
    have hl300 := HL3.out
    by_cases hlt : i < l.length
    · have hlt' : (i : Int) < l.length := by omega
      obtain ⟨b, off, y, rfl, hy, hyw, y0, y1, y2, y3, y4⟩ := (HLL2.out.below (w := w2) (w' := wr) hT.d.pr.ws.below).at i hlt
      have hkb := wf_u8 hyw.k
      obtain ⟨kk, hkk⟩ : ∃ kk : Nat, (kk : Int) = y.k % 8 := ⟨(y.k % 8).toNat, by omega⟩
      have e3 : y.k.tmod 8 = kk := by rw [Int.tmod_eq_emod_of_nonneg hkb.1, hkk]
      have hk10 : kk < 8 := by omega
      have hb1 := below_alloc wr (.cells #[.int .u8 y.k, .int .u8 y.a, .int .u64 y.t, .int .u64 y.v, .int .u64 y.i] 126)
      have hz1 := heap_alloc_new wr (.cells #[.int .u8 y.k, .int .u8 y.a, .int .u64 y.t, .int .u64 y.v, .int .u64 y.i] 126)
      have HT := Lib.hid (hT.below hb1); have HZ1 := Lib.hid hz1; have HYW := Lib.hid hyw
      clear hb1 hz1 hT hy hyw hkb hkk
      go_upto_region 9 with (fail)
      change Code.wp _ _ _ _ (wr.alloc (.cells #[.int .u8 y.k, .int .u8 y.a, .int .u64 y.t, .int .u64 y.v, .int .u64 y.i] 126))
      generalize wr.alloc (.cells #[.int .u8 y.k, .int .u8 y.a, .int .u64 y.t, .int .u64 y.v, .int .u64 y.i] 126) = w6 at *
      generalize wr.heap.size = ab at *
      clear y0 y1 y2 y3 y4
      have y0 : w6.cell? ⟨ab, 0, none⟩ = some (.int .u8 y.k) := hcell HZ1.out 0
      go_upto_block 2 with (fail)
      clear y0 e3
      obtain ⟨vo, vcap, rfl⟩ := own_sl2 HT.out.row
      go_cut [6] (fun v wx => ∃ (V : WV) (s : CS) (x : RS) (L : List Gw), GPS w2 wx B R q V s x (i + 1) L v ∧ L.length ≤ i + 1)
      case first =>
        rcases (show kk = 0 ∨ kk = 1 ∨ kk = 2 ∨ 3 ≤ kk by omega) with h5 | h5 | h5 | h5
        · -- an operation begins
          have d0 : ((kk : Int) == 0) = true := beq_iff_eq.2 (by omega)
          go_upto_region 11 with (fail)
          clear d0
          clear h5
          obtain ⟨n, wd, bt, ln, xo, old, hn2, hln, hnew, hrnew, hput⟩ := gbegin y.t HYW.out.t
          have HN2 := Lib.hid hn2; have HLN := Lib.hid hln; have HNEW := Lib.hid hnew; have HRNEW := Lib.hid hrnew; have HPUT := Lib.hid hput
          clear hn2 hln hnew hrnew hput
          have y2 : w6.drew.cell? ⟨ab, 2, none⟩ = some (.int .u64 y.t) := hcell (w := w6.drew) HZ1.out 2
          have y3 : w6.drew.cell? ⟨ab, 3, none⟩ = some (.int .u64 y.v) := hcell (w := w6.drew) HZ1.out 3
          have hg6 : GOne ab y.t y.v w6 := ⟨y2, y3⟩
          have hab : ab < w6.heap.size := (Array.getElem?_eq_some_iff.1 HZ1.out).1
          go_cut [10] (fun v wx => ∃ (obk pb rb : Nat), v = .pointer (some ⟨obk, 0, none⟩) ∧ wx.heap[obk]? = some (.cells #[.pointer (some ⟨pb, 0, none⟩), .pointer none, .pointer (some ⟨rb, 0, none⟩), .pointer none] 134 (0, 0)) ∧ ((⟨false, pb, rb, n, old⟩ : Gw).ok wx w6.heap.size ∧ RG wx rb 136 ln xo) ∧ w6.heap.size ≤ obk ∧ Below w6.heap.size w6 wx)
          case first =>
            go_region_held2 (fun W => GOne ab y.t y.v W) (first | exact ⟨y2, y3⟩ | with_reducible assumption | (with_reducible refine gone_al ?_; with_reducible assumption) | (with_reducible refine gone_drew (gone_al ?_); with_reducible assumption) | (with_reducible refine gone_set (gone_set (gone_set (gone_set ?_ ?_) ?_) ?_) ?_ <;> first | with_reducible assumption | omega | (simp; omega))) (first
              | (go_at_call 47; refine (HNEW.out _).mono ?_; intro e wP hh; obtain ⟨pb, hh1, ht, hpl, hb0⟩ := hh; subst hh1; have hsP := gone_below (by with_reducible assumption) hb0; (first | (have hB := below_drw (w := w6) hb0; have hP := drw_le (w := w6) hpl; have TP := Lib.hid ht; have HBP := Lib.hid hB; have HPP := Lib.hid hP; have hzP := hB.size; clear hB hP) | (have hB := below_al (w := w6) (o := .cells #[.pointer none, .pointer none, .pointer none, .pointer none] 134) (below_drw hb0); have hP := Nat.le_trans (below_alloc w6 (.cells #[.pointer none, .pointer none, .pointer none, .pointer none] 134)).size hpl; have zo := (hb0.block _ (Array.getElem?_eq_some_iff.1 (heap_alloc_new w6 (.cells #[.pointer none, .pointer none, .pointer none, .pointer none] 134))).1).trans (heap_alloc_new w6 (.cells #[.pointer none, .pointer none, .pointer none, .pointer none] 134)); have o0 := hcell zo 0; have o1 := hcell zo 1; have o2 := hcell zo 2; have o3 := hcell zo 3; have of0 := hfrz zo 0; have of1 := hfrz zo 1; have of2 := hfrz zo 2; have of3 := hfrz zo 3; have HZO := Lib.hid zo; clear zo; have TP := Lib.hid ht; have HBP := Lib.hid hB; have HPP := Lib.hid hP; have hzP := hB.size; clear hB hP) | (have hb1 := id' wR hb0; have hpl1 := hpl; (first | (have zo := (hb0.block _ (Array.getElem?_eq_some_iff.1 HZO.out).1).trans HZO.out; clear o0 o1 o2 o3 of0 of1 of2 of3 HZO; have o0 := hcell zo 0; have o1 := hcell zo 1; have o2 := hcell zo 2; have o3 := hcell zo 3; have of0 := hfrz zo 0; have of1 := hfrz zo 1; have of2 := hfrz zo 2; have of3 := hfrz zo 3; have HZO := Lib.hid zo; clear zo) | skip); have q1 := HPUT.out _ _ _ _ ht ((hb1.block _ (Array.getElem?_eq_some_iff.1 TR.out).1).trans TR.out) (Nat.le_trans HBR.out.size hpl1) HPR.out; have q2 := HBR.out.trans (hb1.mono HBR.out.size); have HF := Lib.hid (And.intro q1 q2); have hzP := q2.size; clear q1 q2 hb1 hpl1) | (have hb1 := below_al (w := wR) hb0; have hpl1 := Nat.le_trans (below_alloc wR (.cells #[.pointer none, .pointer none, .pointer none, .pointer none] 134)).size hpl; have zo := (hb0.block _ (Array.getElem?_eq_some_iff.1 (heap_alloc_new wR (.cells #[.pointer none, .pointer none, .pointer none, .pointer none] 134))).1).trans (heap_alloc_new wR (.cells #[.pointer none, .pointer none, .pointer none, .pointer none] 134)); have o0 := hcell zo 0; have o1 := hcell zo 1; have o2 := hcell zo 2; have o3 := hcell zo 3; have of0 := hfrz zo 0; have of1 := hfrz zo 1; have of2 := hfrz zo 2; have of3 := hfrz zo 3; have HZO := Lib.hid zo; clear zo; have q1 := HPUT.out _ _ _ _ ht ((hb1.block _ (Array.getElem?_eq_some_iff.1 TR.out).1).trans TR.out) (Nat.le_trans HBR.out.size hpl1) HPR.out; have q2 := HBR.out.trans (hb1.mono HBR.out.size); have HF := Lib.hid (And.intro q1 q2); have hzP := q2.size; clear q1 q2 hb1 hpl1)); clear ht hpl hb0)
              | (go_at_call 48; refine (HRNEW.out _).mono ?_; intro e wR hh; obtain ⟨rb, hh1, ht, hpl, hb0⟩ := hh; subst hh1; have hsR := gone_below (by with_reducible assumption) hb0; (first | (have hB := below_drw (w := w6) hb0; have hP := drw_le (w := w6) hpl; have TR := Lib.hid ht; have HBR := Lib.hid hB; have HPR := Lib.hid hP; have hzR := hB.size; clear hB hP) | (have hB := below_al (w := w6) (o := .cells #[.pointer none, .pointer none, .pointer none, .pointer none] 134) (below_drw hb0); have hP := Nat.le_trans (below_alloc w6 (.cells #[.pointer none, .pointer none, .pointer none, .pointer none] 134)).size hpl; have zo := (hb0.block _ (Array.getElem?_eq_some_iff.1 (heap_alloc_new w6 (.cells #[.pointer none, .pointer none, .pointer none, .pointer none] 134))).1).trans (heap_alloc_new w6 (.cells #[.pointer none, .pointer none, .pointer none, .pointer none] 134)); have o0 := hcell zo 0; have o1 := hcell zo 1; have o2 := hcell zo 2; have o3 := hcell zo 3; have of0 := hfrz zo 0; have of1 := hfrz zo 1; have of2 := hfrz zo 2; have of3 := hfrz zo 3; have HZO := Lib.hid zo; clear zo; have TR := Lib.hid ht; have HBR := Lib.hid hB; have HPR := Lib.hid hP; have hzR := hB.size; clear hB hP) | (have hb1 := id' wP hb0; have hpl1 := hpl; (first | (have zo := (hb0.block _ (Array.getElem?_eq_some_iff.1 HZO.out).1).trans HZO.out; clear o0 o1 o2 o3 of0 of1 of2 of3 HZO; have o0 := hcell zo 0; have o1 := hcell zo 1; have o2 := hcell zo 2; have o3 := hcell zo 3; have of0 := hfrz zo 0; have of1 := hfrz zo 1; have of2 := hfrz zo 2; have of3 := hfrz zo 3; have HZO := Lib.hid zo; clear zo) | skip); have q1 := HPUT.out _ _ _ _ (TP.out.below hb1) ht HPP.out (Nat.le_trans HBP.out.size hpl1); have q2 := HBP.out.trans (hb1.mono HBP.out.size); have HF := Lib.hid (And.intro q1 q2); have hzR := q2.size; clear q1 q2 hb1 hpl1) | (have hb1 := below_al (w := wP) hb0; have hpl1 := Nat.le_trans (below_alloc wP (.cells #[.pointer none, .pointer none, .pointer none, .pointer none] 134)).size hpl; have zo := (hb0.block _ (Array.getElem?_eq_some_iff.1 (heap_alloc_new wP (.cells #[.pointer none, .pointer none, .pointer none, .pointer none] 134))).1).trans (heap_alloc_new wP (.cells #[.pointer none, .pointer none, .pointer none, .pointer none] 134)); have o0 := hcell zo 0; have o1 := hcell zo 1; have o2 := hcell zo 2; have o3 := hcell zo 3; have of0 := hfrz zo 0; have of1 := hfrz zo 1; have of2 := hfrz zo 2; have of3 := hfrz zo 3; have HZO := Lib.hid zo; clear zo; have q1 := HPUT.out _ _ _ _ (TP.out.below hb1) ht HPP.out (Nat.le_trans HBP.out.size hpl1); have q2 := HBP.out.trans (hb1.mono HBP.out.size); have HF := Lib.hid (And.intro q1 q2); have hzR := q2.size; clear q1 q2 hb1 hpl1)); clear ht hpl hb0))
            all_goals (try go_wp2_with fail)
            all_goals go_meet
            all_goals first
              | (have hs := gw_store HZO.out HF.out.1.1 HF.out.2 (by first | exact Nat.le_refl _ | exact HBP.out.size | exact HBR.out.size) rfl; exact ⟨_, pb, rb, rfl, hs.1, ⟨hs.2.1, gset4 HZO.out HF.out.1.2⟩, hs.2.2.1, hs.2.2.2⟩)
              | (have hs := gw_store (heap_alloc_new _ (.cells #[.pointer none, .pointer none, .pointer none, .pointer none] 134)) (HF.out.1.1.below (below_alloc _ _)) (HF.out.2.trans ((below_alloc _ _).mono HF.out.2.size)) HF.out.2.size rfl; exact ⟨_, pb, rb, rfl, hs.1, ⟨hs.2.1, gset4 (heap_alloc_new _ (.cells #[.pointer none, .pointer none, .pointer none, .pointer none] 134)) (rg_below HF.out.1.2 (below_alloc _ _))⟩, hs.2.2.1, hs.2.2.2⟩)
              | exact ⟨_, pb, rb, rfl, heap_alloc_new _ _, ⟨HF.out.1.1.below (below_alloc _ _), rg_below HF.out.1.2 (below_alloc _ _)⟩, HF.out.2.size, HF.out.2.trans ((below_alloc _ _).mono HF.out.2.size)⟩
          case rest =>
          obtain ⟨obk, pb, rb, hcv, hob, ⟨hok, hrg⟩, hlo, hbx⟩ := hcut
          subst hcv
          generalize wc = w7 at *
          obtain ⟨wd7, bt7, hP7, -⟩ := id hok.p
          have HOB := Lib.hid hob; have HOK := Lib.hid hok; have HBX := Lib.hid hbx
          have z0 : ∀ st : ExtW w7, st.val.cell? ⟨obk, 0, none⟩ = some (.pointer (some ⟨pb, 0, none⟩)) := fun st => st.cell (hcell HOB.out 0)
          have z2 : ∀ st : ExtW w7, st.val.cell? ⟨obk, 2, none⟩ = some (.pointer (some ⟨rb, 0, none⟩)) := fun st => st.cell (hcell HOB.out 2)
          have r0 : ∀ st : ExtW w7, st.val.cell? ⟨rb, 0, none⟩ = some (.int .i64 ln) := fun st => st.cell (hcell hrg 0)
          have hov : ∀ st : ExtW w7, Calls Tryz.prog 49 #[.pointer (some ⟨pb, 0, none⟩)] st.val fun e w' => e = .returned (.bool (n == 0)) ∧ st.val = w' := fun st => (gover HN2.out (hP7.below st.below)).mono fun e w' ⟨h1, h2⟩ => ⟨h1, h2.symm⟩
          have hln := HLN.out
          clear hob hok hrg hlo hbx y2 y3 hg6 hab hP7
          go_upto_region 12 with (fail)
          generalize (n == 0) = dz at *
          cases dz
          all_goals
            refine wp_region_ext (by kernel_rfl) (by kernel_rfl) ?_
            repeat (go_big_quiet_step ((go_at_call 49; with_reducible refine calls_ext_same (hov _))))
            refine wpQuiet_nil ?_
            rintro w9 ⟨⟨W2, hW⟩, rfl⟩
            have HB9 : Hid (Below w6.heap.size w6 w9) := HBX.out.trans (hW.mono HBX.out.size)
            have HOK9 := Lib.hid (HOK.out.below hW)
            have hob9 := (hW.block _ (Array.getElem?_eq_some_iff.1 HOB.out).1).trans HOB.out
            clear hW z0 z2 r0 hov hln
            have z0 := hcell hob9 0
            have z1 := hcell hob9 1
            have z2 := hcell hob9 2
            have z3 := hcell hob9 3
            clear hob9 HOK HOB HBX
            have HROW := Lib.hid (HT.out.below HB9.out).row
            have hLL := hLi
            go_wp2_with (at_builtin; refine wpList_append_own _ rfl _ _ 124 rfl w2.heap.size 134 i0 (.agg #[.pointer none, .pointer none, .pointer none, .pointer none]) 4 32 Tryz.underlying124 I0.out I1.out I2.out I3.out rfl (by decide) _ _ _ rfl (HROW.out.alloc _) ⟨w9.heap.size, 0, none⟩ 1 1 [.pointer (some ⟨pb, 0, none⟩), .pointer none, .pointer (some ⟨rb, 0, none⟩), .pointer none] rfl rfl ?c1 ?c2 ?c3 ?c4 ?c5 ?_)
            case c1 => exact World.news_of_block (heap_alloc_new w9 _)
            case c2 => simp [Value.oneCell']
            case c3 => unfold maxLen; omega
            case c4 => omega
            case c5 => have := (HT.out.below HB9.out).d.pr.ws.below.size; simp; omega
            intro v' w11 hown' hgrow _
            have hb10 := below_alloc w9 (.cells #[.pointer (some ⟨pb, 0, none⟩), .pointer none, .pointer (some ⟨rb, 0, none⟩), .pointer none] 134)
            have hB10 := HB9.out.trans (hb10.mono HB9.out.size)
            have hTb := HT.out.below hB10
            have hB11 := grown_below (HROW.out.alloc _) hgrow hTb.d.pr.ws.below hTb.d.pr.ws.below.size (Nat.le_refl _)
            have f11 := grown_ty (HROW.out.alloc _) hgrow
            have hP := HT.out.push (o := (⟨false, pb, rb, n, old⟩ : Gw)) hB10 (HOK9.out.below hb10) hown' f11 hB11
            have HP := Lib.hid hP
            clear hb10 hB10 hTb hB11 f11 hP hown' hgrow z0 z1 z2 z3
            go_wp2_with fail
            go_meet
            case rel => exact ⟨V, s, x, L ++ [(⟨false, pb, rb, n, old⟩ : Gw)], HP.out.le (by omega), by simp; omega⟩
        · -- an operation begins
          have d0 : ((kk : Int) == 0) = false := beq_eq_false_iff_ne.2 (by omega)
          have d1 : ((kk : Int) == 1) = true := beq_iff_eq.2 (by omega)
          go_upto_region 16 with (fail)
          clear d0 d1
          clear h5
          obtain ⟨n, wd, bt, ln, xo, old, hn2, hln, hnew, hrnew, hput⟩ := sbegin y.t HYW.out.t
          have HN2 := Lib.hid hn2; have HLN := Lib.hid hln; have HNEW := Lib.hid hnew; have HRNEW := Lib.hid hrnew; have HPUT := Lib.hid hput
          clear hn2 hln hnew hrnew hput
          have y2 : w6.drew.cell? ⟨ab, 2, none⟩ = some (.int .u64 y.t) := hcell (w := w6.drew) HZ1.out 2
          have y3 : w6.drew.cell? ⟨ab, 3, none⟩ = some (.int .u64 y.v) := hcell (w := w6.drew) HZ1.out 3
          have hg6 : GOne ab y.t y.v w6 := ⟨y2, y3⟩
          have hab : ab < w6.heap.size := (Array.getElem?_eq_some_iff.1 HZ1.out).1
          go_cut [11] (fun v wx => ∃ (obk pb rb : Nat), v = .pointer (some ⟨obk, 0, none⟩) ∧ wx.heap[obk]? = some (.cells #[.pointer none, .pointer (some ⟨pb, 0, none⟩), .pointer none, .pointer (some ⟨rb, 0, none⟩)] 134 (0, 0)) ∧ ((⟨true, pb, rb, n, old⟩ : Gw).ok wx w6.heap.size ∧ RG wx rb 140 ln xo) ∧ w6.heap.size ≤ obk ∧ Below w6.heap.size w6 wx)
          case first =>
            go_region_held2 (fun W => GOne ab y.t y.v W) (first | exact ⟨y2, y3⟩ | with_reducible assumption | (with_reducible refine gone_al ?_; with_reducible assumption) | (with_reducible refine gone_drew (gone_al ?_); with_reducible assumption) | (with_reducible refine gone_set (gone_set (gone_set (gone_set ?_ ?_) ?_) ?_) ?_ <;> first | with_reducible assumption | omega | (simp; omega))) (first
              | (go_at_call 50; refine (HNEW.out _).mono ?_; intro e wP hh; obtain ⟨pb, hh1, ht, hpl, hb0⟩ := hh; subst hh1; have hsP := gone_below (by with_reducible assumption) hb0; (first | (have hB := below_drw (w := w6) hb0; have hP := drw_le (w := w6) hpl; have TP := Lib.hid ht; have HBP := Lib.hid hB; have HPP := Lib.hid hP; have hzP := hB.size; clear hB hP) | (have hB := below_al (w := w6) (o := .cells #[.pointer none, .pointer none, .pointer none, .pointer none] 134) (below_drw hb0); have hP := Nat.le_trans (below_alloc w6 (.cells #[.pointer none, .pointer none, .pointer none, .pointer none] 134)).size hpl; have zo := (hb0.block _ (Array.getElem?_eq_some_iff.1 (heap_alloc_new w6 (.cells #[.pointer none, .pointer none, .pointer none, .pointer none] 134))).1).trans (heap_alloc_new w6 (.cells #[.pointer none, .pointer none, .pointer none, .pointer none] 134)); have o0 := hcell zo 0; have o1 := hcell zo 1; have o2 := hcell zo 2; have o3 := hcell zo 3; have of0 := hfrz zo 0; have of1 := hfrz zo 1; have of2 := hfrz zo 2; have of3 := hfrz zo 3; have HZO := Lib.hid zo; clear zo; have TP := Lib.hid ht; have HBP := Lib.hid hB; have HPP := Lib.hid hP; have hzP := hB.size; clear hB hP) | (have hb1 := id' wR hb0; have hpl1 := hpl; (first | (have zo := (hb0.block _ (Array.getElem?_eq_some_iff.1 HZO.out).1).trans HZO.out; clear o0 o1 o2 o3 of0 of1 of2 of3 HZO; have o0 := hcell zo 0; have o1 := hcell zo 1; have o2 := hcell zo 2; have o3 := hcell zo 3; have of0 := hfrz zo 0; have of1 := hfrz zo 1; have of2 := hfrz zo 2; have of3 := hfrz zo 3; have HZO := Lib.hid zo; clear zo) | skip); have q1 := HPUT.out _ _ _ _ ht ((hb1.block _ (Array.getElem?_eq_some_iff.1 TR.out).1).trans TR.out) (Nat.le_trans HBR.out.size hpl1) HPR.out; have q2 := HBR.out.trans (hb1.mono HBR.out.size); have HF := Lib.hid (And.intro q1 q2); have hzP := q2.size; clear q1 q2 hb1 hpl1) | (have hb1 := below_al (w := wR) hb0; have hpl1 := Nat.le_trans (below_alloc wR (.cells #[.pointer none, .pointer none, .pointer none, .pointer none] 134)).size hpl; have zo := (hb0.block _ (Array.getElem?_eq_some_iff.1 (heap_alloc_new wR (.cells #[.pointer none, .pointer none, .pointer none, .pointer none] 134))).1).trans (heap_alloc_new wR (.cells #[.pointer none, .pointer none, .pointer none, .pointer none] 134)); have o0 := hcell zo 0; have o1 := hcell zo 1; have o2 := hcell zo 2; have o3 := hcell zo 3; have of0 := hfrz zo 0; have of1 := hfrz zo 1; have of2 := hfrz zo 2; have of3 := hfrz zo 3; have HZO := Lib.hid zo; clear zo; have q1 := HPUT.out _ _ _ _ ht ((hb1.block _ (Array.getElem?_eq_some_iff.1 TR.out).1).trans TR.out) (Nat.le_trans HBR.out.size hpl1) HPR.out; have q2 := HBR.out.trans (hb1.mono HBR.out.size); have HF := Lib.hid (And.intro q1 q2); have hzP := q2.size; clear q1 q2 hb1 hpl1)); clear ht hpl hb0)
              | (go_at_call 51; refine (HRNEW.out _).mono ?_; intro e wR hh; obtain ⟨rb, hh1, ht, hpl, hb0⟩ := hh; subst hh1; have hsR := gone_below (by with_reducible assumption) hb0; (first | (have hB := below_drw (w := w6) hb0; have hP := drw_le (w := w6) hpl; have TR := Lib.hid ht; have HBR := Lib.hid hB; have HPR := Lib.hid hP; have hzR := hB.size; clear hB hP) | (have hB := below_al (w := w6) (o := .cells #[.pointer none, .pointer none, .pointer none, .pointer none] 134) (below_drw hb0); have hP := Nat.le_trans (below_alloc w6 (.cells #[.pointer none, .pointer none, .pointer none, .pointer none] 134)).size hpl; have zo := (hb0.block _ (Array.getElem?_eq_some_iff.1 (heap_alloc_new w6 (.cells #[.pointer none, .pointer none, .pointer none, .pointer none] 134))).1).trans (heap_alloc_new w6 (.cells #[.pointer none, .pointer none, .pointer none, .pointer none] 134)); have o0 := hcell zo 0; have o1 := hcell zo 1; have o2 := hcell zo 2; have o3 := hcell zo 3; have of0 := hfrz zo 0; have of1 := hfrz zo 1; have of2 := hfrz zo 2; have of3 := hfrz zo 3; have HZO := Lib.hid zo; clear zo; have TR := Lib.hid ht; have HBR := Lib.hid hB; have HPR := Lib.hid hP; have hzR := hB.size; clear hB hP) | (have hb1 := id' wP hb0; have hpl1 := hpl; (first | (have zo := (hb0.block _ (Array.getElem?_eq_some_iff.1 HZO.out).1).trans HZO.out; clear o0 o1 o2 o3 of0 of1 of2 of3 HZO; have o0 := hcell zo 0; have o1 := hcell zo 1; have o2 := hcell zo 2; have o3 := hcell zo 3; have of0 := hfrz zo 0; have of1 := hfrz zo 1; have of2 := hfrz zo 2; have of3 := hfrz zo 3; have HZO := Lib.hid zo; clear zo) | skip); have q1 := HPUT.out _ _ _ _ (TP.out.below hb1) ht HPP.out (Nat.le_trans HBP.out.size hpl1); have q2 := HBP.out.trans (hb1.mono HBP.out.size); have HF := Lib.hid (And.intro q1 q2); have hzR := q2.size; clear q1 q2 hb1 hpl1) | (have hb1 := below_al (w := wP) hb0; have hpl1 := Nat.le_trans (below_alloc wP (.cells #[.pointer none, .pointer none, .pointer none, .pointer none] 134)).size hpl; have zo := (hb0.block _ (Array.getElem?_eq_some_iff.1 (heap_alloc_new wP (.cells #[.pointer none, .pointer none, .pointer none, .pointer none] 134))).1).trans (heap_alloc_new wP (.cells #[.pointer none, .pointer none, .pointer none, .pointer none] 134)); have o0 := hcell zo 0; have o1 := hcell zo 1; have o2 := hcell zo 2; have o3 := hcell zo 3; have of0 := hfrz zo 0; have of1 := hfrz zo 1; have of2 := hfrz zo 2; have of3 := hfrz zo 3; have HZO := Lib.hid zo; clear zo; have q1 := HPUT.out _ _ _ _ (TP.out.below hb1) ht HPP.out (Nat.le_trans HBP.out.size hpl1); have q2 := HBP.out.trans (hb1.mono HBP.out.size); have HF := Lib.hid (And.intro q1 q2); have hzR := q2.size; clear q1 q2 hb1 hpl1)); clear ht hpl hb0))
            all_goals (try go_wp2_with fail)
            all_goals go_meet
            all_goals first
              | (have hs := gw_store HZO.out HF.out.1.1 HF.out.2 (by first | exact Nat.le_refl _ | exact HBP.out.size | exact HBR.out.size) rfl; exact ⟨_, pb, rb, rfl, hs.1, ⟨hs.2.1, gset4 HZO.out HF.out.1.2⟩, hs.2.2.1, hs.2.2.2⟩)
              | (have hs := gw_store (heap_alloc_new _ (.cells #[.pointer none, .pointer none, .pointer none, .pointer none] 134)) (HF.out.1.1.below (below_alloc _ _)) (HF.out.2.trans ((below_alloc _ _).mono HF.out.2.size)) HF.out.2.size rfl; exact ⟨_, pb, rb, rfl, hs.1, ⟨hs.2.1, gset4 (heap_alloc_new _ (.cells #[.pointer none, .pointer none, .pointer none, .pointer none] 134)) (rg_below HF.out.1.2 (below_alloc _ _))⟩, hs.2.2.1, hs.2.2.2⟩)
              | exact ⟨_, pb, rb, rfl, heap_alloc_new _ _, ⟨HF.out.1.1.below (below_alloc _ _), rg_below HF.out.1.2 (below_alloc _ _)⟩, HF.out.2.size, HF.out.2.trans ((below_alloc _ _).mono HF.out.2.size)⟩
          case rest =>
          obtain ⟨obk, pb, rb, hcv, hob, ⟨hok, hrg⟩, hlo, hbx⟩ := hcut
          subst hcv
          generalize wc = w7 at *
          obtain ⟨wd7, bt7, hP7, -⟩ := id hok.p
          have HOB := Lib.hid hob; have HOK := Lib.hid hok; have HBX := Lib.hid hbx
          have z0 : ∀ st : ExtW w7, st.val.cell? ⟨obk, 1, none⟩ = some (.pointer (some ⟨pb, 0, none⟩)) := fun st => st.cell (hcell HOB.out 1)
          have z2 : ∀ st : ExtW w7, st.val.cell? ⟨obk, 3, none⟩ = some (.pointer (some ⟨rb, 0, none⟩)) := fun st => st.cell (hcell HOB.out 3)
          have r0 : ∀ st : ExtW w7, st.val.cell? ⟨rb, 0, none⟩ = some (.int .i64 ln) := fun st => st.cell (hcell hrg 0)
          have hov : ∀ st : ExtW w7, Calls Tryz.prog 52 #[.pointer (some ⟨pb, 0, none⟩)] st.val fun e w' => e = .returned (.bool (n == 0)) ∧ st.val = w' := fun st => (sover HN2.out (hP7.below st.below)).mono fun e w' ⟨h1, h2⟩ => ⟨h1, h2.symm⟩
          have hln := HLN.out
          clear hob hok hrg hlo hbx y2 y3 hg6 hab hP7
          go_upto_region 17 with (fail)
          generalize (n == 0) = dz at *
          cases dz
          all_goals
            refine wp_region_ext (by kernel_rfl) (by kernel_rfl) ?_
            repeat (go_big_quiet_step ((go_at_call 52; with_reducible refine calls_ext_same (hov _))))
            refine wpQuiet_nil ?_
            rintro w9 ⟨⟨W2, hW⟩, rfl⟩
            have HB9 : Hid (Below w6.heap.size w6 w9) := HBX.out.trans (hW.mono HBX.out.size)
            have HOK9 := Lib.hid (HOK.out.below hW)
            have hob9 := (hW.block _ (Array.getElem?_eq_some_iff.1 HOB.out).1).trans HOB.out
            clear hW z0 z2 r0 hov hln
            have z0 := hcell hob9 0
            have z1 := hcell hob9 1
            have z2 := hcell hob9 2
            have z3 := hcell hob9 3
            clear hob9 HOK HOB HBX
            have HROW := Lib.hid (HT.out.below HB9.out).row
            have hLL := hLi
            go_wp2_with (at_builtin; refine wpList_append_own _ rfl _ _ 124 rfl w2.heap.size 134 i0 (.agg #[.pointer none, .pointer none, .pointer none, .pointer none]) 4 32 Tryz.underlying124 I0.out I1.out I2.out I3.out rfl (by decide) _ _ _ rfl (HROW.out.alloc _) ⟨w9.heap.size, 0, none⟩ 1 1 [.pointer none, .pointer (some ⟨pb, 0, none⟩), .pointer none, .pointer (some ⟨rb, 0, none⟩)] rfl rfl ?c1 ?c2 ?c3 ?c4 ?c5 ?_)
            case c1 => exact World.news_of_block (heap_alloc_new w9 _)
            case c2 => simp [Value.oneCell']
            case c3 => unfold maxLen; omega
            case c4 => omega
            case c5 => have := (HT.out.below HB9.out).d.pr.ws.below.size; simp; omega
            intro v' w11 hown' hgrow _
            have hb10 := below_alloc w9 (.cells #[.pointer none, .pointer (some ⟨pb, 0, none⟩), .pointer none, .pointer (some ⟨rb, 0, none⟩)] 134)
            have hB10 := HB9.out.trans (hb10.mono HB9.out.size)
            have hTb := HT.out.below hB10
            have hB11 := grown_below (HROW.out.alloc _) hgrow hTb.d.pr.ws.below hTb.d.pr.ws.below.size (Nat.le_refl _)
            have f11 := grown_ty (HROW.out.alloc _) hgrow
            have hP := HT.out.push (o := (⟨true, pb, rb, n, old⟩ : Gw)) hB10 (HOK9.out.below hb10) hown' f11 hB11
            have HP := Lib.hid hP
            clear hb10 hB10 hTb hB11 f11 hP hown' hgrow z0 z1 z2 z3
            go_wp2_with fail
            go_meet
            case rel => exact ⟨V, s, x, L ++ [(⟨true, pb, rb, n, old⟩ : Gw)], HP.out.le (by omega), by simp; omega⟩
        · -- others store
          have d0 : ((kk : Int) == 0) = false := beq_eq_false_iff_ne.2 (by omega)
          have d1 : ((kk : Int) == 1) = false := beq_eq_false_iff_ne.2 (by omega)
          have d2 : ((kk : Int) == 2) = true := beq_iff_eq.2 (by omega)
          clear h5
          have y3 : w6.cell? ⟨ab, 3, none⟩ = some (.int .u64 y.v) := hcell HZ1.out 3
          have y4 : w6.cell? ⟨ab, 4, none⟩ = some (.int .u64 y.i) := hcell HZ1.out 4
          have p0 := hcell HT.out.pq 0
          have p1 := hcell HT.out.pq 1
          have hst := pstore_any HT.out.d.pr (300 + i) HT.out.d.far (by omega) y.v y.i HYW.out.v HYW.out.i
          go_wp2_with (go_at_call 41; refine hst.mono ?_; intro e w7 hh; obtain ⟨hh1, h7, f7⟩ := hh; subst hh1; have HT7 := Lib.hid (HT.out.world (m' := i + 1) (HT.out.d.acc _ _ _ h7) f7); clear h7 f7 hst p0 p1 y3 y4)
          go_meet
          case rel => exact ⟨_, _, _, L, HT7.out, by omega⟩
        · -- a step
          have d0 : ((kk : Int) == 0) = false := beq_eq_false_iff_ne.2 (by omega)
          have d1 : ((kk : Int) == 1) = false := beq_eq_false_iff_ne.2 (by omega)
          have d2 : ((kk : Int) == 2) = false := beq_eq_false_iff_ne.2 (by omega)
          clear h5
          by_cases hL : L.length = 0
          · have d4 : decide ((0 : Int) < L.length) = false := decide_eq_false (by omega)
            have d4n : decide (0 < L.length) = false := decide_eq_false (by omega)
            clear hL
            go_wp2_with fail
            go_meet
            case rel => exact ⟨_, _, _, L, HT.out.le (by omega), by omega⟩
          · have d4 : decide ((0 : Int) < L.length) = true := decide_eq_true (by omega)
            have d4n : decide (0 < L.length) = true := decide_eq_true (by omega)
            go_upto_region 23 with (fail)
            clear d0 d1 d2 d4 d4n
            have hab := wf_u8 HYW.out.a
            have hlp : (0 : Int) < L.length := by omega
            obtain ⟨j, hj⟩ : ∃ j : Nat, (j : Int) = y.a % L.length := ⟨(y.a % L.length).toNat, by have := Int.emod_nonneg y.a (show (L.length : Int) ≠ 0 by omega); omega⟩
            have hjl : j < L.length := by have := Int.emod_lt_of_pos y.a hlp; omega
            have hjl' : (j : Int) < L.length := by omega
            have e1 : wrap64 y.a = y.a := IntWalk.wrap64_in _ (by omega)
            have e2 : y.a.tmod L.length = j := by rw [Int.tmod_eq_emod_of_nonneg hab.1, hj]
            have e4 : ((L.length : Int) == 0) = false := beq_eq_false_iff_ne.2 (by omega)
            obtain ⟨g, gcap, c0, c1, c2, c3, hv, hvv, k0, k1, k2, k3⟩ := HT.out.at j hjl
            simp only [Value.slice.injEq, true_and] at hv
            obtain ⟨rfl, rfl⟩ := hv
            have x1 : ∀ st : ExtW w6, st.val.cell? ⟨ab, 1, none⟩ = some (.int .u8 y.a) := fun st => st.cell (hcell HZ1.out 1)
            have x3 : ∀ st : ExtW w6, st.val.cell? ⟨g, j * 4, none⟩ = some (.pointer c0) := fun st => st.cell k0
            have x4 : ∀ st : ExtW w6, st.val.cell? ⟨g, j * 4 + 1, none⟩ = some (.pointer c1) := fun st => st.cell k1
            have x5 : ∀ st : ExtW w6, st.val.cell? ⟨g, j * 4 + 2, none⟩ = some (.pointer c2) := fun st => st.cell k2
            have x6 : ∀ st : ExtW w6, st.val.cell? ⟨g, j * 4 + 3, none⟩ = some (.pointer c3) := fun st => st.cell k3
            have q0 : ∀ st : ExtW w6, st.val.cell? ⟨q, 0, none⟩ = some (.pointer (some ⟨B.wb, 0, none⟩)) := fun st => st.cell (hcell HT.out.pq 0)
            have q1 : ∀ st : ExtW w6, st.val.cell? ⟨q, 1, none⟩ = some (.pointer (some ⟨R.wb, 0, none⟩)) := fun st => st.cell (hcell HT.out.pq 1)
            have HVV := Lib.hid hvv
            clear hj hab hL hvv k0 k1 k2 k3
            refine wp_region_ext_tail 10 (by kernel_rfl) (by kernel_rfl) ?_
            simp only [List.take_succ_cons, List.take_zero, List.drop_succ_cons, List.drop_zero]
            repeat (go_big_quiet_step (fail))
            refine wpQuiet_nil ?_
            rintro W ⟨⟨W2, hW⟩, rfl⟩
            clear x1 x3 x4 x5 x6 q0 q1 e1 e2 e4 hlp hjl'
            have HT8 := Lib.hid (HT.out.below hW)
            clear hW
            have hst := gostep_any HT8.out.d (by omega) (HT8.out.ops _ (List.getElem_mem hjl))
            rw [show (L[j]'hjl).vals = _ from HVV.out] at hst
            go_wp2_with (go_at_call 53; refine hst.mono ?_; intro e w9 hh; obtain ⟨hh1, V', s', x', o', e1, e2, e3, hk, ho, hf⟩ := hh; subst hh1; have HT9 := Lib.hid (HT8.out.step j hjl o' e1 e2 e3 hk ho hf); clear e1 e2 e3 hk ho hf hst)
            go_meet
            case rel => exact ⟨V', s', x', _, HT9.out, by rw [List.length_set]; omega⟩
      case rest =>
      clear HT HZ1 HYW
      obtain ⟨V', s', x', L', hT2, hL2⟩ := hcut
      have p0 := hcell hT2.pq 0
      have p1 := hcell hT2.pq 1
      have hps := psame_any hT2.d.pr
      have HT2 := Lib.hid hT2
      clear hT2
      go_wp2_with (go_at_call 44; refine hps.mono ?_; intro e w9 hh; obtain ⟨hh1, b9⟩ := hh; subst hh1; have HT9 := Lib.hid (HT2.out.below b9); clear hps b9 p0 p1)
      go_roundw
      case rel => exact ⟨i + 1, V', s', x', L', by omega, by go_num, HT9.out, hL2⟩
      case measure => simp [intOf]; omega
    · obtain rfl : i = l.length := by omega
      have p0 := hcell hT.pq 0
      have p1 := hcell hT.pq 1
      have o6 := psalln_any hT.d.pr (by have := hT.d.nn; omega) hT.d.nk (by have := hT.d.ni; omega) (by have := hT.d.far.1; omega)
      have HT := Lib.hid hT
      clear hT hlt
      go_wp2_with (first
        | (go_at_call 45; refine o6.mono ?_; intro e w17 hh; obtain ⟨hh1, b17⟩ := hh; subst hh1; have HB17 := Lib.hid b17; clear o6 b17 p0 p1)
        | (go_at_call 46; refine (lives19 _).mono ?_; rintro e w18 ⟨rfl, b18⟩))
      go_ret
      have h0 := HT.out.d.pr.ws.below
      have h1 := h0.trans (HB17.out.mono h0.size)
      have h2 := h1.trans (b18.mono h1.size)
      exact ⟨rfl, HBB.out.trans (h2.mono HBB.out.size)⟩
set_option maxRecDepth 10000 in
theorem walkGrowsPlay {H1 : Type} (w : World) (enc : TypeId × Value → H1) (base : Nat) (v : Value) (d : DataW H1) (p : List MemPlace) (k : DataW.Trod enc Tryz.prog w 0 (fun _ => true) true 28 v d p) (o : Value.okWide Tryz.prog w .any base 28 v)
    (enc2 : TypeId × Value → H1) (base2 : Nat) (v2 : Value) (d2 : DataW H1) (p2 : List MemPlace) (k2 : DataW.Trod enc2 Tryz.prog w 0 (fun _ => true) true 123 v2 d2 p2) (o2 : Value.okWide Tryz.prog w .any base2 123 v2) :
    Calls Tryz.prog 9 #[v, v2] w fun e w' => e = .returned (.bool true) ∧ Below w.heap.size w w' := by
  have hl : leaves Tryz.prog 6 123 = some [.sl gacLeaves] := by kernel_rfl
  obtain ⟨f, rfl, hr⟩ := fst_open k o
  obtain ⟨a1, n1, cap1, rfl⟩ := Go.WideShapes.okWide_slice Tryz.underlying123 o2
  obtain ⟨l, hll, hac⟩ := gacts_of (opened hl k2).1
  subst hll
  exact gplay_any f l a1 cap1 w hr hac
end Go.Proofs.YthehdcpjlddbpaaGreat
