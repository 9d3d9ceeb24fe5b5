/-
  The walks of nestboxref06.
-/
import Derived.Test.YtmakjfeepmiggaaGreatItemsNone
import Derived.Deep.RegionHeld3
import Derived.Deep.RegionLaw
import Derived.Deep.AppendLies
import Derived.Deep.DrawnRows
namespace Go.Proofs.YtmakjfeepmiggaaGreat
open Go.RowKit
set_option linter.unusedVariables false
attribute [local go_sem ↓] Go.wp_at_zero Go.wp_at_succ

theorem info_item : (Tryz.prog.info? 80).map (fun i => (i.zero, i.size, i.bytes)) = some (some (.agg #[.string ⟨#[]⟩, .string ⟨#[]⟩, .int .u32 0, .int .u64 0, .int .i64 0, .int .i64 0]), 6, 64) := by kernel_rfl

/-- What the reference's arena holds. -/
structure RArenaAt (w : World) (base b : Nat) (ao : Option Addr) (cap : Nat) (l : List Itm) : Prop where
  hdr : w.heap[b]? = some (.cells #[.slice ao l.length cap] 223 (0, 0))
  own : w.ownsRow base 80 6 (.slice ao l.length cap) l.length (l.flatMap Itm.cells)
  lo : base ≤ b
  no : (Value.slice ao l.length cap).ownBlock ≠ some b
def rarenaFp (b : Nat) (ao : Option Addr) (k : Nat) : Prop := k = b ∨ ∃ a, ao = some a ∧ a.block = k
def RArena (w : World) (base b : Nat) (l : List Itm) (S : Nat → Prop) : Prop := ∃ ao cap, RArenaAt w base b ao cap l ∧ S = rarenaFp b ao
theorem RArena.keep {w w' : World} {base b : Nat} {l : List Itm} {S : Nat → Prop} (h : RArena w base b l S) (hk : ∀ k, S k → w'.heap[k]? = w.heap[k]?) : RArena w' base b l S := by
  obtain ⟨ao, cap, h, rfl⟩ := h
  refine ⟨ao, cap, ⟨by rw [hk b (.inl rfl)]; exact h.hdr, ⟨h.own.1, ?_⟩, h.lo, h.no⟩, rfl⟩
  rcases h.own.2 with hn | ⟨g, c, cur, hv, hg, hh, r⟩
  · exact .inl hn
  · refine .inr ⟨g, c, cur, hv, hg, ?_, r⟩
    simp only [Value.slice.injEq] at hv
    rw [hk g (.inr ⟨_, hv.1, rfl⟩)]; exact hh
theorem RArena.fp {w : World} {base b : Nat} {l : List Itm} {S : Nat → Prop} (h : RArena w base b l S) : ∀ k, S k → base ≤ k ∧ k < w.heap.size := by
  obtain ⟨ao, cap, h, rfl⟩ := h
  rintro k (rfl | ⟨a, rfl, rfl⟩)
  · exact ⟨h.lo, (Array.getElem?_eq_some_iff.1 h.hdr).1⟩
  · exact h.own.lt _ rfl
theorem RArena.below {w w' : World} {base b : Nat} {l : List Itm} {S : Nat → Prop} (h : RArena w base b l S) (hb : Below w.heap.size w w') : RArena w' base b l S :=
  h.keep fun k hk => hb.block k (h.fp k hk).2
theorem RArena.keeps {w w' : World} {base b : Nat} {l : List Itm} {S T : Nat → Prop} (h : RArena w base b l S) (hb : Keeps T w w') (hd : ∀ k, S k → ¬ T k) : RArena w' base b l S :=
  h.keep fun k hk => hb.block k (h.fp k hk).2 (hd k hk)

theorem rcount_arena (base b : Nat) (l : List Itm) (S : Nat → Prop) (w : World) (h : RArena w base b l S) :
    Calls Tryz.prog 72 #[.pointer (some ⟨b, 0, none⟩)] w fun e w' => e = .returned (.int .i64 l.length) ∧ w = w' := by
  obtain ⟨ao, cap, h, rfl⟩ := h
  have c1 : w.cell? ⟨b, 0, none⟩ = some (.slice ao l.length cap) := by simp [World.cell?, h.hdr]
  go_enter Tryz.func72, Tryz.ntmps72
  go_wp2
  go_ret
  exact ⟨rfl, rfl⟩

theorem radd_full (x : Itm) (base b : Nat) (l : List Itm) (S : Nat → Prop) (w : World) (h : RArena w base b l S) (hl : l.length = 1048576) :
    Calls Tryz.prog 100 #[.pointer (some ⟨b, 0, none⟩), .agg #[.string (x).key, .string (x).val, .int .u32 (x).flags, .int .u64 (x).id, .int .i64 (x).dies, .int .i64 (x).gen]] w fun e w' => e = .returned (.tuple #[.int .i64 0, .int .i64 3]) ∧ Below w.heap.size w w' := by
  obtain ⟨ao, cap, h, rfl⟩ := h
  have hb : b < w.heap.size := (Array.getElem?_eq_some_iff.1 h.hdr).1
  have c1 : w.cell? ⟨b, 0, none⟩ = some (.slice ao l.length cap) := by simp [World.cell?, h.hdr]
  have e1 : decide ((1048576 : Int) ≤ (l.length : Int)) = true := by rw [decide_eq_true_eq]; omega
  clear hl
  go_enter Tryz.func100, Tryz.ntmps100
  go_wp2
  go_ret2
  exact ⟨rfl, (Below.refl _ _).alloc (Nat.le_refl _) _⟩

set_option maxRecDepth 100000 in
set_option maxHeartbeats 3200000 in
theorem iradd_any (x : Itm) (base b n : Nat) (l : List Itm) (S : Nat → Prop) (w : World) (h : RArena w base b l S) (hbase : base ≤ w.heap.size) (hn : l.length = n) (hl : n < 1048576) :
    Calls Tryz.prog 100 #[.pointer (some ⟨b, 0, none⟩), .agg #[.string (x).key, .string (x).val, .int .u32 (x).flags, .int .u64 (x).id, .int .i64 (x).dies, .int .i64 (x).gen]] w fun e w' => e = .returned (.tuple #[.int .i64 (n + 1 : Nat), .int .i64 0]) ∧
      ∃ S', RArena w' base b (l ++ [x]) S' ∧ Keeps S w w' ∧ ∀ k, S' k → S k ∨ w.heap.size ≤ k := by
  obtain ⟨ao, cap, h, rfl⟩ := h
  subst hn
  have hb : b < w.heap.size := (Array.getElem?_eq_some_iff.1 h.hdr).1
  have hown := h.own
  have c1 : w.cell? ⟨b, 0, none⟩ = some (.slice ao l.length cap) := by simp [World.cell?, h.hdr]
  have c2 : (w.alloc (.cells x.cells.toArray 80)).cell? ⟨b, 0, none⟩ = some (.slice ao l.length cap) := by rw [World.cell?_alloc_past _ _ _ hb]; exact c1
  have f1 : w.frozen? ⟨b, 0, none⟩ = false := by simp [World.frozen?, h.hdr]
  have f2 : ∀ o, (w.alloc o).frozen? ⟨b, 0, none⟩ = false := fun o => by rw [World.frozen?_alloc_past _ _ _ hb]; exact f1
  have f3 : ∀ o o', ((w.alloc o).alloc o').frozen? ⟨b, 0, none⟩ = false := fun o o' => by rw [World.frozen?_alloc_past _ _ _ (by simp; omega)]; exact f2 o
  obtain ⟨x0, x1, x2, x3, x4, x5⟩ := (Box.new w x).cells
  obtain ⟨i0, hi0, hz0, hz1, hz2⟩ := info_parts info_item
  have HI := Lib.hid hi0; have HZ0 := Lib.hid hz0; have HZ1 := Lib.hid hz1; have HZ2 := Lib.hid hz2
  have e1 : decide ((1048576 : Int) ≤ (l.length : Int)) = false := by rw [decide_eq_false_iff_not]; omega
  have HLL := Lib.hid hl
  have e2 : l.length + 1 ≤ maxLen := by unfold maxLen; omega
  have e3 : (l.length + 1) * 64 ≤ 140737488355328 := by omega
  have E2 := Lib.hid e2
  have E3 := Lib.hid e3
  clear hl e2 e3
  have hno := h.no
  have hbne : w.heap.size ≠ b := by omega
  have hbne1 : w.heap.size + 1 ≠ b := by omega
  have hL := hown.lt
  clear hi0 hz0 hz1 hz2
  go_enter Tryz.func100, Tryz.ntmps100
  go_wp2_with fail
  have hnw : (((w.alloc (.cells x.cells.toArray 80)).drew).alloc (.cells x.cells.toArray 80)).heap[w.heap.size + 1]? = some (.cells x.cells.toArray 80 (0, 0)) := by
    have := heap_alloc_new ((w.alloc (.cells x.cells.toArray 80)).drew) (.cells x.cells.toArray 80)
    rw [show ((w.alloc (.cells x.cells.toArray 80)).drew).heap.size = w.heap.size + 1 by simp] at this
    exact this
  have HNW := Lib.hid hnw
  clear hnw
  have hW0 : Below w.heap.size w (((w.alloc (.cells x.cells.toArray 80)).drew).alloc (.cells x.cells.toArray 80)) :=
    (((Below.refl _ _).alloc (Nat.le_refl _) _).drew).alloc (by simp) _
  go_region_law ((refine step_append_lies _ (by rfl) _ _ _ (by rfl) base 80 i0 _ 6 64 Tryz.underlying24 HI.out HZ0.out HZ1.out HZ2.out rfl (by omega) (.slice ao l.length cap) l.length (l.flatMap Itm.cells) (by rfl) (((hown.alloc _).drew).alloc _) ⟨w.heap.size + 1, 0, none⟩ 1 1 x.cells (by rfl) (by rfl) (World.news_of_block (cs := x.cells.toArray) (t := 80) (fr := (0, 0)) HNW.out) (by simp [Itm.cells, Value.oneCell']) (by omega) E2.out E3.out (by simp; omega) (w.heap.size + 2) (by simp) ?_; intro g cap1 w1 hown1 hgrow hat hlt; have q0 : w1.heap[b]? = some (.cells #[.slice ao l.length cap] 223 (0, 0)) := (hgrow.block b (by simp; omega) (Ne.symm hno)).trans ((hW0.block b hb).trans h.hdr); have t0 : w1.cell? ⟨b, 0, none⟩ = some (.slice ao l.length cap) := (by simp [World.cell?, q0]); have t1 : w1.frozen? ⟨b, 0, none⟩ = false := (by simp [World.frozen?, q0])))
  all_goals
    have hK1 : Keeps (rarenaFp b ao) w w1 := (below_keeps hW0 _).again ⟨hgrow.os, hgrow.tape, hgrow.output, hgrow.size, fun k hk hn => hgrow.block k hk (fun c => hn (.inr (by
      cases ao with
      | none => simp [Value.ownBlock] at c
      | some a => simp [Value.ownBlock] at c; exact ⟨a, rfl, c.symm⟩)))⟩
    have hgb : g ≠ b := by rcases hat with h | h; exact (fun c => hno (c ▸ h)); omega
    have q3 := setCell_same q0 0 (.slice (some ⟨g, 0, none⟩) (l.length + 1) cap1)
    have hown2 := ownsRow_setCell_far (b := b) (o := 0) hown1 hgb (.slice (some ⟨g, 0, none⟩) (l.length + 1) cap1)
    have hK2 := hK1.again ((setCell_keeps w1 b 0 (.slice (some ⟨g, 0, none⟩) (l.length + 1) cap1)).mono (T := rarenaFp b ao) fun k _ h => .inl h)
    have hs : ∀ k, rarenaFp b (some ⟨g, 0, none⟩) k → rarenaFp b ao k ∨ w.heap.size ≤ k := by
      rintro k (hk | ⟨a, ha, hk⟩)
      · exact .inl (.inl hk)
      · simp only [Option.some.injEq] at ha
        subst ha
        rcases hat with hat | hat
        · cases ao with
          | none => simp [Value.ownBlock] at hat
          | some a => simp [Value.ownBlock] at hat; exact .inl (.inr ⟨a, rfl, hat.trans hk⟩)
        · exact .inr (by simp only at hk; omega)
    generalize World.setCell w1 _ _ = w2 at *
    have u0 : w2.cell? ⟨b, 0, none⟩ = some (.slice (some ⟨g, 0, none⟩) (l.length + 1) cap1) := by simp [World.cell?, q3]
    clear hgrow t0 t1 q0 hown1 hat hown HNW hW0 hK1
    go_wp2
    go_ret2
    exact ⟨rfl, _, ⟨some ⟨g, 0, none⟩, cap1, ⟨by simpa using q3, by simpa using hown2, h.lo, by simp [Value.ownBlock]; exact hgb⟩, rfl⟩, hK2, hs⟩
end Go.Proofs.YtmakjfeepmiggaaGreat
