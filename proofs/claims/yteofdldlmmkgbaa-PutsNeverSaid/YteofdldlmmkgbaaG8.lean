/-
  Texts of this prover, merged: ItemsNone, ItemsRef, ItemsRefAt, RefNew, Ref10.
-/
import Derived.Test.YteofdldlmmkgbaaG7
import Derived.Test.YteofdldlmmkgbaaG3
import Derived.Test.YteofdldlmmkgbaaG4
import Derived.Test.YteofdldlmmkgbaaG5
import Derived.Deep.RegionHeld3
import Derived.Deep.RegionLaw
import Derived.Deep.AppendLies
import Derived.Deep.DrawnRows
/-
  The walk of ItemsNone.
-/
namespace Go.Proofs.Yteofdldlmmkgbaa
open Go.RowKit
set_option linter.unusedVariables false

abbrev zItm : Itm := ⟨⟨#[]⟩, ⟨#[]⟩, 0, 0, 0, 0⟩

theorem Itms.cell {w : World} {a : Option Addr} {cap : Nat} {l : List Itm} (h : Itms w (.slice a l.length cap) l) (i : Nat) (hi : i < l.length) :
    ∃ b off x, a = some ⟨b, off, none⟩ ∧ l[i]? = some x ∧ w.cell? ⟨b, off + i * 6, none⟩ = some (.string x.key) ∧ w.cell? ⟨b, off + i * 6 + 1, none⟩ = some (.string x.val) ∧ w.cell? ⟨b, off + i * 6 + 2, none⟩ = some (.int .u32 x.flags) ∧
    w.cell? ⟨b, off + i * 6 + 3, none⟩ = some (.int .u64 x.id) ∧ w.cell? ⟨b, off + i * 6 + 4, none⟩ = some (.int .i64 x.dies) ∧ w.cell? ⟨b, off + i * 6 + 5, none⟩ = some (.int .i64 x.gen) := by
  obtain ⟨a', cap', hv, h1, h2, h3, h4⟩ := h
  simp only [Value.slice.injEq, true_and] at hv
  obtain ⟨rfl, rfl⟩ := hv
  rcases h4 with rfl | ⟨b, off, rfl, h5⟩
  · simp at hi
  · have h6 := h5 i hi
    refine ⟨b, off, l[i], rfl, List.getElem?_eq_getElem hi, h6 0 (by omega), ?_, ?_, ?_, ?_, ?_⟩
    · rw [Nat.add_assoc]; exact h6 1 (by omega)
    · rw [Nat.add_assoc]; exact h6 2 (by omega)
    · rw [Nat.add_assoc]; exact h6 3 (by omega)
    · rw [Nat.add_assoc]; exact h6 4 (by omega)
    · rw [Nat.add_assoc]; exact h6 5 (by omega)
theorem Itms.slice {w : World} {v : Value} {l : List Itm} (h : Itms w v l) : ∃ a cap, v = .slice a l.length cap ∧ l.length ≤ cap ∧ cap ≤ maxLen := by
  obtain ⟨a, cap, rfl, h1, h2, h3, h4⟩ := h
  exact ⟨a, cap, rfl, h1, h2⟩

end Go.Proofs.Yteofdldlmmkgbaa

/-
  The walks of nestboxref06.
-/
namespace Go.Proofs.Yteofdldlmmkgbaa
open Go.RowKit
set_option linter.unusedVariables false
attribute [local go_sem ↓] Go.wp_at_zero Go.wp_at_succ

theorem info_item : (Try.prog.info? 61).map (fun i => (i.zero, i.size, i.bytes)) = some (some (.agg #[.string ⟨#[]⟩, .string ⟨#[]⟩, .int .u32 0, .int .u64 0, .int .i64 0, .int .i64 0]), 6, 64) := by kernel_rfl

/-- What the reference's arena holds. -/
structure RArenaAt (w : World) (base b : Nat) (ao : Option Addr) (cap : Nat) (l : List Itm) : Prop where
  hdr : w.heap[b]? = some (.cells #[.slice ao l.length cap] 131 (0, 0))
  own : w.ownsRow base 61 6 (.slice ao l.length cap) l.length (l.flatMap Itm.cells)
  lo : base ≤ b
  no : (Value.slice ao l.length cap).ownBlock ≠ some b
def rarenaFp (b : Nat) (ao : Option Addr) (k : Nat) : Prop := k = b ∨ ∃ a, ao = some a ∧ a.block = k
def RArena (w : World) (base b : Nat) (l : List Itm) (S : Nat → Prop) : Prop := ∃ ao cap, RArenaAt w base b ao cap l ∧ S = rarenaFp b ao
theorem RArena.keep {w w' : World} {base b : Nat} {l : List Itm} {S : Nat → Prop} (h : RArena w base b l S) (hk : ∀ k, S k → w'.heap[k]? = w.heap[k]?) : RArena w' base b l S := by
  obtain ⟨ao, cap, h, rfl⟩ := h
  refine ⟨ao, cap, ⟨by rw [hk b (.inl rfl)]; exact h.hdr, ⟨h.own.1, ?_⟩, h.lo, h.no⟩, rfl⟩
  rcases h.own.2 with hn | ⟨g, c, cur, hv, hg, hh, r⟩
  · exact .inl hn
  · refine .inr ⟨g, c, cur, hv, hg, ?_, r⟩
    simp only [Value.slice.injEq] at hv
    rw [hk g (.inr ⟨_, hv.1, rfl⟩)]; exact hh
theorem RArena.fp {w : World} {base b : Nat} {l : List Itm} {S : Nat → Prop} (h : RArena w base b l S) : ∀ k, S k → base ≤ k ∧ k < w.heap.size := by
  obtain ⟨ao, cap, h, rfl⟩ := h
  rintro k (rfl | ⟨a, rfl, rfl⟩)
  · exact ⟨h.lo, (Array.getElem?_eq_some_iff.1 h.hdr).1⟩
  · exact h.own.lt _ rfl
theorem RArena.below {w w' : World} {base b : Nat} {l : List Itm} {S : Nat → Prop} (h : RArena w base b l S) (hb : Below w.heap.size w w') : RArena w' base b l S :=
  h.keep fun k hk => hb.block k (h.fp k hk).2
theorem RArena.keeps {w w' : World} {base b : Nat} {l : List Itm} {S T : Nat → Prop} (h : RArena w base b l S) (hb : Keeps T w w') (hd : ∀ k, S k → ¬ T k) : RArena w' base b l S :=
  h.keep fun k hk => hb.block k (h.fp k hk).2 (hd k hk)

theorem rcount_arena (base b : Nat) (l : List Itm) (S : Nat → Prop) (w : World) (h : RArena w base b l S) :
    Calls Try.prog 58 #[.pointer (some ⟨b, 0, none⟩)] w fun e w' => e = .returned (.int .i64 l.length) ∧ w = w' := by
  obtain ⟨ao, cap, h, rfl⟩ := h
  have c1 : w.cell? ⟨b, 0, none⟩ = some (.slice ao l.length cap) := by simp [World.cell?, h.hdr]
  go_enter Try.func58, Try.ntmps58
  go_wp2
  go_ret
  exact ⟨rfl, rfl⟩

theorem radd_full (x : Itm) (base b : Nat) (l : List Itm) (S : Nat → Prop) (w : World) (h : RArena w base b l S) (hl : l.length = 1048576) :
    Calls Try.prog 104 #[.pointer (some ⟨b, 0, none⟩), .agg #[.string (x).key, .string (x).val, .int .u32 (x).flags, .int .u64 (x).id, .int .i64 (x).dies, .int .i64 (x).gen]] w fun e w' => e = .returned (.tuple #[.int .i64 0, .int .i64 3]) ∧ Below w.heap.size w w' := by
  obtain ⟨ao, cap, h, rfl⟩ := h
  have hb : b < w.heap.size := (Array.getElem?_eq_some_iff.1 h.hdr).1
  have c1 : w.cell? ⟨b, 0, none⟩ = some (.slice ao l.length cap) := by simp [World.cell?, h.hdr]
  have e1 : decide ((1048576 : Int) ≤ (l.length : Int)) = true := by rw [decide_eq_true_eq]; omega
  clear hl
  go_enter Try.func104, Try.ntmps104
  go_wp2
  go_ret2
  exact ⟨rfl, (Below.refl _ _).alloc (Nat.le_refl _) _⟩

set_option maxRecDepth 100000 in
set_option maxHeartbeats 3200000 in
theorem iradd_any (x : Itm) (base b n : Nat) (l : List Itm) (S : Nat → Prop) (w : World) (h : RArena w base b l S) (hbase : base ≤ w.heap.size) (hn : l.length = n) (hl : n < 1048576) :
    Calls Try.prog 104 #[.pointer (some ⟨b, 0, none⟩), .agg #[.string (x).key, .string (x).val, .int .u32 (x).flags, .int .u64 (x).id, .int .i64 (x).dies, .int .i64 (x).gen]] w fun e w' => e = .returned (.tuple #[.int .i64 (n + 1 : Nat), .int .i64 0]) ∧
      ∃ S', RArena w' base b (l ++ [x]) S' ∧ Keeps S w w' ∧ ∀ k, S' k → S k ∨ w.heap.size ≤ k := by
  obtain ⟨ao, cap, h, rfl⟩ := h
  subst hn
  have hb : b < w.heap.size := (Array.getElem?_eq_some_iff.1 h.hdr).1
  have hown := h.own
  have c1 : w.cell? ⟨b, 0, none⟩ = some (.slice ao l.length cap) := by simp [World.cell?, h.hdr]
  have c2 : (w.alloc (.cells x.cells.toArray 61)).cell? ⟨b, 0, none⟩ = some (.slice ao l.length cap) := by rw [World.cell?_alloc_past _ _ _ hb]; exact c1
  have f1 : w.frozen? ⟨b, 0, none⟩ = false := by simp [World.frozen?, h.hdr]
  have f2 : ∀ o, (w.alloc o).frozen? ⟨b, 0, none⟩ = false := fun o => by rw [World.frozen?_alloc_past _ _ _ hb]; exact f1
  have f3 : ∀ o o', ((w.alloc o).alloc o').frozen? ⟨b, 0, none⟩ = false := fun o o' => by rw [World.frozen?_alloc_past _ _ _ (by simp; omega)]; exact f2 o
  obtain ⟨x0, x1, x2, x3, x4, x5⟩ := (Box.new w x).cells
  obtain ⟨i0, hi0, hz0, hz1, hz2⟩ := info_parts info_item
  have HI := Lib.hid hi0; have HZ0 := Lib.hid hz0; have HZ1 := Lib.hid hz1; have HZ2 := Lib.hid hz2
  have e1 : decide ((1048576 : Int) ≤ (l.length : Int)) = false := by rw [decide_eq_false_iff_not]; omega
  have HLL := Lib.hid hl
  have e2 : l.length + 1 ≤ maxLen := by unfold maxLen; omega
  have e3 : (l.length + 1) * 64 ≤ 140737488355328 := by omega
  have E2 := Lib.hid e2
  have E3 := Lib.hid e3
  clear hl e2 e3
  have hno := h.no
  have hbne : w.heap.size ≠ b := by omega
  have hbne1 : w.heap.size + 1 ≠ b := by omega
  have hL := hown.lt
  clear hi0 hz0 hz1 hz2
  go_enter Try.func104, Try.ntmps104
  go_wp2_with fail
  have hnw : (((w.alloc (.cells x.cells.toArray 61)).drew).alloc (.cells x.cells.toArray 61)).heap[w.heap.size + 1]? = some (.cells x.cells.toArray 61 (0, 0)) := by
    have := heap_alloc_new ((w.alloc (.cells x.cells.toArray 61)).drew) (.cells x.cells.toArray 61)
    rw [show ((w.alloc (.cells x.cells.toArray 61)).drew).heap.size = w.heap.size + 1 by simp] at this
    exact this
  have HNW := Lib.hid hnw
  clear hnw
  have hW0 : Below w.heap.size w (((w.alloc (.cells x.cells.toArray 61)).drew).alloc (.cells x.cells.toArray 61)) :=
    (((Below.refl _ _).alloc (Nat.le_refl _) _).drew).alloc (by simp) _
  go_region_law ((refine step_append_lies _ (by rfl) _ _ _ (by rfl) base 61 i0 _ 6 64 Try.underlying45 HI.out HZ0.out HZ1.out HZ2.out rfl (by omega) (.slice ao l.length cap) l.length (l.flatMap Itm.cells) (by rfl) (((hown.alloc _).drew).alloc _) ⟨w.heap.size + 1, 0, none⟩ 1 1 x.cells (by rfl) (by rfl) (World.news_of_block (cs := x.cells.toArray) (t := 61) (fr := (0, 0)) HNW.out) (by simp [Itm.cells, Value.oneCell']) (by omega) E2.out E3.out (by simp; omega) (w.heap.size + 2) (by simp) ?_; intro g cap1 w1 hown1 hgrow hat hlt; have q0 : w1.heap[b]? = some (.cells #[.slice ao l.length cap] 131 (0, 0)) := (hgrow.block b (by simp; omega) (Ne.symm hno)).trans ((hW0.block b hb).trans h.hdr); have t0 : w1.cell? ⟨b, 0, none⟩ = some (.slice ao l.length cap) := (by simp [World.cell?, q0]); have t1 : w1.frozen? ⟨b, 0, none⟩ = false := (by simp [World.frozen?, q0])))
  all_goals
    have hK1 : Keeps (rarenaFp b ao) w w1 := (below_keeps hW0 _).again ⟨hgrow.os, hgrow.tape, hgrow.output, hgrow.size, fun k hk hn => hgrow.block k hk (fun c => hn (.inr (by
      cases ao with
      | none => simp [Value.ownBlock] at c
      | some a => simp [Value.ownBlock] at c; exact ⟨a, rfl, c.symm⟩)))⟩
    have hgb : g ≠ b := by rcases hat with h | h; exact (fun c => hno (c ▸ h)); omega
    have q3 := setCell_same q0 0 (.slice (some ⟨g, 0, none⟩) (l.length + 1) cap1)
    have hown2 := ownsRow_setCell_far (b := b) (o := 0) hown1 hgb (.slice (some ⟨g, 0, none⟩) (l.length + 1) cap1)
    have hK2 := hK1.again ((setCell_keeps w1 b 0 (.slice (some ⟨g, 0, none⟩) (l.length + 1) cap1)).mono (T := rarenaFp b ao) fun k _ h => .inl h)
    have hs : ∀ k, rarenaFp b (some ⟨g, 0, none⟩) k → rarenaFp b ao k ∨ w.heap.size ≤ k := by
      rintro k (hk | ⟨a, ha, hk⟩)
      · exact .inl (.inl hk)
      · simp only [Option.some.injEq] at ha
        subst ha
        rcases hat with hat | hat
        · cases ao with
          | none => simp [Value.ownBlock] at hat
          | some a => simp [Value.ownBlock] at hat; exact .inl (.inr ⟨a, rfl, hat.trans hk⟩)
        · exact .inr (by simp only at hk; omega)
    generalize World.setCell w1 _ _ = w2 at *
    have u0 : w2.cell? ⟨b, 0, none⟩ = some (.slice (some ⟨g, 0, none⟩) (l.length + 1) cap1) := by simp [World.cell?, q3]
    clear hgrow t0 t1 q0 hown1 hat hown HNW hW0 hK1
    go_wp2
    go_ret2
    exact ⟨rfl, _, ⟨some ⟨g, 0, none⟩, cap1, ⟨by simpa using q3, by simpa using hown2, h.lo, by simp [Value.ownBlock]; exact hgb⟩, rfl⟩, hK2, hs⟩
end Go.Proofs.Yteofdldlmmkgbaa

/-
  nestboxref06.At.
-/
namespace Go.Proofs.Yteofdldlmmkgbaa
open Go.RowKit
set_option linter.unusedVariables false

theorem flat_get : ∀ (l : List Itm) (i f : Nat) (hi : i < l.length), f < 6 → (l.flatMap Itm.cells)[i * 6 + f]? = (l[i]).cells[f]?
  | x :: l, 0, f, _, hf => by
    rw [List.flatMap_cons, List.getElem?_append_left (by simp [Itm.cells]; omega)]
    simp
  | x :: l, i + 1, f, hi, hf => by
    have e : (i + 1) * 6 + f - (Itm.cells x).length = i * 6 + f := by simp [Itm.cells]; omega
    rw [List.flatMap_cons, List.getElem?_append_right (by simp [Itm.cells]; omega), e, flat_get l i f (by simpa using hi) hf]
    simp

set_option maxHeartbeats 800000 in
theorem rat_in (base b : Nat) (l : List Itm) (S : Nat → Prop) (r : Int) (x : Itm) (w : World) (h : RArena w base b l S) (hl : l.length ≤ 1048576) (h1 : 1 ≤ r) (h2 : l[(r - 1).toNat]? = some x) :
    Calls Try.prog 59 #[.pointer (some ⟨b, 0, none⟩), .int .i64 r] w fun e w' => e = .returned (.tuple #[.agg #[.string (x).key, .string (x).val, .int .u32 (x).flags, .int .u64 (x).id, .int .i64 (x).dies, .int .i64 (x).gen], .bool true]) ∧ Below w.heap.size w w' := by
  obtain ⟨ao, cap, h, rfl⟩ := h
  obtain ⟨h3, h4⟩ := List.getElem?_eq_some_iff.1 h2
  have hb : b < w.heap.size := (Array.getElem?_eq_some_iff.1 h.hdr).1
  have c0 : w.cell? ⟨b, 0, none⟩ = some (.slice ao l.length cap) := by simp [World.cell?, h.hdr]
  obtain ⟨n, hn⟩ : ∃ n : Nat, (r - 1).toNat = n := ⟨_, rfl⟩
  have hr : r - 1 = (n : Int) := by omega
  simp only [hn] at h3 h4
  rcases h.own.2 with ⟨_, hz⟩ | ⟨g, c, cur, hv, hg, hh, hnc, hcm, hcs, ht⟩
  · omega
  · simp only [Value.slice.injEq, true_and] at hv
    obtain ⟨rfl, rfl⟩ := hv
    have hgl : g < w.heap.size := (Array.getElem?_eq_some_iff.1 hh).1
    have hc : ∀ f, f < 6 → w.cell? ⟨g, n * 6 + f, none⟩ = x.cells[f]? := fun f hf => by
      rw [← h4, ← flat_get l n f h3 hf, ← ht, List.getElem?_take, if_pos (by omega)]
      simp [World.cell?, hh]
    have x0 : w.cell? ⟨g, n * 6, none⟩ = some (.string x.key) := hc 0 (by omega)
    have x1 : w.cell? ⟨g, n * 6 + 1, none⟩ = some (.string x.val) := hc 1 (by omega)
    have x2 : w.cell? ⟨g, n * 6 + 2, none⟩ = some (.int .u32 x.flags) := hc 2 (by omega)
    have x3 : w.cell? ⟨g, n * 6 + 3, none⟩ = some (.int .u64 x.id) := hc 3 (by omega)
    have x4 : w.cell? ⟨g, n * 6 + 4, none⟩ = some (.int .i64 x.dies) := hc 4 (by omega)
    have x5 : w.cell? ⟨g, n * 6 + 5, none⟩ = some (.int .i64 x.gen) := hc 5 (by omega)
    have d1 : decide (r < 1) = false := by simp; omega
    have d2 : decide ((l.length : Int) < r) = false := by simp; omega
    have HR := Lib.hid hr
    have d3 : (0 : Int) ≤ (n : Int) := by omega
    have d4 : (n : Int) < (l.length : Int) := by omega
    have d5 : r = (n : Int) + 1 := by omega
    clear hc hh ht hcs hcm h4 h2 hr hn
    subst d5
    go_enter Try.func59, Try.ntmps59
    go_wp2
    refine bodyPost_ret (v := .tuple #[.agg x.cells.toArray, .bool true]) (by simp [results, Try.results59, go_sem, Itm.cells]) rfl ⟨rfl, ?_⟩
    exact (Below.refl _ _).alloc (Nat.le_refl _) _
theorem rat_out (base b : Nat) (l : List Itm) (S : Nat → Prop) (r : Int) (w : World) (h : RArena w base b l S) (hr : ¬ (1 ≤ r ∧ r ≤ l.length)) :
    Calls Try.prog 59 #[.pointer (some ⟨b, 0, none⟩), .int .i64 r] w fun e w' => e = .returned (.tuple #[.agg #[.string ⟨#[]⟩, .string ⟨#[]⟩, .int .u32 0, .int .u64 0, .int .i64 0, .int .i64 0], .bool false]) ∧ Below w.heap.size w w' := by
  obtain ⟨ao, cap, h, rfl⟩ := h
  have hb : b < w.heap.size := (Array.getElem?_eq_some_iff.1 h.hdr).1
  have c0 : w.cell? ⟨b, 0, none⟩ = some (.slice ao l.length cap) := by simp [World.cell?, h.hdr]
  by_cases h1 : r < 1
  · go_enter Try.func59, Try.ntmps59
    go_wp2
    refine bodyPost_ret (v := .tuple #[.agg Itm.zero.cells.toArray, .bool false]) (by simp [results, Try.results59, go_sem, Itm.cells, Itm.zero]; rfl) rfl ⟨rfl, ?_⟩
    exact (Below.refl _ _).alloc (Nat.le_refl _) _
  · have h2 : 1 ≤ r := by omega
    have h3 : (l.length : Int) < r := by omega
    go_enter Try.func59, Try.ntmps59
    go_wp2
    refine bodyPost_ret (v := .tuple #[.agg Itm.zero.cells.toArray, .bool false]) (by simp [results, Try.results59, go_sem, Itm.cells, Itm.zero]; rfl) rfl ⟨rfl, ?_⟩
    exact (Below.refl _ _).alloc (Nat.le_refl _) _
theorem void_rarena (base : Nat) (w : World) (hb : base ≤ w.heap.size) : RArena (w.alloc (.cells #[.slice none 0 0] 131)) base w.heap.size [] (rarenaFp w.heap.size none) :=
  ⟨none, 0, ⟨by simpa using heap_alloc_new w _, World.ownsRow_nil _ _ _ _, hb, by simp [Value.ownBlock]⟩, rfl⟩
end Go.Proofs.Yteofdldlmmkgbaa

/-
  The document's cells, new over words; two rising lists that say the same are one.
-/
namespace Go.Proofs.Yteofdldlmmkgbaa
open Go.RowKit
set_option linter.unusedVariables false

/-- A list of the document's words that may be read. -/
structure RWds (w : World) (a : Option Addr) (cap : Nat) (l : List (Int × Int)) : Prop where
  le : l.length ≤ cap
  most : cap ≤ maxLen
  wf : ∀ p ∈ l, (Lit.int .u64 p.1).wf = true ∧ (Lit.int .u64 p.2).wf = true
  cell : l = [] ∨ ∃ b off, a = some ⟨b, off, none⟩ ∧ ∀ i, (hi : i < l.length) → w.cell? ⟨b, off + i * 2, none⟩ = some (.int .u64 (l[i]).1) ∧ w.cell? ⟨b, off + i * 2 + 1, none⟩ = some (.int .u64 (l[i]).2)
theorem RWds.at {w : World} {a : Option Addr} {cap : Nat} {l : List (Int × Int)} (h : RWds w a cap l) (i : Nat) (hi : i < l.length) :
    ∃ b off x y, a = some ⟨b, off, none⟩ ∧ l[i]? = some (x, y) ∧ ((Lit.int .u64 x).wf = true ∧ (Lit.int .u64 y).wf = true) ∧ w.cell? ⟨b, off + i * 2, none⟩ = some (.int .u64 x) ∧ w.cell? ⟨b, off + i * 2 + 1, none⟩ = some (.int .u64 y) := by
  rcases h.cell with rfl | ⟨b, off, rfl, h5⟩
  · simp at hi
  · exact ⟨b, off, l[i].1, l[i].2, rfl, List.getElem?_eq_getElem hi, h.wf _ (List.getElem_mem hi), h5 i hi⟩
theorem RWds.below {w w' : World} {a : Option Addr} {cap : Nat} {l : List (Int × Int)} (h : RWds w a cap l) (hb : Below w.heap.size w w') : RWds w' a cap l := by
  refine ⟨h.le, h.most, h.wf, h.cell.imp id fun ⟨b, off, e, h5⟩ => ⟨b, off, e, fun i hi => ?_⟩⟩
  obtain ⟨h6, h7⟩ := h5 i hi
  exact ⟨(hb.cell (World.block_lt_of_cell? _ _ h6)).trans h6, (hb.cell (World.block_lt_of_cell? _ _ h7)).trans h7⟩

def rfold (l : List (Int × Int)) : List (Int × Int) := l.foldl (fun x p => rput x p.1 p.2) []
theorem rfold_take {l : List (Int × Int)} {k : Nat} {x y : Int} (h : l[k]? = some (x, y)) : rfold (l.take (k + 1)) = rput (rfold (l.take k)) x y := by
  unfold rfold; rw [List.take_add_one, h, List.foldl_append]; rfl
theorem rfold_ris (l : List (Int × Int)) : Ris (rfold l) := by
  have key : ∀ (l o : List (Int × Int)), Ris o → Ris (l.foldl (fun x p => rput x p.1 p.2) o) := by
    intro l
    induction l with
    | nil => intro o h; exact h
    | cons p l ih => intro o h; exact ih _ (by show Ris (rput o p.1 p.2); rw [rput_ins h]; exact rins_ris h _ _)
  exact key l [] List.Pairwise.nil
theorem rins_len' (l : List (Int × Int)) (a v : Int) : (rins l a v).length ≤ l.length + 1 := by
  induction l with
  | nil => unfold rins; split <;> simp
  | cons p r ih =>
    unfold rins
    split
    · simp only [List.length_cons]; omega
    · split <;> split <;> simp only [List.length_cons] <;> omega
theorem rfold_len (l : List (Int × Int)) : (rfold l).length ≤ l.length := by
  have key : ∀ (l o : List (Int × Int)), Ris o → (l.foldl (fun x p => rput x p.1 p.2) o).length ≤ o.length + l.length := by
    intro l
    induction l with
    | nil => intro o h; simp
    | cons p l ih =>
      intro o h
      have e := rput_ins h p.1 p.2
      have h1 := ih (rput o p.1 p.2) (by rw [e]; exact rins_ris h _ _)
      have h2 := rins_len' o p.1 p.2
      rw [← e] at h2
      simp only [List.foldl_cons, List.length_cons]; omega
  have := key l [] List.Pairwise.nil
  unfold rfold; simpa using this

/-- Rising lists without zeros that say the same are one. -/
theorem ris_eq : ∀ {l m : List (Int × Int)}, Ris l → Ris m → (∀ p ∈ l, p.2 ≠ 0) → (∀ p ∈ m, p.2 ≠ 0) → (∀ a, rlook l a = rlook m a) → l = m
  | [], [], _, _, _, _, _ => rfl
  | [], q :: m, _, _, _, hm, h => by
    have := h q.1
    rw [show rlook (q :: m) q.1 = q.2 by simp [rlook]] at this
    exact absurd this.symm (hm q (by simp))
  | p :: l, [], _, _, hl, _, h => by
    have := h p.1
    rw [show rlook (p :: l) p.1 = p.2 by simp [rlook]] at this
    exact absurd this (hl p (by simp))
  | p :: l, q :: m, rl, rm, hl, hm, h => by
    have rl2 := List.pairwise_cons.1 rl
    have rm2 := List.pairwise_cons.1 rm
    have e1 : p.1 = q.1 := by
      rcases Int.lt_trichotomy p.1 q.1 with hlt | heq | hgt
      · have h1 := h p.1
        rw [show rlook (p :: l) p.1 = p.2 by simp [rlook], rlook_out (l := q :: m) (fun x hx => by
          rcases List.mem_cons.1 hx with rfl | hx
          · omega
          · have := rm2.1 x hx; omega)] at h1
        exact absurd h1 (hl p (by simp))
      · exact heq
      · have h1 := h q.1
        rw [show rlook (q :: m) q.1 = q.2 by simp [rlook], rlook_out (l := p :: l) (fun x hx => by
          rcases List.mem_cons.1 hx with rfl | hx
          · omega
          · have := rl2.1 x hx; omega)] at h1
        exact absurd h1.symm (hm q (by simp))
    have e2 : p.2 = q.2 := by
      have h1 := h p.1
      rw [show rlook (p :: l) p.1 = p.2 by simp [rlook], show rlook (q :: m) p.1 = q.2 by rw [e1]; simp [rlook]] at h1
      exact h1
    have e3 : p = q := Prod.ext e1 e2
    subst e3
    rw [ris_eq rl2.2 rm2.2 (fun x hx => hl x (by simp [hx])) (fun x hx => hm x (by simp [hx])) (fun a => ?_)]
    by_cases ha : p.1 = a
    · rw [rlook_out (l := l) (fun x hx => by have := rl2.1 x hx; omega), rlook_out (l := m) (fun x hx => by have := rm2.1 x hx; omega)]
    · have h1 := h a
      rw [show rlook (p :: l) a = rlook l a by simp [rlook, ha], show rlook (p :: m) a = rlook m a by simp [rlook, ha]] at h1
      exact h1

set_option maxHeartbeats 1000000 in
theorem rnew_any (w : World) (ao : Option Addr) (cap : Nat) (l : List (Int × Int)) (h : RWds w ao cap l) (hsz : l.length ≤ 1000) : Calls Try.prog 55 #[.slice ao l.length cap] w
    fun e w' => e = .returned (.pointer (some ⟨w.heap.size, 0, none⟩)) ∧ (∃ lv, RCells w' w.heap.size w.heap.size lv ⟨rfold l, 0, 0, 0, 0, 0⟩) ∧ Below w.heap.size w w' := by
  have HP := Lib.hid h; have HM := Lib.hid hsz
  clear h hsz
  go_enter Try.func55, Try.ntmps55
  go_wp2
  go_loopw [4] (fun i wr => ∃ (k : Nat) (lv : Value), k ≤ l.length ∧ i = .int .i64 k ∧ RCells wr w.heap.size w.heap.size lv ⟨rfold (l.take k), 0, 0, 0, 0, 0⟩ ∧ Below w.heap.size w wr) (fun i _ => l.length - (intOf i).toNat)
  case atStart => exact ⟨0, .slice none 0 0, by omega, rfl, ⟨heap_alloc_new w _, Nat.le_refl _, World.ownsRow_nil _ _ _ _, fun p hp => by cases hp⟩, below_alloc' w _⟩
  case round =>
    obtain ⟨k, lv, hk, rfl, hR, hbl⟩ := hrel
    by_cases hlt : k < l.length
    · obtain ⟨b, off, x, y, rfl, hx, hw, c0, c1⟩ := (HP.out.below hbl).at k hlt
      have hlt' : (k : Int) < l.length := by have := HM.out; omega
      have hst := rfold_take hx
      have hml := HM.out
      have hfl := rfold_len (l.take k)
      rw [List.length_take] at hfl
      have hput := fun W (hb : Below wr.heap.size wr W) => rput_any W w.heap.size w.heap.size lv _ (hR.keep hb) (by have := HM.out; simp only; omega) (Nat.le_trans hbl.size hb.size) x y hw.1 hw.2
      have x0 := fun st : ExtW wr => st.cell c0
      have x1 := fun st : ExtW wr => st.cell c1
      have HPU := Lib.hid hput; have HS := Lib.hid hst; have HB := Lib.hid hbl
      clear hput hst hbl hR hx hw c0 c1 hfl
      go_wp2
      refine wp_region_ext_tail 11 (by kernel_rfl) (by kernel_rfl) ?_
      simp only [List.take_succ_cons, List.take_zero, List.drop_succ_cons, List.drop_zero]
      repeat (go_big_quiet_step (fail))
      refine wpQuiet_nil ?_
      rintro W ⟨⟨W2, hW⟩, rfl⟩
      clear x0 x1
      have hp := HPU.out W hW
      have HW := Lib.hid hW
      clear hW
      go_wp2_with (go_at_call 99; refine hp.mono ?_; rintro e w2 ⟨rfl, ⟨lv2, r2⟩, k2⟩)
      have hb2 : Below w.heap.size w w2 := keeps_below k2 (HB.out.trans (HW.out.mono HB.out.size)) (Nat.le_trans HB.out.size HW.out.size) (fun q hq => by rw [hq]; exact Nat.le_refl _)
      go_roundw
      case rel => exact ⟨k + 1, lv2, by omega, by go_num, by rw [HS.out]; exact r2, hb2⟩
      case measure => simp [intOf]; omega
    · obtain rfl : k = l.length := by omega
      rw [List.take_length] at hR
      have HR := Lib.hid hR; have HB := Lib.hid hbl
      clear hR hbl
      go_wp2
      go_ret
      exact ⟨rfl, ⟨lv, HR.out⟩, HB.out⟩
end Go.Proofs.Yteofdldlmmkgbaa

/-
  The document's world, new, of whatever config.
-/
namespace Go.Proofs.Yteofdldlmmkgbaa
open Go.RowKit
set_option linter.unusedVariables false

theorem dec_f {p : Prop} [Decidable p] (h : ¬ p) : decide p = false := decide_eq_false h
set_option maxRecDepth 10000 in
set_option maxHeartbeats 2000000 in
theorem rmay_any (c : Conf) (w : World) : Calls Try.prog 12 #[.agg #[.int .i64 c.bits, .int .i64 c.budget, .int .i64 c.tries, .int .i64 c.quantum, .int .i64 c.way]] w fun e w' => e = .returned (.bool c.ok) ∧ Below w.heap.size w w' := by
  obtain ⟨b, g, t, q, y⟩ := c
  go_enter Try.func12, Try.ntmps12
  go_wp2
  all_goals go_ret
  all_goals (refine ⟨?_, below_alloc' _ _⟩)
  all_goals (first | (refine conf_false ?_; simp only [Conf.ok, Bool.and_eq_false_iff, decide_eq_false_iff_not] at *; omega) | (refine conf_true ?_; simp only [Conf.ok, Bool.and_eq_true, decide_eq_true_eq] at *; omega) | (refine congrArg (fun d => Ending.returned (.bool d)) (a₁ := decide (y ≤ 256)) ?_; rw [Bool.eq_iff_iff]; simp only [Conf.ok, Bool.and_eq_true, decide_eq_true_eq] at *; omega))

theorem rother_any (c : Conf) (w : World) : Calls Try.prog 10 #[.agg #[.int .i64 c.bits, .int .i64 c.budget, .int .i64 c.tries, .int .i64 c.quantum, .int .i64 c.way]] w fun e w' => e = .returned (.agg #[.int .i64 c.bits, .int .i64 c.budget, .int .i64 c.tries, .int .i64 c.quantum, .int .i64 c.way]) ∧ Below w.heap.size w w' := by
  go_enter Try.func10, Try.ntmps10
  go_wp2
  refine bodyPost_ret (v := .agg #[.int .i64 c.bits, .int .i64 c.budget, .int .i64 c.tries, .int .i64 c.quantum, .int .i64 c.way]) (by simp [results, Try.results10, go_sem]) rfl ⟨rfl, ?_⟩
  repeat (first | exact Below.refl _ _ | refine Below.setCell ?_ (by simp) _ | refine Below.alloc ?_ (by simp) _)

theorem heap_alloc_at (w : World) (o : Obj) {n : Nat} (h : n = w.heap.size) : (w.alloc o).heap[n]? = some o := by subst h; exact heap_alloc_new w o
theorem heap_alloc_old {w : World} {o x : Obj} {n : Nat} (h : w.heap[n]? = some x) : (w.alloc o).heap[n]? = some x := by
  have := (Array.getElem?_eq_some_iff.1 h).1
  rw [Below.heap_alloc _ _ _ this]; exact h
theorem heap_below {w w' : World} {x : Obj} {n : Nat} (hb : Below w.heap.size w w') (h : w.heap[n]? = some x) : w'.heap[n]? = some x := (hb.block n (Array.getElem?_eq_some_iff.1 h).1).trans h
theorem rwds_at {W : World} {b : Nat} {a v : Int} (ha : (Lit.int .u64 a).wf = true) (hv : (Lit.int .u64 v).wf = true) (h : W.heap[b]? = some (.cells #[.int .u64 a, .int .u64 v] 127 (0, 0))) : RWds W (some ⟨b, 0, none⟩) 1 [(a, v)] := by
  have k : ∀ o, W.cell? ⟨b, o, none⟩ = (#[.int .u64 a, .int .u64 v] : Array Value)[o]? := fun o => by unfold World.cell?; simp only; rw [h]; rfl
  refine ⟨by simp, by unfold maxLen; omega, fun p hp => ?_, .inr ⟨_, 0, rfl, fun i hi => ?_⟩⟩
  · simp only [List.mem_singleton] at hp; subst hp; exact ⟨ha, hv⟩
  · have : i = 0 := by simp at hi; omega
    subst this
    exact ⟨k 0, k 1⟩
theorem RCells.base {w : World} {base base' r : Nat} {lv : Value} {x : RS} (h : RCells w base r lv x) (hb : base' ≤ base) : RCells w base' r lv x := by
  refine ⟨h.hdr, Nat.le_trans hb h.lo, ⟨h.row.1, ?_⟩, h.wf⟩
  rcases h.row.2 with h2 | ⟨g, cap, cur, h3, h4, h5⟩
  · exact .inl h2
  · exact .inr ⟨g, cap, cur, h3, Nat.le_trans hb h4, h5⟩

/-- The config's cells. -/
structure FiveC (q : Nat) (c : Conf) (W : World) : Prop where
  hd : W.heap[q]? = some (.cells #[.int .i64 c.bits, .int .i64 c.budget, .int .i64 c.tries, .int .i64 c.quantum, .int .i64 c.way] 31 (0, 0))
theorem FiveC.cell {q : Nat} {c : Conf} {W : World} (h : FiveC q c W) : W.cell? ⟨q, 0, none⟩ = some (.int .i64 c.bits) ∧ W.cell? ⟨q, 1, none⟩ = some (.int .i64 c.budget) ∧ W.cell? ⟨q, 2, none⟩ = some (.int .i64 c.tries) ∧ W.cell? ⟨q, 3, none⟩ = some (.int .i64 c.quantum) ∧ W.cell? ⟨q, 4, none⟩ = some (.int .i64 c.way) := by
  have k : ∀ o, W.cell? ⟨q, o, none⟩ = (#[.int .i64 c.bits, .int .i64 c.budget, .int .i64 c.tries, .int .i64 c.quantum, .int .i64 c.way] : Array Value)[o]? := fun o => by unfold World.cell?; simp only; rw [h.hd]; rfl
  exact ⟨k 0, k 1, k 2, k 3, k 4⟩
abbrev Five (q : Nat) (c : Conf) (W : World) : Prop := W.cell? ⟨q, 0, none⟩ = some (.int .i64 c.bits) ∧ W.cell? ⟨q, 1, none⟩ = some (.int .i64 c.budget) ∧ W.cell? ⟨q, 2, none⟩ = some (.int .i64 c.tries) ∧ W.cell? ⟨q, 3, none⟩ = some (.int .i64 c.quantum) ∧ W.cell? ⟨q, 4, none⟩ = some (.int .i64 c.way)
theorem five_below {q : Nat} {c : Conf} {W W' : World} (hb : Below W.heap.size W W') (h : Five q c W) : Five q c W' := by
  obtain ⟨h0, h1, h2, h3, h4⟩ := h
  have k : ∀ o v, W.cell? ⟨q, o, none⟩ = some v → W'.cell? ⟨q, o, none⟩ = some v := fun o v hc => (hb.cell (World.block_lt_of_cell? _ _ hc)).trans hc
  exact ⟨k _ _ h0, k _ _ h1, k _ _ h2, k _ _ h3, k _ _ h4⟩
theorem five_alloc {q : Nat} {c : Conf} {W : World} {o : Obj} (h : Five q c W) : Five q c (W.alloc o) := five_below (below_alloc' W o) h

/-- A document's world is there. -/
structure RWld (w0 w : World) (rb cr rib rnb : Nat) (c : Conf) (x : RS) : Prop where
  blk : w.heap[rb]? = some (.cells (worldV cr rib rnb c tk0 (-1)).toArray 137 (0, 0))
  lo : w0.heap.size ≤ rb
  ref : ∃ lv, RCells w w0.heap.size cr lv x
  items : w.heap[rib]? = some (.cells #[.slice none 0 0] 131 (0, 0))
  ilo : w0.heap.size ≤ rib
  notes : w.heap[rnb]? = some (.cells #[.slice none 0 0] 135 (0, 0))
  nlo : w0.heap.size ≤ rnb

noncomputable def rnewCells (cr rib rnb : Nat) (c : Conf) : Array Value :=
  (((((((((Try.zeroCells137.setIfInBounds 0 (.pointer (some ⟨cr, 0, none⟩))).setIfInBounds 1 (.pointer (some ⟨rib, 0, none⟩))).setIfInBounds 2 (.pointer (some ⟨rnb, 0, none⟩))).setIfInBounds 3 (.int .i64 c.bits)).setIfInBounds
    4 (.int .i64 c.budget)).setIfInBounds 5 (.int .i64 c.tries)).setIfInBounds 6 (.int .i64 c.quantum)).setIfInBounds 7 (.int .i64 c.way)).setIfInBounds 72 (.int .i64 (-1)))
theorem rnew_cells (cr rib rnb : Nat) (c : Conf) : rnewCells cr rib rnb c = (worldV cr rib rnb c tk0 (-1)).toArray := by
  kernel_rfl
theorem rwld_fin {w W4 : World} {cr rib rnb n : Nat} {lv : Value} (c : Conf) (x : RS) (e : n = W4.heap.size) (hr : RCells W4 w.heap.size cr lv x) (hi : W4.heap[rib]? = some (.cells #[.slice none 0 0] 131 (0, 0))) (hil : w.heap.size ≤ rib)
    (hn : W4.heap[rnb]? = some (.cells #[.slice none 0 0] 135 (0, 0))) (hnl : w.heap.size ≤ rnb) (hb : Below w.heap.size w W4) :
    RWld w (W4.alloc (.cells (rnewCells cr rib rnb c) 137)) n cr rib rnb c x ∧ Below w.heap.size w (W4.alloc (.cells (rnewCells cr rib rnb c) 137)) := by
  subst e
  refine ⟨⟨?_, hb.size, ⟨lv, hr.keep (below_alloc' _ _)⟩, heap_alloc_old hi, hil, heap_alloc_old hn, hnl⟩, hb.alloc hb.size _⟩
  rw [← rnew_cells]; exact heap_alloc_new _ _
set_option maxRecDepth 10000 in
set_option maxHeartbeats 1000000 in
theorem rnew10_any (c : Conf) (hc : c.ok = true) (w : World) : Calls Try.prog 9 #[.agg #[.int .i64 c.bits, .int .i64 c.budget, .int .i64 c.tries, .int .i64 c.quantum, .int .i64 c.way]] w fun e w' => ∃ rb cr rib rnb, e = .returned (.tuple #[.pointer (some ⟨rb, 0, none⟩), .int .i64 0]) ∧ RWld w w' rb cr rib rnb c ⟨rfold [(2, c.bits)], 0, 0, 0, 0, 0⟩ ∧ Below w.heap.size w w' := by
  have hbw : IntKind.u64.wrap c.bits = c.bits := by simp only [Conf.ok, Bool.and_eq_true, decide_eq_true_eq] at hc; rw [IntKind.wrap_u64]; omega
  have hwf : (Lit.int .u64 c.bits).wf = true := by
    have hmin : IntKind.u64.min = 0 := rfl
    have hmax : IntKind.u64.max = 18446744073709551615 := rfl
    simp only [Conf.ok, Bool.and_eq_true, decide_eq_true_eq] at hc
    simp only [Lit.wf, Bool.and_eq_true, decide_eq_true_eq]; omega
  have hm := rmay_any c
  rw [hc] at hm
  have HW := Lib.hid hwf
  clear hwf hc
  go_enter Try.func9, Try.ntmps9
  have hq := heap_alloc_new w (.cells #[.int .i64 c.bits, .int .i64 c.budget, .int .i64 c.tries, .int .i64 c.quantum, .int .i64 c.way] 31)
  have hB0 := below_alloc' w (.cells #[.int .i64 c.bits, .int .i64 c.budget, .int .i64 c.tries, .int .i64 c.quantum, .int .i64 c.way] 31)
  go_wp2_with (go_at_call 12; refine (hm _).mono ?_; rintro e w1 ⟨rfl, b1⟩)
  have hq1 := heap_below b1 hq
  have hB1 : Below w.heap.size w w1 := hB0.trans (b1.mono hB0.size)
  have h0 : w1.drew.cell? ⟨w.heap.size, 0, none⟩ = some (.int .i64 c.bits) ∧ w1.drew.cell? ⟨w.heap.size, 1, none⟩ = some (.int .i64 c.budget) ∧ w1.drew.cell? ⟨w.heap.size, 2, none⟩ = some (.int .i64 c.tries) ∧ w1.drew.cell? ⟨w.heap.size, 3, none⟩ = some (.int .i64 c.quantum) ∧ w1.drew.cell? ⟨w.heap.size, 4, none⟩ = some (.int .i64 c.way) := FiveC.cell (W := w1.drew) ⟨hq1⟩
  have hs1 : w.heap.size ≤ w1.heap.size := hB1.size
  have HB := Lib.hid hB1
  clear hq hB0 b1 hq1 hB1 hm
  go_region_held3 (fun W => W.cell? ⟨w.heap.size, 0, none⟩ = some (.int .i64 c.bits) ∧ W.cell? ⟨w.heap.size, 1, none⟩ = some (.int .i64 c.budget) ∧ W.cell? ⟨w.heap.size, 2, none⟩ = some (.int .i64 c.tries) ∧ W.cell? ⟨w.heap.size, 3, none⟩ = some (.int .i64 c.quantum) ∧ W.cell? ⟨w.heap.size, 4, none⟩ = some (.int .i64 c.way)) (first | exact h0 | assumption | exact five_alloc ‹_› | exact five_below ‹_› ‹_›) (first
    | (go_at_call 55; refine (rnew_any _ _ _ [(2, c.bits)] (rwds_at (by decide) HW.out (by repeat (first | exact heap_alloc_at _ _ (by simp) | refine heap_alloc_old ?_))) (by simp)).mono ?_; rintro e w5 ⟨rfl, ⟨lv5, r5⟩, b5⟩; have hs5 := b5.size; (try simp only [World.size_alloc, World.size_drew] at hs5 r5)))
  all_goals (try go_wp2)
  all_goals go_ret2
  all_goals (refine ⟨_, _, _, _, rfl, rwld_fin (lv := lv5) c _ ?_ ?_ ?_ ?_ ?_ ?_ ?_⟩)
  all_goals (first
    | rfl
    | (simp; done)
    | (exact RCells.base (r5.keep (by repeat (first | exact Below.refl _ _ | refine Below.alloc ?_ (by simp) _))) (by first | omega | (simp only [World.size_alloc, World.size_drew]; omega)))
    | ((repeat (first | exact heap_alloc_at _ _ (by simp) | refine heap_alloc_old ?_ | refine heap_below b5 ?_)); done)
    | ((repeat (first | exact HB.out | refine Below.drew ?_ | refine Below.alloc ?_ (by first | omega | (simp only [World.size_alloc]; omega)) _ | refine Below.trans ?_ (b5.mono (by first | omega | (simp only [World.size_alloc, World.size_drew]; omega))))); done)
    | omega | (simp only [World.size_alloc, World.size_drew]; omega))
end Go.Proofs.Yteofdldlmmkgbaa
