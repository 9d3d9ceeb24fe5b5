/-
  nestboxref06.At.
-/
import Derived.Test.YtmakjfeepmiggaaGreatItemsRef
namespace Go.Proofs.YtmakjfeepmiggaaGreat
open Go.RowKit
set_option linter.unusedVariables false

theorem flat_get : ∀ (l : List Itm) (i f : Nat) (hi : i < l.length), f < 6 → (l.flatMap Itm.cells)[i * 6 + f]? = (l[i]).cells[f]?
  | x :: l, 0, f, _, hf => by
    rw [List.flatMap_cons, List.getElem?_append_left (by simp [Itm.cells]; omega)]
    simp
  | x :: l, i + 1, f, hi, hf => by
    have e : (i + 1) * 6 + f - (Itm.cells x).length = i * 6 + f := by simp [Itm.cells]; omega
    rw [List.flatMap_cons, List.getElem?_append_right (by simp [Itm.cells]; omega), e, flat_get l i f (by simpa using hi) hf]
    simp

set_option maxHeartbeats 800000 in
theorem rat_in (base b : Nat) (l : List Itm) (S : Nat → Prop) (r : Int) (x : Itm) (w : World) (h : RArena w base b l S) (hl : l.length ≤ 1048576) (h1 : 1 ≤ r) (h2 : l[(r - 1).toNat]? = some x) :
    Calls Tryz.prog 76 #[.pointer (some ⟨b, 0, none⟩), .int .i64 r] w fun e w' => e = .returned (.tuple #[.agg #[.string (x).key, .string (x).val, .int .u32 (x).flags, .int .u64 (x).id, .int .i64 (x).dies, .int .i64 (x).gen], .bool true]) ∧ Below w.heap.size w w' := by
  obtain ⟨ao, cap, h, rfl⟩ := h
  obtain ⟨h3, h4⟩ := List.getElem?_eq_some_iff.1 h2
  have hb : b < w.heap.size := (Array.getElem?_eq_some_iff.1 h.hdr).1
  have c0 : w.cell? ⟨b, 0, none⟩ = some (.slice ao l.length cap) := by simp [World.cell?, h.hdr]
  obtain ⟨n, hn⟩ : ∃ n : Nat, (r - 1).toNat = n := ⟨_, rfl⟩
  have hr : r - 1 = (n : Int) := by omega
  simp only [hn] at h3 h4
  rcases h.own.2 with ⟨_, hz⟩ | ⟨g, c, cur, hv, hg, hh, hnc, hcm, hcs, ht⟩
  · omega
  · simp only [Value.slice.injEq, true_and] at hv
    obtain ⟨rfl, rfl⟩ := hv
    have hgl : g < w.heap.size := (Array.getElem?_eq_some_iff.1 hh).1
    have hc : ∀ f, f < 6 → w.cell? ⟨g, n * 6 + f, none⟩ = x.cells[f]? := fun f hf => by
      rw [← h4, ← flat_get l n f h3 hf, ← ht, List.getElem?_take, if_pos (by omega)]
      simp [World.cell?, hh]
    have x0 : w.cell? ⟨g, n * 6, none⟩ = some (.string x.key) := hc 0 (by omega)
    have x1 : w.cell? ⟨g, n * 6 + 1, none⟩ = some (.string x.val) := hc 1 (by omega)
    have x2 : w.cell? ⟨g, n * 6 + 2, none⟩ = some (.int .u32 x.flags) := hc 2 (by omega)
    have x3 : w.cell? ⟨g, n * 6 + 3, none⟩ = some (.int .u64 x.id) := hc 3 (by omega)
    have x4 : w.cell? ⟨g, n * 6 + 4, none⟩ = some (.int .i64 x.dies) := hc 4 (by omega)
    have x5 : w.cell? ⟨g, n * 6 + 5, none⟩ = some (.int .i64 x.gen) := hc 5 (by omega)
    have d1 : decide (r < 1) = false := by simp; omega
    have d2 : decide ((l.length : Int) < r) = false := by simp; omega
    have HR := Lib.hid hr
    have d3 : (0 : Int) ≤ (n : Int) := by omega
    have d4 : (n : Int) < (l.length : Int) := by omega
    have d5 : r = (n : Int) + 1 := by omega
    clear hc hh ht hcs hcm h4 h2 hr hn
    subst d5
    go_enter Tryz.func76, Tryz.ntmps76
    go_wp2
    refine bodyPost_ret (v := .tuple #[.agg x.cells.toArray, .bool true]) (by simp [results, Tryz.results76, go_sem, Itm.cells]) rfl ⟨rfl, ?_⟩
    exact (Below.refl _ _).alloc (Nat.le_refl _) _
theorem rat_out (base b : Nat) (l : List Itm) (S : Nat → Prop) (r : Int) (w : World) (h : RArena w base b l S) (hr : ¬ (1 ≤ r ∧ r ≤ l.length)) :
    Calls Tryz.prog 76 #[.pointer (some ⟨b, 0, none⟩), .int .i64 r] w fun e w' => e = .returned (.tuple #[.agg #[.string ⟨#[]⟩, .string ⟨#[]⟩, .int .u32 0, .int .u64 0, .int .i64 0, .int .i64 0], .bool false]) ∧ Below w.heap.size w w' := by
  obtain ⟨ao, cap, h, rfl⟩ := h
  have hb : b < w.heap.size := (Array.getElem?_eq_some_iff.1 h.hdr).1
  have c0 : w.cell? ⟨b, 0, none⟩ = some (.slice ao l.length cap) := by simp [World.cell?, h.hdr]
  by_cases h1 : r < 1
  · go_enter Tryz.func76, Tryz.ntmps76
    go_wp2
    refine bodyPost_ret (v := .tuple #[.agg Itm.zero.cells.toArray, .bool false]) (by simp [results, Tryz.results76, go_sem, Itm.cells, Itm.zero]; rfl) rfl ⟨rfl, ?_⟩
    exact (Below.refl _ _).alloc (Nat.le_refl _) _
  · have h2 : 1 ≤ r := by omega
    have h3 : (l.length : Int) < r := by omega
    go_enter Tryz.func76, Tryz.ntmps76
    go_wp2
    refine bodyPost_ret (v := .tuple #[.agg Itm.zero.cells.toArray, .bool false]) (by simp [results, Tryz.results76, go_sem, Itm.cells, Itm.zero]; rfl) rfl ⟨rfl, ?_⟩
    exact (Below.refl _ _).alloc (Nat.le_refl _) _
theorem void_rarena (base : Nat) (w : World) (hb : base ≤ w.heap.size) : RArena (w.alloc (.cells #[.slice none 0 0] 223)) base w.heap.size [] (rarenaFp w.heap.size none) :=
  ⟨none, 0, ⟨by simpa using heap_alloc_new w _, World.ownsRow_nil _ _ _ _, hb, by simp [Value.ownBlock]⟩, rfl⟩
end Go.Proofs.YtmakjfeepmiggaaGreat
