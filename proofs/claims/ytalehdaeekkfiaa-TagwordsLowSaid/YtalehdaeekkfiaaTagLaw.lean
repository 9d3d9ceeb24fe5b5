/-
  The walks of the statements of layer 2 (tagwords).
-/
import Derived.Test.YtalehdaeekkfiaaTagLives
namespace Go.Proofs.Ytalehdaeekkfiaa
open Go.RowKit TagPure
set_option linter.unusedVariables false

theorem wf_u64 {x : Int} (h : (Lit.int .u64 x).wf = true) : 0 ≤ x ∧ x < 18446744073709551616 := by simp [Lit.wf, IntKind.min, IntKind.max, IntKind.bits, IntKind.signed] at h; omega
theorem wf_i64 {x : Int} (h : (Lit.int .i64 x).wf = true) : -9223372036854775808 ≤ x ∧ x ≤ 9223372036854775807 := by simp [Lit.wf, IntKind.min, IntKind.max, IntKind.bits, IntKind.signed] at h; omega
theorem wf_u8 {x : Int} (h : (Lit.int .u8 x).wf = true) : 0 ≤ x ∧ x ≤ 255 := by simp [Lit.wf, IntKind.min, IntKind.max, IntKind.bits, IntKind.signed] at h; omega

set_option maxHeartbeats 400000 in
theorem walkTagwordsSlot (x : Int) (hx : (Lit.int .u64 x).wf = true) (s : Int) (hs : (Lit.int .i64 s).wf = true) (t : Int) (ht : (Lit.int .i64 t).wf = true) (w : World) :
    Calls Try.prog 8 #[.int .u64 x, .int .i64 s, .int .i64 t] w fun e w' => e = .returned (.bool true) ∧ Below w.heap.size w w' := by
  obtain ⟨h0, h1⟩ := wf_u64 hx
  clear hx hs ht
  have hB := Below.refl w.heap.size w
  go_enter Try.func8, Try.ntmps8
  go_wp2_with (first
    | (go_at_call 21; refine (tag_any _ _ _ h0 h1).mono ?_; rintro e W' ⟨rfl, hb⟩; replace hB := hB.trans (hb.mono hB.size); clear hb)
    | (go_at_call 22; refine (rtag_any _ _ _ h0 h1).mono ?_; rintro e W' ⟨rfl, rfl⟩)
    | (go_at_call 23; refine (with_any _ _ _ _ h0 h1).mono ?_; rintro e W' ⟨rfl, hb⟩; replace hB := hB.trans (hb.mono hB.size); clear hb)
    | (go_at_call 24; refine (rwith_any _ _ _ _ h0 h1).mono ?_; rintro e W' ⟨rfl, rfl⟩)
    | (go_at_call 25; refine (lives02 _).mono ?_; rintro e W' ⟨rfl, hb⟩; replace hB := hB.trans (hb.mono hB.size); clear hb))
  go_ret
  exact ⟨rfl, hB⟩

theorem has_full (x t : Int) (w : World) (h0 : 0 ≤ x) (h1 : x < 18446744073709551616) :
    Calls Try.prog 27 #[.int .u64 x, .int .i64 t] w fun e w' => ∃ v, e = .returned v ∧ Lst w' w.heap.size v (if t = 0 then [] else has x t 4).length (cells (if t = 0 then [] else has x t 4)) ∧ Below w.heap.size w w' := by
  by_cases ht : t = 0
  · subst ht
    exact (has_zero x w).mono fun e w' ⟨a, b⟩ => ⟨_, a, .inl ⟨rfl, rfl, rfl⟩, b ▸ Below.refl _ _⟩
  · rw [if_neg ht]; exact has_any x t w h0 h1 ht
theorem rhas_full (x t : Int) (w : World) (h0 : 0 ≤ x) (h1 : x < 18446744073709551616) :
    Calls Try.prog 26 #[.int .u64 x, .int .i64 t] w fun e w' => ∃ v, e = .returned v ∧ Lst w' w.heap.size v (if t = 0 then [] else has x t 4).length (cells (if t = 0 then [] else has x t 4)) ∧ Below w.heap.size w w' := by
  by_cases ht : t = 0
  · subst ht
    exact (rhas_zero x w h0 h1).mono fun e w' ⟨a, b⟩ => ⟨_, a, .inl ⟨rfl, rfl, rfl⟩, b ▸ Below.refl _ _⟩
  · rw [if_neg ht]; exact rhas_any x t w h0 h1 ht

set_option maxHeartbeats 1000000 in
theorem walkTagwordsFind (x : Int) (hx : (Lit.int .u64 x).wf = true) (t : Int) (ht : (Lit.int .i64 t).wf = true) (w : World) :
    Calls Try.prog 9 #[.int .u64 x, .int .i64 t] w fun e w' => e = .returned (.bool true) ∧ Below w.heap.size w w' := by
  obtain ⟨h0, h1⟩ := wf_u64 hx
  clear hx ht
  have C1 := has_full x t
  have C2 := rhas_full x t
  have hL : (if t = 0 then [] else has x t 4).length ≤ 4 := by split; exact Nat.zero_le _; exact has_le x t 4
  generalize (if t = 0 then [] else has x t 4) = l at *
  go_enter Try.func9, Try.ntmps9
  go_wp2_with fail
  refine (C2 _ h0 h1).mono ?_
  rintro e w1 ⟨v1, rfl, hl1, hb1⟩
  go_wp2_with fail
  refine (C1 _ h0 h1).mono ?_
  rintro e w2 ⟨v2, rfl, hl2, hb2⟩
  go_wp2_with fail
  have hl12 := hl1.below hb2 (Nat.le_refl _)
  refine (same02 _ _ _ _ hl2.rd hl12.rd).mono ?_
  rintro e w3 ⟨rfl, hb3⟩
  have hl13 := hl12.below hb3 (Nat.le_refl _)
  have hl23 := hl2.below hb3 (Nat.le_refl _)
  have hB3 : Below w1.heap.size w1 w3 := hb2.trans (hb3.mono hb2.size)
  have hB03 : Below w.heap.size w w3 := hb1.trans (hB3.mono hb1.size)
  clear hl2 hl12 C2
  have Cont : ∀ W, Below w1.heap.size w1 W → Lst W w.heap.size v1 l.length (cells l) := fun W h => hl1.below h (Nat.le_refl _)
  rcases hl23 with ⟨rfl, hn, hc⟩ | ⟨g, off, cap, cur, el, rfl, hg, hgb, hn, hcap, hcs⟩
  · have HL := Lib.hid hn
    clear hn hc
    have hB := hB03
    go_wp2_with fail
    refine wp_loop_rounds 1 ?_
    rw [rounds_succ]
    have hW1 := hB3
    go_wp2_with fail
    refine (C1 _ h0 h1).mono ?_
    rintro e w5 ⟨v5, rfl, hl5, hb5⟩
    have hl15 := (Cont _ hW1).below hb5 (Nat.le_refl _)
    replace hB := hB.trans (hb5.mono hB.size)
    clear hb5
    go_wp2_with (first
      | (go_at_call 28; refine (same02 _ _ _ _ hl5.rd hl15.rd).mono ?_; rintro e W' ⟨rfl, hb⟩; replace hB := hB.trans (hb.mono hB.size); clear hb)
      | (go_at_call 29; refine (free_any _ _ h0 h1).mono ?_; rintro e W' ⟨rfl, hb⟩; replace hB := hB.trans (hb.mono hB.size); clear hb)
      | (go_at_call 30; refine (rfree_any _ _ h0 h1).mono ?_; rintro e W' ⟨rfl, rfl⟩)
      | (go_at_call 31; refine (count_any _ _ h0 h1).mono ?_; rintro e W' ⟨rfl, hb⟩; replace hB := hB.trans (hb.mono hB.size); clear hb)
      | (go_at_call 32; refine (rcount_any _ _ h0 h1).mono ?_; rintro e W' ⟨rfl, rfl⟩)
      | (go_at_call 25; refine (lives02 _).mono ?_; rintro e W' ⟨rfl, hb⟩; replace hB := hB.trans (hb.mono hB.size); clear hb))
    go_ret
    exact ⟨rfl, hB⟩
  · unfold maxLen at hcap
    have hz : ∀ k, k < l.length → off + k < cur.size := by
      intro k hk
      have := congrArg List.length hcs
      simp [cells] at this
      omega
    clear hcs hl13
    go_wp2_with fail
    go_loopw [7] (fun i wr => ∃ k : Nat, k ≤ l.length ∧ i = .int .i64 k ∧ Below w1.heap.size w1 wr ∧ ∃ cur', wr.heap[g]? = some (.cells cur' el (0, 0)) ∧ cur'.size = cur.size) (fun i _ => l.length - (intOf i).toNat)
    case atStart => exact ⟨0, by omega, rfl, hB3, cur, hgb, rfl⟩
    case round =>
      obtain ⟨k, hk, rfl, hbl, cur', hgc, hcz⟩ := hrel
      by_cases hlt : k < l.length
      · have hz' := hz k hlt
        have e1 : wr.cell? ⟨g, off + k, none⟩ = cur'[off + k]? := by simp [World.cell?, hgc]
        rw [Array.getElem?_eq_getElem (by omega)] at e1
        have e2 : wr.frozen? ⟨g, off + k, none⟩ = false := by simp [World.frozen?, hgc]
        go_wp2
        go_roundw
        case rel =>
          refine ⟨k + 1, by omega, by go_num, hbl.setCell hg _, cur'.setIfInBounds (off + k) (.int .i64 9), ?_, by simpa using hcz⟩
          simp [World.setCell, Array.getElem?_modify, hgc]
        case measure => simp [intOf]; omega
      · obtain rfl : k = l.length := by omega
        have hB : Below w.heap.size w wr := hb1.trans (hbl.mono hb1.size)
        have hW1 := hbl
        clear hgc hcz
        go_wp2_with fail
        refine (C1 _ h0 h1).mono ?_
        rintro e w5 ⟨v5, rfl, hl5, hb5⟩
        have hl15 := (Cont _ hW1).below hb5 (Nat.le_refl _)
        replace hB := hB.trans (hb5.mono hB.size)
        clear hb5
        go_wp2_with (first
          | (go_at_call 28; refine (same02 _ _ _ _ hl5.rd hl15.rd).mono ?_; rintro e W' ⟨rfl, hb⟩; replace hB := hB.trans (hb.mono hB.size); clear hb)
          | (go_at_call 29; refine (free_any _ _ h0 h1).mono ?_; rintro e W' ⟨rfl, hb⟩; replace hB := hB.trans (hb.mono hB.size); clear hb)
          | (go_at_call 30; refine (rfree_any _ _ h0 h1).mono ?_; rintro e W' ⟨rfl, rfl⟩)
          | (go_at_call 31; refine (count_any _ _ h0 h1).mono ?_; rintro e W' ⟨rfl, hb⟩; replace hB := hB.trans (hb.mono hB.size); clear hb)
          | (go_at_call 32; refine (rcount_any _ _ h0 h1).mono ?_; rintro e W' ⟨rfl, rfl⟩)
          | (go_at_call 25; refine (lives02 _).mono ?_; rintro e W' ⟨rfl, hb⟩; replace hB := hB.trans (hb.mono hB.size); clear hb))
        go_ret
        exact ⟨rfl, hB⟩
end Go.Proofs.Ytalehdaeekkfiaa
