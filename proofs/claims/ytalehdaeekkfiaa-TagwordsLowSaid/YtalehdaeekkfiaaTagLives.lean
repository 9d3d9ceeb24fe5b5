/-
  nestboxlaw02.lives is true; nestboxlaw02.same.
-/
import Derived.Test.YtalehdaeekkfiaaTagRef
namespace Go.Proofs.Ytalehdaeekkfiaa
open Go.RowKit TagPure
set_option linter.unusedVariables false

theorem fld {p q : Prop} (a : p) (b : q) : p ∧ q := ⟨a, b⟩

set_option maxHeartbeats 800000 in
theorem lives02 (w : World) : Calls Try.prog 25 #[] w fun e w' => e = .returned (.bool true) ∧ Below w.heap.size w w' := by
  have f1 : (tagOf 458752 2 == 7) = true := by decide +kernel
  have f2 : (withOf 0 2 7 == 458752) = true := by decide +kernel
  have f3 : (withOf 458752 2 0 == 0) = true := by decide +kernel
  have f4 : (withOf 4294967296 0 1 == 4294967297) = true := by decide +kernel
  have f5 : (freeFrom 117440519 0 4 == 1) = true := by decide +kernel
  have f6 : ((cnt 117440519 4 : Int) == 2) = true := by decide +kernel
  have f7 : has 117440519 7 4 = [0, 3] := by decide +kernel
  have F7 := Lib.hid f7
  clear f7
  go_enter Try.func25, Try.ntmps25
  go_wp2_with fail
  refine (has_any _ _ _ (by omega) (by omega) (by omega)).mono ?_
  rintro e w1 ⟨v, rfl, hl, hB⟩
  rw [F7.out] at hl
  rcases hl with ⟨_, h, _⟩ | ⟨g, off, cap, cur, el, rfl, hg, hgb, hn, hcap, hcs⟩
  · cases h
  have hc0 : w1.cell? ⟨g, off, none⟩ = some (.int .i64 0) := by
    have := congrArg (fun l => l[0]?) hcs
    simp [cells] at this
    simp [World.cell?, hgb, this]
  have hc1 : w1.cell? ⟨g, off + 1, none⟩ = some (.int .i64 3) := by
    have := congrArg (fun l => l[1]?) hcs
    simp [cells] at this
    simp [World.cell?, hgb, this]
  have hlt : g < w1.heap.size := (Array.getElem?_eq_some_iff.1 hgb).1
  clear hgb hcs
  go_wp2_with (first
    | (go_at_call 21; refine (tag_any _ _ _ (by omega) (by omega)).mono ?_; rintro e W' ⟨rfl, hb⟩; replace hc0 := (hb.cell (p := ⟨g, off, none⟩) hlt).trans hc0; replace hc1 := (hb.cell (p := ⟨g, off + 1, none⟩) hlt).trans hc1; replace hlt := Nat.lt_of_lt_of_le hlt hb.size; replace hB := hB.trans (hb.mono hB.size); clear hb)
    | (go_at_call 23; refine (with_any _ _ _ _ (by omega) (by omega)).mono ?_; rintro e W' ⟨rfl, hb⟩; replace hc0 := (hb.cell (p := ⟨g, off, none⟩) hlt).trans hc0; replace hc1 := (hb.cell (p := ⟨g, off + 1, none⟩) hlt).trans hc1; replace hlt := Nat.lt_of_lt_of_le hlt hb.size; replace hB := hB.trans (hb.mono hB.size); clear hb)
    | (go_at_call 29; refine (free_any _ _ (by omega) (by omega)).mono ?_; rintro e W' ⟨rfl, hb⟩; replace hB := hB.trans (hb.mono hB.size); clear hb)
    | (go_at_call 31; refine (count_any _ _ (by omega) (by omega)).mono ?_; rintro e W' ⟨rfl, hb⟩; replace hB := hB.trans (hb.mono hB.size); clear hb))
  go_ret
  exact ⟨rfl, hB⟩

theorem Rd.cases {w : World} {v : Value} {n : Nat} {xs : List Value} (h : Rd w v n xs) (hx : xs ≠ []) :
    ∃ b off cap, v = .slice (some ⟨b, off, none⟩) n cap ∧ n ≤ cap ∧ cap ≤ maxLen ∧ ∀ i, i < xs.length → w.cell? ⟨b, off + i, none⟩ = xs[i]? := by
  obtain ⟨a, cap, rfl, h1, h2, h3, h4⟩ := h
  rcases h4 with h4 | ⟨b, off, rfl, h5⟩
  · exact (hx h4).elim
  · exact ⟨b, off, cap, rfl, h1, h2, h5⟩
theorem Rd.len {w : World} {v : Value} {n : Nat} {xs : List Value} (h : Rd w v n xs) : ∃ a cap, v = .slice a n cap ∧ n ≤ maxLen := by
  obtain ⟨a, cap, rfl, h1, h2, h3, h4⟩ := h
  exact ⟨a, cap, rfl, Nat.le_trans h1 h2⟩

/-- Two lists of the same numbers are the same. -/
theorem same02 (va vb : Value) (l : List Nat) (w : World) (ha : Rd w va l.length (cells l)) (hb : Rd w vb l.length (cells l)) :
    Calls Try.prog 28 #[va, vb] w fun e w' => e = .returned (.bool true) ∧ Below w.heap.size w w' := by
  by_cases hl : l = []
  · subst hl
    obtain ⟨a, c, rfl, _⟩ := ha.len
    obtain ⟨b, d, rfl, _⟩ := hb.len
    go_enter Try.func28, Try.ntmps28
    go_wp2
    refine wp_loop_rounds 1 ?_
    rw [rounds_succ]
    go_wp2
    go_ret
    exact ⟨rfl, Below.refl _ _⟩
  · have hne : cells l ≠ [] := by simpa [cells] using hl
    obtain ⟨b1, o1, c1, rfl, h11, h12, h13⟩ := ha.cases hne
    obtain ⟨b2, o2, c2, rfl, h21, h22, h23⟩ := hb.cases hne
    clear ha hb hl hne
    have hq1 : ∀ i, (hi : i < l.length) → w.cell? ⟨b1, o1 + i, none⟩ = some (.int .i64 (l[i]'hi : Nat)) := fun i hi => by rw [h13 i (by simpa [cells] using hi)]; simp [cells, hi]
    have hq2 : ∀ i, (hi : i < l.length) → w.cell? ⟨b2, o2 + i, none⟩ = some (.int .i64 (l[i]'hi : Nat)) := fun i hi => by rw [h23 i (by simpa [cells] using hi)]; simp [cells, hi]
    clear h13 h23
    unfold maxLen at h12
    go_enter Try.func28, Try.ntmps28
    go_wp2
    go_loopw [5] (fun i wr => ∃ k : Nat, k ≤ l.length ∧ i = .int .i64 k ∧ Below w.heap.size w wr) (fun i _ => l.length - (intOf i).toNat)
    case atStart => exact ⟨0, by omega, rfl, Below.refl _ _⟩
    case round =>
      obtain ⟨k, hk, rfl, hbl⟩ := hrel
      by_cases hlt : k < l.length
      · have g1 := hq1 k hlt
        have g2 := hq2 k hlt
        have e1 : wr.cell? ⟨b1, o1 + k, none⟩ = some (.int .i64 (l[k] : Nat)) := (hbl.cell (World.block_lt_of_cell? _ _ g1)).trans g1
        have e2 : wr.cell? ⟨b2, o2 + k, none⟩ = some (.int .i64 (l[k] : Nat)) := (hbl.cell (World.block_lt_of_cell? _ _ g2)).trans g2
        have d1 : (k : Int) < (l.length : Int) := by omega
        have d2 : (0 : Int) ≤ (k : Int) := by omega
        clear g1 g2 hq1 hq2
        generalize l[k] = q at *
        go_wp2
        go_quiet (fail)
        go_wp2
        go_roundw
        case rel => exact ⟨k + 1, by omega, by go_num, hbl.trans ((below_drewN _ _).mono hbl.size)⟩
        case measure => simp [intOf]; omega
      · obtain rfl : k = l.length := by omega
        go_wp2
        go_ret
        exact ⟨rfl, hbl⟩
end Go.Proofs.Ytalehdaeekkfiaa
