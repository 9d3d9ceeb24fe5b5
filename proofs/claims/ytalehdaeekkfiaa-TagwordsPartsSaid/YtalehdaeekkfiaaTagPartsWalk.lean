/-
  The walk of TagwordsParts (continued): its loops.
-/
import Derived.Test.YtalehdaeekkfiaaTagParts
namespace Go.Proofs.Ytalehdaeekkfiaa
open Go.RowKit TagPure
set_option linter.unusedVariables false
attribute [local go_sem ↓] Go.wp_at_zero Go.wp_at_succ

theorem seen_bd (x : Int) (k : Nat) (l : List Nat) (s : Nat) : 0 ≤ seenTo x k l s ∧ seenTo x k l s ≤ 2 := by
  unfold seenTo; constructor <;> (repeat' split) <;> omega
/-- What holds of the world in the inner loop. -/
structure PInv (w w1 : World) (g off : Nat) (l : List Nat) (f : Nat → Int) (el : TypeId) (W : World) : Prop where
  below : Below w.heap.size w W
  size : w1.heap.size ≤ W.heap.size
  blk : W.heap[w.heap.size]? = some (.cells (sc f) el (0, 0))
  rd : ∀ i, (hi : i < l.length) → W.cell? ⟨g, off + i, none⟩ = some (.int .i64 (l[i] : Nat))
theorem PInv.step {w w1 W W' : World} {g off : Nat} {l : List Nat} {f : Nat → Int} {el : TypeId} (h : PInv w w1 g off l f el W) (hb : Below W.heap.size W W') : PInv w w1 g off l f el W' :=
  ⟨h.below.trans (hb.mono h.below.size), Nat.le_trans h.size hb.size, by rw [hb.block _ (Array.getElem?_eq_some_iff.1 h.blk).1]; exact h.blk,
    fun i hi => (hb.cell (World.block_lt_of_cell? _ _ (h.rd i hi))).trans (h.rd i hi)⟩
theorem PInv.drew {w w1 W : World} {g off : Nat} {l : List Nat} {f : Nat → Int} {el : TypeId} (h : PInv w w1 g off l f el W) : PInv w w1 g off l f el W.drew := ⟨h.below.drew, h.size, h.blk, h.rd⟩
theorem PInv.set {w w1 W : World} {g off : Nat} {l : List Nat} {f : Nat → Int} {el : TypeId} (h : PInv w w1 g off l f el W) (hne : g ≠ w.heap.size) (n : Nat) (hn : n < 4) (v : Int) :
    PInv w w1 g off l (upd f n v) el (W.setCell ⟨w.heap.size, n, none⟩ (.int .i64 v)) := by
  refine ⟨h.below.setCell (Nat.le_refl _) _, by simpa [World.setCell] using h.size, ?_, fun i hi => ?_⟩
  · simp [World.setCell, Array.getElem?_modify, h.blk, sc_set f n hn v]
  · rw [World.cell?_setCell_other _ _ _ _ (by simp <;> omega)]; exact h.rd i hi

set_option maxRecDepth 100000 in
set_option maxHeartbeats 2000000 in
theorem walkTagwordsParts (x : Int) (hx : (Lit.int .u64 x).wf = true) (t : Int) (ht : (Lit.int .u8 t).wf = true) (w : World) :
    Calls Try.prog 11 #[.int .u64 x, .int .u8 t] w fun e w' => e = .returned (.bool true) ∧ Below w.heap.size w w' := by
  obtain ⟨h0, h1⟩ := wf_u64 hx
  obtain ⟨t0, t1⟩ := wf_u8 ht
  clear hx ht
  go_enter Try.func11, Try.ntmps11
  go_wp2_with fail
  go_loopw [6] (fun i wr => ∃ (k : Nat) (f : Nat → Int) (el : TypeId), 1 ≤ k ∧ k ≤ 256 ∧ i = .int .i64 k ∧ Below w.heap.size w wr ∧ wr.heap[w.heap.size]? = some (.cells (sc f) el (0, 0)) ∧ ∀ s, s < 4 → f s = seenTo x k [] s) (fun i _ => 256 - (intOf i).toNat)
  case atStart =>
    refine ⟨1, fun _ => 0, _, by omega, by omega, rfl, (Below.refl _ _).alloc (Nat.le_refl _) _, heap_alloc_new _ _, fun s hs => ?_⟩
    unfold seenTo; simp
    try omega
  case round =>
    obtain ⟨k, f, el, hk1, hk, rfl, hB, hblk, hf⟩ := hrel
    have HF := Lib.hid hf
    clear hf
    by_cases hlt : k < 256
    · go_wp2_with fail
      refine (has_any _ _ _ h0 h1 (by omega)).mono ?_
      rintro e w1 ⟨v, rfl, hl, hb1⟩
      have hp := has_pairwise x k 4
      have hm := has_mem x k 4
      have hlen := has_le x k 4
      generalize hL : has x k 4 = l at *
      have HL := Lib.hid hL
      have hblk1 : w1.heap[w.heap.size]? = some (.cells (sc f) el (0, 0)) := by
        rw [hb1.block _ (Array.getElem?_eq_some_iff.1 hblk).1]; exact hblk
      have hB1 : Below w.heap.size w w1 := hB.trans (hb1.mono hB.size)
      have hsz := (Array.getElem?_eq_some_iff.1 hblk).1
      clear hL hblk hB hb1
      rcases hl with ⟨rfl, hn, hc⟩ | ⟨g, off, cap, cur, el2, rfl, hg, hgb, hn, hcap, hcs⟩
      · have HN := Lib.hid hn
        have hl0 : l = [] := List.eq_nil_of_length_eq_zero hn
        clear hn hc
        go_wp2_with fail
        refine wp_loop_rounds 1 ?_
        rw [rounds_succ]
        go_wp2
        go_roundw
        case rel =>
          refine ⟨k + 1, f, el, by omega, by omega, by go_num, hB1, hblk1, fun s hs => ?_⟩
          rw [HF.out s hs, ← seen_next x k s hk1 hs, HL.out, hl0]
        case measure => simp [intOf] <;> omega
      · have hgl := (Array.getElem?_eq_some_iff.1 hgb).1
        have hne : g ≠ w.heap.size := by omega
        have hrd : ∀ i, (hi : i < l.length) → w1.cell? ⟨g, off + i, none⟩ = some (.int .i64 (l[i] : Nat)) := by
          intro i hi
          have e1 : (cells l)[i]? = ((cur.toList.drop off).take (cells l).length)[i]? := by rw [hcs]
          rw [List.getElem?_take, if_pos (by simpa [cells] using hi), List.getElem?_drop] at e1
          simp [World.cell?, hgb, ← Array.getElem?_toList, ← e1, cells, hi]
        have HRD := Lib.hid hrd
        unfold maxLen at hcap
        clear hgb hcs hrd
        go_wp2_with fail
        go_loopw [8] (fun i wr' => ∃ (j : Nat) (f : Nat → Int), j ≤ l.length ∧ i = .int .i64 j ∧ PInv w w1 g off l f el wr' ∧ ∀ s, s < 4 → f s = seenTo x k (l.take j) s) (fun i _ => l.length - (intOf i).toNat)
        case atStart => exact ⟨0, f, by omega, rfl, ⟨hB1, Nat.le_refl _, hblk1, HRD.out⟩, by simpa using HF.out⟩
        case round =>
          clear HF HRD hB1 hblk1
          obtain ⟨wr', rfl⟩ : ∃ w : World, w = wr := ⟨_, rfl⟩
          obtain ⟨j, f2, hj, rfl, hI, hf2⟩ := hrel
          have HF2 := Lib.hid hf2
          clear hf2 f
          by_cases hlj : j < l.length
          · have g1 := hI.rd j hlj
            have hm1 := hm l[j] (List.getElem_mem hlj)
            have HS := fun s => Lib.hid (seen_step x k j s l hp hlj)
            obtain ⟨hm2, hm3⟩ := hm1
            obtain ⟨n, hn2⟩ : ∃ n, l[j] = n := ⟨_, rfl⟩
            rw [hn2] at g1 hm2 hm3
            by_cases hj0 : 0 < j
            · have g2 := hI.rd (j - 1) (by omega)
              obtain ⟨n', hn3⟩ : ∃ n', l[j - 1] = n' := ⟨_, rfl⟩
              have hr : l[j - 1] < l[j] := List.pairwise_iff_getElem.1 hp (j - 1) j (by omega) hlj (by omega)
              rw [hn2, hn3] at hr
              rw [hn3] at g2
              clear hn3
              have HN2 := Lib.hid hn2
              clear hn2
              have HM := Lib.hid hm3
              have hq : (tg x n != k) = false := by rw [HM.out]; simp
              clear hm hm3 hp
              have b3 : decide ((n : Int) < 0) = false := by simp
              have b4 : decide ((3 : Int) < (n : Int)) = false := by simp; omega
              have b1 : (j : Int) < (l.length : Int) := by omega
              have b2 : (0 : Int) ≤ (j : Int) := by omega
              have b5 : decide ((0 : Int) < (j : Int)) = true := by simp; omega
              have b6 : decide (0 < j) = true := by simp; omega
              have b9 : decide ((n : Int) ≤ (n' : Int)) = false := by simp; omega
              have b10 : decide (n ≤ n') = false := by simp; omega
              have hx := fun s : ExtW wr' => s.cell g1
              have hx2 := fun s : ExtW wr' => s.cell g2
              go_wp2_with fail
              refine wp_region_ext (by kernel_rfl) (by kernel_rfl) ?_
              repeat (go_big_quiet_step ((go_at_call 21; refine calls_ext (tag_nat _ n _ h0 h1 hm2))))
              refine wpQuiet_nil ?_
              rintro W ⟨⟨W2, hW⟩, rfl⟩
              have hI2 := hI.step hW
              clear hx g1 hx2 g2 hW hI
              have g1 := hI2.rd j hlj
              have hq0 := seen_bd x k (l.take j) n
              rw [← HF2.out n hm2] at hq0
              have g3 : W.cell? ⟨w.heap.size, n, none⟩ = some (.int .i64 (f2 n)) := by simp [World.cell?, hI2.blk, sc_get f2 n hm2]
              have g4 : W.frozen? ⟨w.heap.size, n, none⟩ = false := by simp [World.frozen?, hI2.blk]
              have hnext : PInv w w1 g off l (upd f2 n (f2 n + 1)) el (W.setCell ⟨w.heap.size, n, none⟩ (.int .i64 (f2 n + 1))) := hI2.set hne n hm2 _
              have hF3 : ∀ s, s < 4 → upd f2 n (f2 n + 1) s = seenTo x k (l.take (j + 1)) s := by
                intro s hs
                rw [(HS s).out, HN2.out]
                unfold upd
                by_cases e : s = n
                · subst e; rw [if_pos rfl, if_pos rfl, HF2.out s hs]
                · rw [if_neg e, if_neg e, HF2.out s hs]; omega
              have HF3 := Lib.hid hF3
              have HNX := Lib.hid hnext
              clear hF3 hnext
              have g5 : W.cell? ⟨g, off + j, none⟩ = some (.int .i64 n) := by rw [HN2.out] at g1; exact g1
              clear g1
              generalize f2 n = q at *
              have b7 : (0 : Int) ≤ (n : Int) := by omega
              have b8 : (n : Int) < 4 := by omega
              go_wp2
              go_roundw
              case rel => exact ⟨j + 1, _, by omega, by go_num, HNX.out, HF3.out⟩
              case measure => simp [intOf] <;> omega
            · obtain rfl : j = 0 := by omega
              rw [show ((0 : Nat) : Int) = 0 from rfl]
              have b1 : (0 : Int) < (l.length : Int) := by omega
              simp only [Nat.add_zero] at g1
              have HN2 := Lib.hid hn2
              clear hn2
              have HM := Lib.hid hm3
              have hq : (tg x n != k) = false := by rw [HM.out]; simp
              clear hm hm3 hp
              have b3 : decide ((n : Int) < 0) = false := by simp
              have b4 : decide ((3 : Int) < (n : Int)) = false := by simp; omega
              have hx := fun s : ExtW wr' => s.cell g1
              go_wp2_with fail
              refine wp_region_ext (by kernel_rfl) (by kernel_rfl) ?_
              repeat (go_big_quiet_step ((go_at_call 21; refine calls_ext (tag_nat _ n _ h0 h1 hm2))))
              refine wpQuiet_nil ?_
              rintro W ⟨⟨W2, hW⟩, rfl⟩
              have hI2 := hI.step hW
              clear hx g1 hW hI
              have g1 := hI2.rd 0 hlj
              have hq0 := seen_bd x k (l.take 0) n
              rw [← HF2.out n hm2] at hq0
              have g3 : W.cell? ⟨w.heap.size, n, none⟩ = some (.int .i64 (f2 n)) := by simp [World.cell?, hI2.blk, sc_get f2 n hm2]
              have g4 : W.frozen? ⟨w.heap.size, n, none⟩ = false := by simp [World.frozen?, hI2.blk]
              have hnext : PInv w w1 g off l (upd f2 n (f2 n + 1)) el (W.setCell ⟨w.heap.size, n, none⟩ (.int .i64 (f2 n + 1))) := hI2.set hne n hm2 _
              have hF3 : ∀ s, s < 4 → upd f2 n (f2 n + 1) s = seenTo x k (l.take (0 + 1)) s := by
                intro s hs
                rw [(HS s).out, HN2.out]
                unfold upd
                by_cases e : s = n
                · subst e; rw [if_pos rfl, if_pos rfl, HF2.out s hs]
                · rw [if_neg e, if_neg e, HF2.out s hs]; omega
              have HF3 := Lib.hid hF3
              have HNX := Lib.hid hnext
              clear hF3 hnext
              have g5 : W.cell? ⟨g, off, none⟩ = some (.int .i64 n) := by rw [Nat.add_zero, HN2.out] at g1; exact g1
              clear g1
              generalize f2 n = q at *
              have b7 : (0 : Int) ≤ (n : Int) := by omega
              have b8 : (n : Int) < 4 := by omega
              go_wp2
              go_roundw
              case rel => exact ⟨0 + 1, _, by omega, by go_num, HNX.out, HF3.out⟩
              case measure => simp [intOf] <;> omega
          · obtain rfl : j = l.length := by omega
            have hI' := hI
            have HF3 : Hid (∀ s, s < 4 → f2 s = seenTo x (k + 1) [] s) := by
              intro s hs
              rw [HF2.out s hs, ← seen_next x k s hk1 hs, HL.out, List.take_length]
            clear hI hm hp
            go_wp2
            go_roundw
            case rel => exact ⟨k + 1, f2, el, by omega, by omega, by go_num, hI'.below, hI'.blk, HF3.out⟩
            case measure => simp [intOf] <;> omega
    · obtain rfl : k = 256 := by omega
      have hf3 : ∀ s, s < 4 → f s = if tg x s = 0 then 0 else 1 := by
        intro s hs
        rw [HF.out s hs]
        have := tg_bd x s
        unfold seenTo
        simp only [List.not_mem_nil, if_false]
        repeat' split
        all_goals omega
      have HF3 := Lib.hid hf3
      clear HF hf3
      go_wp2_with fail
      go_loopw [9, 10, 11] (fun n lo i wr => ∃ (j : Nat), j ≤ 4 ∧ i = .int .i64 (3 - (j : Int)) ∧ n = .int .i64 (nHi x j) ∧ lo = .int .i64 (lowHi x j) ∧ Below w.heap.size w wr ∧ wr.heap[w.heap.size]? = some (.cells (sc f) el (0, 0))) (fun _ _ i _ => (intOf i + 1).toNat)
      case atStart => exact ⟨0, by omega, rfl, rfl, rfl, hB, hblk⟩
      case round =>
        obtain ⟨wr', rfl⟩ : ∃ w : World, w = wr := ⟨_, rfl⟩
        clear hB hblk
        obtain ⟨j, hj, rfl, rfl, rfl, hB, hblk⟩ := hrel
        have hnb := nHi_bd x j
        by_cases hlj : j < 4
        · obtain ⟨m, hm⟩ : ∃ m : Nat, 3 - j = m := ⟨_, rfl⟩
          have hm' : (3 - (j : Int)) = (m : Int) := by omega
          have hm4 : m < 4 := by omega
          have HS1 : Hid (nHi x (j + 1) = nHi x j + if tg x m = 0 then 0 else 1) := by show _ = _; rw [← hm]; rfl
          have HS2 : Hid (lowHi x (j + 1) = if tg x m = 0 then 3 - (j : Int) else lowHi x j) := by show _ = _; rw [← hm]; rfl
          have HM : Hid ((3 - ((j + 1 : Nat) : Int)) = (m : Int) - 1) := by show _ = _; omega
          have HM2 : Hid ((3 - (j : Int)) = (m : Int)) := hm'
          rw [hm']
          clear hm hm'
          have g1 : wr'.cell? ⟨w.heap.size, m, none⟩ = some (.int .i64 (f m)) := by simp [World.cell?, hblk, sc_get f m hm4]
          have HB := Lib.hid hblk
          have b1 : (0 : Int) ≤ (m : Int) := by omega
          have b2 : (m : Int) < 4 := by omega
          clear hblk
          by_cases hz : tg x m = 0
          · have hf0 : f m = 0 := by rw [HF3.out m hm4, if_pos hz]
            rw [hf0] at g1
            have hz1 : (tg x m == 0) = true := by simp [hz]
            have HS3 : Hid (nHi x (j + 1) = nHi x j) := by show _ = _; rw [HS1.out, if_pos hz]; omega
            have HS4 : Hid (lowHi x (j + 1) = m) := by show _ = _; rw [HS2.out, if_pos hz, HM2.out]
            clear hz hf0
            have hx := fun s : ExtW wr' => s.cell g1
            go_wp2_with fail
            refine wp_region_ext (by kernel_rfl) (by kernel_rfl) ?_
            repeat (go_big_quiet_step ((go_at_call 21; refine calls_ext (tag_nat _ m _ h0 h1 hm4))))
            refine wpQuiet_nil ?_
            rintro W ⟨⟨W2, hW⟩, rfl⟩
            have g2 := (hW.cell (World.block_lt_of_cell? _ _ g1)).trans g1
            have HB2 : Hid (W.heap[w.heap.size]? = some (.cells (sc f) el (0, 0))) := by show _ = _; rw [hW.block _ (Array.getElem?_eq_some_iff.1 HB.out).1]; exact HB.out
            replace hB := hB.trans (hW.mono hB.size)
            clear hx g1 hW
            go_wp2
            go_roundw
            case rel => exact ⟨j + 1, by omega, by rw [HM.out], by rw [HS3.out], by rw [HS4.out], hB, HB2.out⟩
            case measure => simp [intOf] <;> omega
          · have hf0 : f m = 1 := by rw [HF3.out m hm4, if_neg hz]
            rw [hf0] at g1
            have hz1 : (tg x m == 0) = false := by simp [hz]
            have HS3 : Hid (nHi x (j + 1) = nHi x j + 1) := by show _ = _; rw [HS1.out, if_neg hz]
            have HS4 : Hid (lowHi x (j + 1) = lowHi x j) := by show _ = _; rw [HS2.out, if_neg hz]
            clear hz hf0
            have hx := fun s : ExtW wr' => s.cell g1
            go_wp2_with fail
            refine wp_region_ext (by kernel_rfl) (by kernel_rfl) ?_
            repeat (go_big_quiet_step ((go_at_call 21; refine calls_ext (tag_nat _ m _ h0 h1 hm4))))
            refine wpQuiet_nil ?_
            rintro W ⟨⟨W2, hW⟩, rfl⟩
            have g2 := (hW.cell (World.block_lt_of_cell? _ _ g1)).trans g1
            have HB2 : Hid (W.heap[w.heap.size]? = some (.cells (sc f) el (0, 0))) := by show _ = _; rw [hW.block _ (Array.getElem?_eq_some_iff.1 HB.out).1]; exact HB.out
            replace hB := hB.trans (hW.mono hB.size)
            clear hx g1 hW
            go_wp2
            go_roundw
            case rel => exact ⟨j + 1, by omega, by rw [HM.out], by rw [HS3.out], by rw [HS4.out], hB, HB2.out⟩
            case measure => simp [intOf] <;> omega
        · obtain rfl : j = 4 := by omega
          clear hblk
          have HN := Lib.hid (nHi_cnt x)
          have HL := Lib.hid (lowHi_free x)
          have hc1 := cnt_le x 4
          rw [HN.out, HL.out]
          rcases free_cases x with hfr | ⟨n, hn4, hfr, htz⟩
          · have HFR := Lib.hid hfr
            rw [hfr]
            clear hfr
            have e1 : (freeFrom x 0 4 == -1) = true := by rw [HFR.out]; rfl
            have e2 : (freeFrom x 0 4 != -1) = false := by rw [HFR.out]; rfl
            go_wp2_with (first
              | (go_at_call 31; refine (count_any _ _ (by omega) (by omega)).mono ?_; rintro e W' ⟨rfl, hb⟩; replace hB := hB.trans (hb.mono hB.size); clear hb)
              | (go_at_call 29; refine (free_any _ _ (by omega) (by omega)).mono ?_; rintro e W' ⟨rfl, hb⟩; replace hB := hB.trans (hb.mono hB.size); clear hb)
              | (go_at_call 25; refine (lives02 _).mono ?_; rintro e W' ⟨rfl, hb⟩; replace hB := hB.trans (hb.mono hB.size); clear hb))
            go_ret
            exact ⟨rfl, hB⟩
          · have HFR := Lib.hid hfr
            rw [hfr]
            clear hfr
            have e1 : (freeFrom x 0 4 == (n : Int)) = true := by rw [HFR.out]; simp
            have e2 : (freeFrom x 0 4 != (n : Int)) = false := by rw [HFR.out]; simp
            have hT0 : 1 ≤ 1 + t % 255 := by omega
            have hT1 : 1 + t % 255 ≤ 255 := by omega
            have p1 := cnt_put x (1 + t % 255) n h0 hn4 htz hT0 hT1
            have p2 := free_put x (1 + t % 255) n h0 hn4 hT0 hT1
            have p3 := put_u64 x (1 + t % 255) n h0 h1 hn4 (by omega) hT1
            have CW := fun W => with_in x (1 + t % 255) n W h0 h1 hn4 (by omega) hT1
            have HC := Lib.hid CW
            clear htz CW
            generalize put x n (1 + t % 255) = y at *
            have e3 : ((cnt y 4 : Int) == (cnt x 4 : Int) + 1) = true := by rw [p1]; simp
            have e4 : (freeFrom y 0 4 != (n : Int)) = true := by simpa using p2
            have e5 : (freeFrom y 0 4 == (n : Int)) = false := by simpa using p2
            clear p1 p2
            go_wp2_with (first
              | (go_at_call 23; refine (HC.out _).mono ?_; rintro e W' ⟨rfl, hb⟩; replace hB := hB.trans (hb.mono hB.size); clear hb)
              | (go_at_call 31; refine (count_any _ _ (by omega) (by omega)).mono ?_; rintro e W' ⟨rfl, hb⟩; replace hB := hB.trans (hb.mono hB.size); clear hb)
              | (go_at_call 29; refine (free_any _ _ (by omega) (by omega)).mono ?_; rintro e W' ⟨rfl, hb⟩; replace hB := hB.trans (hb.mono hB.size); clear hb)
              | (go_at_call 25; refine (lives02 _).mono ?_; rintro e W' ⟨rfl, hb⟩; replace hB := hB.trans (hb.mono hB.size); clear hb))
            go_ret
            exact ⟨rfl, hB⟩
end Go.Proofs.Ytalehdaeekkfiaa
