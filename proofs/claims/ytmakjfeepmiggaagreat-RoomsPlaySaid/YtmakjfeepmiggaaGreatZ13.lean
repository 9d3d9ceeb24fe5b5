import Derived.Test.YtmakjfeepmiggaaGreatB2
import Derived.Test.YtmakjfeepmiggaaGreatZ7
import Derived.Test.YtmakjfeepmiggaaGreatZ1
import Derived.Test.YtmakjfeepmiggaaGreatB1
import Derived.Test.YtmakjfeepmiggaaGreatZ4
import Derived.Deep.QuietTactic
import Derived.BigQuiet
namespace Go.Proofs.YtmakjfeepmiggaaGreat
open Go.RowKit Go.Maps
set_option linter.unusedVariables false
theorem MarkAt.lt {w : World} {mb : Nat} {xs : List Int} (h : MarkAt w mb xs) : mb < w.heap.size := by obtain ⟨v, h1, _⟩ := h; exact (Array.getElem?_eq_some_iff.1 h1).1
theorem Sl.fr {K : TypeId → Bool} {mp : Bool} {w w' : World} {v : Value} {xs : List Int} (h : Sl w v xs) (hf : Fr K mp w w') (h2 : K 39 = false) : Sl w' v xs := by
  rcases h with h | ⟨g, off, cur, rfl, h3, h4⟩
  · exact .inl h
  · exact .inr ⟨g, off, cur, rfl, hf.cells _ _ _ _ h3 h2, h4⟩
theorem MarkAt.fr {K : TypeId → Bool} {mp : Bool} {w w' : World} {mb : Nat} {xs : List Int} (h : MarkAt w mb xs) (hf : Fr K mp w w') (h1 : K 358 = false) (h2 : K 39 = false) : MarkAt w' mb xs := by
  obtain ⟨v, h3, h4⟩ := h
  exact ⟨v, hf.cells _ _ _ _ h3 h1, h4.fr hf h2⟩
theorem ws_set {w0 w : World} {B : WB} {V : WV} {s : CS} {b o : Nat} {cs : Array Value} {T : TypeId} (h : WS w0 w B V s) (hb : w.heap[b]? = some (.cells cs T (0, 0))) (hT : wTy T = false) (hlo : w0.heap.size ≤ b) (v : Value) : WS w0 (w.setCell ⟨b, o, none⟩ v) B V s :=
  h.fr (set_ty hb o v) (fun X hX => by cases hXT : (X == T); rfl; rw [beq_iff_eq] at hXT; subst hXT; rw [hX] at hT; cases hT) (set_below h.below h.below.size hlo o v)
set_option maxHeartbeats 1000000 in
theorem wmstep {w0 w : World} {B : WB} {V : WV} {s : CS} {mb : Nat} {a : Int} {r : List Int} (h : WS w0 w B V s) (hr : s.room) (hM : MarkAt w mb (a :: r)) (hlo : w0.heap.size ≤ mb) (ha : (Lit.int .u64 a).wf = true) :
    Calls Tryz.prog 281 #[.pointer (some ⟨mb, 0, none⟩), .pointer (some ⟨B.wb, 0, none⟩)] w fun e w' => e = .returned (.bool (decide (r = []))) ∧ WS w0 w' B V (s.acc 4 a (wu (s.val a + 1))) ∧ MarkAt w' mb r ∧ Fx wTy true mb w w' := by
  have ho := over_any hM
  rw [show decide (a :: r = []) = false from rfl] at ho
  obtain ⟨v, hm, hs⟩ := hM
  obtain ⟨g, off, rfl, q0, hml, hg, ht⟩ := hs.at0
  have HT := Lib.hid (Sl.tail hg ht)
  clear hg ht
  have m0 : w.cell? ⟨mb, 0, none⟩ = some (.slice (some ⟨g, off, none⟩) (r.length + 1) (r.length + 1)) := by simp [World.cell?, hm]
  have c0 := h.c0
  have x0 := fun st : ExtW w => st.cell c0
  have x1 := fun st : ExtW w => st.cell m0
  have x2 := fun st : ExtW w => st.cell q0
  unfold maxLen at hml
  have H := Lib.hid h; have HR := Lib.hid hr; have HM := Lib.hid hm; have HS := Lib.hid hs; have HA := Lib.hid ha
  clear h hr hm hs ha
  go_enter Tryz.func281, Tryz.ntmps281
  go_wp2_with (go_at_call 280; refine ho.mono ?_; rintro e w1 ⟨rfl, hw⟩; obtain rfl := hw.symm; clear ho)
  refine wp_region_ext_tail 10 (by kernel_rfl) (by kernel_rfl) ?_
  simp only [List.take_succ_cons, List.take_zero, List.drop_succ_cons, List.drop_zero]
  repeat (go_big_quiet_step (fail))
  refine wpQuiet_nil ?_
  rintro W ⟨⟨W2, hW⟩, rfl⟩
  clear x0 x1 x2 c0 m0 q0
  have HW := Lib.hid hW
  have h1 := H.out.keep hW
  have HM1 := Lib.hid ((hW.block mb (Array.getElem?_eq_some_iff.1 HM.out).1).trans HM.out); have HS1 := Lib.hid (HS.out.keep hW)
  clear hW
  go_wp2_with (go_at_call 282; refine (h1.add HR.out a HA.out 1).mono ?_; rintro e w2 ⟨rfl, h2, r2⟩; have HM2 := Lib.hid (r2.cells _ _ _ _ HM1.out rfl); have HS2 := Lib.hid (HS1.out.fr r2 rfl); have H2 := Lib.hid h2; have R2 := Lib.hid r2; clear h1 h2 r2)
  have m0 : w2.cell? ⟨mb, 0, none⟩ = some (.slice (some ⟨g, off, none⟩) (r.length + 1) (r.length + 1)) := by have := HM2.out; simp [World.cell?, this]
  have m1 : w2.frozen? ⟨mb, 0, none⟩ = false := by have := HM2.out; simp [World.frozen?, this]
  have x1 := fun st : ExtW w2 => st.cell m0
  refine wp_region_ext_tail 18 (by kernel_rfl) (by kernel_rfl) ?_
  simp only [List.take_succ_cons, List.take_zero, List.drop_succ_cons, List.drop_zero]
  repeat (go_big_quiet_step (fail))
  refine wpQuiet_nil ?_
  rintro W3 ⟨⟨W4, hW4⟩, rfl⟩
  clear x1
  obtain ⟨ad, had⟩ : ∃ ad, ad = (if r = [] then some (⟨g, off, none⟩ : Addr) else some ⟨g, off + 1, none⟩) := ⟨_, rfl⟩
  have T3 := (((HT.out.keep HW.out).fr R2.out rfl).keep hW4)
  rw [← had] at T3
  simp only [← had]
  have HT3 := Lib.hid T3
  have H3 := Lib.hid (H2.out.keep hW4)
  have HM3 := Lib.hid ((hW4.block mb (Array.getElem?_eq_some_iff.1 HM2.out).1).trans HM2.out)
  have HW4 := Lib.hid hW4
  clear T3 had hW4 m1 m0 HT HS HS1 HS2
  have m0 : W3.cell? ⟨mb, 0, none⟩ = some (.slice (some ⟨g, off, none⟩) (r.length + 1) (r.length + 1)) := by have := HM3.out; simp [World.cell?, this]
  have m1 : W3.frozen? ⟨mb, 0, none⟩ = false := by have := HM3.out; simp [World.frozen?, this]
  have hM5 : MarkAt (W3.setCell ⟨mb, 0, none⟩ (.slice ad r.length r.length)) mb r := by
    have hsame := setCell_same (o := 0) HM3.out (.slice ad r.length r.length)
    refine ⟨_, hsame, ?_⟩
    rcases HT3.out with h | ⟨g2, o2, cur, he, h1, h2⟩
    · exact .inl h
    · refine .inr ⟨g2, o2, cur, he, (Below.heap_setCell _ _ _ _ fun c => ?_).trans h1, h2⟩
      simp only at c; subst c
      have := h1.symm.trans HM3.out; simp only [Option.some.injEq, Obj.cells.injEq] at this; exact absurd this.2.1 (by decide)
  have hov := over_any hM5
  obtain ⟨d, hd⟩ : ∃ d, d = decide (r = []) := ⟨_, rfl⟩
  rw [← hd] at hov
  have HD := Lib.hid hd
  clear hd
  have HM5 := Lib.hid hM5
  clear hM5
  go_wp2_with (go_at_call 280; refine hov.mono ?_; rintro e w6 ⟨rfl, hw⟩; subst hw)
  go_ret
  exact ⟨conf_b' HD.out, ws_set H3.out HM3.out rfl hlo _, HM5.out, (((below_fr HW.out _ _).trans (R2.out.trans (below_fr HW4.out _ _))).fx mb).trans (set_fx _ _ _ _ _ _)⟩
theorem plc_blk2 {w : World} {n : Nat} {a0 a1 b0 b1 : Int} (h : w.heap[n]? = some (.cells #[.int .i64 a0, .int .i64 a1, .int .i64 b0, .int .i64 b1] 69 (0, 0))) : Plc w (some ⟨n, 0, none⟩) 2 [(a0, a1), (b0, b1)] := by
  refine ⟨Nat.le_refl _, by unfold maxLen; decide, fun h => (by cases h), .inr ⟨_, 0, rfl, fun i hi => ?_⟩⟩
  rcases i with _ | _ | i
  · exact ⟨hcell h 0, hcell h 1⟩
  · exact ⟨hcell h 2, hcell h 3⟩
  · simp at hi; omega
end Go.Proofs.YtmakjfeepmiggaaGreat
namespace Go.Proofs.YtmakjfeepmiggaaGreat
open Go.RowKit TagPure
set_option linter.unusedVariables false
theorem there_in (s : Int) (w : World) (h0 : 0 ≤ s) (h1 : s < 4) : Calls Tryz.prog 138 #[.int .i64 s] w fun e w' => e = .returned (.bool true) ∧ w = w' := by
  go_enter Tryz.func138, Tryz.ntmps138
  go_wp2
  go_ret
  exact ⟨rfl, rfl⟩
theorem there_out (s : Int) (w : World) (h : s < 0 ∨ 4 ≤ s) : Calls Tryz.prog 138 #[.int .i64 s] w fun e w' => e = .returned (.bool false) ∧ w = w' := by
  by_cases h0 : s < 0
  · go_enter Tryz.func138, Tryz.ntmps138
    go_wp2
    go_ret
    exact ⟨rfl, rfl⟩
  · have h1 : 0 ≤ s := by omega
    have hd : decide (s < 4) = false := by simp; omega
    go_enter Tryz.func138, Tryz.ntmps138
    go_wp2
    go_ret
    exact ⟨rfl, rfl⟩
def tags4 (x : Int) : List Value := [.int .i64 (tg x 0), .int .i64 (tg x 1), .int .i64 (tg x 2), .int .i64 (tg x 3)]
theorem part_eq (x : Int) (h0 : 0 ≤ x) (h1 : x < 18446744073709551616) (i : Nat) (d : Int) (hd : d = 256 ^ i) (hp : 1 ≤ d) : wrap64 (bits BinOp.and IntKind.u64 (x / d) 255) = tg x i := by
  subst hd
  have a : 0 ≤ x / 256 ^ i := Int.ediv_nonneg h0 (by omega)
  have b : x / 256 ^ i ≤ x := Int.ediv_le_self _ h0
  rw [and255 _ a (by omega), IntWalk.wrap64_in _ (by omega)]
  rfl
set_option maxHeartbeats 400000 in
theorem parts_any (x : Int) (w : World) (h0 : 0 ≤ x) (h1 : x < 18446744073709551616) :
    Calls Tryz.prog 136 #[.int .u64 x] w fun e w' => e = .returned (.agg (tags4 x).toArray) ∧ Below w.heap.size w w' := by
  go_enter Tryz.func136, Tryz.ntmps136
  go_wp2
  refine wp_loop_rounds 5 ?_
  rw [rounds_succ]; go_wp2
  rw [rounds_succ]; go_wp2
  rw [rounds_succ]; go_wp2
  rw [rounds_succ]; go_wp2
  rw [rounds_succ]; go_wp2
  have e0 : wrap64 (bits BinOp.and IntKind.u64 x 255) = tg x 0 := by have := part_eq x h0 h1 0 1 rfl (by omega); simpa using this
  have e1 := part_eq x h0 h1 1 256 rfl (by omega)
  have e2 := part_eq x h0 h1 2 65536 rfl (by omega)
  have e3 := part_eq x h0 h1 3 16777216 rfl (by omega)
  rw [e0, e1, e2, e3]
  refine bodyPost_ret (v := .agg (tags4 x).toArray) (by simp [results, Tryz.results136, go_sem, tags4]) rfl ⟨rfl, ?_⟩
  exact (Below.refl _ _).alloc (Nat.le_refl _) _
theorem tags_get (x : Int) (n : Nat) (hn : n < 4) (w : World) : (Instr.index 234 (.agg (tags4 x).toArray) (.int .i64 n)).run Tryz.prog w = .ok (.int .i64 (tg x n)) w := by
  rw [run_index_ints (P := Tryz.prog) Tryz.underlying234 Tryz.underlying3 (by kernel_rfl) (tags4 x) rfl .i64 n hn w]
  match n, hn with
  | 0, _ => rfl
  | 1, _ => rfl
  | 2, _ => rfl
  | 3, _ => rfl
theorem tag_in (x s : Int) (w : World) (h0 : 0 ≤ x) (h1 : x < 18446744073709551616) (hs : 0 ≤ s) (hs4 : s < 4) :
    Calls Tryz.prog 66 #[.int .u64 x, .int .i64 s] w fun e w' => e = .returned (.int .i64 (tg x s.toNat)) ∧ Below w.heap.size w w' := by
  obtain ⟨n, rfl⟩ := Int.eq_ofNat_of_zero_le hs
  have hn : n < 4 := by omega
  have hi := tags_get x n hn
  go_enter Tryz.func66, Tryz.ntmps66
  go_wp2_with (first | (go_at_call 138; refine (there_in _ _ (by omega) (by omega)).mono ?_; rintro e w' ⟨rfl, rfl⟩) | (go_at_call 136; refine (parts_any _ _ h0 h1).mono ?_; rintro e w' ⟨rfl, hb⟩))
  go_ret
  exact ⟨rfl, hb⟩
theorem tag_out (x s : Int) (w : World) (h : s < 0 ∨ 4 ≤ s) :
    Calls Tryz.prog 66 #[.int .u64 x, .int .i64 s] w fun e w' => e = .returned (.int .i64 0) ∧ w = w' := by
  go_enter Tryz.func66, Tryz.ntmps66
  go_wp2_with (first | (go_at_call 138; refine (there_out _ _ h).mono ?_; rintro e w' ⟨rfl, rfl⟩))
  go_ret
  exact ⟨rfl, rfl⟩
theorem tag_any (x s : Int) (w : World) (h0 : 0 ≤ x) (h1 : x < 18446744073709551616) :
    Calls Tryz.prog 66 #[.int .u64 x, .int .i64 s] w fun e w' => e = .returned (.int .i64 (tagOf x s)) ∧ Below w.heap.size w w' := by
  by_cases h : 0 ≤ s ∧ s < 4
  · unfold tagOf; rw [if_pos h]; exact tag_in x s w h0 h1 h.1 h.2
  · unfold tagOf; rw [if_neg h]; exact (tag_out x s w (by omega)).mono fun e w' ⟨a, b⟩ => ⟨a, b ▸ Below.refl _ _⟩
theorem with_out (x s t : Int) (w : World) (h : (s < 0 ∨ 4 ≤ s) ∨ t < 0 ∨ 255 < t) :
    Calls Tryz.prog 279 #[.int .u64 x, .int .i64 s, .int .i64 t] w fun e w' => e = .returned (.int .u64 x) ∧ w = w' := by
  by_cases hs : s < 0 ∨ 4 ≤ s
  · go_enter Tryz.func279, Tryz.ntmps279
    go_wp2_with (first | (go_at_call 138; refine (there_out _ _ hs).mono ?_; rintro e w' ⟨rfl, rfl⟩))
    go_ret
    exact ⟨rfl, rfl⟩
  · by_cases ht : t < 0
    · go_enter Tryz.func279, Tryz.ntmps279
      go_wp2_with (first | (go_at_call 138; refine (there_in _ _ (by omega) (by omega)).mono ?_; rintro e w' ⟨rfl, rfl⟩))
      go_ret
      exact ⟨rfl, rfl⟩
    · have ht' : 0 ≤ t := by omega
      have ht2 : 255 < t := by omega
      go_enter Tryz.func279, Tryz.ntmps279
      go_wp2_with (first | (go_at_call 138; refine (there_in _ _ (by omega) (by omega)).mono ?_; rintro e w' ⟨rfl, rfl⟩))
      go_ret
      exact ⟨rfl, rfl⟩
set_option maxHeartbeats 800000 in
theorem with_in (x t : Int) (n : Nat) (w : World) (h0 : 0 ≤ x) (h1 : x < 18446744073709551616) (hn : n < 4) (t0 : 0 ≤ t) (t1 : t ≤ 255) :
    Calls Tryz.prog 279 #[.int .u64 x, .int .i64 n, .int .i64 t] w fun e w' => e = .returned (.int .u64 (put x n t)) ∧ Below w.heap.size w w' := by
  match n, hn with
  | 0, _ =>
    go_enter Tryz.func279, Tryz.ntmps279
    go_wp2_with (first | (go_at_call 138; refine (there_in _ _ (by omega) (by omega)).mono ?_; rintro e w' ⟨rfl, rfl⟩))
    go_quiet (fail)
    go_wp2
    go_ret
    exact ⟨ret_u64 (put0 x t h0 h1 t0 t1), below_drewN _ _⟩
  | 1, _ =>
    go_enter Tryz.func279, Tryz.ntmps279
    go_wp2_with (first | (go_at_call 138; refine (there_in _ _ (by omega) (by omega)).mono ?_; rintro e w' ⟨rfl, rfl⟩))
    go_quiet (fail)
    go_wp2
    go_ret
    exact ⟨ret_u64 (put1 x t h0 h1 t0 t1), below_drewN _ _⟩
  | 2, _ =>
    go_enter Tryz.func279, Tryz.ntmps279
    go_wp2_with (first | (go_at_call 138; refine (there_in _ _ (by omega) (by omega)).mono ?_; rintro e w' ⟨rfl, rfl⟩))
    go_quiet (fail)
    go_wp2
    go_ret
    exact ⟨ret_u64 (put2 x t h0 h1 t0 t1), below_drewN _ _⟩
  | 3, _ =>
    go_enter Tryz.func279, Tryz.ntmps279
    go_wp2_with (first | (go_at_call 138; refine (there_in _ _ (by omega) (by omega)).mono ?_; rintro e w' ⟨rfl, rfl⟩))
    go_quiet (fail)
    go_wp2
    go_ret
    exact ⟨ret_u64 (put3 x t h0 h1 t0 t1), below_drewN _ _⟩
theorem with_any (x s t : Int) (w : World) (h0 : 0 ≤ x) (h1 : x < 18446744073709551616) :
    Calls Tryz.prog 279 #[.int .u64 x, .int .i64 s, .int .i64 t] w fun e w' => e = .returned (.int .u64 (withOf x s t)) ∧ Below w.heap.size w w' := by
  by_cases h : (0 ≤ s ∧ s < 4) ∧ 0 ≤ t ∧ t ≤ 255
  · unfold withOf; rw [if_pos h]
    have := with_in x t s.toNat w h0 h1 (by omega) h.2.1 h.2.2
    rwa [Int.toNat_of_nonneg h.1.1] at this
  · unfold withOf; rw [if_neg h]; exact (with_out x s t w (by omega)).mono fun e w' ⟨a, b⟩ => ⟨a, b ▸ Below.refl _ _⟩
def cnt (x : Int) : Nat → Nat
  | 0 => 0
  | k + 1 => cnt x k + if tg x k = 0 then 0 else 1
def freeFrom (x : Int) : Nat → Nat → Int
  | _, 0 => -1
  | k, n + 1 => if tg x k = 0 then k else freeFrom x (k + 1) n
theorem free_any (x : Int) (w : World) (h0 : 0 ≤ x) (h1 : x < 18446744073709551616) :
    Calls Tryz.prog 63 #[.int .u64 x] w fun e w' => e = .returned (.int .i64 (freeFrom x 0 4)) ∧ Below w.heap.size w w' := by
  go_enter Tryz.func63, Tryz.ntmps63
  go_wp2_with (go_at_call 136; refine (parts_any _ _ h0 h1).mono ?_; rintro e w' ⟨rfl, hb⟩)
  go_loop [7] (fun i => ∃ k : Nat, k ≤ 4 ∧ i = .int .i64 k ∧ freeFrom x 0 4 = freeFrom x k (4 - k)) (fun i => 4 - (intOf i).toNat)
  case atStart => exact ⟨0, by omega, rfl, rfl⟩
  case round =>
    obtain ⟨k, hk, rfl, hf⟩ := hrel
    have HF := Lib.hid hf
    clear hf
    by_cases hlt : k < 4
    · have hi := tags_get x k hlt
      obtain ⟨m, hm⟩ : ∃ m, 4 - k = m + 1 := ⟨4 - k - 1, by omega⟩
      by_cases hz : tg x k = 0
      · have hz' : (tg x k == 0) = true := by simp [hz]
        have HC : Hid (freeFrom x 0 4 = k) := by show _ = _; rw [HF.out, hm]; simp [freeFrom, hz]
        clear hz hm
        go_wp2
        go_ret
        exact ⟨ret_i64 HC.out.symm, hb⟩
      · have hz' : (tg x k == 0) = false := by simp [hz]
        have HC : Hid (freeFrom x 0 4 = freeFrom x (k + 1) (4 - (k + 1))) := by show _ = _; rw [HF.out, hm, show 4 - (k + 1) = m from by omega]; simp [freeFrom, hz]
        clear hz hm
        go_wp2
        go_round
        case rel => exact ⟨k + 1, by omega, by go_num, HC.out⟩
        case measure => simp [intOf]; omega
    · obtain rfl : k = 4 := by omega
      go_wp2
      go_ret
      exact ⟨ret_i64 (by rw [HF.out]; rfl), hb⟩
def has (x t : Int) : Nat → List Nat
  | 0 => []
  | k + 1 => has x t k ++ if tg x k = t then [k] else []
def cells (l : List Nat) : List Value := l.map fun (n : Nat) => Value.int .i64 n
end Go.Proofs.YtmakjfeepmiggaaGreat
namespace Go.Proofs.YtmakjfeepmiggaaGreat
open Go.RowKit
set_option linter.unusedVariables false
structure SL where
  tg : Int
  it : Int
  at_ : Int
  x : Int
  ln : Int
abbrev SL.cs (s : SL) (rest : List Value) : Array Value := (Value.int .u64 s.tg :: .int .u64 s.it :: .int .i64 s.at_ :: .int .u64 s.x :: .int .i64 s.ln :: rest).toArray
def SlotAt (w : World) (b : Nat) (T : TypeId) (s : SL) (rest : List Value) : Prop := w.heap[b]? = some (.cells (s.cs rest) T (0, 0))
section
variable {w w' : World} {b : Nat} {T : TypeId} {s : SL} {rest : List Value} (h : SlotAt w b T s rest)
include h
theorem SlotAt.lt : b < w.heap.size := (Array.getElem?_eq_some_iff.1 h).1
theorem SlotAt.below (hb : Below w.heap.size w w') : SlotAt w' b T s rest := (hb.block _ h.lt).trans h
theorem SlotAt.c0 : w.cell? ⟨b, 0, none⟩ = some (.int .u64 s.tg) := by rw [hcell h 0]; simp
theorem SlotAt.c1 : w.cell? ⟨b, 1, none⟩ = some (.int .u64 s.it) := by rw [hcell h 1]; simp
theorem SlotAt.c2 : w.cell? ⟨b, 2, none⟩ = some (.int .i64 s.at_) := by rw [hcell h 2]; simp
theorem SlotAt.c3 : w.cell? ⟨b, 3, none⟩ = some (.int .u64 s.x) := by rw [hcell h 3]; simp
theorem SlotAt.c4 : w.cell? ⟨b, 4, none⟩ = some (.int .i64 s.ln) := by rw [hcell h 4]; simp
theorem SlotAt.set3 (x : Int) : SlotAt (w.setCell ⟨b, 3, none⟩ (.int .u64 x)) b T { s with x := x } rest := by
  have := setCell_same h 3 (.int .u64 x)
  simpa [SlotAt, SL.cs] using this
theorem SlotAt.set4 (x : Int) : SlotAt (w.setCell ⟨b, 4, none⟩ (.int .i64 x)) b T { s with ln := x } rest := by
  have := setCell_same h 4 (.int .i64 x)
  simpa [SlotAt, SL.cs] using this
end
def sof (b u s : Int) : SL := if itemA b u s = 0 then ⟨0, 0, 0, 0, 0⟩ else ⟨tagsA b u, itemA b u s, s, 0, 0⟩
abbrev SL.agg (s : SL) : Value := .agg #[.int .u64 s.tg, .int .u64 s.it, .int .i64 s.at_, .int .u64 s.x, .int .i64 s.ln]
theorem sfive_below {w w1 : World} {q : Nat} {v0 v1 v2 v3 v4 : Value} (h : Below w.heap.size w w1) (hq : w.heap.size ≤ q) : Below w.heap.size w (((((w1.setCell ⟨q, 0, none⟩ v0).setCell ⟨q, 1, none⟩ v1).setCell ⟨q, 2, none⟩ v2).setCell ⟨q, 3, none⟩ v3).setCell ⟨q, 4, none⟩ v4) :=
  below_set (below_set (below_set (below_set (below_set h hq) hq) hq) hq) hq
theorem sfive_set {w1 : World} {q : Nat} {a b c d e : Value} {T : TypeId} (h : w1.heap[q]? = some (.cells #[a, b, c, d, e] T (0, 0))) (v0 v1 v2 v3 v4 : Value) :
    (((((w1.setCell ⟨q, 0, none⟩ v0).setCell ⟨q, 1, none⟩ v1).setCell ⟨q, 2, none⟩ v2).setCell ⟨q, 3, none⟩ v3).setCell ⟨q, 4, none⟩ v4).heap[q]? = some (.cells #[v0, v1, v2, v3, v4] T (0, 0)) :=
  setCell_same (setCell_same (setCell_same (setCell_same (setCell_same h 0 v0) 1 v1) 2 v2) 3 v3) 4 v4
set_option maxRecDepth 10000 in
set_option maxHeartbeats 1000000 in
theorem pof_any (b u s : Int) (hs : (Lit.int .i64 s).wf = true) (w : World) : Calls Tryz.prog 150 #[.agg #[.int .i64 b, .int .i64 u, .int .i64 s]] w fun e w' => e = .returned (sof b u s).agg ∧ Below w.heap.size w w' := by
  have hit := fun w => item_any b u s hs w
  have hitx := fun {w : World} (st : ExtW w) => item_any b u s hs st.val
  have htg := fun {w : World} (st : ExtW w) => tags_any b u st.val
  have hB1 : Below w.heap.size w ((w.alloc (.cells #[.int .i64 b, .int .i64 u, .int .i64 s] 71)).alloc (.cells #[.int .u64 0, .int .u64 0, .int .i64 0, .int .u64 0, .int .i64 0] 259)) :=
    bnext (below_alloc w _) (below_alloc _ _)
  have hz : ∀ o, ((w.alloc (.cells #[.int .i64 b, .int .i64 u, .int .i64 s] 71)).alloc (.cells #[.int .u64 0, .int .u64 0, .int .i64 0, .int .u64 0, .int .i64 0] 259)).cell? ⟨w.heap.size, o, none⟩ = (#[.int .i64 b, .int .i64 u, .int .i64 s] : Array Value)[o]? := fun o =>
    ((below_alloc _ _).cell (p := ⟨w.heap.size, o, none⟩) (by simp)).trans (box3 w b u s _ o)
  have hq : ((w.alloc (.cells #[.int .i64 b, .int .i64 u, .int .i64 s] 71)).alloc (.cells #[.int .u64 0, .int .u64 0, .int .i64 0, .int .u64 0, .int .i64 0] 259)).heap[w.heap.size + 1]? = some (.cells #[.int .u64 0, .int .u64 0, .int .i64 0, .int .u64 0, .int .i64 0] 259 (0, 0)) := by
    simpa using heap_alloc_new (w.alloc (.cells #[.int .i64 b, .int .i64 u, .int .i64 s] 71)) (.cells #[.int .u64 0, .int .u64 0, .int .i64 0, .int .u64 0, .int .i64 0] 259)
  have hsz : ((w.alloc (.cells #[.int .i64 b, .int .i64 u, .int .i64 s] 71)).alloc (.cells #[.int .u64 0, .int .u64 0, .int .i64 0, .int .u64 0, .int .i64 0] 259)).heap.size = w.heap.size + 2 := by simp
  have hZ := Lib.hid hz; have HQ := Lib.hid hq; have HB1 := Lib.hid hB1; have HSZ := Lib.hid hsz
  clear hz hq hB1 hsz
  unfold sof
  cases h0 : (itemA b u s == 0)
  · rw [if_neg (beq_eq_false_iff_ne.1 h0)]
    generalize itemA b u s = I at *
    generalize tagsA b u = G at *
    go_enter Tryz.func150, Tryz.ntmps150
    go_upto_region 3 with (go_at_call 192; refine (hit _).mono ?_; rintro e w1 ⟨rfl, b1⟩; have hq1 := (b1.block _ (by rw [HSZ.out]; omega)).trans HQ.out; have hz0 := (b1.cell (p := ⟨w.heap.size, 0, none⟩) (by rw [HSZ.out]; show w.heap.size < _; omega)).trans (hZ.out 0); have hz1 := (b1.cell (p := ⟨w.heap.size, 1, none⟩) (by rw [HSZ.out]; show w.heap.size < _; omega)).trans (hZ.out 1); have hz2 := (b1.cell (p := ⟨w.heap.size, 2, none⟩) (by rw [HSZ.out]; show w.heap.size < _; omega)).trans (hZ.out 2); have HB2 := Lib.hid (HB1.out.trans (b1.mono HB1.out.size)); clear b1)
    have x0 := fun st : ExtW w1 => st.cell hz0
    have x1 := fun st : ExtW w1 => st.cell hz1
    have x2 := fun st : ExtW w1 => st.cell hz2
    have HQ1 := Lib.hid hq1
    clear hz0 hz1 hz2 hq1 hit
    refine wp_region_ext_tail 8 (by kernel_rfl) (by kernel_rfl) ?_
    simp only [List.take_succ_cons, List.take_zero, List.drop_succ_cons, List.drop_zero]
    repeat (go_big_quiet_step (first | (go_at_call 192; with_reducible refine calls_ext (hitx _)) | (go_at_call 42; with_reducible refine calls_ext (htg _))))
    refine wpQuiet_nil ?_
    rintro W ⟨⟨W2, hW⟩, rfl⟩
    have hq1 := (hW.block _ (Array.getElem?_eq_some_iff.1 HQ1.out).1).trans HQ1.out
    have y0 := hcell hq1 0; have y1 := hcell hq1 1; have y2 := hcell hq1 2; have y3 := hcell hq1 3; have y4 := hcell hq1 4
    have yf := hfrz hq1
    have HW := Lib.hid (HB2.out.trans (hW.mono HB2.out.size))
    have hq5 := sfive_set hq1 (.int .u64 G) (.int .u64 I) (.int .i64 s) (.int .u64 0) (.int .i64 0)
    have hB5 := sfive_below (v0 := .int .u64 G) (v1 := .int .u64 I) (v2 := .int .i64 s) (v3 := .int .u64 0) (v4 := .int .i64 0) HW.out (show w.heap.size ≤ w.heap.size + 1 by omega)
    clear x0 x1 x2 hW hq1
    go_wp2
    generalize World.setCell _ _ _ = W5 at *
    have k0 := hcell hq5 0; have k1 := hcell hq5 1; have k2 := hcell hq5 2; have k3 := hcell hq5 3; have k4 := hcell hq5 4
    simp only [List.getElem?_toArray, List.getElem?_cons_zero, List.getElem?_cons_succ] at k0 k1 k2 k3 k4
    refine bodyPost_ret (v := .agg #[_, _, _, _, _]) (by simp [results, Tryz.results150, go_sem, k0, k1, k2, k3, k4]) rfl ⟨rfl, hB5⟩
  · rw [if_pos (beq_iff_eq.1 h0)]
    rw [beq_iff_eq.1 h0] at hit
    clear hitx htg h0
    go_enter Tryz.func150, Tryz.ntmps150
    go_wp2_with (go_at_call 192; refine (hit _).mono ?_; rintro e w1 ⟨rfl, b1⟩; have hq1 := (b1.block _ (by rw [HSZ.out]; omega)).trans HQ.out; have y0 := hcell hq1 0; have y1 := hcell hq1 1; have y2 := hcell hq1 2; have y3 := hcell hq1 3; have y4 := hcell hq1 4; have yf := hfrz hq1; have hq5 := sfive_set hq1 (.int .u64 0) (.int .u64 0) (.int .i64 0) (.int .u64 0) (.int .i64 0); have hB5 := sfive_below (v0 := .int .u64 0) (v1 := .int .u64 0) (v2 := .int .i64 0) (v3 := .int .u64 0) (v4 := .int .i64 0) (HB1.out.trans (b1.mono HB1.out.size)) (show w.heap.size ≤ w.heap.size + 1 by omega); clear hq1 b1)
    generalize World.setCell _ _ _ = W5 at *
    have k0 := hcell hq5 0; have k1 := hcell hq5 1; have k2 := hcell hq5 2; have k3 := hcell hq5 3; have k4 := hcell hq5 4
    simp only [List.getElem?_toArray, List.getElem?_cons_zero, List.getElem?_cons_succ] at k0 k1 k2 k3 k4
    refine bodyPost_ret (v := .agg #[_, _, _, _, _]) (by simp [results, Tryz.results150, go_sem, k0, k1, k2, k3, k4]) rfl ⟨rfl, hB5⟩
theorem newput_in (b u s g r : Int) (hs : (Lit.int .i64 s).wf = true) (hg : 1 ≤ g ∧ g ≤ 255) (hr : 1 ≤ r) (w : World) : Calls Tryz.prog 82 #[.agg #[.int .i64 b, .int .i64 u, .int .i64 s], .int .i64 g, .int .i64 r] w
    fun e w' => ∃ q, e = .returned (.pointer (some ⟨q, 0, none⟩)) ∧ SlotAt w' q 261 (sof b u s) [.int .i64 g, .int .i64 r] ∧ w.heap.size ≤ q ∧ Below w.heap.size w w' := by
  have ho := fun w => pof_any b u s hs w
  have h1 : decide (g < 1) = false := by simp; omega
  have h2 : decide (255 < g) = false := by simp; omega
  have h3 : decide (r < 1) = false := by simp; omega
  clear hg hr
  go_enter Tryz.func82, Tryz.ntmps82
  go_wp2_with (go_at_call 150; refine (ho _).mono ?_; rintro e w1 ⟨rfl, b1⟩)
  go_ret
  have hB1 := bnext (below_alloc w _) b1
  exact ⟨_, rfl, heap_alloc_new w1 _, hB1.size, bnext hB1 (below_alloc w1 _)⟩
theorem newout_any (b u s : Int) (hs : (Lit.int .i64 s).wf = true) (w : World) : Calls Tryz.prog 252 #[.agg #[.int .i64 b, .int .i64 u, .int .i64 s]] w
    fun e w' => ∃ q, e = .returned (.pointer (some ⟨q, 0, none⟩)) ∧ SlotAt w' q 360 (sof b u s) [] ∧ w.heap.size ≤ q ∧ Below w.heap.size w w' := by
  have ho := fun w => pof_any b u s hs w
  go_enter Tryz.func252, Tryz.ntmps252
  go_wp2_with (go_at_call 150; refine (ho _).mono ?_; rintro e w1 ⟨rfl, b1⟩)
  go_ret
  have hB1 := bnext (below_alloc w _) b1
  exact ⟨_, rfl, heap_alloc_new w1 _, hB1.size, bnext hB1 (below_alloc w1 _)⟩
section
variable {w0 w : World} {B : WB} {V : WV} {s : CS} {b : Nat} {T : TypeId} {σ : SL} {rest : List Value} (h : WS w0 w B V s) (hr : s.room) (hS : SlotAt w b T σ rest) (hT : wTy T = false) (hlo : w0.heap.size ≤ b) (hg : (Lit.int .u64 σ.tg).wf = true)
include h hr hS hT hlo hg
set_option maxRecDepth 10000 in
set_option maxHeartbeats 1000000 in
theorem slot_load : Calls Tryz.prog 277 #[.pointer (some ⟨b, 0, none⟩), .pointer (some ⟨B.wb, 0, none⟩)] w fun e w' => e = .returned (.tuple #[]) ∧ WS w0 w' B V (s.acc 1 σ.tg (s.val σ.tg)) ∧ SlotAt w' b T { σ with x := s.val σ.tg } rest ∧ Fx wTy true b w w' := by
  have hld : ∀ W, Below w.heap.size w W → Calls Tryz.prog 62 #[.pointer (some ⟨B.cb, 0, none⟩), .int .u64 σ.tg] W fun e w' => e = .returned (.int .u64 (s.val σ.tg)) ∧ WS w0 w' B V (s.acc 1 σ.tg (s.val σ.tg)) ∧ Fr wTy true W w' := fun W hW => (h.keep hW).load hr _ hg
  have hd0 := h.keep (Below.refl w.heap.size w).drew
  have y0 : w.drew.cell? ⟨B.wb, 0, none⟩ = some (.pointer (some ⟨B.cb, 0, none⟩)) := hd0.c0
  have y1 : w.drew.cell? ⟨b, 0, none⟩ = some (.int .u64 σ.tg) := SlotAt.c0 (w := w.drew) hS
  have hlw := hld w.drew (Below.refl w.heap.size w).drew
  have HS := Lib.hid hS
  clear hd0 h hr hS hg hld
  go_enter Tryz.func277, Tryz.ntmps277
  go_wp2_with fail
  go_region_with (go_at_call 62; refine hlw.mono ?_; rintro e w2 ⟨rfl, h2, f2⟩; have hs2 : SlotAt w2 b T σ rest := f2.cells _ _ _ _ HS.out hT; have z3 := hs2.c3; have zf := hfrz hs2 3; have H2 := Lib.hid h2; have F2 := Lib.hid f2; have HS2 := Lib.hid hs2; clear h2 f2 hs2 y0 y1 hlw)
  all_goals go_wp2
  all_goals go_end0
  all_goals exact ⟨rfl, set_take (o := 3) H2.out HS2.out hT hlo _, HS2.out.set3 _, (show Fx wTy true b w w2 from ⟨F2.out.size, fun k cs T fr h1 h2 _ => F2.out.cells k cs T fr h1 h2, fun h => by cases h⟩).trans (set_fx _ _ _ _ _ _)⟩
omit hT hlo in
set_option maxRecDepth 10000 in
set_option maxHeartbeats 1000000 in
theorem slot_store (g : Int) (hx : 0 ≤ σ.x ∧ σ.x < 18446744073709551616) : Calls Tryz.prog 278 #[.pointer (some ⟨b, 0, none⟩), .pointer (some ⟨B.wb, 0, none⟩), .int .i64 g] w fun e w' => e = .returned (.tuple #[]) ∧ WS w0 w' B V (s.acc 2 σ.tg (TagPure.withOf σ.x σ.at_ g)) ∧ Fr wTy true w w' := by
  have hst : ∀ W, Below w.heap.size w W → Calls Tryz.prog 41 #[.pointer (some ⟨B.cb, 0, none⟩), .int .u64 σ.tg, .int .u64 (TagPure.withOf σ.x σ.at_ g)] W fun e w' => e = .returned (.int .u64 (s.val σ.tg)) ∧ WS w0 w' B V (s.acc 2 σ.tg (TagPure.withOf σ.x σ.at_ g)) ∧ Fr wTy true W w' := fun W hW => (h.keep hW).store hr _ hg _ (withOf_wf _ _ _ hx.1 hx.2)
  have hwx := fun {w : World} (st : ExtW w) => with_any σ.x σ.at_ g st.val hx.1 hx.2
  have x0 := fun st : ExtW w => st.cell h.c0
  have x1 := fun st : ExtW w => st.cell hS.c0
  have x2 := fun st : ExtW w => st.cell hS.c2
  have x3 := fun st : ExtW w => st.cell hS.c3
  have HST := Lib.hid hst
  clear h hr hS hg hst hx
  go_enter Tryz.func278, Tryz.ntmps278
  go_wp2_with fail
  refine wp_region_ext_tail 18 (by kernel_rfl) (by kernel_rfl) ?_
  simp only [List.take_succ_cons, List.take_zero, List.drop_succ_cons, List.drop_zero]
  repeat (go_big_quiet_step ((go_at_call 279; with_reducible refine calls_ext (hwx _))))
  refine wpQuiet_nil ?_
  rintro W ⟨⟨W2, hW⟩, rfl⟩
  have hsw := HST.out _ hW
  have HW := Lib.hid hW
  clear x0 x1 x2 x3 hwx hW
  go_wp2_with (go_at_call 41; refine hsw.mono ?_; rintro e w2 ⟨rfl, h2, f2⟩)
  go_end0
  exact ⟨rfl, h2, (below_fr HW.out wTy true).trans f2⟩
end
end Go.Proofs.YtmakjfeepmiggaaGreat