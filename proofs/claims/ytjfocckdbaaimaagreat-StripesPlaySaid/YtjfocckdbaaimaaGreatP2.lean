/-
  Texts of this prover, merged: StripesOf, StripesNil, Tickets, MarkBoth, MarkMps, MarkBegin, SActs, MarkPlay.
-/
import Derived.Test.YtjfocckdbaaimaaGreatStripesLives
import Derived.Test.YtjfocckdbaaimaaGreatStripesRef
import Derived.Test.YtjfocckdbaaimaaGreatWorldsFull
import Derived.Test.YtjfocckdbaaimaaGreatP1
import Derived.Test.YtjfocckdbaaimaaGreatBegin0
import Derived.Test.YtjfocckdbaaimaaGreatOpen
import Derived.Test.YtjfocckdbaaimaaGreatStripes
import Derived.Laws.AppendOwnNone
import Derived.Laws.EntriesVeiled
import Derived.Deep.DeepCutAuto
import Derived.Deep.CutBlock
/-
  StripesOf.
-/
namespace Go.Proofs.YtjfocckdbaaimaaGreat
open Go.RowKit Go.Maps
set_option linter.unusedVariables false

/-- The cells of places. -/
def flat (l : List (Int × Int)) : List Value := l.flatMap fun p => [.int .i64 p.1, .int .i64 p.2]
theorem flat_len (l : List (Int × Int)) : (flat l).length = l.length * 2 := by
  unfold flat
  induction l with
  | nil => rfl
  | cons p l ih => simp only [List.flatMap_cons, List.length_append, ih, List.length_cons, List.length_nil]; omega
theorem flat_at (l : List (Int × Int)) (i : Nat) (hi : i < l.length) : (flat l)[i * 2]? = some (.int .i64 (l[i]).1) ∧ (flat l)[i * 2 + 1]? = some (.int .i64 (l[i]).2) := by
  induction l generalizing i with
  | nil => simp at hi
  | cons p l ih =>
    have e : flat (p :: l) = .int .i64 p.1 :: .int .i64 p.2 :: flat l := rfl
    rw [e]
    cases i with
    | zero => exact ⟨rfl, rfl⟩
    | succ i =>
      have := ih i (by simpa using hi)
      rw [show (i + 1) * 2 = i * 2 + 1 + 1 by omega]
      simpa using this
theorem flat_one (l : List (Int × Int)) : ∀ u ∈ flat l, u.oneCell' = true := by
  intro u hu
  unfold flat at hu
  obtain ⟨p, hp, hu⟩ := List.mem_flatMap.1 hu
  simp only [List.mem_cons, List.not_mem_nil, or_false] at hu
  rcases hu with rfl | rfl <;> rfl
theorem add_plain (b off j : Nat) : (Addr.add ⟨b, off, none⟩ j) = ⟨b, off + j, none⟩ := by
  unfold Addr.add; split <;> simp_all
theorem Plc.news {w : World} {ad : Addr} {cap : Nat} {l : List (Int × Int)} (h : Plc w (some ad) cap l) : ∀ j u, (flat l)[j]? = some u → w.cell? (ad.add j) = some u := by
  intro j u hj
  have hlt : j < l.length * 2 := by rw [← flat_len]; exact (List.getElem?_eq_some_iff.1 hj).1
  rcases h.cell with rfl | ⟨b, off, hb, h5⟩
  · simp at hlt
  · simp only [Option.some.injEq] at hb
    subst hb
    obtain ⟨i, r, rfl, hr⟩ : ∃ i r, j = i * 2 + r ∧ r < 2 := ⟨j / 2, j % 2, by omega, by omega⟩
    have hi : i < l.length := by omega
    obtain ⟨f0, f1⟩ := flat_at l i hi
    obtain ⟨g0, g1⟩ := h5 i hi
    have : r = 0 ∨ r = 1 := by omega
    rcases this with rfl | rfl
    · rw [Nat.add_zero, f0] at hj; rw [← hj, add_plain]; exact g0
    · rw [f1] at hj; rw [← hj, add_plain, ← Nat.add_assoc]; exact g1
theorem Plc.of_own {w : World} {base : Nat} {v : Value} {l : List (Int × Int)} (h : w.ownsRow base 41 2 v l.length (flat l)) : ∃ ao cap, v = .slice ao l.length cap ∧ Plc w ao cap l := by
  obtain ⟨h1, ⟨rfl, h0⟩ | ⟨g, cap, cur, rfl, hb, hg, hn, hm, hs, ht⟩⟩ := h
  · have : l = [] := List.length_eq_zero_iff.1 h0
    subst this
    exact ⟨none, 0, rfl, Nat.le_refl _, Nat.zero_le _, fun _ => rfl, .inl rfl⟩
  · refine ⟨_, cap, rfl, hn, hm, fun h => by simp at h, .inr ⟨g, 0, rfl, fun i hi => ?_⟩⟩
    obtain ⟨f0, f1⟩ := flat_at l i hi
    rw [← ht, List.getElem?_take, if_pos (by omega)] at f0 f1
    simp only [Array.getElem?_toList] at f0 f1
    simp [World.cell?, hg, f0, f1]

theorem odd_any (v : Int) (hv : (Lit.int .u64 v).wf = true) (w : World) : Calls Tryz.prog 31 #[.int .u64 v] w fun e w' => e = .returned (.bool (v % 2 == 1)) ∧ w' = w := by
  have h : 0 ≤ v ∧ v < 18446744073709551616 := by
    have hmin : IntKind.u64.min = 0 := rfl
    have hmax : IntKind.u64.max = 18446744073709551615 := rfl
    simp only [Lit.wf, Bool.and_eq_true, decide_eq_true_eq] at hv; omega
  have hb : bits .and .u64 v 1 = v % 2 := mask_u64 v 1 1 (by decide) (by decide) h.1 h.2
  go_enter Tryz.func31, Tryz.ntmps31
  go_wp2
  go_ret
  exact ⟨rfl, rfl⟩
theorem info_place : (Tryz.prog.info? 41).map (fun i => (i.zero, i.size, i.bytes)) = some (some (.agg #[.int .i64 0, .int .i64 0]), 2, 16) := by kernel_rfl
theorem append_places {ops : Array Oper} {rest : List Oper} {o : Oper} {a : Act} {Q : Exit → Act → World → Prop} {w : World} (hgd : o.guard = none) (s x : Operand)
    (ho : o.op = .call { callee := .builtin .append, args := #[s, x], argTypes := #[71, 71] }) (l : List (Int × Int)) (ao : Option Addr) (cap : Nat)
    (hs : a.eval s = .slice none 0 0) (hx : a.eval x = .slice ao l.length cap) (h : Plc w ao cap l) (hl : l.length ≤ 1000000)
    (K : ∀ v' w', w'.ownsRow w.heap.size 41 2 v' l.length (flat l) → Below w.heap.size w w' → wpList Tryz.prog ops Q rest (a.put o.dst v') w') : wpList Tryz.prog ops Q (o :: rest) a w := by
  obtain ⟨i0, hi0, hz0, hz1, hz2⟩ := info_parts info_place
  cases ao with
  | none =>
    have hc := h.nil rfl
    have hl0 := h.le
    have h0 : l = [] := List.length_eq_zero_iff.1 (by omega)
    subst h0 hc
    refine wpList_append_own_none hgd s x _ ho w.heap.size 41 i0 2 Tryz.underlying71 hi0 _ 0 [] hs (World.ownsRow_nil _ _ _ _) hx (K _ _ (World.ownsRow_nil _ _ _ _) (Below.refl _ _))
  | some ad =>
    refine wpList_append_own _ hgd s x _ ho w.heap.size 41 i0 (.agg #[.int .i64 0, .int .i64 0]) 2 16 Tryz.underlying71 hi0 hz0 hz1 hz2 rfl (by decide) (.slice none 0 0) 0 [] hs (World.ownsRow_nil _ _ _ _) ad l.length cap (flat l) hx (flat_len l) h.news (flat_one l) (by unfold maxLen; omega) (by omega) (Nat.le_refl _) fun v' w' h1 h2 _ => ?_
    rw [Nat.zero_add, List.nil_append] at h1
    exact K v' w' h1 ((Below.refl _ w).grown h2 (Nat.le_refl _) (fun j hj => by simp [Value.ownBlock] at hj))
theorem adr_form {w : World} {base : Nat} {v : Value} {xs : List Int} (h : Adr w base v xs) : ∃ a ga, v = .slice a xs.length xs.length ∧ base ≤ ga ∧ (0 < xs.length → a = some ⟨ga, 0, none⟩ ∧ ga < w.heap.size ∧ (∀ (j : Nat) (hj : j < xs.length), w.cell? ⟨ga, j, none⟩ = some (.int .u64 xs[j])) ∧ (∀ j, w.frozen? ⟨ga, j, none⟩ = false)) := by
  rcases h with ⟨rfl, rfl⟩ | ⟨g, cur, rfl, h1, h2, h3, h4⟩
  · exact ⟨none, base, rfl, Nat.le_refl _, fun h => by simp at h⟩
  · refine ⟨_, g, rfl, h1, fun _ => ⟨rfl, (Array.getElem?_eq_some_iff.1 h2).1, fun j hj => ?_, fun j => by simp [World.frozen?, h2]⟩⟩
    have : (cur.toList.take xs.length)[j]? = some (.int .u64 xs[j]) := by rw [h4]; simp [cu, hj]
    rw [List.getElem?_take, if_pos hj, Array.getElem?_toList] at this
    simp [World.cell?, h2, this]
theorem own_form {w : World} {base : Nat} {v : Value} {xs : List Int} (h : w.ownsRow base 44 1 v xs.length (cu xs)) : ∃ a gb cap, v = .slice a xs.length cap ∧ (0 < xs.length → a = some ⟨gb, 0, none⟩ ∧ base ≤ gb ∧ gb < w.heap.size ∧ (∀ (j : Nat) (hj : j < xs.length), w.cell? ⟨gb, j, none⟩ = some (.int .u64 xs[j]))) := by
  obtain ⟨h1, ⟨rfl, h0⟩ | ⟨g, cap, cur, rfl, hb, hg, hn, hm, hs, ht⟩⟩ := h
  · exact ⟨none, 0, 0, by rw [h0], fun h => by omega⟩
  · refine ⟨_, g, cap, rfl, fun _ => ⟨rfl, hb, (Array.getElem?_eq_some_iff.1 hg).1, fun j hj => ?_⟩⟩
    have : (cur.toList.take (xs.length * 1))[j]? = some (.int .u64 xs[j]) := by rw [ht]; simp [cu, hj]
    rw [Nat.mul_one, List.getElem?_take, if_pos hj, Array.getElem?_toList] at this
    simp [World.cell?, hg, this]

theorem keeps_cell {S : Nat → Prop} {w w' : World} (h : Keeps S w w') {b o : Nat} {v : Value} (hc : w.cell? ⟨b, o, none⟩ = some v) (hb : ¬ S b) : w'.cell? ⟨b, o, none⟩ = some v :=
  (World.cell?_of_block (w := w) (a := ⟨b, o, none⟩) (h.block b (World.block_lt_of_cell? _ _ hc) hb)).trans hc

theorem plc_of {w : World} {v : Value} (h : Leaf.holds w (.sl [.int .i64, .int .i64]) v) : ∃ (l : List (Int × Int)) (a : Option Addr) (cap : Nat), v = .slice a l.length cap ∧ Plc w a cap l := by
  obtain ⟨l, a, cap, rfl, h1, h2, h3, h4, h5⟩ := recs_of h
  obtain ⟨m, hm, hp⟩ := list_of (fun i (x : Int × Int) => l[i]? = some [.int .i64 x.1, .int .i64 x.2]) l.length (fun i hi => by
    obtain ⟨c0, r, e0, g0, h⟩ := allHold_cons (h4 _ (List.getElem_mem hi))
    obtain ⟨c1, r, rfl, g1, h⟩ := allHold_cons h
    obtain rfl := allHold_nil h
    obtain ⟨z0, rfl, -⟩ := holds_int g0
    obtain ⟨z1, rfl, -⟩ := holds_int g1
    exact ⟨(z0, z1), by rw [List.getElem?_eq_getElem hi, e0]⟩)
  refine ⟨m, a, cap, by rw [hm], ⟨by omega, h2, h3, ?_⟩⟩
  rcases h5 with rfl | ⟨b, off, rfl, h6⟩
  · exact .inl (List.length_eq_zero_iff.1 hm)
  · refine .inr ⟨b, off, rfl, fun i hi => ?_⟩
    have hi2 : i < l.length := by omega
    have hq := hp i (by omega)
    rw [List.getElem?_eq_getElem hi2, Option.some.injEq] at hq
    have a0 := h6 i hi2 0 (by decide)
    have a1 := h6 i hi2 1 (by decide)
    rw [hq] at a0 a1
    exact ⟨a0, by rw [Nat.add_assoc]; exact a1⟩
theorem leaves_places : leaves Tryz.prog 4 71 = some [.sl [.int .i64, .int .i64]] := by kernel_rfl

end Go.Proofs.YtjfocckdbaaimaaGreat

/-
  Stripes: Marks that are not there, that are over, that have no world; the document's Mark.
-/
namespace Go.Proofs.YtjfocckdbaaimaaGreat
open Go.RowKit Go.Maps
set_option linter.unusedVariables false

theorem mover_nil (w : World) : Calls Tryz.prog 33 #[.pointer none] w fun e w' => e = .returned (.bool true) ∧ w' = w := by
  go_enter Tryz.func33, Tryz.ntmps33
  go_wp2
  go_ret
  exact ⟨rfl, rfl⟩
theorem mstep_nil (v : Value) (w : World) : Calls Tryz.prog 36 #[.pointer none, v] w fun e w' => e = .returned (.bool true) ∧ w' = w := by
  go_enter Tryz.func36, Tryz.ntmps36
  go_wp2_with (go_at_call 33; refine (mover_nil _).mono ?_; rintro e w1 ⟨rfl, hw⟩; obtain rfl := hw.symm)
  go_ret
  exact ⟨rfl, rfl⟩
theorem mstep_void {w : World} {mb : Nat} (h : MarkAt w mb []) (v : Value) : Calls Tryz.prog 36 #[.pointer (some ⟨mb, 0, none⟩), v] w fun e w' => e = .returned (.bool true) ∧ w' = w := by
  have ho := over_any h
  rw [show decide (([] : List Int) = []) = true from rfl] at ho
  clear h
  go_enter Tryz.func36, Tryz.ntmps36
  go_wp2_with (go_at_call 33; refine ho.mono ?_; rintro e w1 ⟨rfl, hw⟩; obtain rfl := hw.symm)
  go_ret
  exact ⟨rfl, rfl⟩
theorem mstep_no {w : World} {mb : Nat} {a : Int} {r : List Int} (h : MarkAt w mb (a :: r)) : Calls Tryz.prog 36 #[.pointer (some ⟨mb, 0, none⟩), .pointer none] w fun e w' => e = .returned (.bool false) ∧ w' = w := by
  have ho := over_any h
  rw [show decide (a :: r = []) = false from rfl] at ho
  clear h
  go_enter Tryz.func36, Tryz.ntmps36
  go_wp2_with (go_at_call 33; refine ho.mono ?_; rintro e w1 ⟨rfl, hw⟩; obtain rfl := hw.symm)
  go_ret
  exact ⟨rfl, rfl⟩
/-- A Mark that is over, or none. -/
def VMark (w : World) (v : Value) : Prop := v = .pointer none ∨ ∃ b, v = .pointer (some ⟨b, 0, none⟩) ∧ MarkAt w b []
theorem MarkAt.lt {w : World} {mb : Nat} {xs : List Int} (h : MarkAt w mb xs) : mb < w.heap.size := by obtain ⟨v, h1, _⟩ := h; exact (Array.getElem?_eq_some_iff.1 h1).1
theorem VMark.below {w w' : World} {v : Value} (h : VMark w v) (hb : Below w.heap.size w w') : VMark w' v := by
  rcases h with rfl | ⟨b, rfl, h⟩
  · exact .inl rfl
  · exact .inr ⟨b, rfl, h.keep hb⟩
theorem Sl.fr {K : TypeId → Bool} {mp : Bool} {w w' : World} {v : Value} {xs : List Int} (h : Sl w v xs) (hf : Fr K mp w w') (h2 : K 44 = false) : Sl w' v xs := by
  rcases h with h | ⟨g, off, cur, rfl, h3, h4⟩
  · exact .inl h
  · exact .inr ⟨g, off, cur, rfl, hf.cells _ _ _ _ h3 h2, h4⟩
theorem MarkAt.fr {K : TypeId → Bool} {mp : Bool} {w w' : World} {mb : Nat} {xs : List Int} (h : MarkAt w mb xs) (hf : Fr K mp w w') (h1 : K 222 = false) (h2 : K 44 = false) : MarkAt w' mb xs := by
  obtain ⟨v, h3, h4⟩ := h
  exact ⟨v, hf.cells _ _ _ _ h3 h1, h4.fr hf h2⟩
theorem VMark.fr {K : TypeId → Bool} {mp : Bool} {w w' : World} {v : Value} (h : VMark w v) (hf : Fr K mp w w') (h1 : K 222 = false) (h2 : K 44 = false) : VMark w' v := by
  rcases h with rfl | ⟨b, rfl, h⟩
  · exact .inl rfl
  · exact .inr ⟨b, rfl, h.fr hf h1 h2⟩
theorem VMark.over {w : World} {v : Value} (h : VMark w v) : Calls Tryz.prog 33 #[v] w fun e w' => e = .returned (.bool true) ∧ w' = w := by
  rcases h with rfl | ⟨b, rfl, h⟩
  · exact mover_nil w
  · exact over_any h
theorem VMark.step {w : World} {v : Value} (u : Value) (h : VMark w v) : Calls Tryz.prog 36 #[v, u] w fun e w' => e = .returned (.bool true) ∧ w' = w := by
  rcases h with rfl | ⟨b, rfl, h⟩
  · exact mstep_nil u w
  · exact mstep_void h u
theorem plc_nil (w : World) : Plc w none 0 [] := ⟨Nat.le_refl _, Nat.zero_le _, fun _ => rfl, .inl rfl⟩
theorem plc_one (w : World) (a0 a1 : Int) : Plc (w.alloc (.cells #[.int .i64 a0, .int .i64 a1] 41)) (some ⟨w.heap.size, 0, none⟩) 1 [(a0, a1)] := by
  refine ⟨Nat.le_refl _, by unfold maxLen; decide, fun h => (by cases h), .inr ⟨_, 0, rfl, fun i hi => ?_⟩⟩
  have z := heap_alloc_new w (.cells #[.int .i64 a0, .int .i64 a1] 41)
  obtain rfl : i = 0 := by simp at hi; exact hi
  exact ⟨hcell z 0, hcell z 1⟩
theorem plc_two (w : World) (a0 a1 b0 b1 : Int) : Plc (w.alloc (.cells #[.int .i64 a0, .int .i64 a1, .int .i64 b0, .int .i64 b1] 41)) (some ⟨w.heap.size, 0, none⟩) 2 [(a0, a1), (b0, b1)] := by
  refine ⟨Nat.le_refl _, by unfold maxLen; decide, fun h => (by cases h), .inr ⟨_, 0, rfl, fun i hi => ?_⟩⟩
  have z := heap_alloc_new w (.cells #[.int .i64 a0, .int .i64 a1, .int .i64 b0, .int .i64 b1] 41)
  rcases i with _ | _ | i
  · exact ⟨hcell z 0, hcell z 1⟩
  · exact ⟨hcell z 2, hcell z 3⟩
  · simp at hi; omega
/-- The document's Mark. -/
def RMarkAt (w : World) (base rb : Nat) (all : List Int) (at_ : Nat) : Prop := ∃ v, w.heap[rb]? = some (.cells #[.int .i64 (if at_ < all.length then 1 else 0), v, .int .i64 at_] 98 (0, 0)) ∧ w.ownsRow base 44 1 v all.length (cu all)
theorem RMarkAt.fr {K : TypeId → Bool} {mp : Bool} {w w' : World} {base rb : Nat} {all : List Int} {at_ : Nat} (h : RMarkAt w base rb all at_) (hf : Fr K mp w w') (h1 : K 98 = false) (h2 : K 44 = false) : RMarkAt w' base rb all at_ := by
  obtain ⟨v, h3, h4⟩ := h
  exact ⟨v, hf.cells _ _ _ _ h3 h1, own_fr h4 hf h2⟩
theorem rnewmark_any (l : List (Int × Int)) (ao : Option Addr) (cap : Nat) (w : World) (h : Plc w ao cap l) (hsz : l.length ≤ 1000000) : Calls Tryz.prog 102 #[.slice ao l.length cap] w
    fun e w' => ∃ rb, e = .returned (.pointer (some ⟨rb, 0, none⟩)) ∧ RMarkAt w' w.heap.size rb (vof l) 0 ∧ w.heap.size ≤ rb ∧ Below w.heap.size w w' := by
  have ho := rof_any l ao cap w h hsz
  have hl := vof_len l
  generalize vof l = xs at *
  have HL : Hid (xs.length ≤ 1000000) := Nat.le_trans hl hsz
  clear h hl hsz
  go_enter Tryz.func102, Tryz.ntmps102
  go_upto_region 2 with (go_at_call 161; refine ho.mono ?_; rintro e w1 ⟨v, rfl, h1, h2⟩; obtain ⟨a1, cap1, hv⟩ := own_sl h1; subst hv; have H1 := Lib.hid h1; have H2 := Lib.hid h2; clear h1 h2 ho)
  have hb := below_alloc w1 (.cells #[.int .i64 0, .slice a1 xs.length cap1, .int .i64 0] 98)
  have z := heap_alloc_new w1 (.cells #[.int .i64 0, .slice a1 xs.length cap1, .int .i64 0] 98)
  have HR := Lib.hid (own_fr H1.out (below_fr hb (fun _ => false) false) rfl)
  have HB : Hid (Below w.heap.size w (w1.alloc (.cells #[.int .i64 0, .slice a1 xs.length cap1, .int .i64 0] 98))) := H2.out.trans (hb.mono H2.out.size)
  have HSZ : Hid (w.heap.size ≤ w1.heap.size) := H2.out.size
  change Code.wp _ _ _ _ (w1.alloc (.cells #[.int .i64 0, .slice a1 xs.length cap1, .int .i64 0] 98))
  generalize w1.alloc (.cells #[.int .i64 0, .slice a1 xs.length cap1, .int .i64 0] 98) = w2 at *
  generalize w1.heap.size = rb at *
  have c0 := hcell z 0
  have c1 := hcell z 1
  have cf := hfrz z 0
  have Z := Lib.hid z
  clear hb z H1 H2
  by_cases h0 : 0 < xs.length
  · have d0 : decide ((0 : Int) < xs.length) = true := decide_eq_true (by omega)
    have hl := HL.out
    go_wp2
    go_ret
    have hk := setCell_keeps w2 rb 0 (.int .i64 1)
    have hf : Fr (fun T => T == 98) false w2 (w2.setCell ⟨rb, 0, none⟩ (.int .i64 1)) := keeps_fr hk _ _ fun k e => ⟨_, _, _, e ▸ Z.out, rfl⟩
    refine ⟨rb, rfl, ⟨.slice a1 xs.length cap1, ?_, own_fr HR.out hf rfl⟩, HSZ.out, keeps_below hk HB.out HB.out.size fun k e => e ▸ HSZ.out⟩
    rw [if_pos h0]
    exact setCell_same Z.out 0 (.int .i64 1)
  · have d0 : decide ((0 : Int) < xs.length) = false := decide_eq_false (by omega)
    have hl := HL.out
    go_wp2
    go_ret
    refine ⟨rb, rfl, ⟨.slice a1 xs.length cap1, ?_, HR.out⟩, HSZ.out, HB.out⟩
    rw [if_neg h0]
    exact Z.out
theorem newmark_nil (w : World) : Calls Tryz.prog 29 #[.slice none 0 0] w fun e w' => ∃ mb, e = .returned (.pointer (some ⟨mb, 0, none⟩)) ∧ MarkAt w' mb [] ∧ w.heap.size ≤ mb ∧ Below w.heap.size w w' :=
  newmark_any [] none 0 w (plc_nil w) (by decide)
theorem plc_blk1 {w : World} {n : Nat} {a0 a1 : Int} (h : w.heap[n]? = some (.cells #[.int .i64 a0, .int .i64 a1] 41 (0, 0))) : Plc w (some ⟨n, 0, none⟩) 1 [(a0, a1)] := by
  refine ⟨Nat.le_refl _, by unfold maxLen; decide, fun h => (by cases h), .inr ⟨_, 0, rfl, fun i hi => ?_⟩⟩
  obtain rfl : i = 0 := by simp at hi; exact hi
  exact ⟨hcell h 0, hcell h 1⟩
theorem plc_blk2 {w : World} {n : Nat} {a0 a1 b0 b1 : Int} (h : w.heap[n]? = some (.cells #[.int .i64 a0, .int .i64 a1, .int .i64 b0, .int .i64 b1] 41 (0, 0))) : Plc w (some ⟨n, 0, none⟩) 2 [(a0, a1), (b0, b1)] := by
  refine ⟨Nat.le_refl _, by unfold maxLen; decide, fun h => (by cases h), .inr ⟨_, 0, rfl, fun i hi => ?_⟩⟩
  rcases i with _ | _ | i
  · exact ⟨hcell h 0, hcell h 1⟩
  · exact ⟨hcell h 2, hcell h 3⟩
  · simp at hi; omega
theorem newmark_one {w : World} {n : Nat} {a0 a1 : Int} (h : w.heap[n]? = some (.cells #[.int .i64 a0, .int .i64 a1] 41 (0, 0))) : Calls Tryz.prog 29 #[.slice (some ⟨n, 0, none⟩) 1 1] w fun e w' => ∃ mb, e = .returned (.pointer (some ⟨mb, 0, none⟩)) ∧ MarkAt w' mb (vof [(a0, a1)]) ∧ w.heap.size ≤ mb ∧ Below w.heap.size w w' :=
  newmark_any [(a0, a1)] _ 1 w (plc_blk1 h) (by simp)
theorem newmark_two {w : World} {n : Nat} {a0 a1 b0 b1 : Int} (h : w.heap[n]? = some (.cells #[.int .i64 a0, .int .i64 a1, .int .i64 b0, .int .i64 b1] 41 (0, 0))) : Calls Tryz.prog 29 #[.slice (some ⟨n, 0, none⟩) 2 2] w fun e w' => ∃ mb, e = .returned (.pointer (some ⟨mb, 0, none⟩)) ∧ MarkAt w' mb (vof [(a0, a1), (b0, b1)]) ∧ w.heap.size ≤ mb ∧ Below w.heap.size w w' :=
  newmark_any [(a0, a1), (b0, b1)] _ 2 w (plc_blk2 h) (by simp)
theorem rnewmark_one {w : World} {n : Nat} {a0 a1 : Int} (h : w.heap[n]? = some (.cells #[.int .i64 a0, .int .i64 a1] 41 (0, 0))) : Calls Tryz.prog 102 #[.slice (some ⟨n, 0, none⟩) 1 1] w fun e w' => ∃ rb, e = .returned (.pointer (some ⟨rb, 0, none⟩)) ∧ RMarkAt w' w.heap.size rb (vof [(a0, a1)]) 0 ∧ w.heap.size ≤ rb ∧ Below w.heap.size w w' :=
  rnewmark_any [(a0, a1)] _ 1 w (plc_blk1 h) (by simp)
theorem ver_zero : ver 0 0 = 0 := by decide
theorem ver_neg (b : Int) : ver b (-1) = 0 := by unfold ver hasP; simp
theorem vof_two (b : Int) : vof [(0, 0), (b, -1)] = [] := by simp [vof, vstep, ver_zero, ver_neg]
theorem vof_single (b u : Int) : vof [(b, u)] = if ver b u = 0 then [] else [ver b u] := by simp [vof, vstep]
end Go.Proofs.YtjfocckdbaaimaaGreat

/-
  Tickets: a Take, a Give, who waits.
-/
namespace Go.Proofs.YtjfocckdbaaimaaGreat
open Go.RowKit
set_option linter.unusedVariables false

/-- Of the old blocks only b, and such of some types, have turned. -/
structure Fx (K : TypeId → Bool) (mp : Bool) (b : Nat) (w w' : World) : Prop where
  size : w.heap.size ≤ w'.heap.size
  cells : ∀ (k : Nat) (cs : Array Value) (T : TypeId) (fr : Nat × Nat), w.heap[k]? = some (.cells cs T fr) → K T = false → k ≠ b → w'.heap[k]? = some (.cells cs T fr)
  map : mp = false → ∀ (k : Nat) (es : Array MapEntry) (cl : Nat), w.heap[k]? = some (.map es cl) → k ≠ b → w'.heap[k]? = some (.map es cl)
theorem Fr.fx {K : TypeId → Bool} {mp : Bool} {w w' : World} (h : Fr K mp w w') (b : Nat) : Fx K mp b w w' := ⟨h.size, fun k cs T fr h1 h2 _ => h.cells k cs T fr h1 h2, fun hm k es cl h1 _ => h.map hm k es cl h1⟩
theorem Fx.trans {K : TypeId → Bool} {mp : Bool} {b : Nat} {a c d : World} (h : Fx K mp b a c) (k : Fx K mp b c d) : Fx K mp b a d :=
  ⟨Nat.le_trans h.size k.size, fun i cs T fr hi hT hb => k.cells i cs T fr (h.cells i cs T fr hi hT hb) hT hb, fun hm i es cl hi hb => k.map hm i es cl (h.map hm i es cl hi hb) hb⟩
theorem set_fx (K : TypeId → Bool) (mp : Bool) (w : World) (b o : Nat) (v : Value) : Fx K mp b w (w.setCell ⟨b, o, none⟩ v) :=
  ⟨by simp [World.setCell], fun k cs T fr h _ hb => (Below.heap_setCell _ _ _ _ hb).trans h, fun _ k es cl h hb => (Below.heap_setCell _ _ _ _ hb).trans h⟩
theorem Fx.fr {K : TypeId → Bool} {mp : Bool} {b : Nat} {w w' : World} (h : Fx K mp b w w') {cs : Array Value} {T : TypeId} {fr : Nat × Nat} (hb : w.heap[b]? = some (.cells cs T fr)) : Fr (fun x => K x || x == T) mp w w' := by
  refine ⟨h.size, fun k cs2 T2 fr2 h2 hT => ?_, fun hm k es cl h2 => h.map hm k es cl h2 fun c => ?_⟩
  · simp only [Bool.or_eq_false_iff] at hT
    refine h.cells k cs2 T2 fr2 h2 hT.1 fun c => ?_
    subst c
    have := hb.symm.trans h2; simp only [Option.some.injEq, Obj.cells.injEq] at this
    have h3 := hT.2; rw [this.2.1] at h3; simp at h3
  · subst c; rw [hb] at h2; cases h2

theorem mkfunc (fn : Fn) (first cap : Array Value) (w : World) : (Instr.makeFunc fn first cap).run Tryz.prog w = .ok (.func fn first cap) w := rfl
/-- The worlds' types, and a Take's. -/
theorem WS.cellb {w0 w : World} {B : WB} {V : WV} {s : CS} (h : WS w0 w B V s) (t : Nat) (ht : t < 64) : w.cell? ⟨B.wb, 8 + t, none⟩ = some (.int .u64 (V.tk.getD t 0)) := (h.cell (8 + t)).trans (val_tkat B V h.tkl t ht)
theorem WS.hcell' {w0 w : World} {B : WB} {V : WV} {s : CS} (h : WS w0 w B V s) : w.cell? ⟨B.wb, 72, none⟩ = some (.int .i64 V.hd) := (h.cell 72).trans (val_at B V h.tkl).2.2.2.2.2
theorem WS.frz {w0 w : World} {B : WB} {V : WV} {s : CS} (h : WS w0 w B V s) (o : Nat) : w.frozen? ⟨B.wb, o, none⟩ = false := hfrz h.blk o
theorem WS.fx {w0 w w' : World} {B : WB} {V : WV} {s : CS} {K : TypeId → Bool} {b : Nat} (h : WS w0 w B V s) (hf : Fx K false b w w') (hK : ∀ T, wTy T = true → K T = false) {cs : Array Value} {T : TypeId} {fr : Nat × Nat} (hb : w.heap[b]? = some (.cells cs T fr)) (hT : wTy T = false) (hB : Below w0.heap.size w0 w') : WS w0 w' B V s :=
  h.fr (hf.fr hb) (fun x hx => by simp only [Bool.or_eq_false_iff]; exact ⟨hK x hx, by cases hxT : (x == T); rfl; rw [beq_iff_eq] at hxT; subst hxT; rw [hx] at hT; cases hT⟩) hB
theorem set_take {w0 w : World} {B : WB} {V : WV} {s : CS} {b o : Nat} {cs : Array Value} {T : TypeId} (h : WS w0 w B V s) (hb : w.heap[b]? = some (.cells cs T (0, 0))) (hT : wTy T = false) (hlo : w0.heap.size ≤ b) (v : Value) : WS w0 (w.setCell ⟨b, o, none⟩ v) B V s :=
  h.fx (set_fx (fun _ => false) false w b o v) (fun _ _ => rfl) hb hT (keeps_below (setCell_keeps w b o v) h.below h.below.size fun k e => e ▸ hlo)

section
variable {w0 w : World} {B : WB} {V : WV} {s : CS} {b t : Nat} {d : Bool} {k : Int} (h : WS w0 w B V s) (hr : s.room) (hlo : w0.heap.size ≤ b) (ht : t < 64)
include h hr hlo ht
end
end Go.Proofs.YtjfocckdbaaimaaGreat

/-
  A Mark's step, in the program's world and in the document's.
-/
namespace Go.Proofs.YtjfocckdbaaimaaGreat
open Go.RowKit Go.Maps
set_option linter.unusedVariables false

theorem ws_set {w0 w : World} {B : WB} {V : WV} {s : CS} {b o : Nat} {cs : Array Value} {T : TypeId} (h : WS w0 w B V s) (hb : w.heap[b]? = some (.cells cs T (0, 0))) (hT : wTy T = false) (hlo : w0.heap.size ≤ b) (v : Value) : WS w0 (w.setCell ⟨b, o, none⟩ v) B V s :=
  h.fr (set_ty hb o v) (fun X hX => by cases hXT : (X == T); rfl; rw [beq_iff_eq] at hXT; subst hXT; rw [hX] at hT; cases hT) (set_below h.below h.below.size hlo o v)
theorem rd_set {w0 w : World} {B : WB} {V : WV} {x : RS} {b o : Nat} {cs : Array Value} {T : TypeId} (h : RD w0 w B V x) (hb : w.heap[b]? = some (.cells cs T (0, 0))) (hT : rTy T = false) (hlo : w0.heap.size ≤ b) (v : Value) : RD w0 (w.setCell ⟨b, o, none⟩ v) B V x :=
  h.fr (set_ty hb o v) (fun X hX => by cases hXT : (X == T); rfl; rw [beq_iff_eq] at hXT; subst hXT; rw [hX] at hT; cases hT) (set_below h.below h.below.size hlo o v)
set_option maxHeartbeats 1000000 in
theorem wmstep {w0 w : World} {B : WB} {V : WV} {s : CS} {mb : Nat} {a : Int} {r : List Int} (h : WS w0 w B V s) (hr : s.room) (hM : MarkAt w mb (a :: r)) (hlo : w0.heap.size ≤ mb) (ha : (Lit.int .u64 a).wf = true) :
    Calls Tryz.prog 36 #[.pointer (some ⟨mb, 0, none⟩), .pointer (some ⟨B.wb, 0, none⟩)] w fun e w' => e = .returned (.bool (decide (r = []))) ∧ WS w0 w' B V (s.acc 4 a (wu (s.val a + 1))) ∧ MarkAt w' mb r ∧ Fx wTy true mb w w' := by
  have ho := over_any hM
  rw [show decide (a :: r = []) = false from rfl] at ho
  obtain ⟨v, hm, hs⟩ := hM
  obtain ⟨g, off, rfl, q0, hml, hg, ht⟩ := hs.at0
  have HT := Lib.hid (Sl.tail hg ht)
  clear hg ht
  have m0 : w.cell? ⟨mb, 0, none⟩ = some (.slice (some ⟨g, off, none⟩) (r.length + 1) (r.length + 1)) := by simp [World.cell?, hm]
  have c0 := h.c0
  have x0 := fun st : ExtW w => st.cell c0
  have x1 := fun st : ExtW w => st.cell m0
  have x2 := fun st : ExtW w => st.cell q0
  unfold maxLen at hml
  have H := Lib.hid h; have HR := Lib.hid hr; have HM := Lib.hid hm; have HS := Lib.hid hs; have HA := Lib.hid ha
  clear h hr hm hs ha
  go_enter Tryz.func36, Tryz.ntmps36
  go_wp2_with (go_at_call 33; refine ho.mono ?_; rintro e w1 ⟨rfl, hw⟩; obtain rfl := hw.symm; clear ho)
  refine wp_region_ext_tail 10 (by kernel_rfl) (by kernel_rfl) ?_
  simp only [List.take_succ_cons, List.take_zero, List.drop_succ_cons, List.drop_zero]
  repeat (go_big_quiet_step (fail))
  refine wpQuiet_nil ?_
  rintro W ⟨⟨W2, hW⟩, rfl⟩
  clear x0 x1 x2 c0 m0 q0
  have HW := Lib.hid hW
  have h1 := H.out.keep hW
  have HM1 := Lib.hid ((hW.block mb (Array.getElem?_eq_some_iff.1 HM.out).1).trans HM.out); have HS1 := Lib.hid (HS.out.keep hW)
  clear hW
  go_wp2_with (go_at_call 106; refine (h1.add HR.out a HA.out 1).mono ?_; rintro e w2 ⟨rfl, h2, r2⟩; have HM2 := Lib.hid (r2.cells _ _ _ _ HM1.out rfl); have HS2 := Lib.hid (HS1.out.fr r2 rfl); have H2 := Lib.hid h2; have R2 := Lib.hid r2; clear h1 h2 r2)
  have m0 : w2.cell? ⟨mb, 0, none⟩ = some (.slice (some ⟨g, off, none⟩) (r.length + 1) (r.length + 1)) := by have := HM2.out; simp [World.cell?, this]
  have m1 : w2.frozen? ⟨mb, 0, none⟩ = false := by have := HM2.out; simp [World.frozen?, this]
  have x1 := fun st : ExtW w2 => st.cell m0
  refine wp_region_ext_tail 18 (by kernel_rfl) (by kernel_rfl) ?_
  simp only [List.take_succ_cons, List.take_zero, List.drop_succ_cons, List.drop_zero]
  repeat (go_big_quiet_step (fail))
  refine wpQuiet_nil ?_
  rintro W3 ⟨⟨W4, hW4⟩, rfl⟩
  clear x1
  obtain ⟨ad, had⟩ : ∃ ad, ad = (if r = [] then some (⟨g, off, none⟩ : Addr) else some ⟨g, off + 1, none⟩) := ⟨_, rfl⟩
  have T3 := (((HT.out.keep HW.out).fr R2.out rfl).keep hW4)
  rw [← had] at T3
  simp only [← had]
  have HT3 := Lib.hid T3
  have H3 := Lib.hid (H2.out.keep hW4)
  have HM3 := Lib.hid ((hW4.block mb (Array.getElem?_eq_some_iff.1 HM2.out).1).trans HM2.out)
  have HW4 := Lib.hid hW4
  clear T3 had hW4 m1 m0 HT HS HS1 HS2
  have m0 : W3.cell? ⟨mb, 0, none⟩ = some (.slice (some ⟨g, off, none⟩) (r.length + 1) (r.length + 1)) := by have := HM3.out; simp [World.cell?, this]
  have m1 : W3.frozen? ⟨mb, 0, none⟩ = false := by have := HM3.out; simp [World.frozen?, this]
  have hM5 : MarkAt (W3.setCell ⟨mb, 0, none⟩ (.slice ad r.length r.length)) mb r := by
    have hsame := setCell_same (o := 0) HM3.out (.slice ad r.length r.length)
    refine ⟨_, hsame, ?_⟩
    rcases HT3.out with h | ⟨g2, o2, cur, he, h1, h2⟩
    · exact .inl h
    · refine .inr ⟨g2, o2, cur, he, (Below.heap_setCell _ _ _ _ fun c => ?_).trans h1, h2⟩
      simp only at c; subst c
      have := h1.symm.trans HM3.out; simp only [Option.some.injEq, Obj.cells.injEq] at this; exact absurd this.2.1 (by decide)
  have hov := over_any hM5
  obtain ⟨d, hd⟩ : ∃ d, d = decide (r = []) := ⟨_, rfl⟩
  rw [← hd] at hov
  have HD := Lib.hid hd
  clear hd
  have HM5 := Lib.hid hM5
  clear hM5
  go_wp2_with (go_at_call 33; refine hov.mono ?_; rintro e w6 ⟨rfl, hw⟩; subst hw)
  go_ret
  exact ⟨conf_b' HD.out, ws_set H3.out HM3.out rfl hlo _, HM5.out, (((below_fr HW.out _ _).trans (R2.out.trans (below_fr HW4.out _ _))).fx mb).trans (set_fx _ _ _ _ _ _)⟩
theorem rmstep0 {w : World} {base rb : Nat} {all : List Int} (h : RMarkAt w base rb all all.length) (v : Value) : Calls Tryz.prog 35 #[.pointer (some ⟨rb, 0, none⟩), v] w fun e w' => e = .returned (.tuple #[]) ∧ w' = w := by
  obtain ⟨u, h1, h2⟩ := h
  rw [if_neg (Nat.lt_irrefl _)] at h1
  have c0 := hcell h1 0
  clear h1 h2
  go_enter Tryz.func35, Tryz.ntmps35
  go_wp2
  first
    | (refine bodyPost_ret (v := .tuple #[]) (by rfl) rfl ⟨rfl, rfl⟩)
    | (refine bodyPost_ret (v := .tuple #[]) (by simp [results, Tryz.results35, go_sem]) rfl ⟨rfl, rfl⟩)
set_option maxRecDepth 10000 in
set_option maxHeartbeats 1000000 in
theorem rmstep {w0 w : World} {B : WB} {V : WV} {x : RS} {rb at_ : Nat} {all : List Int} (h : RD w0 w B V x) (hr : x.room) (hlo : w0.heap.size ≤ rb) (hM : RMarkAt w w0.heap.size rb all at_) (hat : at_ < all.length) (hal : all.length ≤ 1000) (ha : (Lit.int .u64 (all[at_])).wf = true) :
    Calls Tryz.prog 35 #[.pointer (some ⟨rb, 0, none⟩), .pointer (some ⟨B.wb, 0, none⟩)] w fun e w' => e = .returned (.tuple #[]) ∧ RD w0 w' B V (x.acc 4 all[at_] (wu (rlook x.l all[at_] + 1))) ∧ RMarkAt w' w0.heap.size rb all (at_ + 1) ∧ Fx rTy false rb w w' := by
  obtain ⟨u, h1, h2⟩ := hM
  rw [if_pos hat] at h1
  obtain ⟨g, cap, y, rfl, hy, hg, -⟩ := own_at h2 at_ hat
  have e0 : y = .int .u64 all[at_] := by
    simp only [cu, List.getElem?_map, List.getElem?_eq_getElem hat, Option.map_some, Option.some.injEq] at hy; exact hy.symm
  subst e0
  clear hy
  generalize all[at_] = a at *
  have c0 := hcell h1 0
  have x1 : ∀ st : ExtW w, st.val.cell? ⟨rb, 1, none⟩ = some (.slice (some ⟨g, 0, none⟩) all.length cap) := fun st => st.cell (hcell h1 1)
  have x2 : ∀ st : ExtW w, st.val.cell? ⟨rb, 2, none⟩ = some (.int .i64 at_) := fun st => st.cell (hcell h1 2)
  have xg : ∀ st : ExtW w, st.val.cell? ⟨g, at_, none⟩ = some (.int .u64 a) := fun st => st.cell hg
  have hat' : (at_ : Int) < all.length := by omega
  have hadd : ∀ W, Below w.heap.size w W → Calls Tryz.prog 105 #[.pointer (some ⟨B.wb, 0, none⟩), .int .u64 a, .int .u64 1] W fun e w' => e = .returned (.int .u64 (rlook x.l a)) ∧ RD w0 w' B V (x.acc 4 a (wu (rlook x.l a + 1))) ∧ Fr rTy false W w' := fun W hW => rwadd (h.keep hW) hr a ha 1
  have HADD := Lib.hid hadd; have H1 := Lib.hid h1; have H2 := Lib.hid h2; have HAT := Lib.hid hat
  clear h hr h1 h2 hg ha hadd
  go_enter Tryz.func35, Tryz.ntmps35
  go_upto_region 1 with (fail)
  clear c0
  refine wp_region_ext_tail 11 (by kernel_rfl) (by kernel_rfl) ?_
  simp only [List.take_succ_cons, List.take_zero, List.drop_succ_cons, List.drop_zero]
  repeat (go_big_quiet_step (fail))
  refine wpQuiet_nil ?_
  rintro W ⟨⟨W2, hW⟩, rfl⟩
  clear x1 x2 xg
  have hadd := HADD.out _ hW
  have HW := Lib.hid hW
  clear hW
  go_upto_region 2 with (go_at_call 105; refine hadd.mono ?_; intro e w3 hh; obtain ⟨hh1, h3, f3⟩ := hh; subst hh1; have H3 := Lib.hid h3; have F3 : Hid (Fr rTy false w w3) := (below_fr HW.out _ _).trans f3; clear h3 f3 hadd)
  have hz3 := F3.out.cells _ _ _ _ H1.out rfl
  have hrow3 := own_fr H2.out F3.out rfl
  have HZ3 := Lib.hid hz3; have HR3 := Lib.hid hrow3
  have y2 := hcell hz3 2
  have yf := hfrz hz3 2
  clear hz3 hrow3
  have hz4 : (w3.setCell ⟨rb, 2, none⟩ (.int .i64 ((at_ : Int) + 1))).heap[rb]? = some (.cells #[.int .i64 1, .slice (some ⟨g, 0, none⟩) all.length cap, .int .i64 ((at_ : Int) + 1)] 98 (0, 0)) := setCell_same HZ3.out 2 _
  have h4 := rd_set (o := 2) H3.out HZ3.out rfl hlo (.int .i64 ((at_ : Int) + 1))
  have f4 : Fx rTy false rb w (w3.setCell ⟨rb, 2, none⟩ (.int .i64 ((at_ : Int) + 1))) := (F3.out.fx rb).trans (set_fx _ _ _ _ _ _)
  have r4 := own_fr HR3.out (set_ty HZ3.out 2 (.int .i64 ((at_ : Int) + 1))) rfl
  have HZ4 := Lib.hid hz4; have H4 := Lib.hid h4; have F4 := Lib.hid f4; have R4 := Lib.hid r4
  clear hz4 h4 f4 r4
  go_upto_region 3 with (fail)
  clear y2 yf
  generalize w3.setCell ⟨rb, 2, none⟩ (.int .i64 ((at_ : Int) + 1)) = W4 at *
  have z1 : ∀ st : ExtW W4, st.val.cell? ⟨rb, 1, none⟩ = some (.slice (some ⟨g, 0, none⟩) all.length cap) := fun st => st.cell (hcell HZ4.out 1)
  have z2 : ∀ st : ExtW W4, st.val.cell? ⟨rb, 2, none⟩ = some (.int .i64 ((at_ : Int) + 1)) := fun st => st.cell (hcell HZ4.out 2)
  refine wp_region_ext (by kernel_rfl) (by kernel_rfl) ?_
  repeat (go_big_quiet_step (fail))
  refine wpQuiet_nil ?_
  rintro W5 ⟨⟨W6, hW5⟩, rfl⟩
  clear z1 z2
  have h5 := H4.out.keep hW5
  have hz5 := (hW5.block _ (Array.getElem?_eq_some_iff.1 HZ4.out).1).trans HZ4.out
  have r5 := own_fr R4.out (below_fr hW5 (fun _ => false) false) rfl
  have f5 := F4.out.trans ((below_fr hW5 rTy false).fx rb)
  have HZ5 := Lib.hid hz5; have H5 := Lib.hid h5; have F5 := Lib.hid f5; have R5 := Lib.hid r5
  have c0 := hcell hz5 0
  have cf := hfrz hz5 0
  clear hz5 h5 f5 r5 hW5 H4 HZ4 R4 F4 HZ3 HR3 H3 F3
  by_cases hl : at_ + 1 = all.length
  · have d0 : ((at_ : Int) + 1 == (all.length : Int)) = true := beq_iff_eq.2 (by omega)
    have HLL := Lib.hid hl
    clear hl hat' hal
    go_wp2
    go_end0
    refine ⟨rfl, rd_set (o := 0) H5.out HZ5.out rfl hlo _, ⟨_, ?_, own_fr R5.out (set_ty HZ5.out 0 (.int .i64 0)) rfl⟩, F5.out.trans (set_fx _ _ _ _ _ _)⟩
    rw [if_neg (by have := HLL.out; omega)]
    exact setCell_same HZ5.out 0 (.int .i64 0)
  · have d0 : ((at_ : Int) + 1 == (all.length : Int)) = false := beq_eq_false_iff_ne.2 (by omega)
    have HLL := Lib.hid hl
    clear hl hat' hal
    go_wp2
    go_end0
    refine ⟨rfl, H5.out, ⟨_, ?_, R5.out⟩, F5.out⟩
    rw [if_pos (by have := HLL.out; have := HAT.out; omega)]
    exact HZ5.out
end Go.Proofs.YtjfocckdbaaimaaGreat

/-
  StripesPlay: what stands between two acts.
-/
namespace Go.Proofs.YtjfocckdbaaimaaGreat
open Go.RowKit Go.Maps
set_option linter.unusedVariables false

structure Mk where
  mb : Nat
  rb : Nat
  all : List Int
  at_ : Nat
def Mk.vals (o : Mk) : List Value := [.pointer (some ⟨o.mb, 0, none⟩), .pointer (some ⟨o.rb, 0, none⟩)]
structure Mk.ok (w : World) (base : Nat) (o : Mk) : Prop where
  p : MarkAt w o.mb (o.all.drop o.at_)
  r : RMarkAt w base o.rb o.all o.at_
  le : o.at_ ≤ o.all.length
  few : o.all.length ≤ 1000
  wf : ∀ a ∈ o.all, (Lit.int .u64 a).wf = true
  lom : base ≤ o.mb
  lor : base ≤ o.rb
def kTy (T : TypeId) : Bool := wrTy T || T == 95 || T == 41
/-- Of the old blocks only such of some types, and two Marks, have turned. -/
structure Tw (x y : Nat) (w w' : World) : Prop where
  size : w.heap.size ≤ w'.heap.size
  cells : ∀ (k : Nat) (cs : Array Value) (T : TypeId) (fr : Nat × Nat), w.heap[k]? = some (.cells cs T fr) → kTy T = false → (T = 222 → k ≠ x) → (T = 98 → k ≠ y) → w'.heap[k]? = some (.cells cs T fr)
theorem Tw.trans {x y : Nat} {a b c : World} (h : Tw x y a b) (k : Tw x y b c) : Tw x y a c :=
  ⟨Nat.le_trans h.size k.size, fun i cs T fr hi hT h1 h2 => k.cells i cs T fr (h.cells i cs T fr hi hT h1 h2) hT h1 h2⟩
theorem Below.tw {w w' : World} (h : Below w.heap.size w w') (x y : Nat) : Tw x y w w' := ⟨h.size, fun k cs T fr hk _ _ _ => (h.block k (Array.getElem?_eq_some_iff.1 hk).1).trans hk⟩
theorem Fr.tw {K : TypeId → Bool} {mp : Bool} {w w' : World} (h : Fr K mp w w') (hK : ∀ T, kTy T = false → K T = false) (x y : Nat) : Tw x y w w' := ⟨h.size, fun k cs T fr hk hT _ _ => h.cells k cs T fr hk (hK T hT)⟩
theorem kTy_parts {T : TypeId} (h : kTy T = false) : wTy T = false ∧ rTy T = false ∧ (T == 95) = false ∧ (T == 41) = false := by
  unfold kTy wrTy at h; simp only [Bool.or_eq_false_iff] at h; exact ⟨h.1.1.1, h.1.1.2, h.1.2, h.2⟩
theorem cell_ty {w : World} {k : Nat} {cs cs' : Array Value} {T T' : TypeId} {fr fr' : Nat × Nat} (h : w.heap[k]? = some (.cells cs T fr)) (h' : w.heap[k]? = some (.cells cs' T' fr')) : T = T' := by
  have := h.symm.trans h'; simp only [Option.some.injEq, Obj.cells.injEq] at this; exact this.2.1
theorem Fx.twP {mp : Bool} {x y : Nat} {w w' : World} {cs : Array Value} {fr : Nat × Nat} (h : Fx wTy mp x w w') (hx : w.heap[x]? = some (.cells cs 222 fr)) : Tw x y w w' :=
  ⟨h.size, fun k c T f hk hT h1 _ => h.cells k c T f hk (kTy_parts hT).1 (fun e => by subst e; exact h1 (cell_ty hk hx) rfl)⟩
theorem Fx.twR {mp : Bool} {x y : Nat} {w w' : World} {cs : Array Value} {fr : Nat × Nat} (h : Fx rTy mp y w w') (hx : w.heap[y]? = some (.cells cs 98 fr)) : Tw x y w w' :=
  ⟨h.size, fun k c T f hk hT _ h1 => h.cells k c T f hk (kTy_parts hT).2.1 (fun e => by subst e; exact h1 (cell_ty hk hx) rfl)⟩
theorem own_tw {x y : Nat} {w w' : World} {base size n : Nat} {v : Value} {xs : List Value} (h : w.ownsRow base 44 size v n xs) (hf : Tw x y w w') : w'.ownsRow base 44 size v n xs := by
  obtain ⟨h1, h2 | ⟨g, cap, cur, hv, hb1, hg, r⟩⟩ := h
  · exact ⟨h1, .inl h2⟩
  · exact ⟨h1, .inr ⟨g, cap, cur, hv, hb1, hf.cells _ _ _ _ hg rfl (fun e => absurd e (by decide)) (fun e => absurd e (by decide)), r⟩⟩
theorem Sl.tw {x y : Nat} {w w' : World} {v : Value} {xs : List Int} (h : Sl w v xs) (hf : Tw x y w w') : Sl w' v xs := by
  rcases h with h | ⟨g, off, cur, rfl, h3, h4⟩
  · exact .inl h
  · exact .inr ⟨g, off, cur, rfl, hf.cells _ _ _ _ h3 rfl (fun e => absurd e (by decide)) (fun e => absurd e (by decide)), h4⟩
theorem MarkAt.tw {x y : Nat} {w w' : World} {mb : Nat} {xs : List Int} (h : MarkAt w mb xs) (hf : Tw x y w w') (hx : mb ≠ x) : MarkAt w' mb xs := by
  obtain ⟨v, h3, h4⟩ := h
  exact ⟨v, hf.cells _ _ _ _ h3 rfl (fun _ => hx) (fun e => absurd e (by decide)), h4.tw hf⟩
theorem RMarkAt.tw {x y : Nat} {w w' : World} {base rb : Nat} {all : List Int} {at_ : Nat} (h : RMarkAt w base rb all at_) (hf : Tw x y w w') (hy : rb ≠ y) : RMarkAt w' base rb all at_ := by
  obtain ⟨v, h3, h4⟩ := h
  exact ⟨v, hf.cells _ _ _ _ h3 rfl (fun e => absurd e (by decide)) (fun _ => hy), own_tw h4 hf⟩
theorem Mk.ok.tw {x y : Nat} {w w' : World} {base : Nat} {o : Mk} (h : o.ok w base) (hf : Tw x y w w') (hx : o.mb ≠ x) (hy : o.rb ≠ y) : o.ok w' base :=
  ⟨h.p.tw hf hx, h.r.tw hf hy, h.le, h.few, h.wf, h.lom, h.lor⟩
theorem Mk.ok.below {w w' : World} {base : Nat} {o : Mk} (h : o.ok w base) (hb : Below w.heap.size w w') : o.ok w' base :=
  ⟨h.p.keep hb, h.r.fr (below_fr hb (fun _ => false) false) rfl rfl, h.le, h.few, h.wf, h.lom, h.lor⟩
theorem Mk.ok.base {w : World} {base base' : Nat} {o : Mk} (h : o.ok w base) (hb : base' ≤ base) : o.ok w base' := by
  obtain ⟨v, h3, h4, h5 | ⟨g, cap, cur, hv, hb1, r⟩⟩ := h.r
  · exact ⟨h.p, ⟨v, h3, h4, .inl h5⟩, h.le, h.few, h.wf, Nat.le_trans hb h.lom, Nat.le_trans hb h.lor⟩
  · exact ⟨h.p, ⟨v, h3, h4, .inr ⟨g, cap, cur, hv, Nat.le_trans hb hb1, r⟩⟩, h.le, h.few, h.wf, Nat.le_trans hb h.lom, Nat.le_trans hb h.lor⟩
theorem Mk.ok.ltm {w : World} {base : Nat} {o : Mk} (h : o.ok w base) : o.mb < w.heap.size := h.p.lt
theorem Mk.ok.ltr {w : World} {base : Nat} {o : Mk} (h : o.ok w base) : o.rb < w.heap.size := by obtain ⟨v, h1, _⟩ := h.r; exact (Array.getElem?_eq_some_iff.1 h1).1

structure MPS (w0 w : World) (B R : WB) (q : Nat) (V : WV) (s : CS) (x : RS) (m : Nat) (L : List Mk) (v : Value) : Prop where
  pr : Pr w0 w B R V s x
  far : Far s x m
  nts : V.nts = [] ∧ V.its.length ≤ 40
  pq : w.heap[q]? = some (.cells #[.pointer (some ⟨B.wb, 0, none⟩), .pointer (some ⟨R.wb, 0, none⟩)] 34 (0, 0))
  row : w.ownsRow w0.heap.size 95 2 v L.length (L.flatMap Mk.vals)
  ops : ∀ o ∈ L, o.ok w w0.heap.size
  dist : ∀ i j (hi : i < L.length) (hj : j < L.length), i ≠ j → (L[i]).mb ≠ (L[j]).mb ∧ (L[i]).rb ≠ (L[j]).rb
section
variable {w0 w w' : World} {B R : WB} {q : Nat} {V : WV} {s s' : CS} {x x' : RS} {m m' : Nat} {L : List Mk} {v : Value}
theorem MPS.below (h : MPS w0 w B R q V s x m L v) (hb : Below w.heap.size w w') : MPS w0 w' B R q V s x m L v :=
  ⟨h.pr.keep hb, h.far, h.nts, (hb.block _ (Array.getElem?_eq_some_iff.1 h.pq).1).trans h.pq, own_fr h.row (below_fr hb (fun _ => false) false) rfl, fun o ho => (h.ops o ho).below hb, h.dist⟩
theorem MPS.le (h : MPS w0 w B R q V s x m L v) (hm : m ≤ m') : MPS w0 w B R q V s x m' L v :=
  ⟨h.pr, ⟨Nat.le_trans h.far.1 hm, Nat.le_trans h.far.2.1 hm, Nat.le_trans h.far.2.2 hm⟩, h.nts, h.pq, h.row, h.ops, h.dist⟩
theorem MPS.world (h : MPS w0 w B R q V s x m L v) (hp : Pr w0 w' B R V s' x') (hk : Far s' x' m') (hf : Fr wrTy true w w') : MPS w0 w' B R q V s' x' m' L v := by
  have hw : ∀ T, kTy T = false → wrTy T = false := fun T hT => by unfold wrTy; rw [(kTy_parts hT).1, (kTy_parts hT).2.1]; rfl
  refine ⟨hp, hk, h.nts, hf.cells _ _ _ _ h.pq rfl, own_fr h.row hf rfl, fun o ho => ?_, h.dist⟩
  have ho := h.ops o ho
  exact ho.tw (x := w.heap.size) (y := w.heap.size) (hf.tw hw _ _) (Nat.ne_of_lt ho.ltm) (Nat.ne_of_lt ho.ltr)
theorem flatMap_set (L : List Mk) (j : Nat) (hj : j < L.length) (o : Mk) (e1 : o.mb = (L[j]).mb) (e2 : o.rb = (L[j]).rb) : (L.set j o).flatMap Mk.vals = L.flatMap Mk.vals := by
  induction L generalizing j with
  | nil => rfl
  | cons a L ih =>
    cases j with
    | zero => simp only [List.set_cons_zero, List.flatMap_cons, Mk.vals]; simp only [List.getElem_cons_zero] at e1 e2; rw [e1, e2]
    | succ j => simp only [List.set_cons_succ, List.flatMap_cons]; rw [ih j (by simpa using hj) (by simpa using e1) (by simpa using e2)]
theorem MPS.step (h : MPS w0 w B R q V s x m L v) (j : Nat) (hj : j < L.length) (o : Mk) (e1 : o.mb = (L[j]).mb) (e2 : o.rb = (L[j]).rb) (hp : Pr w0 w' B R V s' x') (hk : Far s' x' m') (ho : o.ok w' w0.heap.size) (hr : w'.ownsRow w0.heap.size 95 2 v L.length (L.flatMap Mk.vals))
    (hq : w'.heap[q]? = some (.cells #[.pointer (some ⟨B.wb, 0, none⟩), .pointer (some ⟨R.wb, 0, none⟩)] 34 (0, 0))) (hf : Tw (L[j]).mb (L[j]).rb w w') : MPS w0 w' B R q V s' x' m' (L.set j o) v := by
  have hget : ∀ i (hi : i < (L.set j o).length), ((L.set j o)[i]).mb = (L[i]'(by simpa using hi)).mb ∧ ((L.set j o)[i]).rb = (L[i]'(by simpa using hi)).rb := fun i hi => by
    rw [List.getElem_set]
    split
    · rename_i e; subst e; exact ⟨e1, e2⟩
    · exact ⟨rfl, rfl⟩
  refine ⟨hp, hk, h.nts, hq, by rw [List.length_set, flatMap_set L j hj o e1 e2]; exact hr, fun o' ho' => ?_, fun a b ha hb hab => ?_⟩
  · obtain ⟨i, hi, rfl⟩ := List.mem_iff_getElem.1 ho'
    rw [List.getElem_set]
    split
    · exact ho
    · rename_i hne
      have hi' : i < L.length := by simpa using hi
      have d := h.dist i j hi' hj (fun e => hne e.symm)
      exact (h.ops _ (List.getElem_mem hi')).tw hf d.1 d.2
  · rw [(hget a ha).1, (hget a ha).2, (hget b hb).1, (hget b hb).2]
    exact h.dist a b (by simpa using ha) (by simpa using hb) hab
theorem MPS.push {wF : World} {o : Mk} {v' : Value} (h : MPS w0 w B R q V s x m L v) (hb : Below w.heap.size w wF) (ho : o.ok wF w.heap.size) (hr : w'.ownsRow w0.heap.size 95 2 v' (L.length + 1) (L.flatMap Mk.vals ++ o.vals)) (hf : Fr (fun T => T == 95) false wF w') (hB : Below w0.heap.size w0 w') : MPS w0 w' B R q V s x m (L ++ [o]) v' := by
  have hF := h.below hb
  have hopw : ∀ T, wrTy T = true → (T == 95) = false := fun T hT => by
    cases hc : (T == 95)
    · rfl
    · rw [beq_iff_eq] at hc; subst hc; cases hT
  have hk : ∀ T, kTy T = false → (T == 95) = false := fun T hT => (kTy_parts hT).2.2.1
  have hlo : w0.heap.size ≤ w.heap.size := h.pr.ws.below.size
  have ok' : ∀ o' : Mk, o'.ok wF w0.heap.size → o'.ok w' w0.heap.size := fun o' ho' => ho'.tw (x := wF.heap.size) (y := wF.heap.size) (hf.tw hk _ _) (Nat.ne_of_lt ho'.ltm) (Nat.ne_of_lt ho'.ltr)
  refine ⟨⟨hF.pr.ws.fr hf (fun T hT => hopw T (by unfold wrTy; rw [hT]; rfl)) hB, hF.pr.rd.fr hf (fun T hT => hopw T (by unfold wrTy; rw [hT]; simp)) hB, h.pr.al⟩, h.far, h.nts, hf.cells _ _ _ _ hF.pq rfl, ?_, fun o' ho' => ?_, fun a b ha hb hab => ?_⟩
  · rw [List.length_append, List.flatMap_append]; simpa using hr
  · rcases List.mem_append.1 ho' with h1 | h1
    · exact ok' _ (hF.ops _ h1)
    · simp only [List.mem_singleton] at h1; subst h1; exact ok' _ (ho.base hlo)
  · have old : ∀ i (hi : i < L.length), (L[i]).mb < w.heap.size ∧ (L[i]).rb < w.heap.size := fun i hi => ⟨(h.ops _ (List.getElem_mem hi)).ltm, (h.ops _ (List.getElem_mem hi)).ltr⟩
    simp only [List.length_append, List.length_singleton] at ha hb
    by_cases a1 : a < L.length <;> by_cases b1 : b < L.length
    · rw [List.getElem_append_left a1, List.getElem_append_left b1]; exact h.dist a b a1 b1 hab
    · obtain rfl : b = L.length := by omega
      rw [List.getElem_append_left a1, List.getElem_append_right (Nat.le_refl _)]
      have := old a a1; have h1 := ho.lom; have h2 := ho.lor
      simp only [Nat.sub_self, List.getElem_cons_zero]; omega
    · obtain rfl : a = L.length := by omega
      rw [List.getElem_append_left b1, List.getElem_append_right (Nat.le_refl _)]
      have := old b b1; have h1 := ho.lom; have h2 := ho.lor
      simp only [Nat.sub_self, List.getElem_cons_zero]; omega
    · omega
end
theorem vals_at (L : List Mk) (k : Nat) (hk : k < L.length) (j : Nat) (hj : j < 2) : (L.flatMap Mk.vals)[k * 2 + j]? = ((L[k]).vals)[j]? := by
  induction L generalizing k with
  | nil => simp at hk
  | cons a L ih =>
    rw [List.flatMap_cons]
    cases k with
    | zero => rw [List.getElem?_append_left (by simp [Mk.vals]; omega)]; simp
    | succ k =>
      rw [List.getElem?_append_right (by simp [Mk.vals]; omega)]
      have := ih k (by simpa using hk)
      simp only [List.getElem_cons_succ]
      rw [← this]; congr 1; simp [Mk.vals]; omega
theorem MPS.at {w0 w : World} {B R : WB} {q : Nat} {V : WV} {s : CS} {x : RS} {m : Nat} {L : List Mk} {v : Value} (h : MPS w0 w B R q V s x m L v) (k : Nat) (hk : k < L.length) : ∃ g cap, v = .slice (some ⟨g, 0, none⟩) L.length cap ∧ w.cell? ⟨g, k * 2, none⟩ = some (.pointer (some ⟨(L[k]).mb, 0, none⟩)) ∧ w.cell? ⟨g, k * 2 + 1, none⟩ = some (.pointer (some ⟨(L[k]).rb, 0, none⟩)) := by
  obtain ⟨h1, ⟨h2, h0⟩ | ⟨g, cap', cur, hv, hb, hg, hn, hm, hs, ht⟩⟩ := h.row
  · omega
  · have key : ∀ j, j < 2 → w.cell? ⟨g, k * 2 + j, none⟩ = ((L[k]).vals)[j]? := fun j hj => by
      rw [hcell hg, ← vals_at L k hk j hj, ← ht, List.getElem?_take, if_pos (by omega)]; simp
    exact ⟨g, cap', hv, key 0 (by omega), key 1 (by omega)⟩
end Go.Proofs.YtjfocckdbaaimaaGreat

/-
  StripesPlay: a Mark begins, on both sides.
-/
namespace Go.Proofs.YtjfocckdbaaimaaGreat
open Go.RowKit Go.Maps
set_option linter.unusedVariables false

theorem vstep_wf {out : List Int} (p : Int × Int) (h : ∀ a ∈ out, (Lit.int .u64 a).wf = true) : ∀ a ∈ vstep out p, (Lit.int .u64 a).wf = true := by
  unfold vstep
  split
  · exact h
  · split
    · exact h
    · intro a ha
      rcases List.mem_append.1 ha with h1 | h1
      · exact h a h1
      · simp only [List.mem_singleton] at h1; subst h1; exact ver_wf _ _
theorem vof_wf' (l : List (Int × Int)) : ∀ a ∈ vof l, (Lit.int .u64 a).wf = true := by
  have key : ∀ (l : List (Int × Int)) (out : List Int), (∀ a ∈ out, (Lit.int .u64 a).wf = true) → ∀ a ∈ l.foldl vstep out, (Lit.int .u64 a).wf = true := by
    intro l
    induction l with
    | nil => intro out h; exact h
    | cons p l ih => intro out h; exact ih _ (vstep_wf p h)
  exact key l [] (by simp)
theorem own_blk {w : World} {base e size n : Nat} {v : Value} {xs : List Value} (h : w.ownsRow base e size v n xs) : ∃ a cap g, v = .slice a n cap ∧ (0 < n → a = some ⟨g, 0, none⟩ ∧ base ≤ g ∧ ∃ cur, w.heap[g]? = some (.cells cur e (0, 0)) ∧ n * size ≤ cur.size) := by
  obtain ⟨h1, ⟨rfl, h0⟩ | ⟨g, cap, cur, rfl, hb, hg, hn, hm, hs, ht⟩⟩ := h
  · exact ⟨none, 0, 0, by rw [h0], fun h => by omega⟩
  · refine ⟨_, cap, g, rfl, fun _ => ⟨rfl, hb, cur, hg, ?_⟩⟩
    have := congrArg List.length ht
    rw [List.length_take] at this
    simp only [Array.length_toList] at this
    omega
theorem RMarkAt.base {w : World} {base base' rb at_ : Nat} {all : List Int} (h : RMarkAt w base rb all at_) (hb : base' ≤ base) : RMarkAt w base' rb all at_ := by
  obtain ⟨v, h3, h4, h5 | ⟨g, cap, cur, hv, hb1, r⟩⟩ := h
  · exact ⟨v, h3, h4, .inl h5⟩
  · exact ⟨v, h3, h4, .inr ⟨g, cap, cur, hv, Nat.le_trans hb hb1, r⟩⟩
set_option maxRecDepth 10000 in
set_option maxHeartbeats 2000000 in
theorem mbegin_any (l : List (Int × Int)) (ao : Option Addr) (cap : Nat) (w : World) (h : Plc w ao cap l) (hsz : l.length ≤ 20) : Calls Tryz.prog 32 #[.slice ao l.length cap] w
    fun e w' => ∃ mb rb, e = .returned (.agg #[.pointer (some ⟨mb, 0, none⟩), .pointer (some ⟨rb, 0, none⟩)]) ∧ Mk.ok w' w.heap.size ⟨mb, rb, vof l, 0⟩ ∧ Below w.heap.size w w' := by
  have hb1 := below_alloc w (.cells #[.pointer none, .pointer none] 95)
  have hz1 := heap_alloc_new w (.cells #[.pointer none, .pointer none] 95)
  have h1 := h.below hb1
  have HB1 := Lib.hid hb1; have HZ1 := Lib.hid hz1; have HP := Lib.hid h1; have HSZ := Lib.hid hsz
  clear h hb1 hz1 h1
  go_enter Tryz.func32, Tryz.ntmps32
  go_upto_region 1 with (fail)
  change Code.wp _ _ _ _ (w.alloc (.cells #[.pointer none, .pointer none] 95))
  generalize w.alloc (.cells #[.pointer none, .pointer none] 95) = w1 at *
  have hp := HP.out
  go_upto_region 2 with (at_builtin; refine append_places rfl _ _ rfl l _ _ rfl rfl hp (by omega) ?_)
  intro v' w2 hown hB2
  obtain ⟨a1, cap1, g, rfl, hg⟩ := own_blk hown
  obtain ⟨a1', cap1', hv, hp1⟩ := Plc.of_own hown
  simp only [Value.slice.injEq, true_and] at hv
  obtain ⟨rfl, rfl⟩ := hv
  have hnm := newmark_any l a1 cap1 w2 hp1 (by omega)
  have HB2 := Lib.hid hB2; have HG := Lib.hid hg
  clear hown hB2 hg hp1 hp
  go_upto_region 3 with (go_at_call 29; refine hnm.mono ?_; intro e w3 hh; obtain ⟨mb, hh1, hM, hlo, hb3⟩ := hh; subst hh1; have HM := Lib.hid hM; have HLO := Lib.hid hlo; have HB3 := Lib.hid hb3; clear hM hlo hb3 hnm)
  go_wp2_with fail
  go_loopw [5] (fun i wr => ∃ k : Nat, k ≤ l.length ∧ i = .int .i64 k ∧ Fr (fun T => T == 41) false w3 wr ∧ Below w1.heap.size w1 wr ∧ (0 < l.length → ∃ cur : Array Value, wr.heap[g]? = some (.cells cur 41 (0, 0)) ∧ l.length * 2 ≤ cur.size)) (fun i _ => l.length - (intOf i).toNat)
  case atStart =>
    refine ⟨0, by omega, rfl, Fr.refl _ _ _, HB2.out.trans (HB3.out.mono HB2.out.size), fun h0 => ?_⟩
    obtain ⟨-, -, cur, h1, h2⟩ := HG.out h0
    exact ⟨cur, (HB3.out.block _ (Array.getElem?_eq_some_iff.1 h1).1).trans h1, h2⟩
  case round =>
    obtain ⟨k, hk, rfl, hf, hbw, hcur⟩ := hrel
    by_cases hlt : k < l.length
    · have hlt' : (k : Int) < l.length := by omega
      obtain ⟨e1, hbg, -⟩ := HG.out (by omega)
      subst e1
      obtain ⟨cur, h1, h2⟩ := hcur (by omega)
      have c0 : wr.cell? ⟨g, k * 2, none⟩ = some cur[k * 2] := (hcell h1 _).trans (Array.getElem?_eq_getElem (by omega))
      have c1 : wr.cell? ⟨g, k * 2 + 1, none⟩ = some cur[k * 2 + 1] := (hcell h1 _).trans (Array.getElem?_eq_getElem (by omega))
      have f0 := hfrz h1 (k * 2)
      have f1 := hfrz h1 (k * 2 + 1)
      have H1 := Lib.hid h1; have H2 := Lib.hid h2; have HF := Lib.hid hf; have HBW := Lib.hid hbw; have HBG := Lib.hid hbg
      generalize cur[k * 2] = u0 at *
      generalize cur[k * 2 + 1] = u1 at *
      clear h1 h2 hf hbw hcur hbg
      go_wp2_with fail
      go_roundw
      case rel =>
        have s1 := setCell_same H1.out (k * 2) (.int .i64 3)
        refine ⟨k + 1, by omega, by go_num, (HF.out.trans (set_ty H1.out (k * 2) (.int .i64 3))).trans (set_ty s1 (k * 2 + 1) (.int .i64 k)), ?_, fun _ => ⟨_, setCell_same s1 (k * 2 + 1) (.int .i64 k), by simpa using H2.out⟩⟩
        have b1 := set_below HBW.out HBW.out.size HBG.out (k * 2) (.int .i64 3)
        exact set_below b1 b1.size HBG.out (k * 2 + 1) (.int .i64 k)
      case measure => simp [intOf]; omega
    · obtain rfl : k = l.length := by omega
      have hnr := rnewmark_any l ao cap wr (HP.out.below hbw) (by omega)
      have hM : MarkAt wr mb (vof l) := HM.out.fr hf rfl rfl
      have hlt1 : w.heap.size < w1.heap.size := (Array.getElem?_eq_some_iff.1 HZ1.out).1
      have hzr := (hbw.block _ hlt1).trans HZ1.out
      have HM2 := Lib.hid hM; have HZR := Lib.hid hzr; have HBW := Lib.hid hbw
      have HLO2 : Hid (w.heap.size ≤ mb) := Nat.le_trans HB1.out.size (Nat.le_trans HB2.out.size HLO.out)
      clear hf hbw hcur hM hzr hlt
      go_wp2_with (go_at_call 102; refine hnr.mono ?_; intro e w5 hh; obtain ⟨rb, hh1, hR, hlor, hb5⟩ := hh; subst hh1; have hz5 := (hb5.block _ (Array.getElem?_eq_some_iff.1 HZR.out).1).trans HZR.out; have y0 := hcell hz5 0; have y1 := hcell hz5 1; have yf := hfrz hz5; have HR := Lib.hid hR; have HLR := Lib.hid hlor; have HB5 := Lib.hid hb5; have HZ5 := Lib.hid hz5; clear hR hlor hb5 hz5 hnr)
      have s1 := setCell_same HZ5.out 0 (.pointer (some ⟨mb, 0, none⟩))
      have s2 := setCell_same s1 1 (.pointer (some ⟨rb, 0, none⟩))
      have k0 := hcell s2 0
      have k1 := hcell s2 1
      have hf : Fr (fun T => T == 95) false w5 ((w5.setCell ⟨w.heap.size, 0, none⟩ (.pointer (some ⟨mb, 0, none⟩))).setCell ⟨w.heap.size, 1, none⟩ (.pointer (some ⟨rb, 0, none⟩))) := (set_ty HZ5.out 0 _).trans (set_ty s1 1 _)
      have hsz1 : w.heap.size ≤ wr.heap.size := Nat.le_trans HB1.out.size HBW.out.size
      have hB5 : Below w.heap.size w w5 := (HB1.out.trans (HBW.out.mono HB1.out.size)).trans (HB5.out.mono hsz1)
      have hB6 := set_below hB5 hB5.size (Nat.le_refl _) 0 (.pointer (some ⟨mb, 0, none⟩))
      have hB7 := set_below hB6 hB6.size (Nat.le_refl _) 1 (.pointer (some ⟨rb, 0, none⟩))
      have hM7 := (HM2.out.keep HB5.out).fr hf rfl rfl
      have hR7 := (HR.out.base hsz1).fr hf rfl rfl
      have hfew : (vof l).length ≤ 1000 := Nat.le_trans (vof_len l) (by omega)
      refine bodyPost_ret (v := .agg #[_, _]) (by simp [results, Tryz.results32, go_sem, k0, k1]) rfl ⟨mb, rb, rfl, ⟨hM7, hR7, Nat.zero_le _, hfew, vof_wf' l, HLO2.out, Nat.le_trans hsz1 HLR.out⟩, hB7⟩
end Go.Proofs.YtjfocckdbaaimaaGreat

/-
  A list of a stripes' acts that came in.
-/
namespace Go.Proofs.YtjfocckdbaaimaaGreat
open Go.RowKit Go.Maps
set_option linter.unusedVariables false

structure SAc where
  k : Int
  a : Int
  pa : Option Addr
  pc : Nat
  pl : List (Int × Int)
  v : Int
  i : Int
def SAc.cells (x : SAc) : List Value := [.int .u8 x.k, .int .u8 x.a, .slice x.pa x.pl.length x.pc, .int .u64 x.v, .int .u64 x.i]
structure SAc.wf (w : World) (x : SAc) : Prop where
  k : (Lit.int .u8 x.k).wf = true
  a : (Lit.int .u8 x.a).wf = true
  p : Plc w x.pa x.pc x.pl
  v : (Lit.int .u64 x.v).wf = true
  i : (Lit.int .u64 x.i).wf = true
theorem plc_of' {w : World} {v : Value} (h : Leaf.holds w (.sl [.int .i64, .int .i64]) v) : ∃ (l : List (Int × Int)) (a : Option Addr) (cap : Nat), v = .slice a l.length cap ∧ Plc w a cap l := by
  obtain ⟨l, a, cap, rfl, h1, h2, h3, h4, h5⟩ := recs_of h
  obtain ⟨m, hm, hp⟩ := list_of (fun i (x : Int × Int) => l[i]? = some [.int .i64 x.1, .int .i64 x.2]) l.length (fun i hi => by
    obtain ⟨c0, r, e0, g0, h⟩ := allHold_cons (h4 _ (List.getElem_mem hi))
    obtain ⟨c1, r, rfl, g1, h⟩ := allHold_cons h
    obtain rfl := allHold_nil h
    obtain ⟨z0, rfl, -⟩ := holds_int g0
    obtain ⟨z1, rfl, -⟩ := holds_int g1
    exact ⟨(z0, z1), by rw [List.getElem?_eq_getElem hi, e0]⟩)
  refine ⟨m, a, cap, by rw [hm], ⟨by omega, h2, h3, ?_⟩⟩
  rcases h5 with rfl | ⟨b, off, rfl, h6⟩
  · exact .inl (List.length_eq_zero_iff.1 hm)
  · refine .inr ⟨b, off, rfl, fun i hi => ?_⟩
    have hi2 : i < l.length := by omega
    have hq := hp i (by omega)
    rw [List.getElem?_eq_getElem hi2, Option.some.injEq] at hq
    have a0 := h6 i hi2 0 (by decide)
    have a1 := h6 i hi2 1 (by decide)
    rw [hq] at a0 a1
    exact ⟨a0, by rw [Nat.add_assoc]; exact a1⟩
def sacLeaves : List Leaf := [.int .u8, .int .u8, .sl [.int .i64, .int .i64], .int .u64, .int .u64]
theorem sac_of {w : World} {cs : List Value} (h : Leaf.allHold w sacLeaves cs) : ∃ x : SAc, cs = x.cells ∧ x.wf w := by
  obtain ⟨c0, r, rfl, g0, h⟩ := allHold_cons h
  obtain ⟨c1, r, rfl, g1, h⟩ := allHold_cons h
  obtain ⟨c2, r, rfl, g2, h⟩ := allHold_cons h
  obtain ⟨c3, r, rfl, g3, h⟩ := allHold_cons h
  obtain ⟨c4, r, rfl, g4, h⟩ := allHold_cons h
  obtain rfl := allHold_nil h
  obtain ⟨n0, rfl, w0⟩ := holds_int g0
  obtain ⟨n1, rfl, w1⟩ := holds_int g1
  obtain ⟨pl, pa, pc, rfl, w2⟩ := plc_of' g2
  obtain ⟨n3, rfl, w3⟩ := holds_int g3
  obtain ⟨n4, rfl, w4⟩ := holds_int g4
  exact ⟨⟨n0, n1, pa, pc, pl, n3, n4⟩, rfl, w0, w1, w2, w3, w4⟩
structure SActs (w : World) (a : Option Addr) (cap : Nat) (l : List SAc) : Prop where
  le : l.length ≤ cap
  most : cap ≤ maxLen
  nil : a = none → cap = 0
  wf : ∀ x ∈ l, x.wf w
  cell : l = [] ∨ ∃ b off, a = some ⟨b, off, none⟩ ∧ ∀ i, (hi : i < l.length) → ∀ j, j < 5 → w.cell? ⟨b, off + (i * 5 + j), none⟩ = (l[i]).cells[j]?
theorem sacts_of {w : World} {a : Option Addr} {n cap : Nat} (h : Leaf.holds w (.sl sacLeaves) (.slice a n cap)) : ∃ l, l.length = n ∧ SActs w a cap l := by
  obtain ⟨l, a', cap', hv, h1, h2, h3, h4, h5⟩ := recs_of h
  simp only [Value.slice.injEq] at hv
  obtain ⟨rfl, rfl, rfl⟩ := hv
  obtain ⟨m, hm, hp⟩ := list_of (fun i (x : SAc) => l[i]? = some x.cells ∧ x.wf w) l.length (fun i hi => by
    obtain ⟨x, hx, hw⟩ := sac_of (h4 _ (List.getElem_mem hi))
    exact ⟨x, by rw [List.getElem?_eq_getElem hi, hx], hw⟩)
  refine ⟨m, hm, by omega, h2, h3, fun x hx => ?_, ?_⟩
  · obtain ⟨i, hi, rfl⟩ := List.mem_iff_getElem.1 hx
    exact (hp i hi).2
  · rcases h5 with rfl | ⟨b, off, rfl, h5⟩
    · left; simpa using hm
    · refine .inr ⟨b, off, rfl, fun i hi j hj => ?_⟩
      have h6 := h5 i (by omega) j hj
      have h7 := (hp i hi).1
      rw [List.getElem?_eq_getElem (by omega)] at h7
      simp only [Option.some.injEq] at h7
      rw [h7] at h6
      exact h6
theorem SActs.at {w : World} {a : Option Addr} {cap : Nat} {l : List SAc} (h : SActs w a cap l) (i : Nat) (hi : i < l.length) :
    ∃ b off x, a = some ⟨b, off, none⟩ ∧ l[i]? = some x ∧ x.wf w ∧ w.cell? ⟨b, off + i * 5, none⟩ = some (.int .u8 x.k) ∧ w.cell? ⟨b, off + i * 5 + 1, none⟩ = some (.int .u8 x.a) ∧ w.cell? ⟨b, off + i * 5 + 2, none⟩ = some (.slice x.pa x.pl.length x.pc) ∧
    w.cell? ⟨b, off + i * 5 + 3, none⟩ = some (.int .u64 x.v) ∧ w.cell? ⟨b, off + i * 5 + 4, none⟩ = some (.int .u64 x.i) := by
  rcases h.cell with rfl | ⟨b, off, rfl, h5⟩
  · simp at hi
  · have h6 := h5 i hi
    refine ⟨b, off, l[i], rfl, List.getElem?_eq_getElem hi, h.wf _ (List.getElem_mem hi), h6 0 (by omega), ?_, ?_, ?_, ?_⟩
    · rw [Nat.add_assoc]; exact h6 1 (by omega)
    · rw [Nat.add_assoc]; exact h6 2 (by omega)
    · rw [Nat.add_assoc]; exact h6 3 (by omega)
    · rw [Nat.add_assoc]; exact h6 4 (by omega)
theorem SActs.below {w w' : World} {a : Option Addr} {cap : Nat} {l : List SAc} (h : SActs w a cap l) (hb : Below w.heap.size w w') : SActs w' a cap l := by
  refine ⟨h.le, h.most, h.nil, fun x hx => ⟨(h.wf x hx).k, (h.wf x hx).a, (h.wf x hx).p.below hb, (h.wf x hx).v, (h.wf x hx).i⟩, h.cell.imp id fun ⟨b, off, e, h5⟩ => ⟨b, off, e, fun i hi j hj => ?_⟩⟩
  have h6 := h5 i hi j hj
  obtain ⟨v, hv⟩ : ∃ v, (l[i]).cells[j]? = some v := by
    match j, hj with
    | 0, _ | 1, _ | 2, _ | 3, _ | 4, _ => exact ⟨_, rfl⟩
  rw [hv] at h6 ⊢
  exact (hb.cell (World.block_lt_of_cell? _ _ h6)).trans h6
end Go.Proofs.YtjfocckdbaaimaaGreat

/-
  StripesPlay: the walk.
-/
namespace Go.Proofs.YtjfocckdbaaimaaGreat
open Go.RowKit Go.Maps
set_option linter.unusedVariables false

theorem ws_beside' {w0 w w' : World} {B : WB} {V : WV} {s : CS} {xb : Nat} {cs : Array Value} {T : TypeId} {fr : Nat × Nat} (h : WS w0 w B V s) (hf : Fx rTy false xb w w') (hb : w.heap[xb]? = some (.cells cs T fr)) (hT : wTy T = false) (hB : Below w0.heap.size w0 w') : WS w0 w' B V s :=
  h.fx hf w_not_r hb hT hB
theorem rd_beside' {w0 w w' : World} {B : WB} {V : WV} {x : RS} {tb : Nat} {cs : Array Value} {T : TypeId} {fr : Nat × Nat} (h : RD w0 w B V x) (hf : Fx wTy true tb w w') (hb : w.heap[tb]? = some (.cells cs T fr)) (hT : rTy T = false) (hB : Below w0.heap.size w0 w') : RD w0 w' B V x :=
  h.fr (hf.fr hb) (fun X hX => by
    simp only [Bool.or_eq_false_iff]
    refine ⟨r_not_w X hX, ?_⟩
    cases hXT : (X == T)
    · rfl
    · rw [beq_iff_eq] at hXT; subst hXT; rw [hX] at hT; cases hT) hB
theorem MPS.fwd {w0 w w8 w9 : World} {B R : WB} {q : Nat} {V : WV} {s s' : CS} {x x' : RS} {m : Nat} {L : List Mk} {v : Value} (h : MPS w0 w B R q V s x m L v) (j : Nat) (hj : j < L.length) (hat : (L[j]).at_ < (L[j]).all.length)
    (f8 : Fx rTy false (L[j]).rb w w8) (h8 : RD w0 w8 R V x') (hR : RMarkAt w8 w0.heap.size (L[j]).rb (L[j]).all ((L[j]).at_ + 1)) (f9 : Fx wTy true (L[j]).mb w8 w9) (h9 : WS w0 w9 B V s') (hM : MarkAt w9 (L[j]).mb ((L[j]).all.drop ((L[j]).at_ + 1)))
    (hal : Alike s' x') (hfar : Far s' x' (m + 1)) : MPS w0 w9 B R q V s' x' (m + 1) (L.set j ⟨(L[j]).mb, (L[j]).rb, (L[j]).all, (L[j]).at_ + 1⟩) v := by
  have ho := h.ops _ (List.getElem_mem hj)
  obtain ⟨vm, hm1, hm2⟩ := ho.p
  obtain ⟨vr, hr1, hr2⟩ := ho.r
  have hmr : (L[j]).mb ≠ (L[j]).rb := fun e => by rw [e] at hm1; exact absurd (cell_ty hm1 hr1) (by decide)
  have hm8 := f8.cells _ _ _ _ hm1 rfl hmr
  have fr8 := f8.fr hr1
  have fr9 := f9.fr hm8
  refine h.step j hj _ rfl rfl ⟨h9, rd_beside' h8 f9 hm8 rfl h9.below, hal⟩ hfar ⟨hM, hR.fr fr9 rfl rfl, hat, ho.few, ho.wf, ho.lom, ho.lor⟩ (own_fr (own_fr h.row fr8 rfl) fr9 rfl) (fr9.cells _ _ _ _ (fr8.cells _ _ _ _ h.pq rfl) rfl) ((f8.twR hr1).trans (f9.twP hm8))
theorem info_mop : (Tryz.prog.info? 95).map (fun i => (i.zero, i.size, i.bytes)) = some (some (.agg #[.pointer none, .pointer none]), 2, 16) := by kernel_rfl
set_option maxRecDepth 100000 in
set_option maxHeartbeats 8000000 in
theorem mplay_any (f : Fst) (l : List SAc) (al : Option Addr) (capl : Nat) (w : World) (hr : FstRd w f) (hl : SActs w al capl l) :
    Calls Tryz.prog 6 #[.agg #[.int .i64 f.c.bits, .int .i64 f.c.budget, .int .i64 f.c.tries, .int .i64 f.c.quantum, .int .i64 f.c.way, .bool f.gr, .slice f.ia f.its.length f.ic, .slice f.pa f.puts.length f.pc, .slice f.sa f.sts.length f.sc, .int .i64 f.ticks], .slice al l.length capl] w
    fun e w' => e = .returned (.bool true) ∧ Below w.heap.size w w' := by
  have hml : l.length ≤ maxLen := Nat.le_trans hl.le hl.most
  unfold maxLen at hml
  obtain ⟨i0, hi0, hi1, hi2, hi3⟩ := info_parts info_mop
  have I0 := Lib.hid hi0; have I1 := Lib.hid hi1; have I2 := Lib.hid hi2; have I3 := Lib.hid hi3
  clear hi0 hi1 hi2 hi3
  have hB := below_alloc w (.cells f.cells 28)
  have z := heap_alloc_new w (.cells f.cells 28)
  have HR := Lib.hid (hr.below hB); have HB := Lib.hid hB; have HZ := Lib.hid z; have HLL := Lib.hid hl
  clear hr hB z hl
  go_enter Tryz.func6, Tryz.ntmps6
  go_upto_region 1 with (fail)
  change Code.wp _ _ _ _ (w.alloc (.cells f.cells 28))
  generalize w.alloc (.cells f.cells 28) = w1 at *
  have z := HZ.out
  obtain ⟨e0, e1, e2, e3, e4, e5, e6, e7, e8, e9⟩ := fst_cells z
  clear z
  by_cases h3 : 200 < l.length
  · have d3 : decide ((200 : Int) < l.length) = true := decide_eq_true (by omega)
    clear h3
    go_upto_if 18 with (go_at_call 11; refine (great_any f w1 HR.out).mono ?_; rintro e w2 ⟨g, rfl, b2, hg⟩; have B2 := Lib.hid b2; clear b2 hg e0 e1 e2 e3 e4 e5 e6 e7 e8 e9; cases g)
    all_goals
      go_wp2_with (go_at_call 26; refine (lives12 _).mono ?_; rintro e w3 ⟨rfl, b3⟩)
      go_ret
      have h1 := HB.out.trans (B2.out.mono HB.out.size)
      exact ⟨rfl, h1.trans (b3.mono h1.size)⟩
  have d3 : decide ((200 : Int) < l.length) = false := decide_eq_false (by omega)
  have HL3 : Hid (l.length ≤ 200) := by show l.length ≤ 200; omega
  clear h3
  go_upto_if 18 with (go_at_call 11; refine (great_any f w1 HR.out).mono ?_; rintro e w2 ⟨g, rfl, b2, hg⟩; have B2 := Lib.hid b2; have HG := Lib.hid hg; clear b2 hg e0 e1 e2 e3 e4 e5 e6 e7 e8 e9; cases g)
  rotate_left
  · go_wp2_with (go_at_call 26; refine (lives12 _).mono ?_; rintro e w3 ⟨rfl, b3⟩)
    go_ret
    have h1 := HB.out.trans (B2.out.mono HB.out.size)
    exact ⟨rfl, h1.trans (b3.mono h1.size)⟩
  obtain ⟨hin, hsz⟩ := HG.out trivial
  have HIN := Lib.hid (hin.below B2.out)
  have hitl : f.its.length ≤ 40 := hin.ni
  have HBB : Hid (Below w.heap.size w w2) := HB.out.trans (B2.out.mono HB.out.size)
  have z := (B2.out.block _ (Array.getElem?_eq_some_iff.1 HZ.out).1).trans HZ.out
  obtain ⟨e0, e1, e2, e3, e4, e5, e6, e7, e8, e9⟩ := fst_cells z
  clear z hin hsz
  go_upto_region 4 with (go_at_call 13; refine (begin_any f w2 HIN.out).mono ?_; rintro e w3 ⟨B, R, V, s, x, rfl, hpr, hV, hfar, -, -⟩; have HPR := Lib.hid hpr; have HFAR := Lib.hid hfar; have HV : Hid (V.nts = [] ∧ V.its.length ≤ 40) := ⟨by rw [hV]; rfl, by rw [hV]; exact hitl⟩; clear hpr hV hfar e0 e1 e2 e3 e4 e5 e6 e7 e8 e9)
  have hq0 := heap_alloc_new w3 (.cells #[.pointer (some ⟨B.wb, 0, none⟩), .pointer (some ⟨R.wb, 0, none⟩)] 34)
  have hB4 := below_alloc w3 (.cells #[.pointer (some ⟨B.wb, 0, none⟩), .pointer (some ⟨R.wb, 0, none⟩)] 34)
  have HPR4 := Lib.hid (HPR.out.keep hB4)
  change Code.wp _ _ _ _ (w3.alloc (.cells #[.pointer (some ⟨B.wb, 0, none⟩), .pointer (some ⟨R.wb, 0, none⟩)] 34))
  generalize w3.alloc (.cells #[.pointer (some ⟨B.wb, 0, none⟩), .pointer (some ⟨R.wb, 0, none⟩)] 34) = w4 at *
  generalize w3.heap.size = q at *
  have HQ4 := Lib.hid hq0
  clear HPR hq0 hB4
  have HMP : Hid (MPS w2 w4 B R q V s x 300 [] (.slice none 0 0)) := ⟨HPR4.out, HFAR.out, HV.out, HQ4.out, World.ownsRow_nil _ _ _ _, fun o ho => (by cases ho), fun i j hi => (by cases hi)⟩
  clear HPR4 HQ4 HFAR HV d3 hitl HIN B2 HG HZ HR HB
  have HLL2 := Lib.hid (HLL.out.below HBB.out)
  clear HLL
  go_wp2_with fail
  go_loopw [6, 7] (fun v i wr => ∃ (k : Nat) (s : CS) (x : RS) (L : List Mk), k ≤ l.length ∧ i = .int .i64 k ∧ MPS w2 wr B R q V s x (300 + k) L v ∧ L.length ≤ k) (fun _ i _ => l.length - (intOf i).toNat)
  case atStart => exact ⟨0, s, x, [], by omega, rfl, HMP.out, by simp⟩
  case round =>
    clear HMP s x
    obtain ⟨i, s, x, L, hi, rfl, hT, hLi⟩ := hrel
    have hl300 := HL3.out
    by_cases hlt : i < l.length
    · have hlt' : (i : Int) < l.length := by omega
      obtain ⟨b, off, y, rfl, hy, hyw, y0, y1, y2, y3, y4⟩ := (HLL2.out.below (w := w2) (w' := wr) hT.pr.ws.below).at i hlt
      have hkb := wf_u8 hyw.k
      obtain ⟨kk, hkk⟩ : ∃ kk : Nat, (kk : Int) = y.k % 8 := ⟨(y.k % 8).toNat, by omega⟩
      have e3 : y.k.tmod 8 = kk := by rw [Int.tmod_eq_emod_of_nonneg hkb.1, hkk]
      have hk10 : kk < 8 := by omega
      have hb1 := below_alloc wr (.cells #[.int .u8 y.k, .int .u8 y.a, .slice y.pa y.pl.length y.pc, .int .u64 y.v, .int .u64 y.i] 92)
      have hz1 := heap_alloc_new wr (.cells #[.int .u8 y.k, .int .u8 y.a, .slice y.pa y.pl.length y.pc, .int .u64 y.v, .int .u64 y.i] 92)
      have HT := Lib.hid (hT.below hb1); have HZ1 := Lib.hid hz1; have HYW := Lib.hid hyw; have HPL := Lib.hid (hyw.p.below hb1)
      clear hb1 hz1 hT hy hyw hkb hkk
      go_upto_block 2 with (fail)
      change Code.wp _ _ _ _ (wr.alloc (.cells #[.int .u8 y.k, .int .u8 y.a, .slice y.pa y.pl.length y.pc, .int .u64 y.v, .int .u64 y.i] 92))
      generalize wr.alloc (.cells #[.int .u8 y.k, .int .u8 y.a, .slice y.pa y.pl.length y.pc, .int .u64 y.v, .int .u64 y.i] 92) = w6 at *
      generalize wr.heap.size = ab at *
      clear y0 y1 y2 y3 y4
      obtain ⟨vo, vcap, rfl⟩ := own_sl2 HT.out.row
      go_cut [6] (fun v wx => ∃ (s : CS) (x : RS) (L : List Mk), MPS w2 wx B R q V s x (300 + (i + 1)) L v ∧ L.length ≤ i + 1)
      case first =>
        have y0 : w6.cell? ⟨ab, 0, none⟩ = some (.int .u8 y.k) := hcell HZ1.out 0
        rcases (show kk < 2 ∨ kk = 2 ∨ 3 ≤ kk by omega) with h5 | rfl | h5
        · -- a Mark begins
          have d0 : decide ((kk : Int) < 2) = true := decide_eq_true (by omega)
          have y2 : w6.cell? ⟨ab, 2, none⟩ = some (.slice y.pa y.pl.length y.pc) := hcell HZ1.out 2
          by_cases hp : 20 < y.pl.length
          · have d1 : decide ((20 : Int) < y.pl.length) = true := decide_eq_true (by omega)
            clear hk10 h5 hp
            go_wp2_with fail
            exact ⟨⟨i + 1, s, x, L, by omega, by go_num, HT.out.le (by omega), by omega⟩, by simp [intOf]; omega⟩
          · have d1 : decide ((20 : Int) < y.pl.length) = false := decide_eq_false (by omega)
            have hmb := mbegin_any y.pl y.pa y.pc w6 HPL.out (by omega)
            clear hk10 h5 hp
            go_upto_region 12 with (go_at_call 32; refine hmb.mono ?_; intro e w7 hh; obtain ⟨mb, rb, hh1, hok, hb7⟩ := hh; subst hh1; have HOK := Lib.hid hok; have HB7 := Lib.hid hb7; clear hok hb7 hmb y0 y2)
            have hb8 := below_alloc w7 (.cells #[.pointer (some ⟨mb, 0, none⟩), .pointer (some ⟨rb, 0, none⟩)] 95)
            have hz8 := heap_alloc_new w7 (.cells #[.pointer (some ⟨mb, 0, none⟩), .pointer (some ⟨rb, 0, none⟩)] 95)
            have HOK8 := Lib.hid (HOK.out.below hb8)
            have HB8 : Hid (Below w6.heap.size w6 (w7.alloc (.cells #[.pointer (some ⟨mb, 0, none⟩), .pointer (some ⟨rb, 0, none⟩)] 95))) := HB7.out.trans (hb8.mono HB7.out.size)
            have HZ8 := Lib.hid hz8
            clear hb8 hz8 HOK HB7
            change Code.wp _ _ _ _ (w7.alloc (.cells #[.pointer (some ⟨mb, 0, none⟩), .pointer (some ⟨rb, 0, none⟩)] 95))
            generalize w7.alloc (.cells #[.pointer (some ⟨mb, 0, none⟩), .pointer (some ⟨rb, 0, none⟩)] 95) = w8 at *
            generalize w7.heap.size = obk at *
            obtain ⟨vr, hr1, hr2⟩ := HOK8.out.r
            have hMk : MarkAt w8 mb (vof y.pl) := HOK8.out.p
            obtain ⟨bo, hbo⟩ : ∃ bo, bo = decide (vof y.pl = []) := ⟨_, rfl⟩
            obtain ⟨ln, hln⟩ : ∃ ln : Int, ln = (if 0 < (vof y.pl).length then 1 else 0) := ⟨_, rfl⟩
            have d2 : (ln == 0) = bo := by
              rw [hln, hbo]
              cases vof y.pl <;> simp
            have x0 : ∀ st : ExtW w8, st.val.cell? ⟨obk, 0, none⟩ = some (.pointer (some ⟨mb, 0, none⟩)) := fun st => st.cell (hcell HZ8.out 0)
            have x1 : ∀ st : ExtW w8, st.val.cell? ⟨obk, 1, none⟩ = some (.pointer (some ⟨rb, 0, none⟩)) := fun st => st.cell (hcell HZ8.out 1)
            have x2 : ∀ st : ExtW w8, st.val.cell? ⟨rb, 0, none⟩ = some (.int .i64 ln) := fun st => st.cell (by rw [hln]; exact hcell hr1 0)
            have m1 : ∀ st : ExtW w8, Calls Tryz.prog 33 #[.pointer (some ⟨mb, 0, none⟩)] st.val fun e w' => e = .returned (.bool bo) ∧ st.val = w' := fun st => by
              rw [hbo]; exact (over_any (hMk.keep st.below)).mono fun e w' ⟨h1, h2⟩ => ⟨h1, h2.symm⟩
            clear hr1 hr2 hMk hbo hln
            refine wp_region_ext (by kernel_rfl) (by kernel_rfl) ?_
            repeat (go_big_quiet_step ((go_at_call 33; with_reducible refine calls_ext_same (m1 _))))
            refine wpQuiet_nil ?_
            rintro W ⟨⟨W2, hW⟩, rfl⟩
            have HZ9 := Lib.hid ((hW.block _ (Array.getElem?_eq_some_iff.1 HZ8.out).1).trans HZ8.out)
            have HOK9 := Lib.hid (HOK8.out.below hW)
            have HB9 : Hid (Below w6.heap.size w6 W) := HB8.out.trans (hW.mono HB8.out.size)
            clear x0 x1 x2 m1 hW HZ8 HOK8 HB8
            have HROW := Lib.hid (HT.out.below HB9.out).row
            have z0 := hcell HZ9.out 0
            have z1 := hcell HZ9.out 1
            have hLL := hLi
            cases bo
            all_goals
              go_wp2_with (at_builtin; refine wpList_append_own _ rfl _ _ 90 rfl w2.heap.size 95 i0 (.agg #[.pointer none, .pointer none]) 2 16 Tryz.underlying90 I0.out I1.out I2.out I3.out rfl (by decide) _ _ _ rfl (HROW.out.alloc _) ⟨W.heap.size, 0, none⟩ 1 1 [.pointer (some ⟨mb, 0, none⟩), .pointer (some ⟨rb, 0, none⟩)] rfl rfl ?c1 ?c2 ?c3 ?c4 ?c5 ?_)
              case c1 => exact World.news_of_block (heap_alloc_new W _)
              case c2 => simp [Value.oneCell']
              case c3 => unfold maxLen; omega
              case c4 => omega
              case c5 => have := (HT.out.below HB9.out).pr.ws.below.size; simp; omega
              intro v' w11 hown' hgrow _
              have hb10 := below_alloc W (.cells #[.pointer (some ⟨mb, 0, none⟩), .pointer (some ⟨rb, 0, none⟩)] 95)
              have hB10 := HB9.out.trans (hb10.mono HB9.out.size)
              have hTb := HT.out.below hB10
              have hB11 := grown_below (HROW.out.alloc _) hgrow hTb.pr.ws.below hTb.pr.ws.below.size (Nat.le_refl _)
              have f11 := grown_ty (HROW.out.alloc _) hgrow
              have hP := HT.out.push (o := ⟨mb, rb, vof y.pl, 0⟩) hB10 (HOK9.out.below hb10) hown' f11 hB11
              have HP := Lib.hid hP
              clear hb10 hB10 hTb hB11 f11 hP hown' hgrow z0 z1
              go_wp2_with fail
              go_meet
              case rel => exact ⟨s, x, L ++ [⟨mb, rb, vof y.pl, 0⟩], HP.out.le (by omega), by simp; omega⟩
        · -- others store
          have y3 : w6.cell? ⟨ab, 3, none⟩ = some (.int .u64 y.v) := hcell HZ1.out 3
          have y4 : w6.cell? ⟨ab, 4, none⟩ = some (.int .u64 y.i) := hcell HZ1.out 4
          have p0 := hcell HT.out.pq 0
          have p1 := hcell HT.out.pq 1
          have hst := pstore_any HT.out.pr (300 + i) HT.out.far (by omega) y.v y.i HYW.out.v HYW.out.i
          go_wp2_with (go_at_call 34; refine hst.mono ?_; intro e w7 hh; obtain ⟨hh1, h7, f7⟩ := hh; subst hh1; have HT7 := Lib.hid (HT.out.world (m' := 300 + (i + 1)) h7 (HT.out.far.acc HT.out.pr.al _ _ _) f7); clear h7 f7 hst p0 p1 y0 y3 y4)
          go_meet
          case rel => exact ⟨_, _, L, HT7.out, by omega⟩
        · -- a step
          have d0 : decide ((kk : Int) < 2) = false := decide_eq_false (by omega)
          have d1 : ((kk : Int) == 2) = false := beq_eq_false_iff_ne.2 (by omega)
          clear h5
          by_cases hL : L.length = 0
          · have d2 : decide ((0 : Int) < L.length) = false := decide_eq_false (by omega)
            have d2n : decide (0 < L.length) = false := decide_eq_false (by omega)
            clear hL
            go_wp2_with fail
            go_meet
            case rel => exact ⟨_, _, L, HT.out.le (by omega), by omega⟩
          · have d2 : decide ((0 : Int) < L.length) = true := decide_eq_true (by omega)
            have d2n : decide (0 < L.length) = true := decide_eq_true (by omega)
            have y1 : w6.cell? ⟨ab, 1, none⟩ = some (.int .u8 y.a) := hcell HZ1.out 1
            have hab := wf_u8 HYW.out.a
            have hlp : (0 : Int) < L.length := by omega
            obtain ⟨j, hj⟩ : ∃ j : Nat, (j : Int) = y.a % L.length := ⟨(y.a % L.length).toNat, by have := Int.emod_nonneg y.a (show (L.length : Int) ≠ 0 by omega); omega⟩
            have hjl : j < L.length := by have := Int.emod_lt_of_pos y.a hlp; omega
            have hjl' : (j : Int) < L.length := by omega
            have e1 : wrap64 y.a = y.a := IntWalk.wrap64_in _ (by omega)
            have e2 : y.a.tmod L.length = j := by rw [Int.tmod_eq_emod_of_nonneg hab.1, hj]
            have e4 : ((L.length : Int) == 0) = false := beq_eq_false_iff_ne.2 (by omega)
            obtain ⟨g, gcap, hv, k0, k1⟩ := HT.out.at j hjl
            simp only [Value.slice.injEq, true_and] at hv
            obtain ⟨rfl, rfl⟩ := hv
            obtain ⟨o, ho⟩ : ∃ o : Mk, o = L[j]'hjl := ⟨_, rfl⟩
            rw [← ho] at k0 k1
            have HO := Lib.hid ho
            have hb7 := below_alloc w6 (.cells #[.pointer (some ⟨o.mb, 0, none⟩), .pointer (some ⟨o.rb, 0, none⟩)] 95)
            have hz7 := heap_alloc_new w6 (.cells #[.pointer (some ⟨o.mb, 0, none⟩), .pointer (some ⟨o.rb, 0, none⟩)] 95)
            have HT7 := Lib.hid (HT.out.below hb7); have HZ7 := Lib.hid hz7
            clear hj hab hb7 hz7 ho hL
            go_upto_region 19 with (fail)
            change Code.wp _ _ _ _ (w6.alloc (.cells #[.pointer (some ⟨o.mb, 0, none⟩), .pointer (some ⟨o.rb, 0, none⟩)] 95))
            generalize w6.alloc (.cells #[.pointer (some ⟨o.mb, 0, none⟩), .pointer (some ⟨o.rb, 0, none⟩)] 95) = w7 at *
            generalize w6.heap.size = obk at *
            clear d0 d1 d2 d2n e1 e2 e4 k0 k1 y0 y1 hlp hjl'
            have hoj := HT7.out.ops _ (List.getElem_mem hjl)
            have z1 := hcell HZ7.out 1
            have p1 := hcell HT7.out.pq 1
            obtain ⟨rm1, rm2⟩ := far_rooms HT7.out.far HT7.out.pr.al (by omega)
            have ho := HO.out
            have hfw := fun (w8 w9 : World) (s' : CS) (x' : RS) => HT7.out.fwd (w8 := w8) (w9 := w9) (s' := s') (x' := x') j hjl
            rw [← ho] at hoj hfw
            have hz7 := HZ7.out
            obtain ⟨vr, hr1, -⟩ := hoj.r
            by_cases hat : o.at_ < o.all.length
            · have hrm := rmstep HT7.out.pr.rd rm2 hoj.lor hoj.r hat hoj.few (hoj.wf _ (List.getElem_mem hat))
              have hd := List.drop_eq_getElem_cons hat
              have hM7 := hoj.p
              rw [hd] at hM7
              have hwa := hoj.wf _ (List.getElem_mem hat)
              have hfw2 := fun w8 w9 s' x' => hfw w8 w9 s' x' hat
              obtain ⟨a, ha⟩ : ∃ a : Int, a = o.all[o.at_]'hat := ⟨_, rfl⟩
              rw [← ha] at hrm hM7 hwa
              rw [← congrFun HT7.out.pr.al.val a] at hrm
              obtain ⟨r, hr⟩ : ∃ r : List Int, r = o.all.drop (o.at_ + 1) := ⟨_, rfl⟩
              rw [← hr] at hM7 hfw2
              obtain ⟨bo, hbo⟩ : ∃ bo, bo = decide (r = []) := ⟨_, rfl⟩
              obtain ⟨ln, hln⟩ : ∃ ln : Int, ln = (if o.at_ + 1 < o.all.length then 1 else 0) := ⟨_, rfl⟩
              have d2 : (ln == 0) = bo := by
                rw [hln, hbo, hr]
                by_cases hq : o.at_ + 1 < o.all.length
                · rw [if_pos hq]
                  have : o.all.drop (o.at_ + 1) ≠ [] := fun hn => by rw [List.drop_eq_nil_iff] at hn; omega
                  simp [this]
                · rw [if_neg hq]
                  have : o.all.drop (o.at_ + 1) = [] := List.drop_eq_nil_iff.2 (by omega)
                  simp [this]
              have HFW := Lib.hid hfw2; have HOJ := Lib.hid hoj; have HM7 := Lib.hid hM7; have HR1 := Lib.hid hr1; have HWA := Lib.hid hwa; have HBO := Lib.hid hbo; have HLN := Lib.hid hln; have RM1 := Lib.hid rm1
              clear hfw hfw2 hoj hd hM7 hwa ha hr hat hr1 hbo hln rm1 rm2 ho HO hz7
              go_upto_region 20 with (go_at_call 35; refine hrm.mono ?_; intro e w8 hh; obtain ⟨hh1, h8, hR8, f8⟩ := hh; subst hh1; have H8 := Lib.hid h8; have HR8 := Lib.hid hR8; have F8 := Lib.hid f8; clear h8 hR8 f8 hrm z1 p1)
              have fr8 := F8.out.fr HR1.out
              have hz8 := fr8.cells _ _ _ _ HZ7.out rfl
              have hp8 := fr8.cells _ _ _ _ HT7.out.pq rfl
              have hw8 := wmstep (ws_beside' HT7.out.pr.ws F8.out HR1.out rfl H8.out.below) RM1.out (HM7.out.fr fr8 rfl rfl) HOJ.out.lom HWA.out
              rw [← show bo = decide (r = []) from HBO.out] at hw8
              obtain ⟨vr8, hr8, -⟩ := HR8.out
              have c0 : w8.cell? ⟨o.rb, 0, none⟩ = some (.int .i64 ln) := by rw [show ln = _ from HLN.out]; exact hcell hr8 0
              have z0 := hcell hz8 0
              have z1 := hcell hz8 1
              have p0 := hcell hp8 0
              have HZ8 := Lib.hid hz8; have HP8 := Lib.hid hp8
              clear fr8 hz8 hp8 hr8
              go_wp2_with (first
                | (go_at_call 36; refine hw8.mono ?_; intro e w9 hh; obtain ⟨hh1, h9, hM9, f9⟩ := hh; subst hh1; have ho9 := over_any hM9; rw [← show bo = decide (r = []) from HBO.out] at ho9; have HT9 := Lib.hid (HFW.out _ _ _ _ F8.out H8.out HR8.out f9 h9 hM9 (HT7.out.pr.al.acc _ _ _) (HT7.out.far.acc HT7.out.pr.al _ _ _)); have hobk := (f9.cells _ _ _ _ HZ8.out rfl (fun e => by subst e; obtain ⟨vm, hm, -⟩ := HM7.out; exact absurd (cell_ty HZ7.out hm) (by decide))); clear z0 z1 p0; have z0 := hcell hobk 0; clear h9 hM9 f9 hw8 hobk c0)
                | (go_at_call 33; refine ho9.mono ?_; intro e w10 hh; obtain ⟨hh1, hh2⟩ := hh; subst hh1; subst hh2))
              go_meet
              case rel => exact ⟨_, _, _, HT9.out.le (by omega), by rw [List.length_set]; omega⟩
            · have he : o.at_ = o.all.length := Nat.le_antisymm hoj.le (Nat.le_of_not_lt hat)
              have hR7 := hoj.r
              rw [he] at hR7
              have hM7 := hoj.p
              rw [List.drop_eq_nil_iff.2 (Nat.le_of_eq he.symm)] at hM7
              have hrm := rmstep0 hR7 (.pointer (some ⟨R.wb, 0, none⟩))
              obtain ⟨vr8, hr8, -⟩ := hR7
              rw [if_neg (Nat.lt_irrefl _)] at hr8
              have c0 := hcell hr8 0
              have hst := mstep_void hM7 (.pointer (some ⟨B.wb, 0, none⟩))
              have hov := over_any hM7
              rw [show decide (([] : List Int) = []) = true from rfl] at hov
              have z0 := hcell hz7 0
              have p0 := hcell HT7.out.pq 0
              clear hfw hoj hat hr1 he hM7 hr8 rm1 rm2 hz7 ho HO
              go_wp2_with (first
                | (go_at_call 35; refine hrm.mono ?_; intro e w8 hh; obtain ⟨hh1, hh2⟩ := hh; subst hh1; subst hh2)
                | (go_at_call 36; refine hst.mono ?_; intro e w9 hh; obtain ⟨hh1, hh2⟩ := hh; subst hh1; subst hh2)
                | (go_at_call 33; refine hov.mono ?_; intro e w10 hh; obtain ⟨hh1, hh2⟩ := hh; subst hh1; subst hh2))
              go_meet
              case rel => exact ⟨_, _, _, HT7.out.le (by omega), by omega⟩
      case rest =>
      clear HT HZ1 HYW HPL e3
      obtain ⟨s', x', L', hT2, hL2⟩ := hcut
      have p0 := hcell hT2.pq 0
      have p1 := hcell hT2.pq 1
      have hps := psame_any hT2.pr
      have HT2 := Lib.hid hT2
      clear hT2
      go_wp2_with (go_at_call 16; refine hps.mono ?_; intro e w9 hh; obtain ⟨hh1, b9⟩ := hh; subst hh1; have HT9 := Lib.hid (HT2.out.below b9); clear hps b9 p0 p1)
      go_roundw
      case rel => exact ⟨i + 1, s', x', L', by omega, by go_num, HT9.out, hL2⟩
      case measure => simp [intOf]; omega
    · obtain rfl : i = l.length := by omega
      have p0 := hcell hT.pq 0
      have p1 := hcell hT.pq 1
      have o6 := psall_any hT.pr hT.nts.1 (by have := hT.nts.2; omega) (by have := hT.far.1; omega)
      have HT := Lib.hid hT
      clear hT hlt
      go_wp2_with (first
        | (go_at_call 14; refine o6.mono ?_; intro e w17 hh; obtain ⟨hh1, b17⟩ := hh; subst hh1; have HB17 := Lib.hid b17; clear o6 b17 p0 p1)
        | (go_at_call 26; refine (lives12 _).mono ?_; rintro e w18 ⟨rfl, b18⟩))
      go_ret
      have h0 := HT.out.pr.ws.below
      have h1 := h0.trans (HB17.out.mono h0.size)
      have h2 := h1.trans (b18.mono h1.size)
      exact ⟨rfl, HBB.out.trans (h2.mono HBB.out.size)⟩
set_option maxRecDepth 10000 in
theorem walkStripesPlay {H1 : Type} (w : World) (enc : TypeId × Value → H1) (base : Nat) (v : Value) (d : DataW H1) (p : List MemPlace) (k : DataW.Trod enc Tryz.prog w 0 (fun _ => true) true 28 v d p) (o : Value.okWide Tryz.prog w .any base 28 v)
    (enc2 : TypeId × Value → H1) (base2 : Nat) (v2 : Value) (d2 : DataW H1) (p2 : List MemPlace) (k2 : DataW.Trod enc2 Tryz.prog w 0 (fun _ => true) true 89 v2 d2 p2) (o2 : Value.okWide Tryz.prog w .any base2 89 v2) :
    Calls Tryz.prog 6 #[v, v2] w fun e w' => e = .returned (.bool true) ∧ Below w.heap.size w w' := by
  have hl : leaves Tryz.prog 6 89 = some [.sl sacLeaves] := by kernel_rfl
  obtain ⟨f, rfl, hr⟩ := fst_open k o
  obtain ⟨a1, n1, cap1, rfl⟩ := Go.WideShapes.okWide_slice Tryz.underlying89 o2
  obtain ⟨l, hll, hac⟩ := sacts_of (opened hl k2).1
  subst hll
  exact mplay_any f l a1 cap1 w hr hac
end Go.Proofs.YtjfocckdbaaimaaGreat
