/-
  Texts of this prover, merged: StripesLives, WorldsFull, StripesOf, StripesNil, Tickets, MarkBoth, MarkRun, MapInt, TwiceLaw, Twice.
-/
import Derived.Test.YthehdcpjlddbpaaGreatMark
import Derived.Test.YthehdcpjlddbpaaGreatWorldLives
import Derived.Test.YthehdcpjlddbpaaGreatOpen
import Derived.Test.YthehdcpjlddbpaaGreatStripesRef
import Derived.Test.YthehdcpjlddbpaaGreatP1
import Derived.Test.YthehdcpjlddbpaaGreatBegin0
import Derived.Test.YthehdcpjlddbpaaGreatMapPtr
import Derived.Laws.AppendOwnNone
import Derived.Laws.EntriesVeiled
import Derived.Maps.Own
import Derived.Maps.RangeWalk
/-
  Layer 12's example.
-/
namespace Go.Proofs.YthehdcpjlddbpaaGreat
open Go.RowKit Go.Maps
set_option linter.unusedVariables false

theorem world12 (b : Int) (hb : 1 ≤ b ∧ b ≤ 12) {w0 w : World} (hB : Below w0.heap.size w0 w) : Calls Tryz.prog 54 #[.int .i64 b] w fun e w' => ∃ wb cb s, e = .returned (.pointer (some ⟨wb, 0, none⟩)) ∧ Wld w0 w' wb cb ⟨b, 8, 3, 1, 16⟩ s ∧ New1 b s ∧ Below w.heap.size w w' := by
  have hn1 : Calls Tryz.prog 62 #[.agg #[.int .i64 b, .int .i64 8, .int .i64 3, .int .i64 1, .int .i64 16]] w fun e w' => ∃ wb cb s, e = .returned (.tuple #[.pointer (some ⟨wb, 0, none⟩), .int .i64 0]) ∧ Wld w0 w' wb cb ⟨b, 8, 3, 1, 16⟩ s ∧ New1 b s ∧ Below w.heap.size w w' :=
    new_wld hB ⟨b, 8, 3, 1, 16⟩ (by simp [Conf.ok]; omega)
  clear hb
  go_enter Tryz.func54, Tryz.ntmps54
  go_wp2_with (go_at_call 62; with_reducible refine hn1.mono ?_; rintro e w1 ⟨wb, cb, s, rfl, h1, n1, b1⟩)
  go_ret
  exact ⟨_, _, s, rfl, h1, n1, b1⟩

/-- Cells behind a Mark's steps. -/
def marked (s : CS) (xs : List Int) : CS := xs.foldl (fun s a => s.acc 4 a (wu (s.val a + 1))) s
theorem marked_le (s : CS) (xs : List Int) (m : Nat) (h : s.n ≤ m ∧ s.cnt ≤ m) : (marked s xs).n ≤ m + xs.length ∧ (marked s xs).cnt ≤ m + xs.length := by
  unfold marked
  induction xs generalizing s m with
  | nil => exact h
  | cons x r ih =>
    have := ih (s.acc 4 x (wu (s.val x + 1))) (m + 1) (room_acc m h)
    simp only [List.foldl_cons, List.length_cons]; omega
theorem marked_take {xs : List Int} {k : Nat} {a : Int} (s : CS) (h : xs[k]? = some a) : marked s (xs.take (k + 1)) = (marked s (xs.take k)).acc 4 a (wu ((marked s (xs.take k)).val a + 1)) := by
  unfold marked; rw [List.take_add_one, h, List.foldl_append]; rfl

set_option maxHeartbeats 1000000 in
theorem run_any {w0 w : World} {wb cb mb : Nat} {c : Conf} {s : CS} {xs : List Int} (h : Wld w0 w wb cb c s) (m : Nat) (hr : s.n ≤ m ∧ s.cnt ≤ m) (hm : m + xs.length < lim) (hM : MarkAt w mb xs) (hlo : w0.heap.size ≤ mb) (hx : ∀ a ∈ xs, (Lit.int .u64 a).wf = true) (most : Int) (hmost : (xs.length : Int) ≤ most) :
    Calls Tryz.prog 20 #[.pointer (some ⟨wb, 0, none⟩), .iface 92 (.pointer (some ⟨mb, 0, none⟩)), .int .i64 most] w fun e w' => e = .returned (.int .i64 xs.length) ∧ Wld w0 w' wb cb c (marked s xs) ∧ MarkAt w' mb [] := by
  have H := Lib.hid h; have HR := Lib.hid hr; have HM := Lib.hid hm; have HMA := Lib.hid hM; have HX := Lib.hid hx
  unfold lim at hm
  clear h hr hM hx
  go_enter Tryz.func20, Tryz.ntmps20
  go_wp2
  go_loopw [7] (fun i wr => ∃ k : Nat, k ≤ xs.length ∧ i = .int .i64 k ∧ Wld w0 wr wb cb c (marked s (xs.take k)) ∧ MarkAt wr mb (xs.drop k)) (fun i _ => xs.length - (intOf i).toNat)
  case atStart => exact ⟨0, by omega, rfl, H.out, HMA.out⟩
  case round =>
    obtain ⟨k, hk, rfl, h1, h2⟩ := hrel
    by_cases hlt : k < xs.length
    · have hd := List.drop_eq_getElem_cons hlt
      have hk1 := marked_take s (List.getElem?_eq_getElem hlt)
      have ha := HX.out _ (List.getElem_mem hlt)
      rw [hd] at h2
      generalize xs[k] = a at *
      have hov := over_any h2
      rw [show decide (a :: xs.drop (k + 1) = []) = false from rfl] at hov
      have hkl : (k : Int) < most := by omega
      have hl := marked_le s (xs.take k) m HR.out
      rw [List.length_take] at hl
      have hst := mstep_any h1 (CS.room_of (m + xs.length) ⟨by omega, by omega⟩ HM.out) h2 hlo ha
      have HK := Lib.hid hk1
      clear hd hk1 ha hl h1 h2
      go_wp2_with (first
        | (go_at_call 233; refine hov.mono ?_; rintro e w2 ⟨rfl, hw⟩; obtain rfl := hw.symm)
        | (go_at_call 234; refine hst.mono ?_; rintro e w3 ⟨rfl, g1, g2, -⟩))
      exact ⟨⟨k + 1, by omega, by go_num, by rw [HK.out]; exact g1, g2⟩, by simp [intOf]; omega⟩
    · obtain rfl : k = xs.length := by omega
      rw [List.drop_length] at h2
      rw [List.take_length] at h1
      have hov := over_any h2
      have H1 := Lib.hid h1; have H2 := Lib.hid h2
      clear h1 h2
      by_cases hkl : (xs.length : Int) < most
      · go_wp2_with (go_at_call 233; refine hov.mono ?_; rintro e w2 ⟨rfl, hw⟩; obtain rfl := hw.symm)
        go_ret
        exact ⟨rfl, H1.out, H2.out⟩
      · go_wp2
        go_ret
        exact ⟨rfl, H1.out, H2.out⟩

theorem marked95 (s : CS) (h : s.val 95 = 0) : (marked s [95, 96]).val 95 = 1 := by
  simp [marked, CS.acc, upd, h]; decide
theorem marked96 (s : CS) (h : s.val 96 = 0) : (marked s [95, 96]).val 96 = 1 := by
  simp [marked, CS.acc, upd, h]; decide
theorem plc_three (w : World) (a0 a1 b0 b1 c0 c1 : Int) : Plc (w.alloc (.cells #[.int .i64 a0, .int .i64 a1, .int .i64 b0, .int .i64 b1, .int .i64 c0, .int .i64 c1] 40)) (some ⟨w.heap.size, 0, none⟩) 3 [(a0, a1), (b0, b1), (c0, c1)] := by
  have hq := heap_alloc_new w (.cells #[.int .i64 a0, .int .i64 a1, .int .i64 b0, .int .i64 b1, .int .i64 c0, .int .i64 c1] 40)
  have k : ∀ o, (w.alloc (.cells #[.int .i64 a0, .int .i64 a1, .int .i64 b0, .int .i64 b1, .int .i64 c0, .int .i64 c1] 40)).cell? ⟨w.heap.size, o, none⟩ = (#[.int .i64 a0, .int .i64 a1, .int .i64 b0, .int .i64 b1, .int .i64 c0, .int .i64 c1] : Array Value)[o]? := fun o => by
    unfold World.cell?; simp only; rw [hq]; rfl
  refine ⟨by simp, by unfold maxLen; omega, fun h => by simp at h, .inr ⟨_, 0, rfl, fun i hi => ?_⟩⟩
  have : i = 0 ∨ i = 1 ∨ i = 2 := by simp at hi; omega
  rcases this with rfl | rfl | rfl <;> (rw [k, k]; exact ⟨rfl, rfl⟩)

set_option maxRecDepth 10000 in
set_option maxHeartbeats 1000000 in
theorem lives12 (w : World) : Calls Tryz.prog 31 #[] w fun e w' => e = .returned (.bool true) ∧ Below w.heap.size w w' := by
  have hw := world12 1 (by omega) (Below.refl w.heap.size w)
  have hv : vof [(1, 0), (1, 1), (1, 0)] = [95, 96] := by decide
  have HV := Lib.hid hv
  clear hv
  go_enter Tryz.func31, Tryz.ntmps31
  go_wp2_with (first
    | (go_at_call 54; with_reducible refine hw.mono ?_; rintro e w1 ⟨wb, cb, s, rfl, h1, n1, b1⟩; clear hw)
    | (go_at_call 34; refine (newmark_any [(1, 0), (1, 1), (1, 0)] _ _ _ (plc_three w1 1 0 1 1 1 0) (by decide)).mono ?_; rw [HV.out]; rintro e w2 ⟨mb, rfl, h2, l2, b2⟩))
  have hk := h1.keep (bnext (below_alloc w1 _) b2)
  have hlo : w.heap.size ≤ mb := by have := b1.size; simp at l2; omega
  have hv1 := marked95 s (n1.vo 95 (by decide))
  have hv2 := marked96 s (n1.vo 96 (by decide))
  have hrun := run_any hk 1 n1.le (by unfold lim; decide) h2 hlo (by decide) 9 (by decide)
  clear h1 h2 b2 l2 n1 b1 hlo hk
  have H1 := Lib.hid hv1; have H2 := Lib.hid hv2
  clear hv1 hv2
  go_wp2_with (first
    | (go_at_call 20; with_reducible refine hrun.mono ?_; rintro e w3 ⟨rfl, h3, -⟩; clear hrun; have c0 := h3.cell.1; have hp1 := peek_own h3.own 95 (by decide); have hp2 := peek_own h3.own 96 (by decide); rw [H1.out] at hp1; rw [H2.out] at hp2)
    | (go_at_call 25; with_reducible refine hp1.mono ?_; rintro e w4 ⟨rfl, hw⟩; obtain rfl := hw.symm; clear hp1)
    | (go_at_call 25; with_reducible refine hp2.mono ?_; rintro e w4 ⟨rfl, hw⟩; obtain rfl := hw.symm))
  go_ret
  exact ⟨rfl, h3.own.below⟩
end Go.Proofs.YthehdcpjlddbpaaGreat


/-
  WorldsFull.
-/
namespace Go.Proofs.YthehdcpjlddbpaaGreat
open Go.RowKit Go.Maps
set_option linter.unusedVariables false

theorem okWide_struct {P : Program} {w : World} {r : Reach} {base : Nat} {t : TypeId} {fs : Array Field} {v : Value} (ht : P.underlying t = some (.struct fs)) (h : Value.okWide P w r base t v) : ∃ cs : Array Value, v = .agg cs := by
  simp only [Value.okWide, ht] at h
  obtain ⟨cs, h1, _⟩ := h
  exact ⟨cs, h1⟩
theorem leaves_conf : leaves Tryz.prog 4 23 = some [.int .i64, .int .i64, .int .i64, .int .i64, .int .i64] := by kernel_rfl
set_option maxRecDepth 10000 in
theorem conf_of {H : Type} {enc : TypeId × Value → H} {w : World} {base b2 n : Nat} {spare : Nat → Bool} {held : Bool} {v : Value} {d : DataW H} {p : List MemPlace} (k : DataW.Trod enc Tryz.prog w base spare held 23 v d p)
    (o : Value.okWide Tryz.prog w .any b2 23 v) : ∃ c : Conf, v = .agg #[.int .i64 c.bits, .int .i64 c.budget, .int .i64 c.tries, .int .i64 c.quantum, .int .i64 c.way] ∧ c.wf := by
  obtain ⟨cs, rfl⟩ := okWide_struct Tryz.underlying23 o
  have h := opened leaves_conf k
  obtain ⟨c0, r, e0, g0, h⟩ := allHold_cons h
  obtain ⟨c1, r, rfl, g1, h⟩ := allHold_cons h
  obtain ⟨c2, r, rfl, g2, h⟩ := allHold_cons h
  obtain ⟨c3, r, rfl, g3, h⟩ := allHold_cons h
  obtain ⟨c4, r, rfl, g4, h⟩ := allHold_cons h
  obtain rfl := allHold_nil h
  obtain ⟨z0, rfl, h0⟩ := holds_int g0
  obtain ⟨z1, rfl, h1⟩ := holds_int g1
  obtain ⟨z2, rfl, h2⟩ := holds_int g2
  obtain ⟨z3, rfl, h3⟩ := holds_int g3
  obtain ⟨z4, rfl, h4⟩ := holds_int g4
  obtain rfl : cs = #[.int .i64 z0, .int .i64 z1, .int .i64 z2, .int .i64 z3, .int .i64 z4] := by
    have : cs.toList = _ := e0
    rw [← Array.toArray_toList (xs := cs), this]
  exact ⟨⟨z0, z1, z2, z3, z4⟩, rfl, h0, h1, h2, h3, h4⟩

end Go.Proofs.YthehdcpjlddbpaaGreat

/-
  StripesOf.
-/
namespace Go.Proofs.YthehdcpjlddbpaaGreat
open Go.RowKit Go.Maps
set_option linter.unusedVariables false

/-- The cells of places. -/
def flat (l : List (Int × Int)) : List Value := l.flatMap fun p => [.int .i64 p.1, .int .i64 p.2]
theorem flat_len (l : List (Int × Int)) : (flat l).length = l.length * 2 := by
  unfold flat
  induction l with
  | nil => rfl
  | cons p l ih => simp only [List.flatMap_cons, List.length_append, ih, List.length_cons, List.length_nil]; omega
theorem flat_at (l : List (Int × Int)) (i : Nat) (hi : i < l.length) : (flat l)[i * 2]? = some (.int .i64 (l[i]).1) ∧ (flat l)[i * 2 + 1]? = some (.int .i64 (l[i]).2) := by
  induction l generalizing i with
  | nil => simp at hi
  | cons p l ih =>
    have e : flat (p :: l) = .int .i64 p.1 :: .int .i64 p.2 :: flat l := rfl
    rw [e]
    cases i with
    | zero => exact ⟨rfl, rfl⟩
    | succ i =>
      have := ih i (by simpa using hi)
      rw [show (i + 1) * 2 = i * 2 + 1 + 1 by omega]
      simpa using this
theorem flat_one (l : List (Int × Int)) : ∀ u ∈ flat l, u.oneCell' = true := by
  intro u hu
  unfold flat at hu
  obtain ⟨p, hp, hu⟩ := List.mem_flatMap.1 hu
  simp only [List.mem_cons, List.not_mem_nil, or_false] at hu
  rcases hu with rfl | rfl <;> rfl
theorem add_plain (b off j : Nat) : (Addr.add ⟨b, off, none⟩ j) = ⟨b, off + j, none⟩ := by
  unfold Addr.add; split <;> simp_all
theorem Plc.news {w : World} {ad : Addr} {cap : Nat} {l : List (Int × Int)} (h : Plc w (some ad) cap l) : ∀ j u, (flat l)[j]? = some u → w.cell? (ad.add j) = some u := by
  intro j u hj
  have hlt : j < l.length * 2 := by rw [← flat_len]; exact (List.getElem?_eq_some_iff.1 hj).1
  rcases h.cell with rfl | ⟨b, off, hb, h5⟩
  · simp at hlt
  · simp only [Option.some.injEq] at hb
    subst hb
    obtain ⟨i, r, rfl, hr⟩ : ∃ i r, j = i * 2 + r ∧ r < 2 := ⟨j / 2, j % 2, by omega, by omega⟩
    have hi : i < l.length := by omega
    obtain ⟨f0, f1⟩ := flat_at l i hi
    obtain ⟨g0, g1⟩ := h5 i hi
    have : r = 0 ∨ r = 1 := by omega
    rcases this with rfl | rfl
    · rw [Nat.add_zero, f0] at hj; rw [← hj, add_plain]; exact g0
    · rw [f1] at hj; rw [← hj, add_plain, ← Nat.add_assoc]; exact g1
theorem Plc.of_own {w : World} {base : Nat} {v : Value} {l : List (Int × Int)} (h : w.ownsRow base 40 2 v l.length (flat l)) : ∃ ao cap, v = .slice ao l.length cap ∧ Plc w ao cap l := by
  obtain ⟨h1, ⟨rfl, h0⟩ | ⟨g, cap, cur, rfl, hb, hg, hn, hm, hs, ht⟩⟩ := h
  · have : l = [] := List.length_eq_zero_iff.1 h0
    subst this
    exact ⟨none, 0, rfl, Nat.le_refl _, Nat.zero_le _, fun _ => rfl, .inl rfl⟩
  · refine ⟨_, cap, rfl, hn, hm, fun h => by simp at h, .inr ⟨g, 0, rfl, fun i hi => ?_⟩⟩
    obtain ⟨f0, f1⟩ := flat_at l i hi
    rw [← ht, List.getElem?_take, if_pos (by omega)] at f0 f1
    simp only [Array.getElem?_toList] at f0 f1
    simp [World.cell?, hg, f0, f1]

theorem odd_any (v : Int) (hv : (Lit.int .u64 v).wf = true) (w : World) : Calls Tryz.prog 35 #[.int .u64 v] w fun e w' => e = .returned (.bool (v % 2 == 1)) ∧ w' = w := by
  have h : 0 ≤ v ∧ v < 18446744073709551616 := by
    have hmin : IntKind.u64.min = 0 := rfl
    have hmax : IntKind.u64.max = 18446744073709551615 := rfl
    simp only [Lit.wf, Bool.and_eq_true, decide_eq_true_eq] at hv; omega
  have hb : bits .and .u64 v 1 = v % 2 := mask_u64 v 1 1 (by decide) (by decide) h.1 h.2
  go_enter Tryz.func35, Tryz.ntmps35
  go_wp2
  go_ret
  exact ⟨rfl, rfl⟩
theorem info_place : (Tryz.prog.info? 40).map (fun i => (i.zero, i.size, i.bytes)) = some (some (.agg #[.int .i64 0, .int .i64 0]), 2, 16) := by kernel_rfl
theorem append_places {ops : Array Oper} {rest : List Oper} {o : Oper} {a : Act} {Q : Exit → Act → World → Prop} {w : World} (hgd : o.guard = none) (s x : Operand)
    (ho : o.op = .call { callee := .builtin .append, args := #[s, x], argTypes := #[64, 64] }) (l : List (Int × Int)) (ao : Option Addr) (cap : Nat)
    (hs : a.eval s = .slice none 0 0) (hx : a.eval x = .slice ao l.length cap) (h : Plc w ao cap l) (hl : l.length ≤ 1000000)
    (K : ∀ v' w', w'.ownsRow w.heap.size 40 2 v' l.length (flat l) → Below w.heap.size w w' → wpList Tryz.prog ops Q rest (a.put o.dst v') w') : wpList Tryz.prog ops Q (o :: rest) a w := by
  obtain ⟨i0, hi0, hz0, hz1, hz2⟩ := info_parts info_place
  cases ao with
  | none =>
    have hc := h.nil rfl
    have hl0 := h.le
    have h0 : l = [] := List.length_eq_zero_iff.1 (by omega)
    subst h0 hc
    refine wpList_append_own_none hgd s x _ ho w.heap.size 40 i0 2 Tryz.underlying64 hi0 _ 0 [] hs (World.ownsRow_nil _ _ _ _) hx (K _ _ (World.ownsRow_nil _ _ _ _) (Below.refl _ _))
  | some ad =>
    refine wpList_append_own _ hgd s x _ ho w.heap.size 40 i0 (.agg #[.int .i64 0, .int .i64 0]) 2 16 Tryz.underlying64 hi0 hz0 hz1 hz2 rfl (by decide) (.slice none 0 0) 0 [] hs (World.ownsRow_nil _ _ _ _) ad l.length cap (flat l) hx (flat_len l) h.news (flat_one l) (by unfold maxLen; omega) (by omega) (Nat.le_refl _) fun v' w' h1 h2 _ => ?_
    rw [Nat.zero_add, List.nil_append] at h1
    exact K v' w' h1 ((Below.refl _ w).grown h2 (Nat.le_refl _) (fun j hj => by simp [Value.ownBlock] at hj))
theorem adr_form {w : World} {base : Nat} {v : Value} {xs : List Int} (h : Adr w base v xs) : ∃ a ga, v = .slice a xs.length xs.length ∧ base ≤ ga ∧ (0 < xs.length → a = some ⟨ga, 0, none⟩ ∧ ga < w.heap.size ∧ (∀ (j : Nat) (hj : j < xs.length), w.cell? ⟨ga, j, none⟩ = some (.int .u64 xs[j])) ∧ (∀ j, w.frozen? ⟨ga, j, none⟩ = false)) := by
  rcases h with ⟨rfl, rfl⟩ | ⟨g, cur, rfl, h1, h2, h3, h4⟩
  · exact ⟨none, base, rfl, Nat.le_refl _, fun h => by simp at h⟩
  · refine ⟨_, g, rfl, h1, fun _ => ⟨rfl, (Array.getElem?_eq_some_iff.1 h2).1, fun j hj => ?_, fun j => by simp [World.frozen?, h2]⟩⟩
    have : (cur.toList.take xs.length)[j]? = some (.int .u64 xs[j]) := by rw [h4]; simp [cu, hj]
    rw [List.getElem?_take, if_pos hj, Array.getElem?_toList] at this
    simp [World.cell?, h2, this]
theorem own_form {w : World} {base : Nat} {v : Value} {xs : List Int} (h : w.ownsRow base 73 1 v xs.length (cu xs)) : ∃ a gb cap, v = .slice a xs.length cap ∧ (0 < xs.length → a = some ⟨gb, 0, none⟩ ∧ base ≤ gb ∧ gb < w.heap.size ∧ (∀ (j : Nat) (hj : j < xs.length), w.cell? ⟨gb, j, none⟩ = some (.int .u64 xs[j]))) := by
  obtain ⟨h1, ⟨rfl, h0⟩ | ⟨g, cap, cur, rfl, hb, hg, hn, hm, hs, ht⟩⟩ := h
  · exact ⟨none, 0, 0, by rw [h0], fun h => by omega⟩
  · refine ⟨_, g, cap, rfl, fun _ => ⟨rfl, hb, (Array.getElem?_eq_some_iff.1 hg).1, fun j hj => ?_⟩⟩
    have : (cur.toList.take (xs.length * 1))[j]? = some (.int .u64 xs[j]) := by rw [ht]; simp [cu, hj]
    rw [Nat.mul_one, List.getElem?_take, if_pos hj, Array.getElem?_toList] at this
    simp [World.cell?, hg, this]

theorem keeps_cell {S : Nat → Prop} {w w' : World} (h : Keeps S w w') {b o : Nat} {v : Value} (hc : w.cell? ⟨b, o, none⟩ = some v) (hb : ¬ S b) : w'.cell? ⟨b, o, none⟩ = some v :=
  (World.cell?_of_block (w := w) (a := ⟨b, o, none⟩) (h.block b (World.block_lt_of_cell? _ _ hc) hb)).trans hc

theorem plc_of {w : World} {v : Value} (h : Leaf.holds w (.sl [.int .i64, .int .i64]) v) : ∃ (l : List (Int × Int)) (a : Option Addr) (cap : Nat), v = .slice a l.length cap ∧ Plc w a cap l := by
  obtain ⟨l, a, cap, rfl, h1, h2, h3, h4, h5⟩ := recs_of h
  obtain ⟨m, hm, hp⟩ := list_of (fun i (x : Int × Int) => l[i]? = some [.int .i64 x.1, .int .i64 x.2]) l.length (fun i hi => by
    obtain ⟨c0, r, e0, g0, h⟩ := allHold_cons (h4 _ (List.getElem_mem hi))
    obtain ⟨c1, r, rfl, g1, h⟩ := allHold_cons h
    obtain rfl := allHold_nil h
    obtain ⟨z0, rfl, -⟩ := holds_int g0
    obtain ⟨z1, rfl, -⟩ := holds_int g1
    exact ⟨(z0, z1), by rw [List.getElem?_eq_getElem hi, e0]⟩)
  refine ⟨m, a, cap, by rw [hm], ⟨by omega, h2, h3, ?_⟩⟩
  rcases h5 with rfl | ⟨b, off, rfl, h6⟩
  · exact .inl (List.length_eq_zero_iff.1 hm)
  · refine .inr ⟨b, off, rfl, fun i hi => ?_⟩
    have hi2 : i < l.length := by omega
    have hq := hp i (by omega)
    rw [List.getElem?_eq_getElem hi2, Option.some.injEq] at hq
    have a0 := h6 i hi2 0 (by decide)
    have a1 := h6 i hi2 1 (by decide)
    rw [hq] at a0 a1
    exact ⟨a0, by rw [Nat.add_assoc]; exact a1⟩
theorem leaves_places : leaves Tryz.prog 4 64 = some [.sl [.int .i64, .int .i64]] := by kernel_rfl

end Go.Proofs.YthehdcpjlddbpaaGreat

/-
  Stripes: Marks that are not there, that are over, that have no world; the document's Mark.
-/
namespace Go.Proofs.YthehdcpjlddbpaaGreat
open Go.RowKit Go.Maps
set_option linter.unusedVariables false

theorem mover_nil (w : World) : Calls Tryz.prog 233 #[.pointer none] w fun e w' => e = .returned (.bool true) ∧ w' = w := by
  go_enter Tryz.func233, Tryz.ntmps233
  go_wp2
  go_ret
  exact ⟨rfl, rfl⟩
theorem mstep_nil (v : Value) (w : World) : Calls Tryz.prog 234 #[.pointer none, v] w fun e w' => e = .returned (.bool true) ∧ w' = w := by
  go_enter Tryz.func234, Tryz.ntmps234
  go_wp2_with (go_at_call 233; refine (mover_nil _).mono ?_; rintro e w1 ⟨rfl, hw⟩; obtain rfl := hw.symm)
  go_ret
  exact ⟨rfl, rfl⟩
theorem mstep_void {w : World} {mb : Nat} (h : MarkAt w mb []) (v : Value) : Calls Tryz.prog 234 #[.pointer (some ⟨mb, 0, none⟩), v] w fun e w' => e = .returned (.bool true) ∧ w' = w := by
  have ho := over_any h
  rw [show decide (([] : List Int) = []) = true from rfl] at ho
  clear h
  go_enter Tryz.func234, Tryz.ntmps234
  go_wp2_with (go_at_call 233; refine ho.mono ?_; rintro e w1 ⟨rfl, hw⟩; obtain rfl := hw.symm)
  go_ret
  exact ⟨rfl, rfl⟩
theorem mstep_no {w : World} {mb : Nat} {a : Int} {r : List Int} (h : MarkAt w mb (a :: r)) : Calls Tryz.prog 234 #[.pointer (some ⟨mb, 0, none⟩), .pointer none] w fun e w' => e = .returned (.bool false) ∧ w' = w := by
  have ho := over_any h
  rw [show decide (a :: r = []) = false from rfl] at ho
  clear h
  go_enter Tryz.func234, Tryz.ntmps234
  go_wp2_with (go_at_call 233; refine ho.mono ?_; rintro e w1 ⟨rfl, hw⟩; obtain rfl := hw.symm)
  go_ret
  exact ⟨rfl, rfl⟩
/-- A Mark that is over, or none. -/
def VMark (w : World) (v : Value) : Prop := v = .pointer none ∨ ∃ b, v = .pointer (some ⟨b, 0, none⟩) ∧ MarkAt w b []
theorem MarkAt.lt {w : World} {mb : Nat} {xs : List Int} (h : MarkAt w mb xs) : mb < w.heap.size := by obtain ⟨v, h1, _⟩ := h; exact (Array.getElem?_eq_some_iff.1 h1).1
theorem VMark.below {w w' : World} {v : Value} (h : VMark w v) (hb : Below w.heap.size w w') : VMark w' v := by
  rcases h with rfl | ⟨b, rfl, h⟩
  · exact .inl rfl
  · exact .inr ⟨b, rfl, h.keep hb⟩
theorem Sl.fr {K : TypeId → Bool} {mp : Bool} {w w' : World} {v : Value} {xs : List Int} (h : Sl w v xs) (hf : Fr K mp w w') (h2 : K 73 = false) : Sl w' v xs := by
  rcases h with h | ⟨g, off, cur, rfl, h3, h4⟩
  · exact .inl h
  · exact .inr ⟨g, off, cur, rfl, hf.cells _ _ _ _ h3 h2, h4⟩
theorem MarkAt.fr {K : TypeId → Bool} {mp : Bool} {w w' : World} {mb : Nat} {xs : List Int} (h : MarkAt w mb xs) (hf : Fr K mp w w') (h1 : K 196 = false) (h2 : K 73 = false) : MarkAt w' mb xs := by
  obtain ⟨v, h3, h4⟩ := h
  exact ⟨v, hf.cells _ _ _ _ h3 h1, h4.fr hf h2⟩
theorem VMark.fr {K : TypeId → Bool} {mp : Bool} {w w' : World} {v : Value} (h : VMark w v) (hf : Fr K mp w w') (h1 : K 196 = false) (h2 : K 73 = false) : VMark w' v := by
  rcases h with rfl | ⟨b, rfl, h⟩
  · exact .inl rfl
  · exact .inr ⟨b, rfl, h.fr hf h1 h2⟩
theorem VMark.over {w : World} {v : Value} (h : VMark w v) : Calls Tryz.prog 233 #[v] w fun e w' => e = .returned (.bool true) ∧ w' = w := by
  rcases h with rfl | ⟨b, rfl, h⟩
  · exact mover_nil w
  · exact over_any h
theorem VMark.step {w : World} {v : Value} (u : Value) (h : VMark w v) : Calls Tryz.prog 234 #[v, u] w fun e w' => e = .returned (.bool true) ∧ w' = w := by
  rcases h with rfl | ⟨b, rfl, h⟩
  · exact mstep_nil u w
  · exact mstep_void h u
theorem plc_nil (w : World) : Plc w none 0 [] := ⟨Nat.le_refl _, Nat.zero_le _, fun _ => rfl, .inl rfl⟩
theorem plc_one (w : World) (a0 a1 : Int) : Plc (w.alloc (.cells #[.int .i64 a0, .int .i64 a1] 40)) (some ⟨w.heap.size, 0, none⟩) 1 [(a0, a1)] := by
  refine ⟨Nat.le_refl _, by unfold maxLen; decide, fun h => (by cases h), .inr ⟨_, 0, rfl, fun i hi => ?_⟩⟩
  have z := heap_alloc_new w (.cells #[.int .i64 a0, .int .i64 a1] 40)
  obtain rfl : i = 0 := by simp at hi; exact hi
  exact ⟨hcell z 0, hcell z 1⟩
theorem plc_two (w : World) (a0 a1 b0 b1 : Int) : Plc (w.alloc (.cells #[.int .i64 a0, .int .i64 a1, .int .i64 b0, .int .i64 b1] 40)) (some ⟨w.heap.size, 0, none⟩) 2 [(a0, a1), (b0, b1)] := by
  refine ⟨Nat.le_refl _, by unfold maxLen; decide, fun h => (by cases h), .inr ⟨_, 0, rfl, fun i hi => ?_⟩⟩
  have z := heap_alloc_new w (.cells #[.int .i64 a0, .int .i64 a1, .int .i64 b0, .int .i64 b1] 40)
  rcases i with _ | _ | i
  · exact ⟨hcell z 0, hcell z 1⟩
  · exact ⟨hcell z 2, hcell z 3⟩
  · simp at hi; omega
theorem newmark_nil (w : World) : Calls Tryz.prog 34 #[.slice none 0 0] w fun e w' => ∃ mb, e = .returned (.pointer (some ⟨mb, 0, none⟩)) ∧ MarkAt w' mb [] ∧ w.heap.size ≤ mb ∧ Below w.heap.size w w' :=
  newmark_any [] none 0 w (plc_nil w) (by decide)
theorem plc_blk1 {w : World} {n : Nat} {a0 a1 : Int} (h : w.heap[n]? = some (.cells #[.int .i64 a0, .int .i64 a1] 40 (0, 0))) : Plc w (some ⟨n, 0, none⟩) 1 [(a0, a1)] := by
  refine ⟨Nat.le_refl _, by unfold maxLen; decide, fun h => (by cases h), .inr ⟨_, 0, rfl, fun i hi => ?_⟩⟩
  obtain rfl : i = 0 := by simp at hi; exact hi
  exact ⟨hcell h 0, hcell h 1⟩
theorem plc_blk2 {w : World} {n : Nat} {a0 a1 b0 b1 : Int} (h : w.heap[n]? = some (.cells #[.int .i64 a0, .int .i64 a1, .int .i64 b0, .int .i64 b1] 40 (0, 0))) : Plc w (some ⟨n, 0, none⟩) 2 [(a0, a1), (b0, b1)] := by
  refine ⟨Nat.le_refl _, by unfold maxLen; decide, fun h => (by cases h), .inr ⟨_, 0, rfl, fun i hi => ?_⟩⟩
  rcases i with _ | _ | i
  · exact ⟨hcell h 0, hcell h 1⟩
  · exact ⟨hcell h 2, hcell h 3⟩
  · simp at hi; omega
theorem newmark_one {w : World} {n : Nat} {a0 a1 : Int} (h : w.heap[n]? = some (.cells #[.int .i64 a0, .int .i64 a1] 40 (0, 0))) : Calls Tryz.prog 34 #[.slice (some ⟨n, 0, none⟩) 1 1] w fun e w' => ∃ mb, e = .returned (.pointer (some ⟨mb, 0, none⟩)) ∧ MarkAt w' mb (vof [(a0, a1)]) ∧ w.heap.size ≤ mb ∧ Below w.heap.size w w' :=
  newmark_any [(a0, a1)] _ 1 w (plc_blk1 h) (by simp)
theorem newmark_two {w : World} {n : Nat} {a0 a1 b0 b1 : Int} (h : w.heap[n]? = some (.cells #[.int .i64 a0, .int .i64 a1, .int .i64 b0, .int .i64 b1] 40 (0, 0))) : Calls Tryz.prog 34 #[.slice (some ⟨n, 0, none⟩) 2 2] w fun e w' => ∃ mb, e = .returned (.pointer (some ⟨mb, 0, none⟩)) ∧ MarkAt w' mb (vof [(a0, a1), (b0, b1)]) ∧ w.heap.size ≤ mb ∧ Below w.heap.size w w' :=
  newmark_any [(a0, a1), (b0, b1)] _ 2 w (plc_blk2 h) (by simp)
theorem ver_zero : ver 0 0 = 0 := by decide
theorem ver_neg (b : Int) : ver b (-1) = 0 := by unfold ver hasP; simp
theorem vof_two (b : Int) : vof [(0, 0), (b, -1)] = [] := by simp [vof, vstep, ver_zero, ver_neg]
theorem vof_single (b u : Int) : vof [(b, u)] = if ver b u = 0 then [] else [ver b u] := by simp [vof, vstep]
end Go.Proofs.YthehdcpjlddbpaaGreat

/-
  Tickets: a Take, a Give, who waits.
-/
namespace Go.Proofs.YthehdcpjlddbpaaGreat
open Go.RowKit
set_option linter.unusedVariables false

/-- Of the old blocks only b, and such of some types, have turned. -/
structure Fx (K : TypeId → Bool) (mp : Bool) (b : Nat) (w w' : World) : Prop where
  size : w.heap.size ≤ w'.heap.size
  cells : ∀ (k : Nat) (cs : Array Value) (T : TypeId) (fr : Nat × Nat), w.heap[k]? = some (.cells cs T fr) → K T = false → k ≠ b → w'.heap[k]? = some (.cells cs T fr)
  map : mp = false → ∀ (k : Nat) (es : Array MapEntry) (cl : Nat), w.heap[k]? = some (.map es cl) → k ≠ b → w'.heap[k]? = some (.map es cl)
theorem Fr.fx {K : TypeId → Bool} {mp : Bool} {w w' : World} (h : Fr K mp w w') (b : Nat) : Fx K mp b w w' := ⟨h.size, fun k cs T fr h1 h2 _ => h.cells k cs T fr h1 h2, fun hm k es cl h1 _ => h.map hm k es cl h1⟩
theorem Fx.trans {K : TypeId → Bool} {mp : Bool} {b : Nat} {a c d : World} (h : Fx K mp b a c) (k : Fx K mp b c d) : Fx K mp b a d :=
  ⟨Nat.le_trans h.size k.size, fun i cs T fr hi hT hb => k.cells i cs T fr (h.cells i cs T fr hi hT hb) hT hb, fun hm i es cl hi hb => k.map hm i es cl (h.map hm i es cl hi hb) hb⟩
theorem set_fx (K : TypeId → Bool) (mp : Bool) (w : World) (b o : Nat) (v : Value) : Fx K mp b w (w.setCell ⟨b, o, none⟩ v) :=
  ⟨by simp [World.setCell], fun k cs T fr h _ hb => (Below.heap_setCell _ _ _ _ hb).trans h, fun _ k es cl h hb => (Below.heap_setCell _ _ _ _ hb).trans h⟩
theorem Fx.fr {K : TypeId → Bool} {mp : Bool} {b : Nat} {w w' : World} (h : Fx K mp b w w') {cs : Array Value} {T : TypeId} {fr : Nat × Nat} (hb : w.heap[b]? = some (.cells cs T fr)) : Fr (fun x => K x || x == T) mp w w' := by
  refine ⟨h.size, fun k cs2 T2 fr2 h2 hT => ?_, fun hm k es cl h2 => h.map hm k es cl h2 fun c => ?_⟩
  · simp only [Bool.or_eq_false_iff] at hT
    refine h.cells k cs2 T2 fr2 h2 hT.1 fun c => ?_
    subst c
    have := hb.symm.trans h2; simp only [Option.some.injEq, Obj.cells.injEq] at this
    have h3 := hT.2; rw [this.2.1] at h3; simp at h3
  · subst c; rw [hb] at h2; cases h2

theorem mkfunc (fn : Fn) (first cap : Array Value) (w : World) : (Instr.makeFunc fn first cap).run Tryz.prog w = .ok (.func fn first cap) w := rfl
/-- The worlds' types, and a Take's. -/
theorem WS.cellb {w0 w : World} {B : WB} {V : WV} {s : CS} (h : WS w0 w B V s) (t : Nat) (ht : t < 64) : w.cell? ⟨B.wb, 8 + t, none⟩ = some (.int .u64 (V.tk.getD t 0)) := (h.cell (8 + t)).trans (val_tkat B V h.tkl t ht)
theorem WS.hcell' {w0 w : World} {B : WB} {V : WV} {s : CS} (h : WS w0 w B V s) : w.cell? ⟨B.wb, 72, none⟩ = some (.int .i64 V.hd) := (h.cell 72).trans (val_at B V h.tkl).2.2.2.2.2
theorem WS.frz {w0 w : World} {B : WB} {V : WV} {s : CS} (h : WS w0 w B V s) (o : Nat) : w.frozen? ⟨B.wb, o, none⟩ = false := hfrz h.blk o
theorem WS.fx {w0 w w' : World} {B : WB} {V : WV} {s : CS} {K : TypeId → Bool} {b : Nat} (h : WS w0 w B V s) (hf : Fx K false b w w') (hK : ∀ T, wTy T = true → K T = false) {cs : Array Value} {T : TypeId} {fr : Nat × Nat} (hb : w.heap[b]? = some (.cells cs T fr)) (hT : wTy T = false) (hB : Below w0.heap.size w0 w') : WS w0 w' B V s :=
  h.fr (hf.fr hb) (fun x hx => by simp only [Bool.or_eq_false_iff]; exact ⟨hK x hx, by cases hxT : (x == T); rfl; rw [beq_iff_eq] at hxT; subst hxT; rw [hx] at hT; cases hT⟩) hB
theorem set_take {w0 w : World} {B : WB} {V : WV} {s : CS} {b o : Nat} {cs : Array Value} {T : TypeId} (h : WS w0 w B V s) (hb : w.heap[b]? = some (.cells cs T (0, 0))) (hT : wTy T = false) (hlo : w0.heap.size ≤ b) (v : Value) : WS w0 (w.setCell ⟨b, o, none⟩ v) B V s :=
  h.fx (set_fx (fun _ => false) false w b o v) (fun _ _ => rfl) hb hT (keeps_below (setCell_keeps w b o v) h.below h.below.size fun k e => e ▸ hlo)

section
variable {w0 w : World} {B : WB} {V : WV} {s : CS} {b t : Nat} {d : Bool} {k : Int} (h : WS w0 w B V s) (hr : s.room) (hlo : w0.heap.size ≤ b) (ht : t < 64)
include h hr hlo ht
end
end Go.Proofs.YthehdcpjlddbpaaGreat

/-
  A Mark's step, in the program's world and in the document's.
-/
namespace Go.Proofs.YthehdcpjlddbpaaGreat
open Go.RowKit Go.Maps
set_option linter.unusedVariables false

theorem ws_set {w0 w : World} {B : WB} {V : WV} {s : CS} {b o : Nat} {cs : Array Value} {T : TypeId} (h : WS w0 w B V s) (hb : w.heap[b]? = some (.cells cs T (0, 0))) (hT : wTy T = false) (hlo : w0.heap.size ≤ b) (v : Value) : WS w0 (w.setCell ⟨b, o, none⟩ v) B V s :=
  h.fr (set_ty hb o v) (fun X hX => by cases hXT : (X == T); rfl; rw [beq_iff_eq] at hXT; subst hXT; rw [hX] at hT; cases hT) (set_below h.below h.below.size hlo o v)
theorem rd_set {w0 w : World} {B : WB} {V : WV} {x : RS} {b o : Nat} {cs : Array Value} {T : TypeId} (h : RD w0 w B V x) (hb : w.heap[b]? = some (.cells cs T (0, 0))) (hT : rTy T = false) (hlo : w0.heap.size ≤ b) (v : Value) : RD w0 (w.setCell ⟨b, o, none⟩ v) B V x :=
  h.fr (set_ty hb o v) (fun X hX => by cases hXT : (X == T); rfl; rw [beq_iff_eq] at hXT; subst hXT; rw [hX] at hT; cases hT) (set_below h.below h.below.size hlo o v)
set_option maxHeartbeats 1000000 in
theorem wmstep {w0 w : World} {B : WB} {V : WV} {s : CS} {mb : Nat} {a : Int} {r : List Int} (h : WS w0 w B V s) (hr : s.room) (hM : MarkAt w mb (a :: r)) (hlo : w0.heap.size ≤ mb) (ha : (Lit.int .u64 a).wf = true) :
    Calls Tryz.prog 234 #[.pointer (some ⟨mb, 0, none⟩), .pointer (some ⟨B.wb, 0, none⟩)] w fun e w' => e = .returned (.bool (decide (r = []))) ∧ WS w0 w' B V (s.acc 4 a (wu (s.val a + 1))) ∧ MarkAt w' mb r ∧ Fx wTy true mb w w' := by
  have ho := over_any hM
  rw [show decide (a :: r = []) = false from rfl] at ho
  obtain ⟨v, hm, hs⟩ := hM
  obtain ⟨g, off, rfl, q0, hml, hg, ht⟩ := hs.at0
  have HT := Lib.hid (Sl.tail hg ht)
  clear hg ht
  have m0 : w.cell? ⟨mb, 0, none⟩ = some (.slice (some ⟨g, off, none⟩) (r.length + 1) (r.length + 1)) := by simp [World.cell?, hm]
  have c0 := h.c0
  have x0 := fun st : ExtW w => st.cell c0
  have x1 := fun st : ExtW w => st.cell m0
  have x2 := fun st : ExtW w => st.cell q0
  unfold maxLen at hml
  have H := Lib.hid h; have HR := Lib.hid hr; have HM := Lib.hid hm; have HS := Lib.hid hs; have HA := Lib.hid ha
  clear h hr hm hs ha
  go_enter Tryz.func234, Tryz.ntmps234
  go_wp2_with (go_at_call 233; refine ho.mono ?_; rintro e w1 ⟨rfl, hw⟩; obtain rfl := hw.symm; clear ho)
  refine wp_region_ext_tail 10 (by kernel_rfl) (by kernel_rfl) ?_
  simp only [List.take_succ_cons, List.take_zero, List.drop_succ_cons, List.drop_zero]
  repeat (go_big_quiet_step (fail))
  refine wpQuiet_nil ?_
  rintro W ⟨⟨W2, hW⟩, rfl⟩
  clear x0 x1 x2 c0 m0 q0
  have HW := Lib.hid hW
  have h1 := H.out.keep hW
  have HM1 := Lib.hid ((hW.block mb (Array.getElem?_eq_some_iff.1 HM.out).1).trans HM.out); have HS1 := Lib.hid (HS.out.keep hW)
  clear hW
  go_wp2_with (go_at_call 235; refine (h1.add HR.out a HA.out 1).mono ?_; rintro e w2 ⟨rfl, h2, r2⟩; have HM2 := Lib.hid (r2.cells _ _ _ _ HM1.out rfl); have HS2 := Lib.hid (HS1.out.fr r2 rfl); have H2 := Lib.hid h2; have R2 := Lib.hid r2; clear h1 h2 r2)
  have m0 : w2.cell? ⟨mb, 0, none⟩ = some (.slice (some ⟨g, off, none⟩) (r.length + 1) (r.length + 1)) := by have := HM2.out; simp [World.cell?, this]
  have m1 : w2.frozen? ⟨mb, 0, none⟩ = false := by have := HM2.out; simp [World.frozen?, this]
  have x1 := fun st : ExtW w2 => st.cell m0
  refine wp_region_ext_tail 18 (by kernel_rfl) (by kernel_rfl) ?_
  simp only [List.take_succ_cons, List.take_zero, List.drop_succ_cons, List.drop_zero]
  repeat (go_big_quiet_step (fail))
  refine wpQuiet_nil ?_
  rintro W3 ⟨⟨W4, hW4⟩, rfl⟩
  clear x1
  obtain ⟨ad, had⟩ : ∃ ad, ad = (if r = [] then some (⟨g, off, none⟩ : Addr) else some ⟨g, off + 1, none⟩) := ⟨_, rfl⟩
  have T3 := (((HT.out.keep HW.out).fr R2.out rfl).keep hW4)
  rw [← had] at T3
  simp only [← had]
  have HT3 := Lib.hid T3
  have H3 := Lib.hid (H2.out.keep hW4)
  have HM3 := Lib.hid ((hW4.block mb (Array.getElem?_eq_some_iff.1 HM2.out).1).trans HM2.out)
  have HW4 := Lib.hid hW4
  clear T3 had hW4 m1 m0 HT HS HS1 HS2
  have m0 : W3.cell? ⟨mb, 0, none⟩ = some (.slice (some ⟨g, off, none⟩) (r.length + 1) (r.length + 1)) := by have := HM3.out; simp [World.cell?, this]
  have m1 : W3.frozen? ⟨mb, 0, none⟩ = false := by have := HM3.out; simp [World.frozen?, this]
  have hM5 : MarkAt (W3.setCell ⟨mb, 0, none⟩ (.slice ad r.length r.length)) mb r := by
    have hsame := setCell_same (o := 0) HM3.out (.slice ad r.length r.length)
    refine ⟨_, hsame, ?_⟩
    rcases HT3.out with h | ⟨g2, o2, cur, he, h1, h2⟩
    · exact .inl h
    · refine .inr ⟨g2, o2, cur, he, (Below.heap_setCell _ _ _ _ fun c => ?_).trans h1, h2⟩
      simp only at c; subst c
      have := h1.symm.trans HM3.out; simp only [Option.some.injEq, Obj.cells.injEq] at this; exact absurd this.2.1 (by decide)
  have hov := over_any hM5
  obtain ⟨d, hd⟩ : ∃ d, d = decide (r = []) := ⟨_, rfl⟩
  rw [← hd] at hov
  have HD := Lib.hid hd
  clear hd
  have HM5 := Lib.hid hM5
  clear hM5
  go_wp2_with (go_at_call 233; refine hov.mono ?_; rintro e w6 ⟨rfl, hw⟩; subst hw)
  go_ret
  exact ⟨conf_b' HD.out, ws_set H3.out HM3.out rfl hlo _, HM5.out, (((below_fr HW.out _ _).trans (R2.out.trans (below_fr HW4.out _ _))).fx mb).trans (set_fx _ _ _ _ _ _)⟩
end Go.Proofs.YthehdcpjlddbpaaGreat

/-
  A Mark by itself, run in a world; what two Marks leave.
-/
namespace Go.Proofs.YthehdcpjlddbpaaGreat
open Go.RowKit Go.Maps
set_option linter.unusedVariables false

set_option maxHeartbeats 2000000 in
theorem wmrun {w0 w : World} {B : WB} {V : WV} {s : CS} {mb : Nat} {xs : List Int} (h : WS w0 w B V s) (m : Nat) (hr : s.n ≤ m ∧ s.cnt ≤ m) (hm : m + xs.length < 100000) (hM : MarkAt w mb xs) (hlo : w0.heap.size ≤ mb) (hx : ∀ a ∈ xs, (Lit.int .u64 a).wf = true) (hmost : xs.length ≤ 99) :
    Calls Tryz.prog 20 #[.pointer (some ⟨B.wb, 0, none⟩), .iface 92 (.pointer (some ⟨mb, 0, none⟩)), .int .i64 99] w fun e w' => e = .returned (.int .i64 xs.length) ∧ WS w0 w' B V (marked s xs) ∧ Fx wTy true mb w w' := by
  have H := Lib.hid h; have HR := Lib.hid hr; have HM := Lib.hid hm; have HMA := Lib.hid hM; have HX := Lib.hid hx; have HMO := Lib.hid hmost
  clear h hr hM hx hm
  go_enter Tryz.func20, Tryz.ntmps20
  go_wp2
  go_loopw [7] (fun i wr => ∃ k : Nat, k ≤ xs.length ∧ i = .int .i64 k ∧ WS w0 wr B V (marked s (xs.take k)) ∧ MarkAt wr mb (xs.drop k) ∧ Fx wTy true mb w wr) (fun i _ => xs.length - (intOf i).toNat)
  case atStart => exact ⟨0, by omega, rfl, H.out, HMA.out, (below_fr (Below.refl _ w) wTy true).fx mb⟩
  case round =>
    obtain ⟨k, hk, rfl, h1, h2, h3⟩ := hrel
    by_cases hlt : k < xs.length
    · have hd := List.drop_eq_getElem_cons hlt
      have hk1 := marked_take s (List.getElem?_eq_getElem hlt)
      have ha := HX.out _ (List.getElem_mem hlt)
      rw [hd] at h2
      generalize xs[k] = a at *
      have hov := over_any h2
      rw [show decide (a :: xs.drop (k + 1) = []) = false from rfl] at hov
      have hkl : (k : Int) < 99 := by omega
      have hl := marked_le s (xs.take k) m HR.out
      rw [List.length_take] at hl
      have hmm := HM.out
      have hst := wmstep h1 (CS.room_of (m + xs.length) ⟨by omega, by omega⟩ (by unfold lim; omega)) h2 hlo ha
      have HK := Lib.hid hk1; have H3 := Lib.hid h3
      clear hd hk1 ha hl h1 h2 h3 hmm
      go_wp2_with (first
        | (go_at_call 233; refine hov.mono ?_; intro e w2 hh; obtain ⟨hh1, hh2⟩ := hh; subst hh1; obtain rfl := hh2.symm; clear hov)
        | (go_at_call 234; refine hst.mono ?_; intro e w3 hh; obtain ⟨hh1, g1, g2, g3⟩ := hh; subst hh1; have G1 := Lib.hid g1; have G2 := Lib.hid g2; have G3 := Lib.hid g3; clear g1 g2 g3 hst))
      exact ⟨⟨k + 1, by omega, by go_num, by rw [HK.out]; exact G1.out, G2.out, H3.out.trans G3.out⟩, by simp [intOf]; omega⟩
    · obtain rfl : k = xs.length := by omega
      rw [List.drop_length] at h2
      rw [List.take_length] at h1
      have hov := over_any h2
      have H1 := Lib.hid h1; have H3 := Lib.hid h3
      clear h1 h2 h3
      by_cases hkl : (xs.length : Int) < 99
      · go_wp2_with (go_at_call 233; refine hov.mono ?_; intro e w2 hh; obtain ⟨hh1, hh2⟩ := hh; subst hh1; obtain rfl := hh2.symm; clear hov)
        go_ret
        exact ⟨rfl, H1.out, H3.out⟩
      · go_wp2
        go_ret
        exact ⟨rfl, H1.out, H3.out⟩
/-! ## What two Marks leave. -/
theorem marked_out (xs : List Int) : ∀ (s : CS) (a : Int), a ∉ xs → (marked s xs).val a = s.val a := by
  induction xs with
  | nil => intro s a _; rfl
  | cons x r ih =>
    intro s a h
    simp only [List.mem_cons, not_or] at h
    have := ih (s.acc 4 x (wu (s.val x + 1))) a h.2
    exact this.trans (CS.acc_val _ _ _ _ h.1)
theorem marked_in (xs : List Int) : ∀ (s : CS) (a : Int), xs.Nodup → a ∈ xs → (marked s xs).val a = wu (s.val a + 1) := by
  induction xs with
  | nil => intro s a _ h; cases h
  | cons x r ih =>
    intro s a hn h
    have hn2 := List.nodup_cons.1 hn
    by_cases hax : a = x
    · subst hax
      exact (marked_out r (s.acc 4 a (wu (s.val a + 1))) a hn2.1).trans (CS.acc_self _ _ _)
    · have h1 : a ∈ r := by rcases List.mem_cons.1 h with h | h; exact absurd h hax; exact h
      have := ih (s.acc 4 x (wu (s.val x + 1))) a hn2.2 h1
      rw [CS.acc_val _ _ _ _ hax] at this
      exact this
theorem wu_two (v : Int) : wu (wu (v + 1) + 1) = wu (v + 2) := by
  unfold wu; rw [IntKind.wrap_u64, IntKind.wrap_u64, IntKind.wrap_u64]; omega
/-- What is added at an address. -/
def twice (xs : List Int) (a : Int) : Int := if a ∈ xs then 2 else 0
theorem marked_twice (s : CS) (xs : List Int) (hn : xs.Nodup) (hw : ∀ a, (Lit.int .u64 (s.val a)).wf = true) (a : Int) : (marked (marked s xs) xs).val a = wu (s.val a + twice xs a) := by
  unfold twice
  by_cases h : a ∈ xs
  · rw [if_pos h, marked_in xs _ a hn h, marked_in xs _ a hn h, wu_two]
  · rw [if_neg h, marked_out xs _ a h, marked_out xs _ a h, Int.add_zero]
    have := wf_bd (hw a)
    unfold wu; rw [IntKind.wrap_u64]; omega
theorem vof_nodup (l : List (Int × Int)) : (vof l).Nodup := by
  have key : ∀ (l : List (Int × Int)) (o : List Int), o.Nodup → (l.foldl vstep o).Nodup := by
    intro l
    induction l with
    | nil => intro o h; exact h
    | cons p l ih =>
      intro o h
      refine ih _ ?_
      unfold vstep
      split
      · exact h
      · split
        · exact h
        · rename_i hc
          refine List.nodup_append.2 ⟨h, by simp, ?_⟩
          intro a ha b hb
          simp only [List.mem_singleton] at hb
          subst hb
          intro c; subst c
          exact hc (by simpa using ha)
  exact key l [] List.nodup_nil
theorem vof_memt {l : List (Int × Int)} : ∀ x ∈ vof l, 64 ≤ x ∧ x < 128 := by
  have key : ∀ (l : List (Int × Int)) (o : List Int), (∀ x ∈ o, 64 ≤ x ∧ x < 128) → ∀ x ∈ l.foldl vstep o, 64 ≤ x ∧ x < 128 := by
    intro l
    induction l with
    | nil => intro o h; exact h
    | cons p l ih =>
      intro o h
      refine ih _ fun x hx => ?_
      unfold vstep at hx
      split at hx
      · exact h x hx
      · split at hx
        · exact h x hx
        · rename_i hz _
          rcases List.mem_append.1 hx with hx | hx
          · exact h x hx
          · simp only [List.mem_singleton] at hx
            subst hx
            unfold ver at hz ⊢
            unfold stripe at hz ⊢
            split
            · omega
            · rename_i hh; rw [if_neg hh] at hz; exact absurd rfl hz
  exact key l [] (by simp)
theorem rlook_outm {l : List (Int × Int)} {x : Int} (h : ∀ p ∈ l, p.1 ≠ x) : rlook l x = 0 := by
  induction l with
  | nil => rfl
  | cons p r ih =>
    unfold rlook
    rw [if_neg (h p (by simp))]
    exact ih fun q hq => h q (by simp [hq])
theorem rlook_ne {q : Int × Int} {r : List (Int × Int)} {x : Int} (h : ¬ q.1 = x) : rlook (q :: r) x = rlook r x := by
  show (if q.1 = x then q.2 else rlook r x) = _; exact if_neg h
theorem rlook_snoc {l : List (Int × Int)} {p : Int × Int} (h : ∀ q ∈ l, q.1 ≠ p.1) : rlook (l ++ [p]) = upd (rlook l) p.1 p.2 := by
  funext x
  induction l with
  | nil =>
    by_cases hx : x = p.1
    · subst hx; simp [rlook, upd]
    · have h2 : ¬ p.1 = x := fun c => hx c.symm
      simp [rlook, upd, hx, h2]
  | cons q r ih =>
    have ih := ih fun z hz => h z (by simp [hz])
    have hq := h q (by simp)
    by_cases hx : x = p.1
    · subst hx
      simp only [List.cons_append, rlook]
      rw [if_neg hq, ih]; simp [upd]
    · by_cases hqx : q.1 = x
      · simp [rlook, upd, hx, hqx]
      · rw [List.cons_append, rlook_ne hqx, ih]; unfold upd; rw [if_neg hx, if_neg hx, rlook_ne hqx]
theorem rlook_take {l : List (Int × Int)} (h : Ris l) (i : Nat) (hi : i < l.length) : rlook (l.take (i + 1)) = upd (rlook (l.take i)) (l[i]).1 (l[i]).2 := by
  rw [List.take_add_one, List.getElem?_eq_getElem hi]
  refine rlook_snoc fun q hq => ?_
  obtain ⟨j, hj, rfl⟩ := List.mem_iff_getElem.1 hq
  rw [List.getElem_take]
  rw [List.length_take] at hj
  have := List.pairwise_iff_getElem.1 h j i (by omega) hi (by omega)
  omega
theorem twice_take (xs : List Int) (i : Nat) (hi : i < xs.length) : twice (xs.take (i + 1)) = upd (twice (xs.take i)) xs[i] 2 := by
  funext x
  rw [List.take_add_one, List.getElem?_eq_getElem hi]
  generalize xs[i] = y
  unfold twice upd
  by_cases hx : x = y
  · subst hx
    rw [if_pos rfl]; exact if_pos (List.mem_append.2 (.inr (by simp)))
  · rw [if_neg hx]
    simp [hx]
end Go.Proofs.YthehdcpjlddbpaaGreat

/-
  A map from integers to integers that a call made: what it says at each key.
-/
namespace Go.Proofs.YthehdcpjlddbpaaGreat
open Go.RowKit Go.Maps
set_option linter.unusedVariables false

/-- Block m is a map of at most n entries; at key a it says f a (0 where it has none). -/
def MapI (w : World) (K E : TypeId) (q : IntKind) (m n : Nat) (f : Int → Int) : Prop :=
  ∃ D : DataW Unit, w.ownsMap Tryz.prog K (plainElem Tryz.prog E) m n D ∧ ∀ a, D.atKey (kA a) (.lit (.int q 0)) = .lit (.int q (f a))
section
variable {w w' : World} {K E t : TypeId} {q : IntKind} {m n : Nat} {f : Int → Int}
theorem MapI.made (w : World) (K E : TypeId) (q : IntKind) : MapI (w.alloc (.map #[] 0)) K E q w.heap.size 0 fun _ => 0 := ⟨.map [], World.ownsMap_made w _ _ _, fun a => rfl⟩
theorem MapI.lt (h : MapI w K E q m n f) : m < w.heap.size := by obtain ⟨D, h, _⟩ := h; exact h.lt
theorem MapI.keep (h : MapI w K E q m n f) (hk : w'.heap[m]? = w.heap[m]?) : MapI w' K E q m n f := by
  obtain ⟨D, ⟨es, clock, hb, r⟩, hf⟩ := h
  exact ⟨D, ⟨es, clock, hk.trans hb, r⟩, hf⟩
theorem MapI.below (h : MapI w K E q m n f) (hb : Below w.heap.size w w') : MapI w' K E q m n f := h.keep (hb.block _ h.lt)
theorem MapI.look (h : MapI w K E q m n f) (hK : Tryz.prog.underlying K = some (.int .u64)) (hE : Tryz.prog.underlying E = some (.int q)) (hz : (zeroValue E).run Tryz.prog w = .ok (.int q 0) w) (ht : Tryz.prog.underlying t = some (.map K E)) {a : Int} (ha : (Lit.int .u64 a).wf = true) :
    (Instr.lookup t (.map (some m)) (.int .u64 a) false).run Tryz.prog w = .ok (.int q (f a)) w ∧ (Lit.int q (f a)).wf = true := by
  obtain ⟨D, h, hf⟩ := h
  obtain ⟨c, hr, hat, hw⟩ := h.lookup_int (int_keyed hK) ht hE hz (keyOf_int_mk hK ha)
  have := hat.symm.trans (hf a)
  simp only [DataW.lit.injEq, Lit.int.injEq, true_and] at this
  subst this
  exact ⟨hr, hw⟩
theorem MapI.put (h : MapI w K E q m n f) (hK : Tryz.prog.underlying K = some (.int .u64)) (hE : Tryz.prog.underlying E = some (.int q)) (ht : Tryz.prog.underlying t = some (.map K E)) {a v : Int} (ha : (Lit.int .u64 a).wf = true) (hv : (Lit.int q v).wf = true) (hn : n < maxLen) :
    ∃ w', (Instr.mapUpdate t (.map (some m)) (.int .u64 a) (.int q v)).run Tryz.prog w = .ok () w' ∧ MapI w' K E q m (n + 1) (upd f a v) ∧ w.grownBy w' (some m) := by
  obtain ⟨D, h, hf⟩ := h
  obtain ⟨w', hr, ho, hg⟩ := h.update (int_keyed hK) ht hn (keyOf_int_mk hK ha) (plainElem_int hE hv)
  refine ⟨w', hr, ⟨_, ho, fun x => ?_⟩, hg⟩
  by_cases hx : x = a
  · subst hx
    rw [upd_same]; exact atKey_put_same h.isMap (kA_key x) _ _
  · have hne : kA x ≠ kA a := fun c => hx (by simpa [kA] using c)
    have e := atKey_put_other (D := D) (d := .lit (.int q v)) (z := .lit (.int q 0)) hne
    rw [upd_other _ hx]
    exact e.trans (hf x)
end
/-- 'm[a] = v' at the operation. -/
theorem wpList_puti {w : World} {K E t : TypeId} {q : IntKind} {b n : Nat} {f : Int → Int} {ops : Array Oper} {rest : List Oper} {o : Oper} {a : Act} {Q : Exit → Act → World → Prop} (hg : o.guard = none) (m x v : Operand) (hop : o.op = Op.mapUpdate t m x v)
    (hM : MapI w K E q b n f) (hK : Tryz.prog.underlying K = some (.int .u64)) (hE : Tryz.prog.underlying E = some (.int q)) (ht : Tryz.prog.underlying t = some (.map K E)) (hm : a.eval m = .map (some b)) (hn : n < maxLen) (k u : Int) (hx : a.eval x = .int .u64 k) (hv : a.eval v = .int q u) (hk : (Lit.int .u64 k).wf = true) (hu : (Lit.int q u).wf = true)
    (hC : ∀ w', MapI w' K E q b (n + 1) (upd f k u) → w.grownBy w' (some b) → wpList Tryz.prog ops Q rest (a.put o.dst undef) w') :
    wpList Tryz.prog ops Q (o :: rest) a w := by
  refine wpList_plain hg fun K' hK' => ?_
  obtain ⟨w', hrun, r1, r2⟩ := hM.put hK hE ht hk hu hn
  unfold Oper.wp
  simp [execOp, hop, hm, hx, hv, hrun, Result.andThen]
  exact hK' _ _ (hC w' r1 r2)
end Go.Proofs.YthehdcpjlddbpaaGreat

/-
  StripesTwice: what stands between its loops.
-/
namespace Go.Proofs.YthehdcpjlddbpaaGreat
open Go.RowKit Go.Maps
set_option linter.unusedVariables false

theorem Fr.fxt {K : TypeId → Bool} {mp : Bool} {x : Nat} {a b c : World} (h : Fr K mp a b) (k : Fx K mp x b c) (hx : a.heap.size ≤ x) : Fr K mp a c :=
  ⟨Nat.le_trans h.size k.size, fun i cs T fr hi hT => k.cells i cs T fr (h.cells i cs T fr hi hT) hT (fun e => by have := (Array.getElem?_eq_some_iff.1 hi).1; omega),
    fun hm i es cl hi => k.map hm i es cl (h.map hm i es cl hi) (fun e => by have := (Array.getElem?_eq_some_iff.1 hi).1; omega)⟩
theorem turn_fr {w w' : World} {m cl : Nat} {es : Array MapEntry} (hm : w.heap[m]? = some (.map es cl)) (hg : w.grownBy w' (some m)) : Fr (fun _ => false) true w w' :=
  ⟨hg.size, fun k cs T fr hk _ => (hg.block k (Array.getElem?_eq_some_iff.1 hk).1 (fun c => by cases c; rw [hm] at hk; cases hk)).trans hk, fun h => by cases h⟩
theorem MapI.blk {w : World} {K E : TypeId} {q : IntKind} {m n : Nat} {f : Int → Int} (h : MapI w K E q m n f) : ∃ es cl, w.heap[m]? = some (.map es cl) := by
  obtain ⟨D, ⟨es, cl, hb, _⟩, _⟩ := h
  exact ⟨es, cl, hb⟩
theorem WS.apartb {w0 w w' : World} {B : WB} {V : WV} {s : CS} (h : WS w0 w B V s) (hb : Below w.heap.size w w') {m : Nat} (hm : w.heap.size ≤ m) : w'.cell? ⟨B.cb, 0, none⟩ ≠ some (.map (some m)) := by
  obtain ⟨cs, hh⟩ := own_hdr h.own
  have e : w'.cell? ⟨B.cb, 0, none⟩ = w.cell? ⟨B.cb, 0, none⟩ := by
    have := (hb.block _ (Array.getElem?_eq_some_iff.1 hh).1).trans hh
    unfold World.cell?; simp only; rw [this, hh]
  rw [e]; exact h.apart hm
/-- A world, and a map that is none of its own. -/
structure WM (w0 w w1 : World) (B : WB) (V : WV) (s : CS) (K E : TypeId) (q : IntKind) (m n : Nat) (f : Int → Int) : Prop where
  ws : WS w0 w1 B V s
  mp : MapI w1 K E q m n f
  ne : w1.cell? ⟨B.cb, 0, none⟩ ≠ some (.map (some m))
  fr : Fr (fun _ => false) true w w1
  lo : w0.heap.size ≤ m
  fm : ∀ q ∈ V.fm, q.1 ≠ m
section
variable {w0 w w1 w2 : World} {B : WB} {V : WV} {s : CS} {K E : TypeId} {q : IntKind} {m n : Nat} {f g : Int → Int}
theorem WM.below (h : WM w0 w w1 B V s K E q m n f) (hb : Below w1.heap.size w1 w2) : WM w0 w w2 B V s K E q m n f := by
  obtain ⟨es, cl, hm⟩ := h.mp.blk
  have h2 := (h.ws.more hm h.ne).keep hb
  exact ⟨h.ws.keep hb, h.mp.below hb, (h2.fmk (m, es, cl) (by simp)).2, h.fr.trans (below_fr hb _ _), h.lo, h.fm⟩
theorem WM.put (h : WM w0 w w1 B V s K E q m n f) (hM : MapI w2 K E q m (n + 1) g) (hg : w1.grownBy w2 (some m)) : WM w0 w w2 B V s K E q m (n + 1) g := by
  obtain ⟨es, cl, hm⟩ := h.mp.blk
  obtain ⟨h1, h2⟩ := h.ws.turn hm h.ne h.lo hg h.fm
  exact ⟨h1, hM, h2, h.fr.trans (turn_fr hm hg), h.lo, h.fm⟩
theorem WM.new (h : WS w0 w B V s) (K E : TypeId) (q : IntKind) : WM w0 (w.alloc (.map #[] 0)) (w.alloc (.map #[] 0)) B V s K E q w.heap.size 0 fun _ => 0 := by
  have hb := below_alloc w (.map #[] 0)
  exact ⟨h.keep hb, MapI.made w K E q, h.apartb hb (Nat.le_refl _), Fr.refl _ _ _, h.below.size, fun q hq => Nat.ne_of_lt (Array.getElem?_eq_some_iff.1 (h.fmk q hq).1).1⟩
theorem WM.start (h : WM w0 w w1 B V s K E q m n f) : WM w0 w1 w1 B V s K E q m n f := ⟨h.ws, h.mp, h.ne, Fr.refl _ _ _, h.lo, h.fm⟩
/-- The map lies beside the world from here on. -/
theorem WM.aside (h : WM w0 w w1 B V s K E q m n f) : ∃ es cl, WS w0 w1 B { V with fm := (m, es, cl) :: V.fm } s ∧ ∀ w2 B2 V2 s2, WS w0 w2 B2 V2 s2 → (m, es, cl) ∈ V2.fm → MapI w2 K E q m n f ∧ w2.cell? ⟨B2.cb, 0, none⟩ ≠ some (.map (some m)) := by
  obtain ⟨es, cl, hm⟩ := h.mp.blk
  exact ⟨es, cl, h.ws.more hm h.ne, fun w2 B2 V2 s2 h2 hq => ⟨h.mp.keep ((h2.fmk _ hq).1.trans hm.symm), (h2.fmk _ hq).2⟩⟩
end
/-- Words that lie in memory, to be read. -/
def WRow (w : World) (a : Option Addr) (ws : List (Int × Int)) : Prop := ∀ k, (hk : k < ws.length) → ∃ g, a = some ⟨g, 0, none⟩ ∧ w.cell? ⟨g, k * 2, none⟩ = some (.int .u64 (ws[k]).1) ∧ w.cell? ⟨g, k * 2 + 1, none⟩ = some (.int .u64 (ws[k]).2)
theorem WFrom.at {w w' : World} {base : Nat} {a : Option Addr} {ws : List (Int × Int)} (h : WFrom w base a ws 0) (hf : Fr (fun _ => false) true w w') (k : Nat) (hk : k < ws.length) : ∃ g, a = some ⟨g, 0, none⟩ ∧ w'.cell? ⟨g, k * 2, none⟩ = some (.int .u64 (ws[k]).1) ∧ w'.cell? ⟨g, k * 2 + 1, none⟩ = some (.int .u64 (ws[k]).2) := by
  rcases h with h | ⟨g, cur, rfl, _, hg, hc⟩
  · omega
  · have h2 := hf.cells _ _ _ _ hg rfl
    obtain ⟨c1, c2⟩ := hc k (Nat.zero_le _) hk
    exact ⟨g, rfl, (hcell h2 _).trans c1, (hcell h2 _).trans c2⟩
theorem Adr.at {w w' : World} {base : Nat} {v : Value} {xs : List Int} (h : Adr w base v xs) (hf : Fr wTy true w w') : ∃ a, v = .slice a xs.length xs.length ∧ ∀ k, (hk : k < xs.length) → ∃ g, a = some ⟨g, 0, none⟩ ∧ w'.cell? ⟨g, k, none⟩ = some (.int .u64 xs[k]) := by
  rcases h with ⟨rfl, rfl⟩ | ⟨g, cur, rfl, h1, h2, h3, h4⟩
  · exact ⟨none, rfl, fun k hk => by simp at hk⟩
  · refine ⟨_, rfl, fun k hk => ⟨g, rfl, ?_⟩⟩
    have h5 := hf.cells _ _ _ _ h2 rfl
    have : (cur.toList.take xs.length)[k]? = some (.int .u64 xs[k]) := by rw [h4]; simp [cu, hk]
    rw [List.getElem?_take, if_pos hk, Array.getElem?_toList] at this
    exact (hcell h5 _).trans this
theorem lenl (xs : List Int) : xs.length ≤ maxLen → True := fun _ => trivial
theorem twice_in {xs : List Int} {k : Nat} (hk : k < xs.length) : twice xs xs[k] = 2 := by unfold twice; rw [if_pos (List.getElem_mem hk)]
theorem pair_w (a b : Value) (W : World) : (Instr.field 37 (.agg #[a, b]) 0).run Tryz.prog W = .ok a W := by kernel_rfl
theorem look_i {w : World} {K E t : TypeId} {q : IntKind} {m n : Nat} {f : Int → Int} (h : MapI w K E q m n f) (hK : Tryz.prog.underlying K = some (.int .u64)) (hE : Tryz.prog.underlying E = some (.int q)) (hz : ∀ w, (zeroValue E).run Tryz.prog w = .ok (.int q 0) w) (ht : Tryz.prog.underlying t = some (.map K E)) {a v : Int} (ha : (Lit.int .u64 a).wf = true) (hv : f a = v) (st : ExtW w) :
    (Instr.lookup t (.map (some m)) (.int .u64 a) false).run Tryz.prog st.val = .ok (.int q v) st.val := by
  subst hv
  exact ((h.below st.below).look hK hE (hz _) ht ha).1
end Go.Proofs.YthehdcpjlddbpaaGreat

/-
  StripesTwice: the walk.
-/
namespace Go.Proofs.YthehdcpjlddbpaaGreat
open Go.RowKit Go.Maps
set_option linter.unusedVariables false

set_option maxRecDepth 100000 in
set_option maxHeartbeats 8000000 in
theorem twice_any (f : Fst) (l : List (Int × Int)) (ao : Option Addr) (cap : Nat) (w : World) (hr : FstRd w f) (hl : Plc w ao cap l) :
    Calls Tryz.prog 5 #[.agg #[.int .i64 f.c.bits, .int .i64 f.c.budget, .int .i64 f.c.tries, .int .i64 f.c.quantum, .int .i64 f.c.way, .bool f.gr, .slice f.ia f.its.length f.ic, .slice f.pa f.puts.length f.pc, .slice f.sa f.sts.length f.sc, .int .i64 f.ticks], .slice ao l.length cap] w
    fun e w' => e = .returned (.bool true) ∧ Below w.heap.size w w' := by
  have hml : l.length ≤ maxLen := Nat.le_trans hl.le hl.most
  unfold maxLen at hml
  have hB := below_alloc w (.cells f.cells 28)
  have z := heap_alloc_new w (.cells f.cells 28)
  have HR := Lib.hid (hr.below hB); have HB := Lib.hid hB; have HZ := Lib.hid z; have HLL := Lib.hid (hl.below hB)
  clear hr hB z hl
  have hmm := @run_makeMap Tryz.prog
  go_enter Tryz.func5, Tryz.ntmps5
  go_upto_region 1 with (fail)
  change Code.wp _ _ _ _ (w.alloc (.cells f.cells 28))
  generalize w.alloc (.cells f.cells 28) = w1 at *
  have z := HZ.out
  obtain ⟨e0, e1, e2, e3, e4, e5, e6, e7, e8, e9⟩ := fst_cells z
  clear z
  by_cases h3 : 30 < l.length
  · have d3 : decide ((30 : Int) < l.length) = true := decide_eq_true (by omega)
    clear h3
    go_upto_if 21 with (go_at_call 10; refine (great_any f w1 HR.out).mono ?_; rintro e w2 ⟨g, rfl, b2, hg⟩; have B2 := Lib.hid b2; clear b2 hg e0 e1 e2 e3 e4 e5 e6 e7 e8 e9; cases g)
    all_goals
      go_wp2_with (go_at_call 31; refine (lives12 _).mono ?_; rintro e w3 ⟨rfl, b3⟩)
      go_ret
      have h1 := HB.out.trans (B2.out.mono HB.out.size)
      exact ⟨rfl, h1.trans (b3.mono h1.size)⟩
  have d3 : decide ((30 : Int) < l.length) = false := decide_eq_false (by omega)
  have HL3 : Hid (l.length ≤ 30) := by show l.length ≤ 30; omega
  clear h3
  go_upto_if 21 with (go_at_call 10; refine (great_any f w1 HR.out).mono ?_; rintro e w2 ⟨g, rfl, b2, hg⟩; have B2 := Lib.hid b2; have HG := Lib.hid hg; clear b2 hg e0 e1 e2 e3 e4 e5 e6 e7 e8 e9; cases g)
  rotate_left
  · go_wp2_with (go_at_call 31; refine (lives12 _).mono ?_; rintro e w3 ⟨rfl, b3⟩)
    go_ret
    have h1 := HB.out.trans (B2.out.mono HB.out.size)
    exact ⟨rfl, h1.trans (b3.mono h1.size)⟩
  obtain ⟨hin, hsz⟩ := HG.out trivial
  have HIN := Lib.hid (hin.below B2.out)
  have HBB : Hid (Below w.heap.size w w2) := HB.out.trans (B2.out.mono HB.out.size)
  have z := (B2.out.block _ (Array.getElem?_eq_some_iff.1 HZ.out).1).trans HZ.out
  obtain ⟨e0, e1, e2, e3, e4, e5, e6, e7, e8, e9⟩ := fst_cells z
  have HLL2 := Lib.hid (HLL.out.below B2.out)
  clear z hin hsz HLL
  have hpw := pair_w
  go_upto_region 4 with (go_at_call 12; refine (begin_any f w2 HIN.out).mono ?_; rintro e w3 ⟨B, R, V, s, x, rfl, hpr, hV, hfar, hcok, -⟩; have H3 := Lib.hid hpr.ws; have HFM := Lib.hid (show V.fm = [] by rw [hV]; rfl); have HFAR := Lib.hid (And.intro hfar.1 hfar.2.1); clear hpr hV hfar hcok e0 e1 e2 e3 e4 e5 e6 e7 e8 e9)
  have hof := of_any l ao cap w3 (HLL2.out.below H3.out.below) (by have := HL3.out; omega)
  clear d3 HG HIN HR HB B2 HZ
  go_upto_region 5 with (go_at_call 32; refine hof.mono ?_; rintro e w4 ⟨va, rfl, had, b4⟩; have HAD := Lib.hid had; have H4 := Lib.hid (H3.out.keep b4); clear had b4 hof hpw)
  have hm4 := WM.new H4.out 73 45 .u64
  have hf4 : Fr wTy true w4 (w4.alloc (.map #[] 0)) := below_fr (below_alloc w4 _) _ _
  obtain ⟨xs, hxs⟩ : ∃ xs, xs = vof l := ⟨_, rfl⟩
  have had := HAD.out
  rw [← hxs] at had
  have HXS : Hid (xs = vof l) := hxs
  have HAD := Lib.hid had
  obtain ⟨aa, rfl, -⟩ := had.at (Fr.refl _ _ _)
  have hxl : xs.length ≤ 30 := by have := vof_len l; have := HL3.out; rw [hxs]; omega
  have HXL := Lib.hid hxl
  clear had hxl hxs
  go_upto_region 6 with (fail)
  change Code.wp _ _ _ _ (w4.alloc (.map #[] 0))
  have HM4 := Lib.hid hm4; have HF4 := Lib.hid hf4
  generalize hw5 : w4.alloc (.map #[] 0) = w5 at *
  have HM1 := Lib.hid (show w4.heap.size < w5.heap.size by rw [← hw5]; simp)
  generalize w4.heap.size = m1 at *
  clear hm4 hf4 hw5
  have c0 := HM4.out.ws.c0
  have hwd := words_own HM4.out.ws.own (by have := HFAR.out.1; omega)
  go_upto_region 7 with (go_at_call 33; refine hwd.mono ?_; rintro e w6 ⟨ga, ws, rfl, hws, b6⟩; have HWS := Lib.hid hws; have HM6 := Lib.hid ((HM4.out.below b6).start); have HF6 := Lib.hid (HF4.out.trans (below_fr b6 _ _)); clear hws b6 hwd c0)
  have hwl : ws.length ≤ 1000000 := HWS.out.most
  clear HM4 HF4
  go_wp2_with fail
  go_loopw [9] (fun i wr => ∃ (k : Nat), k ≤ ws.length ∧ i = .int .i64 k ∧ WM w2 w6 wr B V s 73 45 .u64 m1 k (rlook (ws.take k))) (fun i _ => ws.length - (intOf i).toNat)
  case atStart => exact ⟨0, by omega, rfl, HM6.out⟩
  case round =>
    obtain ⟨k, hk, rfl, hT⟩ := hrel
    by_cases hlt : k < ws.length
    · have hlt' : (k : Int) < ws.length := by omega
      obtain ⟨g, rfl, g0, g1⟩ := HWS.out.row.at hT.fr k hlt
      have hwf := HWS.out.wf _ (List.getElem_mem hlt)
      have HW1 := Lib.hid hwf
      have htk := rlook_take HWS.out.ris k hlt
      have HTK := Lib.hid htk
      have HT := Lib.hid hT
      clear htk hwf hT
      have x0 := fun st : ExtW wr => st.cell g0
      have x1 := fun st : ExtW wr => st.cell g1
      generalize (ws[k]).1 = ka at *
      generalize (ws[k]).2 = kv at *
      clear g0 g1
      go_upto_region 10 with (fail)
      refine wp_region_ext_tail 11 (by kernel_rfl) (by kernel_rfl) ?_
      simp only [List.take_succ_cons, List.take_zero, List.drop_succ_cons, List.drop_zero]
      repeat (go_big_quiet_step (fail))
      refine wpQuiet_nil ?_
      rintro W ⟨⟨W2, hW⟩, rfl⟩
      clear x0 x1
      have HT2 := Lib.hid (HT.out.below hW)
      clear hW
      go_wp2_with (at_mapUpdate; refine wpList_puti rfl _ _ _ rfl HT2.out.mp Tryz.underlying73 Tryz.underlying45 Tryz.underlying87 rfl (by unfold maxLen; omega) _ _ rfl rfl HW1.out.1 HW1.out.2 ?_; intro w9 hm9 hg9; have HT9 := Lib.hid (HT2.out.put hm9 hg9); clear hm9 hg9)
      go_roundw
      case rel => exact ⟨k + 1, by omega, by go_num, by rw [HTK.out]; exact HT9.out⟩
      case measure => simp [intOf]; omega
    · obtain rfl : k = ws.length := by omega
      have hend : WM w2 w6 wr B V s 73 45 .u64 m1 ws.length s.val := by
        rw [List.take_length] at hT
        have e : rlook ws = s.val := funext HWS.out.look
        rw [← e]; exact hT
      have HT := Lib.hid hend
      have HF6r : Hid (Fr wTy true w4 wr) := HF6.out.trans (hend.fr.mono (fun _ _ => rfl) id)
      have HSZ : Hid (w6.heap.size ≤ wr.heap.size) := hend.fr.size
      clear hend hT hlt HM6 HF6 HWS hk
      obtain ⟨es1, cl1, hV1, haside⟩ := HT.out.aside
      obtain ⟨V1, hV1e⟩ : ∃ V1, V1 = { V with fm := (m1, es1, cl1) :: V.fm } := ⟨_, rfl⟩
      rw [← hV1e] at hV1
      have HIN1 : Hid ((m1, es1, cl1) ∈ V1.fm) := by show _ ∈ _; rw [hV1e]; simp
      have HV1 := Lib.hid hV1; have HASIDE := Lib.hid haside
      have HFM1 : Hid (∀ q ∈ V1.fm, q.1 < wr.heap.size) := fun q hq => (Array.getElem?_eq_some_iff.1 (hV1.fmk q hq).1).1
      clear hV1 haside hV1e HT
      have hx := fun (a : Int) (ha : a ∈ xs) => (by rw [HXS.out] at ha; have := vof_memt a ha; exact u64_small a (by omega) : (Lit.int .u64 a).wf = true)
      have HX := Lib.hid hx
      clear hx
      have hnm := fun (W : World) (h : Below w2.heap.size w2 W) => newmark_any l ao cap W (HLL2.out.below h) (by have := HL3.out; omega)
      rw [← HXS.out] at hnm
      have HNM := Lib.hid hnm
      clear hnm
      have hn1 := HNM.out wr HV1.out.below
      have hxl := HXL.out
      have HM0 := Lib.hid HFAR.out
      go_upto_if 68 with (first
        | (go_at_call 34; with_reducible refine hn1.mono ?_; intro e w11 hh; obtain ⟨mb, hh1, M11, l11, b11⟩ := hh; subst hh1; have H11 := HV1.out.keep b11; have hrun1 := wmrun H11 300 HM0.out (by omega) M11 (Nat.le_trans HV1.out.below.size l11) HX.out (by omega); have HF11 := Lib.hid (HF6r.out.trans (below_fr b11 _ _)); have L11 := Lib.hid (Nat.le_trans HF6r.out.size l11); clear hn1 M11 l11 b11 H11)
        | (go_at_call 20; with_reducible refine hrun1.mono ?_; intro e w12 hh; obtain ⟨hh1, h12, f12⟩ := hh; subst hh1; have hn2 := HNM.out w12 h12.below; have H12 := Lib.hid h12; have HF12 := Lib.hid (HF11.out.fxt f12 L11.out); clear h12 f12 hrun1)
        | (go_at_call 34; with_reducible refine hn2.mono ?_; intro e w13 hh; obtain ⟨mb2, hh1, M13, l13, b13⟩ := hh; subst hh1; have H13 := H12.out.keep b13; have hle := marked_le s xs 300 HM0.out; have hrun2 := wmrun H13 (300 + xs.length) hle (by omega) M13 (Nat.le_trans H12.out.below.size l13) HX.out (by omega); have HF13 := Lib.hid (HF12.out.trans (below_fr b13 _ _)); have L13 := Lib.hid (Nat.le_trans HF12.out.size l13); clear hn2 M13 l13 b13 H13 hle)
        | (go_at_call 20; with_reducible refine hrun2.mono ?_; intro e w14 hh; obtain ⟨hh1, h14, f14⟩ := hh; subst hh1; have H14 := Lib.hid h14; have HF14 := Lib.hid (HF13.out.fxt f14 L13.out); clear h14 f14 hrun2))
      have HLE : Hid ((marked (marked s xs) xs).n ≤ 1000000) := by have h1 := marked_le (marked s xs) xs (300 + xs.length) (marked_le s xs 300 HM0.out); show _ ≤ _; omega
      have HTW : Hid (∀ a, (marked (marked s xs) xs).val a = wu (s.val a + twice xs a)) := marked_twice s xs (by rw [HXS.out]; exact vof_nodup l) HV1.out.own.wf
      clear H12 HF11 HF12 HF13 L11 L13 HM0 HX HNM HFAR
      generalize marked (marked s xs) xs = s2 at *
      have HAS2 := Lib.hid (fun (w2' : World) (h : WS w2 w2' B V1 s2) => HASIDE.out w2' B V1 s2 h HIN1.out)
      have hf1 : ∀ q ∈ V1.fm, q.1 < w14.heap.size := fun q hq => (Array.getElem?_eq_some_iff.1 (H14.out.fmk q hq).1).1
      have hm5 := WM.new H14.out 73 45 .u64
      have hf5 : Fr wTy true w4 (w14.alloc (.map #[] 0)) := HF14.out.trans (below_fr (below_alloc w14 _) _ _)
      go_upto_region 14 with (fail)
      change Code.wp _ _ _ _ (w14.alloc (.map #[] 0))
      have HM5 := Lib.hid hm5; have HF5 := Lib.hid hf5
      generalize hw15 : w14.alloc (.map #[] 0) = w15 at *
      generalize w14.heap.size = m2 at *
      clear hm5 hf5 hw15 hf1 HASIDE HV1 HFM1 H14 HF14
      go_wp2_with fail
      go_loopw [11] (fun i wr => ∃ (k : Nat), k ≤ xs.length ∧ i = .int .i64 k ∧ WM w2 w15 wr B V1 s2 73 45 .u64 m2 k (twice (xs.take k))) (fun i _ => xs.length - (intOf i).toNat)
      case atStart => exact ⟨0, by omega, rfl, HM5.out⟩
      case round =>
        obtain ⟨k, hk, rfl, hT⟩ := hrel
        by_cases hlt : k < xs.length
        · have hlt' : (k : Int) < xs.length := by omega
          have hrow : ∀ (W : World), Fr (fun _ => false) true w15 W → ∃ g, aa = some ⟨g, 0, none⟩ ∧ W.cell? ⟨g, k, none⟩ = some (.int .u64 xs[k]) := fun W hW => by
            obtain ⟨aa', haa, hat⟩ := HAD.out.at (HF5.out.trans (hW.mono (fun _ _ => rfl) id))
            simp only [Value.slice.injEq, and_true] at haa
            rw [haa]; exact hat k hlt
          have hmem := List.getElem_mem hlt
          have htk := twice_take xs k hlt
          have htin := twice_in hlt
          generalize xs[k] = ka at *
          have HROW := Lib.hid hrow
          have HTK := Lib.hid htk
          have HT := Lib.hid hT
          have hkw : Hid ((Lit.int .u64 ka).wf = true) := by
            rw [HXS.out] at hmem
            have := vof_memt ka hmem
            exact u64_small ka (by omega)
          have HZ : Hid (s2.val ka = wu (s.val ka + 2)) := by
            have := HTW.out ka
            rw [htin] at this; exact this
          have HKW : Hid ((Lit.int .u64 ka).wf = true) := hkw.out
          obtain ⟨g, rfl, g0⟩ := hrow wr hT.fr
          clear htk hT hrow hmem htin hkw
          go_upto_region 18 with (at_mapUpdate; refine wpList_puti rfl _ _ _ rfl HT.out.mp Tryz.underlying73 Tryz.underlying45 Tryz.underlying87 rfl (by unfold maxLen; omega) _ _ rfl rfl HKW.out (by decide) ?_; intro w17 hm9 hg9; have HT17 := Lib.hid (HT.out.put hm9 hg9); clear hm9 hg9)
          go_frame
          clear g0
          obtain ⟨g', hgg, g0⟩ := HROW.out w17 HT17.out.fr
          simp only [Option.some.injEq, Addr.mk.injEq, and_true] at hgg
          subst hgg
          have x0 := fun st : ExtW w17 => st.cell HT17.out.ws.c0
          have x1 := fun st : ExtW w17 => st.cell g0
          obtain ⟨v1, hv1⟩ : ∃ v1, v1 = s.val ka := ⟨_, rfl⟩
          obtain ⟨Z, hZ⟩ : ∃ Z, Z = wu (v1 + 2) := ⟨_, rfl⟩
          have hmi := (HAS2.out w17 HT17.out.ws).1
          have hlk := look_i (t := 87) hmi Tryz.underlying73 Tryz.underlying45 (fun W => by kernel_rfl) Tryz.underlying87 HKW.out hv1.symm
          have hp := peek_ext HT17.out.ws.own ka HKW.out Z (by rw [HZ.out, hZ, hv1])
          have hvw : (Lit.int .u64 v1).wf = true := by rw [hv1]; exact (hmi.look (t := 87) Tryz.underlying73 Tryz.underlying45 (by kernel_rfl) Tryz.underlying87 HKW.out).2
          have hzw : (Lit.int .u64 Z).wf = true := by rw [hZ]; exact wf_wu _
          have hzz : IntKind.u64.wrap (v1 + 2) = Z := hZ.symm
          obtain ⟨D, hD⟩ : ∃ D : Bool, D = (v1 % 2 == 1) := ⟨_, rfl⟩
          have hD2 : (Z % 2 == 1) = D := by
            rw [hD, hZ]; unfold wu; rw [IntKind.wrap_u64]
            have : (v1 + 2) % 18446744073709551616 % 2 = v1 % 2 := by omega
            rw [this]
          have ho1 : ∀ st : ExtW w17, Calls Tryz.prog 35 #[.int .u64 Z] st.val fun e w' => e = .returned (.bool D) ∧ st.val = w' := fun st => (odd_any Z hzw st.val).mono fun e w' ⟨he, hw⟩ => ⟨he.trans (by rw [hD2]), hw.symm⟩
          have ho2 : ∀ st : ExtW w17, Calls Tryz.prog 35 #[.int .u64 v1] st.val fun e w' => e = .returned (.bool D) ∧ st.val = w' := fun st => (odd_any v1 hvw st.val).mono fun e w' ⟨he, hw⟩ => ⟨he.trans (by rw [hD]), hw.symm⟩
          clear g0 hmi hv1 hZ hvw hzw hD hD2
          refine wp_region_ext (by kernel_rfl) (by kernel_rfl) ?_
          repeat (go_big_quiet_step (first
            | (go_at_call 25; with_reducible refine calls_ext_same (hp _))
            | (go_at_call 35; with_reducible refine calls_ext_same (ho1 _))
            | (go_at_call 35; with_reducible refine calls_ext_same (ho2 _))))
          refine wpQuiet_nil ?_
          rintro W ⟨⟨W2, hW⟩, rfl⟩
          clear x0 x1 hlk hp ho1 ho2 hzz
          have HT18 := Lib.hid (HT17.out.below hW)
          clear hW
          go_wp2_with fail
          go_roundw
          case rel => exact ⟨k + 1, by omega, by go_num, by rw [HTK.out]; exact HT18.out⟩
          case measure => simp [intOf]; omega
        · obtain rfl : k = xs.length := by omega
          rw [List.take_length] at hT
          have HT := Lib.hid hT
          have hwd := words_own hT.ws.own HLE.out
          have c0 := hT.ws.c0
          clear hT hlt hk HM5 HF5 HAD
          go_upto_region 21 with (go_at_call 33; refine hwd.mono ?_; rintro e w20 ⟨gb, ws2, rfl, hws, b20⟩; have HWS := Lib.hid hws; have H20 := Lib.hid (HT.out.below b20); clear hws b20 hwd c0)
          have hwl2 : ws2.length ≤ 1000000 := HWS.out.most
          have hmi1 := (HAS2.out w20 H20.out.ws).1
          have HMI1 := Lib.hid hmi1
          have HMI2 := Lib.hid H20.out.mp
          have HW20 := Lib.hid H20.out.ws
          clear hmi1 HT H20 HAS2
          go_wp2_with fail
          go_loopw [12] (fun i wr => ∃ (k : Nat), k ≤ ws2.length ∧ i = .int .i64 k ∧ Below w20.heap.size w20 wr) (fun i _ => ws2.length - (intOf i).toNat)
          case atStart => exact ⟨0, by omega, rfl, Below.refl _ _⟩
          case round =>
            obtain ⟨k, hk, rfl, hT⟩ := hrel
            by_cases hlt : k < ws2.length
            · have hlt' : (k : Int) < ws2.length := by omega
              obtain ⟨g, rfl, g0, g1⟩ := HWS.out.row.at (below_fr hT _ _) k hlt
              have hwf := (HWS.out.wf _ (List.getElem_mem hlt)).1
              have hval := (rlook_mem HWS.out.ris (List.getElem_mem hlt)).symm.trans ((HWS.out.look _).trans (HTW.out _))
              have HT := Lib.hid hT
              have x0 := fun st : ExtW wr => st.cell g0
              have x1 := fun st : ExtW wr => st.cell g1
              generalize (ws2[k]).1 = ka at *
              generalize (ws2[k]).2 = kv at *
              obtain ⟨v1, hv1⟩ : ∃ v1, v1 = s.val ka := ⟨_, rfl⟩
              obtain ⟨v2, hv2⟩ : ∃ v2, v2 = twice xs ka := ⟨_, rfl⟩
              have hlk1 := look_i (t := 87) (HMI1.out.below hT) Tryz.underlying73 Tryz.underlying45 (fun W => by kernel_rfl) Tryz.underlying87 hwf hv1.symm
              have hlk2 := look_i (t := 87) (HMI2.out.below hT) Tryz.underlying73 Tryz.underlying45 (fun W => by kernel_rfl) Tryz.underlying87 hwf hv2.symm
              have hz : IntKind.u64.wrap (v1 + v2) = kv := by rw [hv1, hv2]; exact hval.symm
              clear g0 g1 hwf hval hT hv1 hv2
              go_upto_region 24 with (fail)
              refine wp_region_ext (by kernel_rfl) (by kernel_rfl) ?_
              repeat (go_big_quiet_step (fail))
              refine wpQuiet_nil ?_
              rintro W ⟨⟨W2, hW⟩, rfl⟩
              clear x0 x1 hlk1 hlk2 hz
              have HT2 := Lib.hid (HT.out.trans (hW.mono HT.out.size))
              clear hW
              go_wp2_with fail
              go_roundw
              case rel => exact ⟨k + 1, by omega, by go_num, HT2.out⟩
              case measure => simp [intOf]; omega
            · obtain rfl : k = ws2.length := by omega
              clear hlt hk
              have HT := Lib.hid hT
              obtain ⟨D, hown, hat⟩ := HMI1.out.below hT
              have HAT := Lib.hid hat
              clear hat hT
              obtain ⟨wo, rfl⟩ : ∃ wo : World, wo = wr := ⟨_, rfl⟩
              have HRR : Hid (w20.heap.size ≤ wo.heap.size) := HT.out.size
              go_wp2_with (at_range; refine wpList_range_own _ rfl _ 87 rfl 73 45 (int_keyed Tryz.underlying73) Tryz.underlying87 _ m1 _ _ rfl hown ?_; intro w22 hrg0 hg0 hs0; have HB22 : Hid (Below w20.heap.size w20 w22) := HT.out.trans ⟨hg0.os, hg0.tape, hg0.output, hg0.size, fun k hk => hg0.block k (Nat.lt_of_lt_of_le hk HT.out.size) (by simp)⟩; have HRG := Lib.hid hrg0; clear hrg0 hg0 hs0 hown)
              try go_frame
              go_loopw [13, 14] (fun _ _ wq => ∃ (left : Lit → Bool) (cnt : Nat), wq.ranges Tryz.prog 73 (plainElem Tryz.prog 45) m1 wo.heap.size ws.length D left cnt ∧ Below w20.heap.size w20 wq) (fun _ _ wq => wq.rangeLeft m1 wo.heap.size)
              case atStart => exact ⟨_, _, HRG.out, HB22.out⟩
              case round =>
                clear HRG HB22 HT
                obtain ⟨left, cnt, hrg, hB⟩ := hrel
                go_wp2_with (at_next; refine wpList_next_ranges_ii _ rfl _ rfl 73 45 .u64 .u64 (int_keyed Tryz.underlying73) Tryz.underlying73 Tryz.underlying45 m1 wo.heap.size ws.length _ _ _ rfl hrg ?_ ?_)
                · intro _ _
                  have HB := Lib.hid hB
                  clear hB hrg
                  go_wp2_with (go_at_call 31; refine (lives12 _).mono ?_; intro e w30 hh; obtain ⟨hh1, b30⟩ := hh; subst hh1; have B30 := Lib.hid b30; clear b30)
                  go_ret
                  have h1 := HW20.out.below.trans (HB.out.mono HW20.out.below.size)
                  exact ⟨rfl, HBB.out.trans ((h1.trans (B30.out.mono h1.size)).mono HBB.out.size)⟩
                · intro ka c w1' cnt1 hwx hwc hlk hat hrg1 hlt1 hg1 hs1 hen
                  have hB1 : Below w20.heap.size w20 w1' := hB.trans ⟨hg1.os, hg1.tape, hg1.output, hg1.size, fun k hk => hg1.block k (Nat.lt_of_lt_of_le hk hB.size) (fun c => by cases c; exact absurd hk (Nat.not_lt.2 HRR.out))⟩
                  have hc : s.val ka = c := by
                    have := (hat (.lit (.int .u64 0))).symm.trans (HAT.out ka)
                    simp only [DataW.lit.injEq, Lit.int.injEq, true_and] at this
                    exact this.symm
                  obtain ⟨v2, hv2⟩ : ∃ v2, v2 = twice xs ka := ⟨_, rfl⟩
                  obtain ⟨Z, hZ⟩ : ∃ Z, Z = s2.val ka := ⟨_, rfl⟩
                  have hz : IntKind.u64.wrap (c + v2) = Z := by rw [hZ, HTW.out ka, hc, hv2]; rfl
                  have HB1 := Lib.hid hB1; have HRG1 := Lib.hid hrg1; have HLT := Lib.hid hlt1; have HRG0 := Lib.hid hrg
                  have hW1 := HW20.out.keep hB1
                  have x0 := fun st : ExtW w1' => st.cell hW1.c0
                  have hp := peek_ext hW1.own ka hwx Z hZ.symm
                  have hlk2 := look_i (t := 87) (HMI2.out.below hB1) Tryz.underlying73 Tryz.underlying45 (fun W => by kernel_rfl) Tryz.underlying87 hwx hv2.symm
                  clear hwx hwc hlk hat hrg1 hlt1 hg1 hs1 hB hrg hB1 hc hv2 hZ hW1
                  go_upto_region 29 with (fail)
                  clear hen
                  refine wp_region_ext (by kernel_rfl) (by kernel_rfl) ?_
                  repeat (go_big_quiet_step ((go_at_call 25; with_reducible refine calls_ext_same (hp _))))
                  refine wpQuiet_nil ?_
                  rintro W ⟨⟨W2, hW⟩, rfl⟩
                  clear x0 hp hlk2 hz
                  have HB2 := Lib.hid (HB1.out.trans (hW.mono HB1.out.size))
                  obtain ⟨es, clock, since, seen, c0', r1, r2, r3, r4, r5, r6⟩ := HRG1.out
                  have hrg2 : W.ranges Tryz.prog 73 (plainElem Tryz.prog 45) m1 wo.heap.size ws.length D (fun z => left z && !z.sameKey (.int .u64 ka)) cnt1 := ⟨es, clock, since, seen, c0', (hW.block _ (Array.getElem?_eq_some_iff.1 r1).1).trans r1, r2, r3, r4, (hW.block _ (Array.getElem?_eq_some_iff.1 r5).1).trans r5, r6⟩
                  have HRG2 := Lib.hid hrg2
                  clear hW hrg2 r1 r2 r3 r4 r5 r6
                  go_wp2_with fail
                  go_roundw
                  case rel => exact ⟨_, _, HRG2.out, HB2.out⟩
                  case measure => rw [HRG2.out.left_eq, HRG0.out.left_eq]; exact HLT.out
set_option maxRecDepth 10000 in
theorem walkStripesTwice {H1 : Type} (w : World) (enc : TypeId × Value → H1) (base : Nat) (v : Value) (d : DataW H1) (p : List MemPlace) (k : DataW.Trod enc Tryz.prog w 0 (fun _ => true) true 28 v d p) (o : Value.okWide Tryz.prog w .any base 28 v)
    (enc2 : TypeId × Value → H1) (base2 : Nat) (v2 : Value) (d2 : DataW H1) (p2 : List MemPlace) (k2 : DataW.Trod enc2 Tryz.prog w 0 (fun _ => true) true 64 v2 d2 p2) (o2 : Value.okWide Tryz.prog w .any base2 64 v2) :
    Calls Tryz.prog 5 #[v, v2] w fun e w' => e = .returned (.bool true) ∧ Below w.heap.size w w' := by
  obtain ⟨f, rfl, hr⟩ := fst_open k o
  obtain ⟨a1, n1, cap1, rfl⟩ := Go.WideShapes.okWide_slice Tryz.underlying64 o2
  obtain ⟨l, al, capl, hv, hac⟩ := plc_of (opened leaves_places k2).1
  rw [hv]
  exact twice_any f l al capl w hr hac
end Go.Proofs.YthehdcpjlddbpaaGreat
