/-
  StripesOf.
-/
import Derived.Test.YtccbejnonmbgnaaStripesLives
import Derived.Test.YtccbejnonmbgnaaStripesRef
import Derived.Test.YtccbejnonmbgnaaWorldsFull
import Derived.Laws.AppendOwnNone
namespace Go.Proofs.Ytccbejnonmbgnaa
open Go.RowKit Go.Maps
set_option linter.unusedVariables false

/-- The cells of places. -/
def flat (l : List (Int × Int)) : List Value := l.flatMap fun p => [.int .i64 p.1, .int .i64 p.2]
theorem flat_len (l : List (Int × Int)) : (flat l).length = l.length * 2 := by
  unfold flat
  induction l with
  | nil => rfl
  | cons p l ih => simp only [List.flatMap_cons, List.length_append, ih, List.length_cons, List.length_nil]; omega
theorem flat_at (l : List (Int × Int)) (i : Nat) (hi : i < l.length) : (flat l)[i * 2]? = some (.int .i64 (l[i]).1) ∧ (flat l)[i * 2 + 1]? = some (.int .i64 (l[i]).2) := by
  induction l generalizing i with
  | nil => simp at hi
  | cons p l ih =>
    have e : flat (p :: l) = .int .i64 p.1 :: .int .i64 p.2 :: flat l := rfl
    rw [e]
    cases i with
    | zero => exact ⟨rfl, rfl⟩
    | succ i =>
      have := ih i (by simpa using hi)
      rw [show (i + 1) * 2 = i * 2 + 1 + 1 by omega]
      simpa using this
theorem flat_one (l : List (Int × Int)) : ∀ u ∈ flat l, u.oneCell' = true := by
  intro u hu
  unfold flat at hu
  obtain ⟨p, hp, hu⟩ := List.mem_flatMap.1 hu
  simp only [List.mem_cons, List.not_mem_nil, or_false] at hu
  rcases hu with rfl | rfl <;> rfl
theorem add_plain (b off j : Nat) : (Addr.add ⟨b, off, none⟩ j) = ⟨b, off + j, none⟩ := by
  unfold Addr.add; split <;> simp_all
theorem Plc.news {w : World} {ad : Addr} {cap : Nat} {l : List (Int × Int)} (h : Plc w (some ad) cap l) : ∀ j u, (flat l)[j]? = some u → w.cell? (ad.add j) = some u := by
  intro j u hj
  have hlt : j < l.length * 2 := by rw [← flat_len]; exact (List.getElem?_eq_some_iff.1 hj).1
  rcases h.cell with rfl | ⟨b, off, hb, h5⟩
  · simp at hlt
  · simp only [Option.some.injEq] at hb
    subst hb
    obtain ⟨i, r, rfl, hr⟩ : ∃ i r, j = i * 2 + r ∧ r < 2 := ⟨j / 2, j % 2, by omega, by omega⟩
    have hi : i < l.length := by omega
    obtain ⟨f0, f1⟩ := flat_at l i hi
    obtain ⟨g0, g1⟩ := h5 i hi
    have : r = 0 ∨ r = 1 := by omega
    rcases this with rfl | rfl
    · rw [Nat.add_zero, f0] at hj; rw [← hj, add_plain]; exact g0
    · rw [f1] at hj; rw [← hj, add_plain, ← Nat.add_assoc]; exact g1
theorem Plc.of_own {w : World} {base : Nat} {v : Value} {l : List (Int × Int)} (h : w.ownsRow base 30 2 v l.length (flat l)) : ∃ ao cap, v = .slice ao l.length cap ∧ Plc w ao cap l := by
  obtain ⟨h1, ⟨rfl, h0⟩ | ⟨g, cap, cur, rfl, hb, hg, hn, hm, hs, ht⟩⟩ := h
  · have : l = [] := List.length_eq_zero_iff.1 h0
    subst this
    exact ⟨none, 0, rfl, Nat.le_refl _, Nat.zero_le _, fun _ => rfl, .inl rfl⟩
  · refine ⟨_, cap, rfl, hn, hm, fun h => by simp at h, .inr ⟨g, 0, rfl, fun i hi => ?_⟩⟩
    obtain ⟨f0, f1⟩ := flat_at l i hi
    rw [← ht, List.getElem?_take, if_pos (by omega)] at f0 f1
    simp only [Array.getElem?_toList] at f0 f1
    simp [World.cell?, hg, f0, f1]

theorem odd_any (v : Int) (hv : (Lit.int .u64 v).wf = true) (w : World) : Calls Try.prog 18 #[.int .u64 v] w fun e w' => e = .returned (.bool (v % 2 == 1)) ∧ w' = w := by
  have h : 0 ≤ v ∧ v < 18446744073709551616 := by
    have hmin : IntKind.u64.min = 0 := rfl
    have hmax : IntKind.u64.max = 18446744073709551615 := rfl
    simp only [Lit.wf, Bool.and_eq_true, decide_eq_true_eq] at hv; omega
  have hb : bits .and .u64 v 1 = v % 2 := mask_u64 v 1 1 (by decide) (by decide) h.1 h.2
  go_enter Try.func18, Try.ntmps18
  go_wp2
  go_ret
  exact ⟨rfl, rfl⟩
theorem rodd_any (v : Int) (hv : (Lit.int .u64 v).wf = true) (w : World) : Calls Try.prog 19 #[.int .u64 v] w fun e w' => e = .returned (.bool (v % 2 == 1)) ∧ w' = w := by
  have h : 0 ≤ v ∧ v < 18446744073709551616 := by
    have hmin : IntKind.u64.min = 0 := rfl
    have hmax : IntKind.u64.max = 18446744073709551615 := rfl
    simp only [Lit.wf, Bool.and_eq_true, decide_eq_true_eq] at hv; omega
  have hb : v.tmod 2 = v % 2 := Int.tmod_eq_emod_of_nonneg h.1
  go_enter Try.func19, Try.ntmps19
  go_wp2
  go_ret
  exact ⟨rfl, rfl⟩

theorem info_place : (Try.prog.info? 30).map (fun i => (i.zero, i.size, i.bytes)) = some (some (.agg #[.int .i64 0, .int .i64 0]), 2, 16) := by kernel_rfl
theorem append_places {ops : Array Oper} {rest : List Oper} {o : Oper} {a : Act} {Q : Exit → Act → World → Prop} {w : World} (hgd : o.guard = none) (s x : Operand)
    (ho : o.op = .call { callee := .builtin .append, args := #[s, x], argTypes := #[22, 22] }) (l : List (Int × Int)) (ao : Option Addr) (cap : Nat)
    (hs : a.eval s = .slice none 0 0) (hx : a.eval x = .slice ao l.length cap) (h : Plc w ao cap l) (hl : l.length ≤ 1000000)
    (K : ∀ v' w', w'.ownsRow w.heap.size 30 2 v' l.length (flat l) → Below w.heap.size w w' → wpList Try.prog ops Q rest (a.put o.dst v') w') : wpList Try.prog ops Q (o :: rest) a w := by
  obtain ⟨i0, hi0, hz0, hz1, hz2⟩ := info_parts info_place
  cases ao with
  | none =>
    have hc := h.nil rfl
    have hl0 := h.le
    have h0 : l = [] := List.length_eq_zero_iff.1 (by omega)
    subst h0 hc
    refine wpList_append_own_none hgd s x _ ho w.heap.size 30 i0 2 Try.underlying22 hi0 _ 0 [] hs (World.ownsRow_nil _ _ _ _) hx (K _ _ (World.ownsRow_nil _ _ _ _) (Below.refl _ _))
  | some ad =>
    refine wpList_append_own _ hgd s x _ ho w.heap.size 30 i0 (.agg #[.int .i64 0, .int .i64 0]) 2 16 Try.underlying22 hi0 hz0 hz1 hz2 rfl (by decide) (.slice none 0 0) 0 [] hs (World.ownsRow_nil _ _ _ _) ad l.length cap (flat l) hx (flat_len l) h.news (flat_one l) (by unfold maxLen; omega) (by omega) (Nat.le_refl _) fun v' w' h1 h2 _ => ?_
    rw [Nat.zero_add, List.nil_append] at h1
    exact K v' w' h1 ((Below.refl _ w).grown h2 (Nat.le_refl _) (fun j hj => by simp [Value.ownBlock] at hj))
theorem adr_form {w : World} {base : Nat} {v : Value} {xs : List Int} (h : Adr w base v xs) : ∃ a ga, v = .slice a xs.length xs.length ∧ base ≤ ga ∧ (0 < xs.length → a = some ⟨ga, 0, none⟩ ∧ ga < w.heap.size ∧ (∀ (j : Nat) (hj : j < xs.length), w.cell? ⟨ga, j, none⟩ = some (.int .u64 xs[j])) ∧ (∀ j, w.frozen? ⟨ga, j, none⟩ = false)) := by
  rcases h with ⟨rfl, rfl⟩ | ⟨g, cur, rfl, h1, h2, h3, h4⟩
  · exact ⟨none, base, rfl, Nat.le_refl _, fun h => by simp at h⟩
  · refine ⟨_, g, rfl, h1, fun _ => ⟨rfl, (Array.getElem?_eq_some_iff.1 h2).1, fun j hj => ?_, fun j => by simp [World.frozen?, h2]⟩⟩
    have : (cur.toList.take xs.length)[j]? = some (.int .u64 xs[j]) := by rw [h4]; simp [cu, hj]
    rw [List.getElem?_take, if_pos hj, Array.getElem?_toList] at this
    simp [World.cell?, h2, this]
theorem own_form {w : World} {base : Nat} {v : Value} {xs : List Int} (h : w.ownsRow base 28 1 v xs.length (cu xs)) : ∃ a gb cap, v = .slice a xs.length cap ∧ (0 < xs.length → a = some ⟨gb, 0, none⟩ ∧ base ≤ gb ∧ gb < w.heap.size ∧ (∀ (j : Nat) (hj : j < xs.length), w.cell? ⟨gb, j, none⟩ = some (.int .u64 xs[j]))) := by
  obtain ⟨h1, ⟨rfl, h0⟩ | ⟨g, cap, cur, rfl, hb, hg, hn, hm, hs, ht⟩⟩ := h
  · exact ⟨none, 0, 0, by rw [h0], fun h => by omega⟩
  · refine ⟨_, g, cap, rfl, fun _ => ⟨rfl, hb, (Array.getElem?_eq_some_iff.1 hg).1, fun j hj => ?_⟩⟩
    have : (cur.toList.take (xs.length * 1))[j]? = some (.int .u64 xs[j]) := by rw [ht]; simp [cu, hj]
    rw [Nat.mul_one, List.getElem?_take, if_pos hj, Array.getElem?_toList] at this
    simp [World.cell?, hg, this]

theorem keeps_cell {S : Nat → Prop} {w w' : World} (h : Keeps S w w') {b o : Nat} {v : Value} (hc : w.cell? ⟨b, o, none⟩ = some v) (hb : ¬ S b) : w'.cell? ⟨b, o, none⟩ = some v :=
  (World.cell?_of_block (w := w) (a := ⟨b, o, none⟩) (h.block b (World.block_lt_of_cell? _ _ hc) hb)).trans hc

set_option maxRecDepth 10000 in
set_option maxHeartbeats 4000000 in
theorem sof_any (l : List (Int × Int)) (ao : Option Addr) (cap : Nat) (v : Int) (hv : (Lit.int .u64 v).wf = true) (w : World) (h : Plc w ao cap l) :
    Calls Try.prog 3 #[.slice ao l.length cap, .int .u64 v] w fun e w' => e = .returned (.bool true) ∧ Below w.heap.size w w' := by
  by_cases hbig : 300 < l.length
  · have hbig' : (300 : Int) < (l.length : Int) := by omega
    go_enter Try.func3, Try.ntmps3
    go_wp2_with (go_at_call 15; refine (lives12 _).mono ?_; rintro e W' ⟨rfl, hb⟩)
    go_ret
    exact ⟨rfl, hb⟩
  · have hbig' : (l.length : Int) ≤ 300 := by omega
    have HP := Lib.hid h; have HV := Lib.hid hv
    have hml : l.length ≤ 300 := by omega
    clear hv hbig
    go_enter Try.func3, Try.ntmps3
    go_wp2_with (at_builtin; refine append_places rfl _ _ rfl l _ _ rfl rfl h (by omega) ?_)
    intro v' w1 hown' hB1
    obtain ⟨at1, cap1, rfl, hp1⟩ := Plc.of_own hown'
    have hml1 : l.length ≤ 1000000 := by omega
    have HB1 := Lib.hid hB1
    have hof := of_any l at1 cap1 w1 hp1 hml1
    have hp0 := h.below hB1
    clear hown' hB1 h
    go_wp2_with (first
      | (go_at_call 16; with_reducible refine hof.mono ?_; rintro e w2 ⟨va, rfl, hA, b2⟩; clear hof; have hp2 := hp0.below b2; obtain ⟨aa, ga, hva, hga, hA1⟩ := adr_form hA; subst hva)
      | (go_at_call 17; with_reducible refine (rof_any l ao cap w2 hp2 hml1).mono ?_; rintro e w3 ⟨vb, rfl, hR, b3⟩; obtain ⟨ab, gb, cb, hvb, hR1⟩ := own_form hR; subst hvb)
      | (go_at_call 18; refine (odd_any v HV.out _).mono ?_; rintro e w4 ⟨rfl, hw⟩; obtain rfl := hw.symm)
      | (go_at_call 19; refine (rodd_any v HV.out _).mono ?_; rintro e w4 ⟨rfl, hw⟩; obtain rfl := hw.symm))
    have hxl := vof_len l
    obtain ⟨xs, hxs⟩ : ∃ xs, xs = vof l := ⟨_, rfl⟩
    rw [← hxs] at hxl hA1 hR1 hA hR
    simp only [← hxs]
    have HXS := Lib.hid hxs; have HA1 := Lib.hid hA1; have HR1 := Lib.hid hR1; have B2 := Lib.hid b2; have B3 := Lib.hid b3; have HP1 := Lib.hid hp1; have HP0 := Lib.hid hp0
    have HG := Lib.hid hga
    clear hxs hA1 hR1 hA hR b2 b3 hp1 hp0 hp2 hga
    have hcells : ∀ wr, Keeps (· = ga) w3 wr → Below w1.heap.size w1 wr := fun wr hk => keeps_below hk (B2.out.trans (B3.out.mono B2.out.size)) (Nat.le_trans B2.out.size B3.out.size) fun k hk => by rw [hk]; exact HG.out
    have HCC := Lib.hid hcells
    clear hcells
    go_loopw [8] (fun i wr => ∃ k : Nat, k ≤ xs.length ∧ i = .int .i64 k ∧ Keeps (· = ga) w3 wr ∧ (∀ (j : Nat) (hj : j < xs.length), k ≤ j → wr.cell? ⟨ga, j, none⟩ = some (.int .u64 xs[j]) ∧ wr.frozen? ⟨ga, j, none⟩ = false)) (fun i _ => xs.length - (intOf i).toNat)
    case atStart =>
      refine ⟨0, by omega, rfl, below_keeps (Below.refl _ _) _, fun j hj _ => ?_⟩
      obtain ⟨-, h1, h2, h3⟩ := HA1.out (by omega)
      exact ⟨(B3.out.cell (p := ⟨ga, j, none⟩) h1).trans (h2 j hj), (B3.out.frozen (p := ⟨ga, j, none⟩) h1).trans (h3 j)⟩
    case round =>
      obtain ⟨k, hk, rfl, hK, hc⟩ := hrel
      by_cases hlt : k < xs.length
      · obtain ⟨e1, g1, -, -⟩ := HA1.out (by omega)
        obtain ⟨e2, g2, g3, g4⟩ := HR1.out (by omega)
        subst e1; subst e2
        obtain ⟨c0, f0⟩ := hc k hlt (Nat.le_refl _)
        have c1 := keeps_cell hK (g4 k hlt) (fun (c : gb = ga) => by omega)
        have HC := Lib.hid hc; have HK := Lib.hid hK
        have hlt' : (k : Int) < xs.length := by omega
        clear hc hK g4
        generalize xs[k] = x at *
        have x0 := fun st : ExtW wr => st.cell c0
        have x1 := fun st : ExtW wr => st.cell c1
        have HGA : Hid (ga < wr.heap.size) := World.block_lt_of_cell? _ _ c0
        go_wp2
        refine wp_region_ext (by kernel_rfl) (by kernel_rfl) ?_
        repeat (go_big_quiet_step (fail))
        refine wpQuiet_nil ?_
        rintro W ⟨⟨W2, hW⟩, rfl⟩
        have y0 := (hW.cell (p := ⟨ga, k, none⟩) HGA.out).trans c0
        have y1 := (hW.frozen (p := ⟨ga, k, none⟩) HGA.out).trans f0
        have HW := Lib.hid hW
        clear x0 x1 c0 c1 f0 hW
        go_wp2
        go_roundw
        case rel =>
          refine ⟨k + 1, by omega, by go_num, (HK.out.again (below_keeps HW.out _)).again (setCell_keeps _ _ _ _), fun j hj hkj => ?_⟩
          obtain ⟨d0, d1⟩ := HC.out j hj (by omega)
          refine ⟨(World.cell?_setCell_other _ _ _ _ (by first | (simp; done) | (simp; omega))).trans ((HW.out.cell (p := ⟨ga, j, none⟩) HGA.out).trans d0), ?_⟩
          rw [World.frozen?_setCell]
          exact (HW.out.frozen (p := ⟨ga, j, none⟩) HGA.out).trans d1
        case measure => simp [intOf]; omega
      · obtain rfl : k = xs.length := by omega
        have HK := Lib.hid hK
        clear hc hK
        go_wp2
        go_loopw [9] (fun i wr => ∃ k : Nat, k ≤ l.length ∧ i = .int .i64 k ∧ Keeps (· = ga) w3 wr) (fun i _ => l.length - (intOf i).toNat)
        case atStart => exact ⟨0, by omega, rfl, HK.out⟩
        case round =>
          obtain ⟨k, hk, rfl, hK2⟩ := hrel
          have hb2 := HCC.out _ hK2
          have HK2 := Lib.hid hK2
          clear hK2
          by_cases hlt2 : k < l.length
          · obtain ⟨b, off, x, y, e1, hx, c0, c1⟩ := (HP1.out.below hb2).at k hlt2
            obtain ⟨b', off', x', y', e1', hx', c0', c1'⟩ := (HP0.out.below hb2).at k hlt2
            have hxy := hx.symm.trans hx'
            simp only [Option.some.injEq, Prod.mk.injEq] at hxy
            obtain ⟨rfl, rfl⟩ := hxy
            subst e1; subst e1'
            have x0 := fun st : ExtW wr => st.cell c0
            have x1 := fun st : ExtW wr => st.cell c1
            have x2 := fun st : ExtW wr => st.cell c0'
            have x3 := fun st : ExtW wr => st.cell c1'
            have hlt3 : (k : Int) < l.length := by omega
            clear hx hx' c0 c1 c0' c1' hb2
            go_wp2
            refine wp_region_ext (by kernel_rfl) (by kernel_rfl) ?_
            repeat (go_big_quiet_step (fail))
            refine wpQuiet_nil ?_
            rintro W ⟨⟨W2, hW⟩, rfl⟩
            clear x0 x1 x2 x3
            go_wp2
            go_roundw
            case rel => exact ⟨k + 1, by omega, by go_num, HK2.out.again (below_keeps hW _)⟩
            case measure => simp [intOf]; omega
          · obtain rfl : k = l.length := by omega
            have hof := of_any l at1 cap1 wr (HP1.out.below hb2) hml1
            have HB4 := Lib.hid (HB1.out.trans (hb2.mono HB1.out.size))
            clear hb2
            go_wp2_with (go_at_call 16; with_reducible refine hof.mono ?_; rintro e w5 ⟨vc, rfl, hA5, b5⟩; clear hof; obtain ⟨ac, gc, hvc, hgc, hC1⟩ := adr_form hA5; subst hvc)
            rw [← HXS.out] at hC1
            simp only [← HXS.out]
            have HB5 := Lib.hid (HB4.out.trans (b5.mono HB4.out.size))
            by_cases hz : xs.length = 0
            · have hz2 : ((xs.length : Int) == 0) = true := by rw [hz]; rfl
              clear hz hC1
              refine wp_region_ext (by kernel_rfl) (by kernel_rfl) ?_
              repeat (go_big_quiet_step ((go_at_call 15; with_reducible refine calls_ext (lives12 _))))
              refine wpQuiet_nil ?_
              rintro W ⟨⟨W2, hW⟩, rfl⟩
              go_wp2
              go_ret
              exact ⟨rfl, HB5.out.trans (hW.mono HB5.out.size)⟩
            · obtain ⟨e3, g5, g6, -⟩ := hC1 (by omega)
              obtain ⟨e2, g2, g3, g4⟩ := HR1.out (by omega)
              subst e3; subst e2
              have hz2 : ((xs.length : Int) == 0) = false := beq_eq_false_iff_ne.2 (by omega)
              have hz3 : (0 : Int) < xs.length := by omega
              have c0 := g6 0 (by omega)
              have c1 := (b5.cell (p := ⟨gb, 0, none⟩) (Nat.lt_of_lt_of_le g3 HK2.out.size)).trans (keeps_cell HK2.out (g4 0 (by omega)) (fun (c : gb = ga) => by have := (HA1.out (by omega)).2.1; omega))
              generalize xs[0] = x at *
              have x0 := fun st : ExtW w5 => st.cell c0
              have x1 := fun st : ExtW w5 => st.cell c1
              clear hz hC1 c0 c1 g5 g6 g4 g3 g2
              refine wp_region_ext (by kernel_rfl) (by kernel_rfl) ?_
              repeat (go_big_quiet_step ((go_at_call 15; with_reducible refine calls_ext (lives12 _))))
              refine wpQuiet_nil ?_
              rintro W ⟨⟨W2, hW⟩, rfl⟩
              clear x0 x1
              go_wp2
              go_ret
              exact ⟨rfl, HB5.out.trans (hW.mono HB5.out.size)⟩

theorem plc_of {w : World} {v : Value} (h : Leaf.holds w (.sl [.int .i64, .int .i64]) v) : ∃ (l : List (Int × Int)) (a : Option Addr) (cap : Nat), v = .slice a l.length cap ∧ Plc w a cap l := by
  obtain ⟨l, a, cap, rfl, h1, h2, h3, h4, h5⟩ := recs_of h
  obtain ⟨m, hm, hp⟩ := list_of (fun i (x : Int × Int) => l[i]? = some [.int .i64 x.1, .int .i64 x.2]) l.length (fun i hi => by
    obtain ⟨c0, r, e0, g0, h⟩ := allHold_cons (h4 _ (List.getElem_mem hi))
    obtain ⟨c1, r, rfl, g1, h⟩ := allHold_cons h
    obtain rfl := allHold_nil h
    obtain ⟨z0, rfl, -⟩ := holds_int g0
    obtain ⟨z1, rfl, -⟩ := holds_int g1
    exact ⟨(z0, z1), by rw [List.getElem?_eq_getElem hi, e0]⟩)
  refine ⟨m, a, cap, by rw [hm], ⟨by omega, h2, h3, ?_⟩⟩
  rcases h5 with rfl | ⟨b, off, rfl, h6⟩
  · exact .inl (List.length_eq_zero_iff.1 hm)
  · refine .inr ⟨b, off, rfl, fun i hi => ?_⟩
    have hi2 : i < l.length := by omega
    have hq := hp i (by omega)
    rw [List.getElem?_eq_getElem hi2, Option.some.injEq] at hq
    have a0 := h6 i hi2 0 (by decide)
    have a1 := h6 i hi2 1 (by decide)
    rw [hq] at a0 a1
    exact ⟨a0, by rw [Nat.add_assoc]; exact a1⟩
theorem leaves_places : leaves Try.prog 4 22 = some [.sl [.int .i64, .int .i64]] := by kernel_rfl

set_option maxRecDepth 10000 in
theorem walkStripesOf {H : Type} (w : World) (enc : TypeId × Value → H) (base : Nat) (v : Value) (d : DataW H) (p : List MemPlace) (k : DataW.Trod enc Try.prog w 0 (fun _ => true) true 22 v d p) (o : Value.okWide Try.prog w .any base 22 v) (n : Int) (hn : (Lit.int .u64 n).wf = true) :
    Calls Try.prog 3 #[v, .int .u64 n] w fun e w' => e = .returned (.bool true) ∧ Below w.heap.size w w' := by
  obtain ⟨a0, n0, cap0, rfl⟩ := Go.WideShapes.okWide_slice Try.underlying22 o
  obtain ⟨l, a, cap, hv, hl⟩ := plc_of (opened leaves_places k).1
  rw [hv]
  exact sof_any l a cap n hn w hl
end Go.Proofs.Ytccbejnonmbgnaa
