/-
  The document's order of a history (nestboxref34.put, Order).
-/
import Derived.Test.YtmagpbbjjkmbpaaHistPart
import Derived.Maps.AppendAt
import Derived.Laws.OwnMore
namespace Go.Proofs.Ytmagpbbjjkmbpaa
open Go.RowKit Go.Maps Go.Sort
set_option linter.unusedVariables false

theorem info_rentry : (Try.prog.info? 43).map (fun i => (i.zero, i.size, i.bytes)) = some (some (.agg #[.int .i64 0, .int .i64 0, .int .i64 0]), 3, 24) := by kernel_rfl
theorem flatE_set : ∀ (L : List En) (i : Nat) (e : En), i < L.length → flatE (L.set i e) = (((flatE L).set (i * 3) (.int .i64 e.st)).set (i * 3 + 1) (.int .i64 e.ca)).set (i * 3 + 2) (.int .i64 e.dr)
  | [], i, e, h => by simp at h
  | x :: L, 0, e, h => by simp [flatE, encE]
  | x :: L, i + 1, e, h => by
    have ih := flatE_set L i e (by simpa using h)
    have h1 : flatE (x :: L) = .int .i64 x.st :: .int .i64 x.ca :: .int .i64 x.dr :: flatE L := by simp [flatE, encE]
    have h2 : flatE ((x :: L).set (i + 1) e) = .int .i64 x.st :: .int .i64 x.ca :: .int .i64 x.dr :: flatE (L.set i e) := by simp [flatE, encE]
    rw [h2, h1, ih, show (i + 1) * 3 = i * 3 + 1 + 1 + 1 by omega, show i * 3 + 1 + 1 + 1 + 1 = (i * 3 + 1) + 1 + 1 + 1 by omega, show i * 3 + 1 + 1 + 1 + 2 = (i * 3 + 2) + 1 + 1 + 1 by omega]
    simp only [List.set_cons_succ]
theorem swap_at (X Y : List En) (z x : En) : (((X ++ z :: x :: Y).set (X.length + 1) z).set X.length x) = X ++ x :: z :: Y := by
  rw [List.set_append_right _ _ (by omega), List.set_append_right _ _ (by omega)]
  simp
/-- The world behind an element is written in an own row. -/
def putE (w : World) (g i : Nat) (e : En) : World := ((w.setCell ⟨g, i * 3, none⟩ (.int .i64 e.st)).setCell ⟨g, i * 3 + 1, none⟩ (.int .i64 e.ca)).setCell ⟨g, i * 3 + 2, none⟩ (.int .i64 e.dr)
theorem putE_own {w : World} {base T g cap n : Nat} {L : List En} (h : w.ownsRow base T 3 (.slice (some ⟨g, 0, none⟩) n cap) n (flatE L)) (i : Nat) (e : En) (hi : i < L.length) : (putE w g i e).ownsRow base T 3 (.slice (some ⟨g, 0, none⟩) n cap) n (flatE (L.set i e)) := by
  rw [flatE_set L i e hi]
  exact ((((h.stored (i * 3) _).1.stored (i * 3 + 1) _).1).stored (i * 3 + 2) _).1
theorem putE_keeps (w : World) (g i : Nat) (e : En) : Keeps (· = g) w (putE w g i e) := ((setCell_keeps w g _ _).again (setCell_keeps _ g _ _)).again (setCell_keeps _ g _ _)
theorem own_cellE {w : World} {base T g cap n : Nat} {L : List En} (h : w.ownsRow base T 3 (.slice (some ⟨g, 0, none⟩) n cap) n (flatE L)) (i : Nat) (x : En) (hx : L[i]? = some x) : w.cell? ⟨g, i * 3, none⟩ = some (.int .i64 x.st) ∧ w.cell? ⟨g, i * 3 + 1, none⟩ = some (.int .i64 x.ca) ∧ w.cell? ⟨g, i * 3 + 2, none⟩ = some (.int .i64 x.dr) ∧ g < w.heap.size ∧ base ≤ g := by
  obtain ⟨h1, ⟨e, h0⟩ | ⟨g', cap', cur, e, hb, hg, hn, hm, hs, ht⟩⟩ := h
  · simp at e
  · simp only [Value.slice.injEq, Option.some.injEq, Addr.mk.injEq, and_true, true_and] at e
    obtain ⟨rfl, rfl⟩ := e
    obtain ⟨hi, rfl⟩ := List.getElem?_eq_some_iff.1 hx
    have hln : L.length = n := by rw [flatE_len] at h1; omega
    have hc : ∀ j, j < 3 → w.cell? ⟨g, i * 3 + j, none⟩ = (encE L[i])[j]? := fun j hj => by
      rw [hblk hg, ← flatE_at L i hi j hj, ← ht, List.getElem?_take, if_pos (by omega)]
      simp
    exact ⟨hc 0 (by omega), hc 1 (by omega), hc 2 (by omega), (Array.getElem?_eq_some_iff.1 hg).1, hb⟩
def RPut (x : En) (l : List En) (base : Nat) (w : World) (e : Ending) (w' : World) : Prop := ∃ v' X Y, e = .returned v' ∧ l = X ++ Y ∧ (∀ y ∈ Y, x.st < y.st) ∧ (∀ z, X.getLast? = some z → z.st ≤ x.st) ∧ w'.ownsRow base 43 3 v' (l.length + 1) (flatE (X ++ x :: Y)) ∧ Below base w w'
set_option maxRecDepth 100000 in
set_option maxHeartbeats 4000000 in
theorem rput_any {w : World} {base : Nat} {v : Value} {l : List En} (x : En) (h : w.ownsRow base 43 3 v l.length (flatE l)) (hl : l.length ≤ 1000) (hb : base ≤ w.heap.size) :
    Calls Try.prog 34 #[v, .agg #[.int .i64 x.st, .int .i64 x.ca, .int .i64 x.dr]] w (RPut x l base w) := by
  obtain ⟨i0, hi0, hz0, hz1, hz2⟩ := info_parts3 info_rentry
  have HI := Lib.hid hi0; have HZ0 := Lib.hid hz0; have HZ1 := Lib.hid hz1; have HZ2 := Lib.hid hz2
  have hne : v.ownBlock ≠ some w.heap.size := by
    obtain ⟨-, ⟨rfl, -⟩ | ⟨g, cap, cur, rfl, -, hg, -⟩⟩ := h
    · simp [Value.ownBlock]
    · intro c
      simp only [Value.ownBlock, Option.some.injEq] at c
      have := (Array.getElem?_eq_some_iff.1 hg).1
      omega
  have HH := Lib.hid (h.alloc (.cells #[.int .i64 x.st, .int .i64 x.ca, .int .i64 x.dr] 43))
  have HNE := Lib.hid hne
  have hB := hballoc w (.cells #[.int .i64 x.st, .int .i64 x.ca, .int .i64 x.dr] 43)
  have z := heap_alloc_new w (.cells #[.int .i64 x.st, .int .i64 x.ca, .int .i64 x.dr] 43)
  have HB := Lib.hid (hB.mono hb); have HZ := Lib.hid z
  have HBB := Lib.hid hb
  have HS := Lib.hid (show w.heap.size < (w.alloc (.cells #[.int .i64 x.st, .int .i64 x.ca, .int .i64 x.dr] 43)).heap.size by simp)
  have HL := Lib.hid hl
  clear hi0 hz0 hz1 hz2 h hne hB z hb hl
  go_enter Try.func34, Try.ntmps34
  go_upto_region 1 with (fail)
  change Code.wp _ _ _ _ (w.alloc (.cells #[.int .i64 x.st, .int .i64 x.ca, .int .i64 x.dr] 43))
  generalize hpb : w.heap.size = pb at *
  have HPB := Lib.hid hpb
  clear hpb
  generalize hw1 : w.alloc (.cells #[.int .i64 x.st, .int .i64 x.ca, .int .i64 x.dr] 43) = w1 at *
  clear hw1
  have c0 : w1.cell? ⟨pb, 0, none⟩ = some (.int .i64 x.st) := hblk HZ.out 0
  have c1 : w1.cell? ⟨pb, 1, none⟩ = some (.int .i64 x.ca) := hblk HZ.out 1
  have c2 : w1.cell? ⟨pb, 2, none⟩ = some (.int .i64 x.dr) := hblk HZ.out 2
  go_upto_region 2 with (at_builtin; refine wpList_append_own_at _ rfl _ _ 36 rfl base 43 i0 (.agg #[.int .i64 0, .int .i64 0, .int .i64 0]) 3 24 Try.underlying36 HI.out HZ0.out HZ1.out HZ2.out rfl (by decide) _ _ _ rfl (HH.out.alloc _) ⟨_, 0, none⟩ 1 1 [.int .i64 x.st, .int .i64 x.ca, .int .i64 x.dr] rfl rfl (World.news_of_block (cs := #[.int .i64 x.st, .int .i64 x.ca, .int .i64 x.dr]) (t := 43) (fr := (0, 0)) (heap_alloc_new w1 _)) ?c2 ?c3 ?c4 ?c5 ?_)
  case c2 => simp [Value.oneCell']
  case c3 => have := HL.out; unfold maxLen; omega
  case c4 => have := HL.out; omega
  case c5 => have h1 := HBB.out; have h2 := HS.out; first | omega | (simp; omega)
  intro v' w3 hown hgrow _ hob
  have hs := HS.out; have hbb := HBB.out
  have hs2 : (w1.alloc (.cells #[.int .i64 x.st, .int .i64 x.ca, .int .i64 x.dr] 43)).heap.size = w1.heap.size + 1 := by simp
  have hb3 : Below base w w3 := (HB.out.alloc (by omega) (.cells #[.int .i64 x.st, .int .i64 x.ca, .int .i64 x.dr] 43)).grown hgrow (by omega) (fun j hj => (HH.out.lt j hj).1)
  have hz3 : w3.heap[pb]? = some (.cells #[.int .i64 x.st, .int .i64 x.ca, .int .i64 x.dr] 43 (0, 0)) := by
    rw [hgrow.block pb (by omega) (fun c => HNE.out c.symm)]
    exact ((hballoc w1 _).block pb hs).trans HZ.out
  have hsz3 := hb3.size
  obtain ⟨g, cap, rfl⟩ : ∃ g cap, v' = .slice (some ⟨g, 0, none⟩) (l.length + 1) cap := by
    obtain ⟨-, ⟨e, h0⟩ | ⟨g, cap, cur, e, -⟩⟩ := hown
    · omega
    · exact ⟨g, cap, e⟩
  have hgp : g ≠ pb := by
    rcases hob with e | e
    · intro c; subst c
      exact HNE.out (by rw [← e]; rfl)
    · simp only [Value.ownBlock, Option.some.injEq] at e
      omega
  have hcap : l.length + 1 ≤ cap ∧ cap ≤ maxLen := by
    obtain ⟨-, ⟨e, h0⟩ | ⟨g, cap, cur, e, -, -, h3, h4, -⟩⟩ := hown
    · simp at e
    · simp only [Value.slice.injEq] at e
      obtain ⟨-, -, rfl⟩ := e
      exact ⟨h3, h4⟩
  rw [← flatE_snoc] at hown
  have HO := Lib.hid hown; have HB3 := Lib.hid hb3; have HZ3 := Lib.hid hz3; have HGP := Lib.hid hgp; have HCAP := Lib.hid hcap
  have hl1 : (l.length : Int) ≤ 1000 := by have := HL.out; omega
  clear hs hbb hs2 hb3 hz3 hsz3 hown hgrow hob c0 c1 c2 hgp hcap HH HNE HB HS HZ
  go_wp2_with fail
  go_loopw [5] (fun i wr => ∃ X Y, l = X ++ Y ∧ i = .int .i64 X.length ∧ Hid (∀ y ∈ Y, x.st < y.st) ∧ Hid (wr.ownsRow base 43 3 (.slice (some ⟨g, 0, none⟩) (l.length + 1) cap) (l.length + 1) (flatE (X ++ x :: Y))) ∧ Hid (Below base w wr) ∧ Hid (wr.heap[pb]? = some (.cells #[.int .i64 x.st, .int .i64 x.ca, .int .i64 x.dr] 43 (0, 0)))) (fun i _ => (intOf i).toNat)
  case atStart => exact ⟨l, [], by simp, by go_num, Lib.hid (by simp), HO, HB3, HZ3⟩
  case round =>
    clear HO HB3 HZ3
    obtain ⟨X, Y, hxy, rfl, HY, HO, HB, HZ⟩ := hrel
    obtain rfl | ⟨X', z, rfl⟩ : X = [] ∨ ∃ X' z, X = X' ++ [z] := by
      rcases List.eq_nil_or_concat X with h | ⟨X', z, h⟩
      · exact .inl h
      · exact .inr ⟨X', z, by rw [h, List.concat_eq_append]⟩
    · simp only [List.length_nil]
      have hb5 : decide ((0 : Int) < ((0 : Nat) : Int)) = false := by decide
      go_upto_region 3 with (fail)
      refine wp_region_ext (by kernel_rfl) (by kernel_rfl) ?_
      repeat (go_big_quiet_step (fail))
      refine wpQuiet_nil ?_
      rintro W ⟨⟨W2, hW⟩, rfl⟩
      have HO2 := Lib.hid (own_bel HO.out hW)
      have HB2 := Lib.hid (HB.out.trans (hW.mono (Nat.le_trans HBB.out (by have := (Array.getElem?_eq_some_iff.1 HZ.out).1; omega))))
      clear hW
      go_wp2
      go_ret
      exact ⟨_, [], Y, rfl, hxy, HY.out, by simp, HO2.out, HB2.out⟩
    · have hk : (X' ++ [z]).length = X'.length + 1 := by simp
      have e0 : (X' ++ [z]) ++ x :: Y = X' ++ z :: x :: Y := by simp
      have HO1 := HO.out
      rw [e0] at HO1
      obtain ⟨r0, r1, r2, hg1, hg2⟩ := own_cellE HO1 X'.length z (by simp)
      have c0 : wr.cell? ⟨pb, 0, none⟩ = some (.int .i64 x.st) := hblk HZ.out 0
      have hb0 : (X'.length : Int) < l.length := by rw [hxy]; simp; omega
      have hb5 : decide ((0 : Int) < (X'.length : Int) + 1) = true := decide_eq_true (by omega)
      have HPL := Lib.hid (show pb < wr.heap.size from (Array.getElem?_eq_some_iff.1 HZ.out).1)
      rw [hk]
      have HXY := Lib.hid hxy; have HO2 := Lib.hid HO1
      clear hxy hk e0 HO1 HO r1 r2 hg1 hg2
      by_cases hz : x.st < z.st
      · have hzt : decide (x.st < z.st) = true := decide_eq_true hz
        have HZT := Lib.hid hz
        clear hz
        generalize hkk : X'.length = k at *
        have HKK := Lib.hid hkk
        clear hkk
        have x1 := fun st : ExtW wr => st.cell r0
        have x2 := fun st : ExtW wr => st.cell c0
        clear c0 r0
        go_upto_region 3 with (fail)
        refine wp_region_ext (by kernel_rfl) (by kernel_rfl) ?_
        repeat (go_big_quiet_step (fail))
        refine wpQuiet_nil ?_
        rintro W ⟨⟨W2, hW⟩, rfl⟩
        have HO3 := Lib.hid (own_bel HO2.out hW)
        have HB3 := Lib.hid (HB.out.trans (hW.mono (by have := HPL.out; have := HBB.out; omega)))
        have HZ3 := Lib.hid ((hW.block _ HPL.out).trans HZ.out)
        clear hW x1 x2 HO2 HB HZ HPL hzt
        have HP4 := Lib.hid (putE_own HO3.out (k + 1) z (by rw [← HKK.out]; simp))
        have HK4 := Lib.hid (putE_keeps W g (k + 1) z)
        obtain ⟨r0, r1, r2, hg1, hg2⟩ := own_cellE HO3.out k z (by rw [← HKK.out]; simp)
        obtain ⟨s0, s1, s2, -, -⟩ := own_cellE HO3.out (k + 1) x (by rw [← HKK.out]; simp)
        have hf := fun o => HO3.out.frozenAt o
        go_upto_region 6 with (fail)
        change Code.wp _ _ _ _ (putE W g (k + 1) z)
        have HZ4 := Lib.hid ((HK4.out.block pb (Array.getElem?_eq_some_iff.1 HZ3.out).1 (fun c => HGP.out c.symm)).trans HZ3.out)
        have HB4 := Lib.hid (keeps_below HK4.out HB3.out (by have := HBB.out; have := HPB.out; omega) (fun j hj => by rw [hj]; exact hg2))
        have HG2 := Lib.hid hg2
        clear hf r0 r1 r2 s0 s1 s2 hg1 hg2 HZ3 HB3 HO3 HK4
        generalize putE W g (k + 1) z = w4 at *
        have hsw : (X' ++ z :: x :: Y).set (k + 1) z = X' ++ z :: z :: Y := by
          rw [← HKK.out, List.set_append_right _ _ (by omega)]; simp
        rw [hsw] at HP4
        have hsw2 : (X' ++ z :: z :: Y).set k x = X' ++ x :: z :: Y := by
          rw [← HKK.out, List.set_append_right _ _ (by omega)]; simp
        have HP5 := Lib.hid (putE_own HP4.out k x (by rw [← HKK.out]; simp))
        rw [hsw2] at HP5
        have HK5 := Lib.hid (putE_keeps w4 g k x)
        obtain ⟨r0, r1, r2, hg1, hg2⟩ := own_cellE HP4.out k z (by rw [← HKK.out]; simp)
        have hf := fun o => HP4.out.frozenAt o
        have c0 : w4.cell? ⟨pb, 0, none⟩ = some (.int .i64 x.st) := hblk HZ4.out 0
        have c1 : w4.cell? ⟨pb, 1, none⟩ = some (.int .i64 x.ca) := hblk HZ4.out 1
        have c2 : w4.cell? ⟨pb, 2, none⟩ = some (.int .i64 x.dr) := hblk HZ4.out 2
        clear hg1 hg2 hsw hsw2
        go_wp2
        go_roundw
        case rel =>
          show ∃ X Y, _
          refine ⟨X', z :: Y, by rw [HXY.out]; simp, by rw [HKK.out], Lib.hid (fun y hy => ?_), HP5, Lib.hid ?_, Lib.hid ?_⟩
          · rcases List.mem_cons.1 hy with rfl | hy
            · exact HZT.out
            · exact HY.out y hy
          · exact keeps_below HK5.out HB4.out (by have := HB4.out.size; have := HBB.out; have := HPB.out; omega) (fun j hj => by rw [hj]; exact HG2.out)
          · exact (HK5.out.block pb (Array.getElem?_eq_some_iff.1 HZ4.out).1 (fun c => HGP.out c.symm)).trans HZ4.out
        case measure => simp [intOf]
      · have hzt : decide (x.st < z.st) = false := decide_eq_false hz
        have HZT := Lib.hid hz
        clear hz
        have x1 := fun st : ExtW wr => st.cell r0
        have x2 := fun st : ExtW wr => st.cell c0
        clear c0 r0
        go_upto_region 3 with (fail)
        refine wp_region_ext (by kernel_rfl) (by kernel_rfl) ?_
        repeat (go_big_quiet_step (fail))
        refine wpQuiet_nil ?_
        rintro W ⟨⟨W2, hW⟩, rfl⟩
        have HO3 := Lib.hid (own_bel HO2.out hW)
        have HB3 := Lib.hid (HB.out.trans (hW.mono (by have := HPL.out; have := HBB.out; omega)))
        clear hW x1 x2
        go_wp2
        go_ret
        exact ⟨_, X' ++ [z], Y, rfl, HXY.out, HY.out, fun z' hz' => by simp at hz'; subst hz'; have := HZT.out; omega, by simpa using HO3.out, HB3.out⟩
theorem rord_call {ps : List Int} {O X Y : List En} {p : Int} (h : IsOrd ps [] O) (hl : ps.length ≤ 999) (he : O = X ++ Y) (hy : ∀ y ∈ Y, p < y.st) (hx : ∀ z, X.getLast? = some z → z.st ≤ p) : IsOrd (ps ++ [p]) [] (X ++ ⟨p, (ps.length : Int), -1⟩ :: Y) := by
  have hX : X.Pairwise ETL := (List.pairwise_append.1 (he ▸ h.2)).1
  have hr : ∀ x ∈ O, x.rk < En.rk ⟨p, (ps.length : Int), -1⟩ := fun x hx => by
    rcases h.mem hx with ⟨i, hi, rfl⟩ | ⟨i, hi, rfl⟩
    · simp [En.rk]; omega
    · simp at hi
  have h1 := put_ord (e := ⟨p, (ps.length : Int), -1⟩) he h.2 hr hy (le_front hX hx)
  refine ⟨h1.1.trans ?_, h1.2⟩
  rw [E0_nil, callE_snoc]
  have := h.1
  rw [E0_nil] at this
  exact this.append_right _
theorem rord_drop {ps ds : List Int} {O X Y : List En} {p : Int} (h : IsOrd ps ds O) (hl : ps.length ≤ 999) (he : O = X ++ Y) (hy : ∀ y ∈ Y, p < y.st) (hx : ∀ z, X.getLast? = some z → z.st ≤ p) : IsOrd ps (ds ++ [p]) (X ++ ⟨p, -1, (ds.length : Int)⟩ :: Y) := by
  have hX : X.Pairwise ETL := (List.pairwise_append.1 (he ▸ h.2)).1
  have hr : ∀ x ∈ O, x.rk < En.rk ⟨p, -1, (ds.length : Int)⟩ := fun x hx => by
    have hd : ¬ ((ds.length : Int) = -1) := by omega
    rcases h.mem hx with ⟨i, hi, rfl⟩ | ⟨i, hi, rfl⟩
    · simp [En.rk, hd]; omega
    · have hi2 : ¬ ((i : Int) = -1) := by omega
      simp [En.rk, hd, hi2]; omega
  have h1 := put_ord (e := ⟨p, -1, (ds.length : Int)⟩) he h.2 hr hy (le_front hX hx)
  refine ⟨h1.1.trans ?_, h1.2⟩
  rw [E0_ds]
  exact h.1.append_right _
end Go.Proofs.Ytmagpbbjjkmbpaa
