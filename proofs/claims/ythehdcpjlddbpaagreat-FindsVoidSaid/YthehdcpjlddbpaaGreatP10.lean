/-
  Texts of this prover, merged: FindLives, FindVoid.
-/
import Derived.Test.YthehdcpjlddbpaaGreatP8
import Derived.Test.YthehdcpjlddbpaaGreatP9
import Derived.Laws.IdiomStrings
/-
  Finds: layer 15's examples.
-/
namespace Go.Proofs.YthehdcpjlddbpaaGreat
open Go.RowKit Go.Maps TagPure
set_option linter.unusedVariables false

def ka : ByteArray := ⟨#[97]⟩
def ita : Itm := ⟨ka, ByteArray.empty, 0, 0, 0, 0⟩
def s15 : CS := (fiter [] 40 (CS.init [(2, tword 2 0)]) ⟨ka, 0, 0, 0, 0, 0⟩ [.tab]).2.1
def q15 : CS := pst s15 (tagsA 2 3) (itemA 2 3 3) 3 175 5 3
theorem ka_pl : plist (hashOf ka) 2 = [(2, 0), (2, 3)] := by kernel_rfl
theorem ka_tag : tag01 (hashOf ka) = 175 := by kernel_rfl
theorem ex1 : (fiter [] 40 (CS.init [(2, tword 2 0)]) ⟨ka, 0, 0, 0, 0, 0⟩ [.tab]) = (3, s15, ⟨ka, 2, 0, 0, 0, 0⟩, []) := by kernel_rfl
theorem ex3 : (fiter (List.replicate 5 ita) 40 q15 ⟨ka, 0, 0, 0, 0, 0⟩ [.tab]).1 = 4 := by kernel_rfl
theorem ex4 : (fiter (List.replicate 5 ita) 40 q15 ⟨ka, 0, 0, 0, 0, 0⟩ [.tab]).2.2 = (⟨ka, 2, 2, 3, 3, 5⟩, []) := by kernel_rfl
theorem ex5 : (s15.n ≤ 10 ∧ s15.cnt ≤ 10) ∧ (q15.n ≤ 20 ∧ q15.cnt ≤ 20) := by
  have a : s15.n = 4 := by kernel_rfl
  have b : s15.cnt = 3 := by kernel_rfl
  have c : q15.n = 7 := by kernel_rfl
  have d : q15.cnt = 6 := by kernel_rfl
  omega
set_option maxRecDepth 10000 in
set_option maxHeartbeats 1000000 in
theorem two_any (w : World) : Calls Tryz.prog 70 #[.int .i64 2] w fun e w' => e = .returned (.string ka) ∧ Below w.heap.size w w' := by
  have hH := Lib.hid (fun W => hash_any ka (by decide) W)
  have hP := Lib.hid (fun W => places_any (hashOf ka) 2 (hfold_bd _ _).1 (hfold_bd _ _).2 (by decide) W)
  rw [ka_pl] at hP
  go_enter Tryz.func70, Tryz.ntmps70
  go_wp2
  go_loopw [3] (fun i wr => i = .int .i64 0 ∧ Below w.heap.size w wr) (fun i _ => 0)
  case atStart => exact ⟨rfl, Below.refl _ _⟩
  case round =>
    obtain ⟨rfl, hB⟩ := hrel
    have HB := Lib.hid hB
    clear hB
    have hba := below_alloc wr (.cells #[.int .u8 97] 5)
    have hza := heap_alloc_new wr (.cells #[.int .u8 97] 5)
    have hcv : (convert 247 9 (.slice (some ⟨wr.heap.size, 0, none⟩) 1 1)).run Tryz.prog (wr.alloc (.cells #[.int .u8 97] 5)) = .ok (.string ka) (wr.alloc (.cells #[.int .u8 97] 5)) :=
      run_convert_bytes_back _ 247 9 5 ⟨wr.heap.size, 0, none⟩ 1 [97] Tryz.underlying247 Tryz.underlying5 Tryz.underlying9 (fun j hj => by
        obtain rfl : j = 0 := by simp at hj; omega
        rw [Addr.add_lit]; exact hcell hza 0)
    have HBA := Lib.hid (HB.out.trans (hba.mono HB.out.size))
    clear hba hza
    go_upto_region 5 with (fail)
    clear hcv
    change Code.wp _ _ _ _ (wr.alloc (.cells #[.int .u8 97] 5))
    generalize wr.alloc (.cells #[.int .u8 97] 5) = w1 at *
    clear HB
    go_wp2_with (first
      | (go_at_call 23; refine (hH.out _).mono ?_; intro e w2 hh; obtain ⟨hh1, b2⟩ := hh; subst hh1; have B2 := Lib.hid (HBA.out.trans (b2.mono HBA.out.size)); clear b2)
      | (go_at_call 24; refine (hP.out _).mono ?_; intro e w3 hh; obtain ⟨pv, hh1, hp, b3⟩ := hh; subst hh1; obtain ⟨ao2, hpv, hpl⟩ := hp.plc; subst hpv; have B3 := Lib.hid (B2.out.trans (b3.mono B2.out.size)); clear b3 hp hpl))
    go_ret
    exact ⟨rfl, B3.out⟩
theorem find_nil_fx {w w' : World} {fx fy : Nat} {f : FW} {K : TypeId → Bool} {mp : Bool} (h : FindAt w fx f []) (hf : Fx K mp fy w w') (hK : K 120 = false) (hne : fx ≠ fy) : FindAt w' fx f [] := by
  obtain ⟨v, h1, a, c, h2, h3, h4, h5, -⟩ := h
  exact ⟨v, hf.cells _ _ _ _ h1 hK hne, a, c, h2, h3, h4, h5, .inl rfl⟩
abbrev TSpot (q : Nat) (W : World) : Prop := W.cell? ⟨q, 0, none⟩ = some (.int .i64 2) ∧ W.cell? ⟨q, 1, none⟩ = some (.int .i64 3) ∧ W.cell? ⟨q, 2, none⟩ = some (.int .i64 3)
def vf15 : WV := { v0 ⟨2, 8, 3, 1, 16⟩ with its := List.replicate 5 ita }
set_option maxRecDepth 10000 in
set_option maxHeartbeats 4000000 in
theorem lives15 (w : World) : Calls Tryz.prog 21 #[] w fun e w' => e = .returned (.bool true) ∧ Below w.heap.size w w' := by
  have hH := Lib.hid (fun W => hash_any ka (by decide) W)
  have hP := Lib.hid (fun W => places_any (hashOf ka) 2 (hfold_bd _ _).1 (hfold_bd _ _).2 (by decide) W)
  rw [ka_pl] at hP
  have hT := Lib.hid (fun W => tag_fn (hashOf ka) (hfold_bd _ _).1 (hfold_bd _ _).2 W)
  rw [ka_tag] at hT
  have hTW := Lib.hid (fun W => two_any W)
  have hNF := Lib.hid (fun W => newfind ka W)
  have hNP := Lib.hid (fun W => newput_in 2 3 3 175 5 (by decide) (by decide) (by decide) W)
  have hke : ka.toList.isEmpty = false := by rw [ByteArray.toList_eq]; rfl
  go_enter Tryz.func21, Tryz.ntmps21
  go_upto_region 6 with (first
    | (go_at_call 54; refine (world12v 2 (by decide) w).mono ?_; intro e w1 hh; obtain ⟨B, hh1, h1⟩ := hh; subst hh1; have H1 := Lib.hid h1; clear h1)
    | (go_at_call 70; refine (hTW.out _).mono ?_; intro e w2 hh; obtain ⟨hh1, b2⟩ := hh; subst hh1; have H2 := Lib.hid (H1.out.keep b2); clear b2 H1)
    | (go_at_call 28; refine (hNF.out _).mono ?_; intro e w3 hh; obtain ⟨fx, hh1, a3, l3, b3⟩ := hh; subst hh1; have H3 := Lib.hid (H2.out.keep b3); have A3 := Lib.hid a3; have L3 := Lib.hid (Nat.le_trans H2.out.slow l3); clear a3 l3 b3 H2))
  have hr := frun 40 (by decide) 1 ⟨by decide, by decide⟩ (by unfold lim; decide) H3.out L3.out (by decide) (by decide) ⟨.inl rfl, by decide⟩ A3.out
  rw [show (v0 ⟨2, 8, 3, 1, 16⟩).its = [] from rfl, ex1] at hr
  clear hke
  go_upto_region 8 with (first
    | (go_at_call 20; refine hr.mono ?_; intro e w4 hh; obtain ⟨hh1, h4, a4, -⟩ := hh; subst hh1; have H4 := Lib.hid h4; have A4 := Lib.hid a4; have hg := fgot a4; clear h4 a4 hr H3 A3)
    | (go_at_call 29; refine hg.mono ?_; intro e w5 hh; obtain ⟨hh1, b5⟩ := hh; subst hh1; have H5 := Lib.hid (H4.out.keep b5); have A5 := Lib.hid (A4.out.below b5); clear b5 hg H4 A4))
  have hb6 := below_alloc w5 (.cells #[.int .i64 0, .int .i64 0, .int .i64 0] 42)
  have H6 := Lib.hid (H5.out.keep hb6); have A6 := Lib.hid (A5.out.below hb6)
  clear hb6 H5 A5
  generalize w5.alloc (.cells #[.int .i64 0, .int .i64 0, .int .i64 0] 42) = w6 at *
  generalize w5.heap.size = z6 at *
  go_wp2_with fail
  go_loopw [7] (fun i wr => ∃ k : Nat, k ≤ 5 ∧ i = .int .i64 k ∧ WS w wr B { v0 ⟨2, 8, 3, 1, 16⟩ with its := List.replicate k ita } s15 ∧ FindAt wr fx ⟨ka, 2, 0, 0, 0, 0⟩ []) (fun i _ => 5 - (intOf i).toNat)
  case atStart => exact ⟨0, by omega, rfl, H6.out, A6.out⟩
  case round =>
    obtain ⟨k, hk, rfl, h7, a7⟩ := hrel
    by_cases hlt : k < 5
    · have hlt' : (k : Int) < 5 := by omega
      have c0 := h7.hd5.2.1
      have hit : Calls Tryz.prog 26 #[.pointer (some ⟨B.ib, 0, none⟩), .agg #[.string ka, .string ⟨#[]⟩, .int .u32 0, .int .u64 0, .int .i64 0, .int .i64 0]] wr _ := h7.item ita (by simp; omega)
      have A7 := Lib.hid a7
      clear h7 a7
      go_wp2_with (go_at_call 26; refine hit.mono ?_; intro e w8 hh; obtain ⟨hh1, h8, f8⟩ := hh; subst hh1; have P := Lib.hid (And.intro h8 (A7.out.fr f8 w_not_f rfl)); clear h8 f8 hit c0)
      go_roundw
      case rel => exact ⟨k + 1, by omega, by go_num, by have h := P.out.1; rw [List.replicate_succ', ]; exact h, P.out.2⟩
      case measure => simp [intOf]; omega
    · obtain rfl : k = 5 := by omega
      have H7 := Lib.hid h7; have A7 := Lib.hid a7
      clear h7 a7
      go_upto_region 14 with (first
        | (go_at_call 23; refine (hH.out _).mono ?_; intro e w8 hh; obtain ⟨hh1, b8⟩ := hh; subst hh1; have H8 := Lib.hid (H7.out.keep b8); have A8 := Lib.hid (A7.out.below b8); clear b8 H7 A7)
        | (go_at_call 24; refine (hP.out _).mono ?_; intro e w9 hh; obtain ⟨pv, hh1, hp, b9⟩ := hh; subst hh1; obtain ⟨ao2, hpv, hpl⟩ := hp.plc; subst hpv; obtain ⟨g9, o9, p9, q9, rfl, hlk, g0, g1⟩ := hpl.at 1 (by decide); simp at hlk; obtain ⟨rfl, rfl⟩ := hlk; have H9 := Lib.hid (H8.out.keep b9); have A9 := Lib.hid (A8.out.below b9); clear b9 hp hpl H8 A8))
      have hbA := below_alloc w9 (.cells #[.int .i64 2, .int .i64 3, .int .i64 3] 42)
      have hzA := heap_alloc_new w9 (.cells #[.int .i64 2, .int .i64 3, .int .i64 3] 42)
      have HA : Hid (WS w _ B vf15 s15) := H9.out.keep hbA
      have AA := Lib.hid (A9.out.below hbA); have ZA := Lib.hid hzA
      clear hbA hzA H9 A9 g0 g1
      generalize w9.alloc (.cells #[.int .i64 2, .int .i64 3, .int .i64 3] 42) = wA at *
      generalize w9.heap.size = sp at *
      have ts : TSpot sp wA.drew := ⟨hcell (w := wA.drew) ZA.out 0, hcell (w := wA.drew) ZA.out 1, hcell (w := wA.drew) ZA.out 2⟩
      go_region_held2 (fun W => TSpot sp W) (assumption) (first
        | (go_at_call 27; refine (hT.out _).mono ?_; intro e w10 hh; obtain ⟨hh1, hh2⟩ := hh; subst hh1; obtain rfl := hh2.symm)
        | (go_at_call 19; refine (hNP.out _).mono ?_; intro e w10 hh; obtain ⟨pq, hh1, sq, lq, bq⟩ := hh; subst hh1; have bq' := (Below.refl wA.heap.size wA).drew.trans bq; have HB := Lib.hid (HA.out.keep bq'); have AB := Lib.hid (AA.out.below bq'); have hzB := (bq'.block _ (Array.getElem?_eq_some_iff.1 ZA.out).1).trans ZA.out; have ZB := Lib.hid hzB; have tsB : TSpot sp w10 := ⟨hcell hzB 0, hcell hzB 1, hcell hzB 2⟩; have hrp := run_put (m := 10) ex5.1 (by unfold lim; decide) (Nat.le_trans HA.out.slow lq) (by decide) (by decide) (by decide) (by decide) HB.out sq; have SQ := Lib.hid sq; clear sq lq bq bq' hzB ts HA AA ZA)
        | (go_at_call 20; refine hrp.mono ?_; intro e w11 hh; obtain ⟨hh1, h11, s11, f11⟩ := hh; subst hh1; have HC : Hid (WS w w11 B vf15 q15) := h11; have FC := Lib.hid f11; have tsC : TSpot sp w11 := by { have z := f11.cells _ _ _ _ ZB.out rfl (by intro c; have := ZB.out; rw [c] at this; have := this.symm.trans SQ.out; simp at this); exact ⟨hcell z 0, hcell z 1, hcell z 2⟩ }; have ZC := Lib.hid (f11.cells _ _ _ _ ZB.out rfl (by intro c; have := ZB.out; rw [c] at this; have := this.symm.trans SQ.out; simp at this)); clear h11 s11 f11 hrp tsB))
      have hne : fx ≠ pq := fun c => by
        obtain ⟨v, z, -⟩ := AB.out
        rw [c] at z
        have := z.symm.trans SQ.out
        simp at this
      have AC := Lib.hid (find_nil_fx AB.out FC.out rfl hne)
      clear hne AB FC SQ ZB HB tsC
      go_upto_region 18 with (first
        | (go_at_call 28; refine (hNF.out _).mono ?_; intro e w12 hh; obtain ⟨fy, hh1, a12, l12, b12⟩ := hh; subst hh1; have HD := Lib.hid (HC.out.keep b12); have hr2 := frun 40 (by decide) 20 ex5.2 (by unfold lim; decide) HD.out (Nat.le_trans HC.out.slow l12) (by decide) (by decide) ⟨.inl rfl, by decide⟩ a12; rw [show vf15.its = List.replicate 5 ita from rfl, ex3, ex4] at hr2; have AD := Lib.hid (AC.out.below b12); have ZD := Lib.hid ((b12.block _ (Array.getElem?_eq_some_iff.1 ZC.out).1).trans ZC.out); have NX := Lib.hid (Nat.ne_of_lt (Nat.lt_of_lt_of_le AC.out.lt l12)); have NS := Lib.hid (Nat.ne_of_lt (Nat.lt_of_lt_of_le (Array.getElem?_eq_some_iff.1 ZC.out).1 l12)); clear a12 l12 b12 HC AC ZC)
        | (go_at_call 20; refine hr2.mono ?_; intro e w13 hh; obtain ⟨hh1, h13, a13, f13⟩ := hh; subst hh1; have HE := Lib.hid h13; have hg2 := fgot a13; have AE := Lib.hid (find_nil_fx AD.out f13 rfl NX.out); have ZE := Lib.hid (f13.cells _ _ _ _ ZD.out rfl NS.out); clear h13 a13 f13 hr2 HD AD ZD)
        | (go_at_call 29; refine hg2.mono ?_; intro e w14 hh; obtain ⟨hh1, b14⟩ := hh; subst hh1; have HF := Lib.hid (HE.out.keep b14); have AF := Lib.hid (AE.out.below b14); have ZF := Lib.hid ((b14.block _ (Array.getElem?_eq_some_iff.1 ZE.out).1).trans ZE.out); clear b14 hg2 HE AE ZE))
      have hbG := below_alloc w14 (.cells #[.int .i64 2, .int .i64 3, .int .i64 3] 42)
      have hzG := heap_alloc_new w14 (.cells #[.int .i64 2, .int .i64 3, .int .i64 3] 42)
      have HG := Lib.hid (HF.out.keep hbG); have AG := AF.out.below hbG
      have ZG := (hbG.block _ (Array.getElem?_eq_some_iff.1 ZF.out).1).trans ZF.out
      have hwd := fword AG
      rw [if_pos rfl] at hwd
      have c0 := hcell hzG 0; have c1 := hcell hzG 1; have c2 := hcell hzG 2
      have d0 := hcell ZG 0; have d1 := hcell ZG 1; have d2 := hcell ZG 2
      clear hbG hzG AG ZG HF AF ZF NX NS
      change Code.wp _ _ _ _ (w14.alloc (.cells #[.int .i64 2, .int .i64 3, .int .i64 3] 42))
      generalize w14.alloc (.cells #[.int .i64 2, .int .i64 3, .int .i64 3] 42) = w15 at *
      generalize w14.heap.size = sy at *
      go_wp2_with (go_at_call 39; refine hwd.mono ?_; intro e w16 hh; obtain ⟨hh1, hh2⟩ := hh; subst hh1; obtain rfl := hh2.symm; clear hwd)
      go_ret
      exact ⟨rfl, HG.out.below⟩
end Go.Proofs.YthehdcpjlddbpaaGreat

/-
  FindsVoid.
-/
namespace Go.Proofs.YthehdcpjlddbpaaGreat
open Go.RowKit Go.Maps TagPure
set_option linter.unusedVariables false

set_option maxRecDepth 100000 in
set_option maxHeartbeats 4000000 in
theorem fvoid_any (key : ByteArray) (hk : key.size ≤ maxLen) (w : World) : Calls Tryz.prog 8 #[.string key] w fun e w' => e = .returned (.bool true) ∧ Below w.heap.size w w' := by
  have HKM : Hid ((key.size : Int) ≤ 9223372036854775807) := by show (key.size : Int) ≤ _; unfold maxLen at hk; omega
  clear hk
  go_enter Tryz.func8, Tryz.ntmps8
  go_upto_region 2 with (go_at_call 12; refine (begin_zero w).mono ?_; rintro e w3 ⟨B, R, V, s, x, rfl, hpr, hV, hfar, -, -⟩; have HPR := Lib.hid hpr; have HFAR := Lib.hid hfar; have HV : Hid (V.its = [] ∧ V.nts = []) := ⟨by rw [hV]; rfl, by rw [hV]; rfl⟩; clear hpr hV hfar)
  have hq0 := heap_alloc_new w3 (.cells #[.pointer (some ⟨B.wb, 0, none⟩), .pointer (some ⟨R.wb, 0, none⟩)] 37)
  have hB4 := below_alloc w3 (.cells #[.pointer (some ⟨B.wb, 0, none⟩), .pointer (some ⟨R.wb, 0, none⟩)] 37)
  have HP4 := Lib.hid (HPR.out.keep hB4)
  change Code.wp _ _ _ _ (w3.alloc (.cells #[.pointer (some ⟨B.wb, 0, none⟩), .pointer (some ⟨R.wb, 0, none⟩)] 37))
  generalize w3.alloc (.cells #[.pointer (some ⟨B.wb, 0, none⟩), .pointer (some ⟨R.wb, 0, none⟩)] 37) = w4 at *
  generalize w3.heap.size = q at *
  have HQ4 := Lib.hid hq0
  clear hq0 hB4 HPR
  go_upto_region 5 with (fail)
  have hbA := below_alloc w4 (.cells #[.string ⟨#[]⟩, .slice none 0 0, .int .u64 0, .int .i64 0, .int .i64 0, .int .i64 0, .int .i64 0] 120)
  have hzA := heap_alloc_new w4 (.cells #[.string ⟨#[]⟩, .slice none 0 0, .int .u64 0, .int .i64 0, .int .i64 0, .int .i64 0, .int .i64 0] 120)
  have hbB := below_alloc (w4.alloc (.cells #[.string ⟨#[]⟩, .slice none 0 0, .int .u64 0, .int .i64 0, .int .i64 0, .int .i64 0, .int .i64 0] 120)) (.cells #[.pointer (some ⟨w4.heap.size, 0, none⟩), .pointer none] 80)
  have hzB := heap_alloc_new (w4.alloc (.cells #[.string ⟨#[]⟩, .slice none 0 0, .int .u64 0, .int .i64 0, .int .i64 0, .int .i64 0, .int .i64 0] 120)) (.cells #[.pointer (some ⟨w4.heap.size, 0, none⟩), .pointer none] 80)
  rw [show (w4.alloc (.cells #[.string ⟨#[]⟩, .slice none 0 0, .int .u64 0, .int .i64 0, .int .i64 0, .int .i64 0, .int .i64 0] 120)).heap.size = w4.heap.size + 1 by simp] at hzB
  have hbC := hbA.trans (hbB.mono hbA.size)
  have hfa : FindAt ((w4.alloc (.cells #[.string ⟨#[]⟩, .slice none 0 0, .int .u64 0, .int .i64 0, .int .i64 0, .int .i64 0, .int .i64 0] 120)).alloc (.cells #[.pointer (some ⟨w4.heap.size, 0, none⟩), .pointer none] 80)) w4.heap.size ⟨⟨#[]⟩, 0, 0, 0, 0, 0⟩ [] := ⟨.slice none 0 0, (hbB.block _ (Array.getElem?_eq_some_iff.1 hzA).1).trans hzA, none, 0, rfl, Nat.le_refl _, Nat.zero_le _, .inr (fun l hl => by cases hl), .inl rfl⟩
  have HP5 := Lib.hid (HP4.out.keep hbC); have HQ5 := Lib.hid ((hbC.block _ (Array.getElem?_eq_some_iff.1 HQ4.out).1).trans HQ4.out)
  have HFA := Lib.hid hfa; have HZB := Lib.hid hzB
  clear hbA hzA hbB hzB hbC hfa HP4 HQ4
  change Code.wp _ _ _ _ ((w4.alloc (.cells #[.string ⟨#[]⟩, .slice none 0 0, .int .u64 0, .int .i64 0, .int .i64 0, .int .i64 0, .int .i64 0] 120)).alloc (.cells #[.pointer (some ⟨w4.heap.size, 0, none⟩), .pointer none] 80))
  generalize ((w4.alloc (.cells #[.string ⟨#[]⟩, .slice none 0 0, .int .u64 0, .int .i64 0, .int .i64 0, .int .i64 0, .int .i64 0] 120)).alloc (.cells #[.pointer (some ⟨w4.heap.size, 0, none⟩), .pointer none] 80)) = w5 at *
  generalize w4.heap.size + 1 = n1 at *
  generalize w4.heap.size = n0 at *
  go_wp2_with fail
  go_loopw [7] (fun i wr => ∃ k : Nat, k ≤ 2 ∧ i = .int .i64 k ∧ Below w5.heap.size w5 wr) (fun i _ => 2 - (intOf i).toNat)
  case atStart => exact ⟨0, by omega, rfl, Below.refl _ _⟩
  case round =>
    obtain ⟨k, hk, rfl, hB⟩ := hrel
    have ub := (hB.block _ (Array.getElem?_eq_some_iff.1 HZB.out).1).trans HZB.out
    have HB := Lib.hid hB
    rcases (show k = 0 ∨ k = 1 ∨ k = 2 by omega) with rfl | rfl | rfl
    · have e0 : wr.cell? ⟨n1, 0, none⟩ = some (.pointer (some ⟨n0, 0, none⟩)) := hcell ub 0
      have hg := fgot (HFA.out.below hB)
      clear ub hB
      go_upto_region 9 with (go_at_call 29; refine hg.mono ?_; intro e w6 hh; obtain ⟨hh1, b6⟩ := hh; subst hh1; have B6 := Lib.hid (HB.out.trans (b6.mono HB.out.size)); clear b6 hg e0)
      have b7 := below_alloc w6 (.cells #[.int .i64 0, .int .i64 0, .int .i64 0] 42)
      have B7 := Lib.hid (B6.out.trans (b7.mono B6.out.size))
      clear b7 B6
      change Code.wp _ _ _ _ (w6.alloc (.cells #[.int .i64 0, .int .i64 0, .int .i64 0] 42))
      generalize w6.alloc (.cells #[.int .i64 0, .int .i64 0, .int .i64 0] 42) = w7 at *
      have g0 := HFA.out.below B7.out
      have u1 := (B7.out.block _ (Array.getElem?_eq_some_iff.1 HZB.out).1).trans HZB.out
      have uq := (B7.out.block _ (Array.getElem?_eq_some_iff.1 HQ5.out).1).trans HQ5.out
      have xq : ∀ st : ExtW w7, st.val.cell? ⟨q, 0, none⟩ = some (.pointer (some ⟨B.wb, 0, none⟩)) := fun st => st.cell (hcell uq 0)
      have x0 : ∀ st : ExtW w7, st.val.cell? ⟨n1, 0, none⟩ = some (.pointer (some ⟨n0, 0, none⟩)) := fun st => st.cell (hcell u1 0)
      have m1 : ∀ st : ExtW w7, Calls Tryz.prog 30 #[.pointer (some ⟨n0, 0, none⟩)] st.val fun e w' => e = .returned (.bool true) ∧ st.val = w' := fun st => (fover (g0.below st.below)).mono fun e w' ⟨h1, h2⟩ => ⟨h1, h2.symm⟩
      have m2 : ∀ (u : Value) (st : ExtW w7), Calls Tryz.prog 37 #[.pointer (some ⟨n0, 0, none⟩), u] st.val fun e w' => e = .returned (.bool true) ∧ st.val = w' := fun u st => (fstep_over (g0.below st.below) u).mono fun e w' ⟨h1, h2⟩ => ⟨h1, h2.symm⟩
      have m3 : ∀ st : ExtW w7, Calls Tryz.prog 39 #[.pointer (some ⟨n0, 0, none⟩)] st.val fun e w' => e = .returned (.int .u64 0) ∧ st.val = w' := fun st => (fword (g0.below st.below)).mono fun e w' ⟨h1, h2⟩ => ⟨by rw [h1, if_pos rfl], h2.symm⟩
      clear g0 u1 uq
      refine wp_region_ext (by kernel_rfl) (by kernel_rfl) ?_
      repeat (go_big_quiet_step (first
        | (go_at_call 30; with_reducible refine calls_ext_same (m1 _))
        | (go_at_call 37; with_reducible refine calls_ext_same (m2 _ _))
        | (go_at_call 39; with_reducible refine calls_ext_same (m3 _))))
      refine wpQuiet_nil ?_
      rintro W ⟨⟨W2, hW⟩, rfl⟩
      have HW := Lib.hid hW
      clear x0 xq m1 m2 m3 hW
      go_wp2_with fail
      go_roundw
      case rel => exact ⟨1, by omega, rfl, B7.out.trans (HW.out.mono B7.out.size)⟩
      case measure => simp [intOf]
    · have e0 : wr.cell? ⟨n1, 1, none⟩ = some (.pointer none) := hcell ub 1
      clear ub hB
      go_upto_region 9 with (go_at_call 29; refine (fgot_nil _).mono ?_; intro e w6 hh; obtain ⟨hh1, b6⟩ := hh; subst hh1; have B6 := Lib.hid (HB.out.trans (b6.mono HB.out.size)); clear b6 e0)
      have b7 := below_alloc w6 (.cells #[.int .i64 0, .int .i64 0, .int .i64 0] 42)
      have B7 := Lib.hid (B6.out.trans (b7.mono B6.out.size))
      clear b7 B6
      change Code.wp _ _ _ _ (w6.alloc (.cells #[.int .i64 0, .int .i64 0, .int .i64 0] 42))
      generalize w6.alloc (.cells #[.int .i64 0, .int .i64 0, .int .i64 0] 42) = w7 at *
      have u1 := (B7.out.block _ (Array.getElem?_eq_some_iff.1 HZB.out).1).trans HZB.out
      have uq := (B7.out.block _ (Array.getElem?_eq_some_iff.1 HQ5.out).1).trans HQ5.out
      have xq : ∀ st : ExtW w7, st.val.cell? ⟨q, 0, none⟩ = some (.pointer (some ⟨B.wb, 0, none⟩)) := fun st => st.cell (hcell uq 0)
      have x0 : ∀ st : ExtW w7, st.val.cell? ⟨n1, 1, none⟩ = some (.pointer none) := fun st => st.cell (hcell u1 1)
      have m1 : ∀ st : ExtW w7, Calls Tryz.prog 30 #[.pointer none] st.val fun e w' => e = .returned (.bool true) ∧ st.val = w' := fun st => (fover_nil _).mono fun e w' ⟨h1, h2⟩ => ⟨h1, h2.symm⟩
      have m2 : ∀ (u : Value) (st : ExtW w7), Calls Tryz.prog 37 #[.pointer none, u] st.val fun e w' => e = .returned (.bool true) ∧ st.val = w' := fun u st => (fstep_nil u _).mono fun e w' ⟨h1, h2⟩ => ⟨h1, h2.symm⟩
      have m3 : ∀ st : ExtW w7, Calls Tryz.prog 39 #[.pointer none] st.val fun e w' => e = .returned (.int .u64 0) ∧ st.val = w' := fun st => (fword_nil _).mono fun e w' ⟨h1, h2⟩ => ⟨h1, h2.symm⟩
      clear u1 uq
      refine wp_region_ext (by kernel_rfl) (by kernel_rfl) ?_
      repeat (go_big_quiet_step (first
        | (go_at_call 30; with_reducible refine calls_ext_same (m1 _))
        | (go_at_call 37; with_reducible refine calls_ext_same (m2 _ _))
        | (go_at_call 39; with_reducible refine calls_ext_same (m3 _))))
      refine wpQuiet_nil ?_
      rintro W ⟨⟨W2, hW⟩, rfl⟩
      have HW := Lib.hid hW
      clear x0 xq m1 m2 m3 hW
      go_wp2_with fail
      go_roundw
      case rel => exact ⟨2, by omega, rfl, B7.out.trans (HW.out.mono B7.out.size)⟩
      case measure => simp [intOf]
    · have HP6 := Lib.hid (HP5.out.keep hB)
      have uq := (hB.block _ (Array.getElem?_eq_some_iff.1 HQ5.out).1).trans HQ5.out
      have HQ6 := Lib.hid uq
      have hkm := HKM.out
      clear ub uq hB
      have key2 : ∀ W, Below wr.heap.size wr W → Calls Tryz.prog 45 #[.agg #[.pointer (some ⟨B.wb, 0, none⟩), .pointer (some ⟨R.wb, 0, none⟩)]] W fun e w' => e = .returned (.bool true) ∧ Below W.heap.size W w' := fun W hW => psall_any (HP6.out.keep hW) HV.out.2 (by rw [HV.out.1]; simp) (by have := HFAR.out.1; omega)
      have KEY := Lib.hid key2
      clear key2
      by_cases hgt : (2000 : Int) < key.size
      · have h0 := HP6.out.ws.below
        have H0 := Lib.hid h0
        clear h0
        go_wp2_with (go_at_call 21; refine (lives15 _).mono ?_; intro e w13 hh; obtain ⟨hh1, b13⟩ := hh; subst hh1; have B13 := Lib.hid b13; clear b13)
        go_ret
        exact ⟨rfl, H0.out.trans (B13.out.mono H0.out.size)⟩
      · go_upto_region 16 with (first
          | (go_at_call 28; refine (newfind key _).mono ?_; intro e w7 hh; obtain ⟨fb, hh1, a7, -, b7⟩ := hh; subst hh1; have A7 := Lib.hid a7; have B7 := Lib.hid b7; have s7 := fstep_no a7; have o7 := fover a7; rw [show decide ([Ld.tab] = []) = false from rfl] at o7; have g7 := fgot a7; clear a7 b7)
          | (go_at_call 37; refine s7.mono ?_; intro e w8 hh; obtain ⟨hh1, hh2⟩ := hh; subst hh1; obtain rfl := hh2.symm; clear s7)
          | (go_at_call 30; refine o7.mono ?_; intro e w8 hh; obtain ⟨hh1, hh2⟩ := hh; subst hh1; obtain rfl := hh2.symm; clear o7)
          | (go_at_call 29; refine g7.mono ?_; intro e w9 hh; obtain ⟨hh1, b9⟩ := hh; subst hh1; have A9 := Lib.hid (A7.out.below b9); have B9 := Lib.hid (B7.out.trans (b9.mono B7.out.size)); clear b9 g7 A7 B7))
        have b10 := below_alloc w9 (.cells #[.int .i64 0, .int .i64 0, .int .i64 0] 42)
        have wd := fword (A9.out.below b10)
        rw [if_neg (by intro c; cases c)] at wd
        have B10 := Lib.hid (B9.out.trans (b10.mono B9.out.size))
        clear b10 A9 B9
        change Code.wp _ _ _ _ (w9.alloc (.cells #[.int .i64 0, .int .i64 0, .int .i64 0] 42))
        generalize w9.alloc (.cells #[.int .i64 0, .int .i64 0, .int .i64 0] 42) = w10 at *
        have hsm := KEY.out _ B10.out
        have hq10 := (B10.out.block _ (Array.getElem?_eq_some_iff.1 HQ6.out).1).trans HQ6.out
        have p0 := hcell hq10 0
        have p1 := hcell hq10 1
        clear hq10
        go_wp2_with (first
          | (go_at_call 39; refine wd.mono ?_; intro e w11 hh; obtain ⟨hh1, hh2⟩ := hh; subst hh1; obtain rfl := hh2.symm; clear wd)
          | (go_at_call 45; refine hsm.mono ?_; intro e w12 hh; obtain ⟨hh1, b12⟩ := hh; subst hh1; have B12 := Lib.hid (B10.out.trans (b12.mono B10.out.size)); clear hsm b12 p0 p1)
          | (go_at_call 21; refine (lives15 _).mono ?_; intro e w13 hh; obtain ⟨hh1, b13⟩ := hh; subst hh1; have B13 := Lib.hid (B12.out.trans (b13.mono B12.out.size)); clear b13))
        go_ret
        have h0 := HP6.out.ws.below
        exact ⟨rfl, h0.trans (B13.out.mono h0.size)⟩
theorem walkFindsVoid (key : ByteArray) (hk : key.size ≤ maxLen) (w : World) : Calls Tryz.prog 8 #[.string key] w fun e w' => e = .returned (.bool true) ∧ Below w.heap.size w w' := fvoid_any key hk w
end Go.Proofs.YthehdcpjlddbpaaGreat
