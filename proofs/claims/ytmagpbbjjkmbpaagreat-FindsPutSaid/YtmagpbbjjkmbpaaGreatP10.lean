/-
  Texts of this prover, merged: FindLives, FindLaw, FindSlots, FirstLaw, RefExact, PutLaw, PutStory, Mix, FindFirst, FindPut.
-/
import Derived.Test.YtmagpbbjjkmbpaaGreatP8
import Derived.Test.YtmagpbbjjkmbpaaGreatP9
import Derived.Test.YtmagpbbjjkmbpaaGreatRefPlaces
import Derived.Test.YtmagpbbjjkmbpaaGreatP7
import Derived.Test.YtmagpbbjjkmbpaaGreatFront
import Derived.Test.YtmagpbbjjkmbpaaGreatP1
import Derived.Laws.IdiomStrings
import Derived.Deep.MidRow
import Derived.Great.BuildSlice
import Derived.Deep.WholeRow
import Derived.Deep.RegionHeld2
/-
  Finds: layer 15's examples.
-/
namespace Go.Proofs.YtmagpbbjjkmbpaaGreat
open Go.RowKit Go.Maps TagPure
set_option linter.unusedVariables false

def ka : ByteArray := ⟨#[97]⟩
def ita : Itm := ⟨ka, ByteArray.empty, 0, 0, 0, 0⟩
def s15 : CS := (fiter [] 40 (CS.init [(2, tword 2 0)]) ⟨ka, 0, 0, 0, 0, 0⟩ [.tab]).2.1
def q15 : CS := pst s15 (tagsA 2 3) (itemA 2 3 3) 3 175 5 3
theorem ka_pl : plist (hashOf ka) 2 = [(2, 0), (2, 3)] := by kernel_rfl
theorem ka_tag : tag01 (hashOf ka) = 175 := by kernel_rfl
theorem ex1 : (fiter [] 40 (CS.init [(2, tword 2 0)]) ⟨ka, 0, 0, 0, 0, 0⟩ [.tab]) = (3, s15, ⟨ka, 2, 0, 0, 0, 0⟩, []) := by kernel_rfl
theorem ex3 : (fiter (List.replicate 5 ita) 40 q15 ⟨ka, 0, 0, 0, 0, 0⟩ [.tab]).1 = 4 := by kernel_rfl
theorem ex4 : (fiter (List.replicate 5 ita) 40 q15 ⟨ka, 0, 0, 0, 0, 0⟩ [.tab]).2.2 = (⟨ka, 2, 2, 3, 3, 5⟩, []) := by kernel_rfl
theorem ex5 : (s15.n ≤ 10 ∧ s15.cnt ≤ 10) ∧ (q15.n ≤ 20 ∧ q15.cnt ≤ 20) := by
  have a : s15.n = 4 := by kernel_rfl
  have b : s15.cnt = 3 := by kernel_rfl
  have c : q15.n = 7 := by kernel_rfl
  have d : q15.cnt = 6 := by kernel_rfl
  omega
set_option maxRecDepth 10000 in
set_option maxHeartbeats 1000000 in
theorem two_any (w : World) : Calls Tryz.prog 75 #[.int .i64 2] w fun e w' => e = .returned (.string ka) ∧ Below w.heap.size w w' := by
  have hH := Lib.hid (fun W => hash_any ka (by decide) W)
  have hP := Lib.hid (fun W => places_any (hashOf ka) 2 (hfold_bd _ _).1 (hfold_bd _ _).2 (by decide) W)
  rw [ka_pl] at hP
  go_enter Tryz.func75, Tryz.ntmps75
  go_wp2
  go_loopw [3] (fun i wr => i = .int .i64 0 ∧ Below w.heap.size w wr) (fun i _ => 0)
  case atStart => exact ⟨rfl, Below.refl _ _⟩
  case round =>
    obtain ⟨rfl, hB⟩ := hrel
    have HB := Lib.hid hB
    clear hB
    have hba := below_alloc wr (.cells #[.int .u8 97] 5)
    have hza := heap_alloc_new wr (.cells #[.int .u8 97] 5)
    have hcv : (convert 102 9 (.slice (some ⟨wr.heap.size, 0, none⟩) 1 1)).run Tryz.prog (wr.alloc (.cells #[.int .u8 97] 5)) = .ok (.string ka) (wr.alloc (.cells #[.int .u8 97] 5)) :=
      run_convert_bytes_back _ 102 9 5 ⟨wr.heap.size, 0, none⟩ 1 [97] Tryz.underlying102 Tryz.underlying5 Tryz.underlying9 (fun j hj => by
        obtain rfl : j = 0 := by simp at hj; omega
        rw [Addr.add_lit]; exact hcell hza 0)
    have HBA := Lib.hid (HB.out.trans (hba.mono HB.out.size))
    clear hba hza
    go_upto_region 5 with (fail)
    clear hcv
    change Code.wp _ _ _ _ (wr.alloc (.cells #[.int .u8 97] 5))
    generalize wr.alloc (.cells #[.int .u8 97] 5) = w1 at *
    clear HB
    go_wp2_with (first
      | (go_at_call 20; refine (hH.out _).mono ?_; intro e w2 hh; obtain ⟨hh1, b2⟩ := hh; subst hh1; have B2 := Lib.hid (HBA.out.trans (b2.mono HBA.out.size)); clear b2)
      | (go_at_call 21; refine (hP.out _).mono ?_; intro e w3 hh; obtain ⟨pv, hh1, hp, b3⟩ := hh; subst hh1; obtain ⟨ao2, hpv, hpl⟩ := hp.plc; subst hpv; have B3 := Lib.hid (B2.out.trans (b3.mono B2.out.size)); clear b3 hp hpl))
    go_ret
    exact ⟨rfl, B3.out⟩
theorem find_nil_fx {w w' : World} {fx fy : Nat} {f : FW} {K : TypeId → Bool} {mp : Bool} (h : FindAt w fx f []) (hf : Fx K mp fy w w') (hK : K 224 = false) (hne : fx ≠ fy) : FindAt w' fx f [] := by
  obtain ⟨v, h1, a, c, h2, h3, h4, h5, -⟩ := h
  exact ⟨v, hf.cells _ _ _ _ h1 hK hne, a, c, h2, h3, h4, h5, .inl rfl⟩
abbrev TSpot (q : Nat) (W : World) : Prop := W.cell? ⟨q, 0, none⟩ = some (.int .i64 2) ∧ W.cell? ⟨q, 1, none⟩ = some (.int .i64 3) ∧ W.cell? ⟨q, 2, none⟩ = some (.int .i64 3)
def vf15 : WV := { v0 ⟨2, 8, 3, 1, 16⟩ with its := List.replicate 5 ita }
set_option maxRecDepth 10000 in
set_option maxHeartbeats 4000000 in
theorem lives15 (w : World) : Calls Tryz.prog 18 #[] w fun e w' => e = .returned (.bool true) ∧ Below w.heap.size w w' := by
  have hH := Lib.hid (fun W => hash_any ka (by decide) W)
  have hP := Lib.hid (fun W => places_any (hashOf ka) 2 (hfold_bd _ _).1 (hfold_bd _ _).2 (by decide) W)
  rw [ka_pl] at hP
  have hT := Lib.hid (fun W => tag_fn (hashOf ka) (hfold_bd _ _).1 (hfold_bd _ _).2 W)
  rw [ka_tag] at hT
  have hTW := Lib.hid (fun W => two_any W)
  have hNF := Lib.hid (fun W => newfind ka W)
  have hNP := Lib.hid (fun W => newput_in 2 3 3 175 5 (by decide) (by decide) (by decide) W)
  have hke : ka.toList.isEmpty = false := by rw [ByteArray.toList_eq]; rfl
  go_enter Tryz.func18, Tryz.ntmps18
  go_upto_region 6 with (first
    | (go_at_call 74; refine (world12v 2 (by decide) w).mono ?_; intro e w1 hh; obtain ⟨B, hh1, h1⟩ := hh; subst hh1; have H1 := Lib.hid h1; clear h1)
    | (go_at_call 75; refine (hTW.out _).mono ?_; intro e w2 hh; obtain ⟨hh1, b2⟩ := hh; subst hh1; have H2 := Lib.hid (H1.out.keep b2); clear b2 H1)
    | (go_at_call 27; refine (hNF.out _).mono ?_; intro e w3 hh; obtain ⟨fx, hh1, a3, l3, b3⟩ := hh; subst hh1; have H3 := Lib.hid (H2.out.keep b3); have A3 := Lib.hid a3; have L3 := Lib.hid (Nat.le_trans H2.out.slow l3); clear a3 l3 b3 H2))
  have hr := frun 40 (by decide) 1 ⟨by decide, by decide⟩ (by unfold lim; decide) H3.out L3.out (by decide) (by decide) ⟨.inl rfl, by decide⟩ A3.out
  rw [show (v0 ⟨2, 8, 3, 1, 16⟩).its = [] from rfl, ex1] at hr
  clear hke
  go_upto_region 8 with (first
    | (go_at_call 24; refine hr.mono ?_; intro e w4 hh; obtain ⟨hh1, h4, a4, -⟩ := hh; subst hh1; have H4 := Lib.hid h4; have A4 := Lib.hid a4; have hg := fgot a4; clear h4 a4 hr H3 A3)
    | (go_at_call 28; refine hg.mono ?_; intro e w5 hh; obtain ⟨hh1, b5⟩ := hh; subst hh1; have H5 := Lib.hid (H4.out.keep b5); have A5 := Lib.hid (A4.out.below b5); clear b5 hg H4 A4))
  have hb6 := below_alloc w5 (.cells #[.int .i64 0, .int .i64 0, .int .i64 0] 43)
  have H6 := Lib.hid (H5.out.keep hb6); have A6 := Lib.hid (A5.out.below hb6)
  clear hb6 H5 A5
  generalize w5.alloc (.cells #[.int .i64 0, .int .i64 0, .int .i64 0] 43) = w6 at *
  generalize w5.heap.size = z6 at *
  go_wp2_with fail
  go_loopw [7] (fun i wr => ∃ k : Nat, k ≤ 5 ∧ i = .int .i64 k ∧ WS w wr B { v0 ⟨2, 8, 3, 1, 16⟩ with its := List.replicate k ita } s15 ∧ FindAt wr fx ⟨ka, 2, 0, 0, 0, 0⟩ []) (fun i _ => 5 - (intOf i).toNat)
  case atStart => exact ⟨0, by omega, rfl, H6.out, A6.out⟩
  case round =>
    obtain ⟨k, hk, rfl, h7, a7⟩ := hrel
    by_cases hlt : k < 5
    · have hlt' : (k : Int) < 5 := by omega
      have c0 := h7.hd5.2.1
      have hit : Calls Tryz.prog 23 #[.pointer (some ⟨B.ib, 0, none⟩), .agg #[.string ka, .string ⟨#[]⟩, .int .u32 0, .int .u64 0, .int .i64 0, .int .i64 0]] wr _ := h7.item ita (by simp; omega)
      have A7 := Lib.hid a7
      clear h7 a7
      go_wp2_with (go_at_call 23; refine hit.mono ?_; intro e w8 hh; obtain ⟨hh1, h8, f8⟩ := hh; subst hh1; have P := Lib.hid (And.intro h8 (A7.out.fr f8 w_not_f rfl)); clear h8 f8 hit c0)
      go_roundw
      case rel => exact ⟨k + 1, by omega, by go_num, by have h := P.out.1; rw [List.replicate_succ', ]; exact h, P.out.2⟩
      case measure => simp [intOf]; omega
    · obtain rfl : k = 5 := by omega
      have H7 := Lib.hid h7; have A7 := Lib.hid a7
      clear h7 a7
      go_upto_region 14 with (first
        | (go_at_call 20; refine (hH.out _).mono ?_; intro e w8 hh; obtain ⟨hh1, b8⟩ := hh; subst hh1; have H8 := Lib.hid (H7.out.keep b8); have A8 := Lib.hid (A7.out.below b8); clear b8 H7 A7)
        | (go_at_call 21; refine (hP.out _).mono ?_; intro e w9 hh; obtain ⟨pv, hh1, hp, b9⟩ := hh; subst hh1; obtain ⟨ao2, hpv, hpl⟩ := hp.plc; subst hpv; obtain ⟨g9, o9, p9, q9, rfl, hlk, g0, g1⟩ := hpl.at 1 (by decide); simp at hlk; obtain ⟨rfl, rfl⟩ := hlk; have H9 := Lib.hid (H8.out.keep b9); have A9 := Lib.hid (A8.out.below b9); clear b9 hp hpl H8 A8))
      have hbA := below_alloc w9 (.cells #[.int .i64 2, .int .i64 3, .int .i64 3] 43)
      have hzA := heap_alloc_new w9 (.cells #[.int .i64 2, .int .i64 3, .int .i64 3] 43)
      have HA : Hid (WS w _ B vf15 s15) := H9.out.keep hbA
      have AA := Lib.hid (A9.out.below hbA); have ZA := Lib.hid hzA
      clear hbA hzA H9 A9 g0 g1
      generalize w9.alloc (.cells #[.int .i64 2, .int .i64 3, .int .i64 3] 43) = wA at *
      generalize w9.heap.size = sp at *
      have ts : TSpot sp wA.drew := ⟨hcell (w := wA.drew) ZA.out 0, hcell (w := wA.drew) ZA.out 1, hcell (w := wA.drew) ZA.out 2⟩
      go_region_held2 (fun W => TSpot sp W) (assumption) (first
        | (go_at_call 26; refine (hT.out _).mono ?_; intro e w10 hh; obtain ⟨hh1, hh2⟩ := hh; subst hh1; obtain rfl := hh2.symm)
        | (go_at_call 25; refine (hNP.out _).mono ?_; intro e w10 hh; obtain ⟨pq, hh1, sq, lq, bq⟩ := hh; subst hh1; have bq' := (Below.refl wA.heap.size wA).drew.trans bq; have HB := Lib.hid (HA.out.keep bq'); have AB := Lib.hid (AA.out.below bq'); have hzB := (bq'.block _ (Array.getElem?_eq_some_iff.1 ZA.out).1).trans ZA.out; have ZB := Lib.hid hzB; have tsB : TSpot sp w10 := ⟨hcell hzB 0, hcell hzB 1, hcell hzB 2⟩; have hrp := run_put (m := 10) ex5.1 (by unfold lim; decide) (Nat.le_trans HA.out.slow lq) (by decide) (by decide) (by decide) (by decide) HB.out sq; have SQ := Lib.hid sq; clear sq lq bq bq' hzB ts HA AA ZA)
        | (go_at_call 24; refine hrp.mono ?_; intro e w11 hh; obtain ⟨hh1, h11, s11, f11⟩ := hh; subst hh1; have HC : Hid (WS w w11 B vf15 q15) := h11; have FC := Lib.hid f11; have tsC : TSpot sp w11 := by { have z := f11.cells _ _ _ _ ZB.out rfl (by intro c; have := ZB.out; rw [c] at this; have := this.symm.trans SQ.out; simp at this); exact ⟨hcell z 0, hcell z 1, hcell z 2⟩ }; have ZC := Lib.hid (f11.cells _ _ _ _ ZB.out rfl (by intro c; have := ZB.out; rw [c] at this; have := this.symm.trans SQ.out; simp at this)); clear h11 s11 f11 hrp tsB))
      have hne : fx ≠ pq := fun c => by
        obtain ⟨v, z, -⟩ := AB.out
        rw [c] at z
        have := z.symm.trans SQ.out
        simp at this
      have AC := Lib.hid (find_nil_fx AB.out FC.out rfl hne)
      clear hne AB FC SQ ZB HB tsC
      go_upto_region 18 with (first
        | (go_at_call 27; refine (hNF.out _).mono ?_; intro e w12 hh; obtain ⟨fy, hh1, a12, l12, b12⟩ := hh; subst hh1; have HD := Lib.hid (HC.out.keep b12); have hr2 := frun 40 (by decide) 20 ex5.2 (by unfold lim; decide) HD.out (Nat.le_trans HC.out.slow l12) (by decide) (by decide) ⟨.inl rfl, by decide⟩ a12; rw [show vf15.its = List.replicate 5 ita from rfl, ex3, ex4] at hr2; have AD := Lib.hid (AC.out.below b12); have ZD := Lib.hid ((b12.block _ (Array.getElem?_eq_some_iff.1 ZC.out).1).trans ZC.out); have NX := Lib.hid (Nat.ne_of_lt (Nat.lt_of_lt_of_le AC.out.lt l12)); have NS := Lib.hid (Nat.ne_of_lt (Nat.lt_of_lt_of_le (Array.getElem?_eq_some_iff.1 ZC.out).1 l12)); clear a12 l12 b12 HC AC ZC)
        | (go_at_call 24; refine hr2.mono ?_; intro e w13 hh; obtain ⟨hh1, h13, a13, f13⟩ := hh; subst hh1; have HE := Lib.hid h13; have hg2 := fgot a13; have AE := Lib.hid (find_nil_fx AD.out f13 rfl NX.out); have ZE := Lib.hid (f13.cells _ _ _ _ ZD.out rfl NS.out); clear h13 a13 f13 hr2 HD AD ZD)
        | (go_at_call 28; refine hg2.mono ?_; intro e w14 hh; obtain ⟨hh1, b14⟩ := hh; subst hh1; have HF := Lib.hid (HE.out.keep b14); have AF := Lib.hid (AE.out.below b14); have ZF := Lib.hid ((b14.block _ (Array.getElem?_eq_some_iff.1 ZE.out).1).trans ZE.out); clear b14 hg2 HE AE ZE))
      have hbG := below_alloc w14 (.cells #[.int .i64 2, .int .i64 3, .int .i64 3] 43)
      have hzG := heap_alloc_new w14 (.cells #[.int .i64 2, .int .i64 3, .int .i64 3] 43)
      have HG := Lib.hid (HF.out.keep hbG); have AG := AF.out.below hbG
      have ZG := (hbG.block _ (Array.getElem?_eq_some_iff.1 ZF.out).1).trans ZF.out
      have hwd := fword AG
      rw [if_pos rfl] at hwd
      have c0 := hcell hzG 0; have c1 := hcell hzG 1; have c2 := hcell hzG 2
      have d0 := hcell ZG 0; have d1 := hcell ZG 1; have d2 := hcell ZG 2
      clear hbG hzG AG ZG HF AF ZF NX NS
      change Code.wp _ _ _ _ (w14.alloc (.cells #[.int .i64 2, .int .i64 3, .int .i64 3] 43))
      generalize w14.alloc (.cells #[.int .i64 2, .int .i64 3, .int .i64 3] 43) = w15 at *
      generalize w14.heap.size = sy at *
      go_wp2_with (go_at_call 76; refine hwd.mono ?_; intro e w16 hh; obtain ⟨hh1, hh2⟩ := hh; subst hh1; obtain rfl := hh2.symm; clear hwd)
      go_ret
      exact ⟨rfl, HG.out.below⟩
end Go.Proofs.YtmagpbbjjkmbpaaGreat

/-
  A Find's run: the plain law.
-/
namespace Go.Proofs.YtmagpbbjjkmbpaaGreat
open Go.RowKit Go.Maps TagPure
set_option linter.unusedVariables false

/-- The first of some slots that has the key. -/
def fhit (its : List Itm) (s : CS) (key : ByteArray) (p : Int × Int) : List Nat → Option ((Int × Int) × Int)
  | [] => none
  | n :: r => if hit its s key p (n : Int) = true then some (p, (n : Int)) else fhit its s key p r
/-- What a run of the loads finds. -/
def scan (its : List Itm) (s : CS) (key : ByteArray) : List Ld → Option ((Int × Int) × Int)
  | [] => none
  | .tab :: r => none
  | .tag p :: r => (fhit its s key p (has (s.val (tagsA p.1 p.2)) (tag01 (hashOf key)) 4)).orElse fun _ => scan its s key r
  | .itm p n :: r => if hit its s key p n = true then some (p, n) else scan its s key r
def cost (s : CS) (key : ByteArray) : List Ld → Nat
  | [] => 0
  | .tab :: r => 0
  | .tag p :: r => 1 + (has (s.val (tagsA p.1 p.2)) (tag01 (hashOf key)) 4).length + cost s key r
  | .itm p n :: r => 1 + cost s key r
theorem scan_app (its : List Itm) (s : CS) (key : ByteArray) (p : Int × Int) (N : List Nat) (r : List Ld) : scan its s key (N.map (fun (n : Nat) => Ld.itm p n) ++ r) = (fhit its s key p N).orElse fun _ => scan its s key r := by
  induction N with
  | nil => rfl
  | cons n N ih =>
    show (if hit its s key p (n : Int) = true then some (p, (n : Int)) else scan its s key (N.map (fun (n : Nat) => Ld.itm p n) ++ r)) = _
    by_cases h : hit its s key p (n : Int) = true
    · rw [if_pos h]; simp only [fhit, if_pos h]; rfl
    · rw [if_neg h, ih]; simp only [fhit, if_neg h]
theorem cost_app (s : CS) (key : ByteArray) (p : Int × Int) (N : List Nat) (r : List Ld) : cost s key (N.map (fun (n : Nat) => Ld.itm p n) ++ r) = N.length + cost s key r := by
  induction N with
  | nil => simp
  | cons n N ih =>
    show 1 + cost s key (N.map (fun (n : Nat) => Ld.itm p n) ++ r) = _
    rw [ih, List.length_cons]; omega
theorem load_val (s : CS) (a : Int) : (s.acc 1 a (s.val a)).val = s.val := by
  funext b; simp only [CS.acc, upd]; split
  · rename_i h; rw [h]
  · rfl
theorem hit_val {s s' : CS} (h : s.val = s'.val) (its : List Itm) (key : ByteArray) (p : Int × Int) (n : Int) : hit its s key p n = hit its s' key p n := by unfold hit; rw [h]
theorem fhit_val {s s' : CS} (h : s.val = s'.val) (its : List Itm) (key : ByteArray) (p : Int × Int) (N : List Nat) : fhit its s key p N = fhit its s' key p N := by
  induction N with
  | nil => rfl
  | cons n N ih => simp only [fhit, hit_val h, ih]
theorem scan_val {s s' : CS} (h : s.val = s'.val) (its : List Itm) (key : ByteArray) (ls : List Ld) : scan its s key ls = scan its s' key ls := by
  induction ls with
  | nil => rfl
  | cons l r ih =>
    cases l with
    | tab => rfl
    | tag p => simp only [scan, fhit_val h, h, ih]
    | itm p n => simp only [scan, hit_val h, ih]
theorem cost_val {s s' : CS} (h : s.val = s'.val) (key : ByteArray) (ls : List Ld) : cost s key ls = cost s' key ls := by
  induction ls with
  | nil => rfl
  | cons l r ih =>
    cases l with
    | tab => rfl
    | tag p => simp only [cost, h, ih]
    | itm p n => simp only [cost, ih]
def FW.at_ (s : CS) (f : FW) : Option ((Int × Int) × Int) → FW
  | none => f
  | some (p, n) => { f with b := p.1, u := p.2, k := n, ref := wrap64 (s.val (itemA p.1 p.2 n)) }
/-- A run that has steps enough finds the first slot, and is over. -/
theorem fiter_scan (its : List Itm) (m : Nat) : ∀ (s : CS) (f : FW) (ls : List Ld), (∀ l ∈ ls, l ≠ .tab) → cost s f.key ls ≤ m → (fiter its m s f ls).2.2 = (f.at_ s (scan its s f.key ls), []) ∧ (fiter its m s f ls).2.1.val = s.val := by
  induction m with
  | zero =>
    intro s f ls ht hc
    cases ls with
    | nil => exact ⟨rfl, rfl⟩
    | cons l r =>
      cases l with
      | tab => exact absurd rfl (ht .tab (by simp))
      | tag p => simp only [cost] at hc; omega
      | itm p n => simp only [cost] at hc; omega
  | succ m ih =>
    intro s f ls ht hc
    cases ls with
    | nil => exact ⟨rfl, rfl⟩
    | cons l r =>
      have htr : ∀ l ∈ r, l ≠ .tab := fun l' h => ht l' (List.mem_cons_of_mem _ h)
      cases l with
      | tab => exact absurd rfl (ht .tab (by simp))
      | tag p =>
        have hv := load_val s (tagsA p.1 p.2)
        have := ih (s.acc 1 (tagsA p.1 p.2) (s.val (tagsA p.1 p.2))) f ((has (s.val (tagsA p.1 p.2)) (tag01 (hashOf f.key)) 4).map (fun (n : Nat) => Ld.itm p n) ++ r)
          (fun l hl => by
            rcases List.mem_append.1 hl with hl | hl
            · obtain ⟨n, -, rfl⟩ := List.mem_map.1 hl; intro c; cases c
            · exact htr l hl)
          (by rw [cost_val hv, cost_app]; simp only [cost] at hc; omega)
        rw [scan_val hv, scan_app, hv] at this
        refine ⟨?_, this.2⟩
        show (fiter its m (s.acc 1 (tagsA p.1 p.2) (s.val (tagsA p.1 p.2))) f ((has (s.val (tagsA p.1 p.2)) (tag01 (hashOf f.key)) 4).map (fun (n : Nat) => Ld.itm p n) ++ r)).2.2 = _
        rw [this.1]
        simp only [scan]
        cases (fhit its s f.key p (has (s.val (tagsA p.1 p.2)) (tag01 (hashOf f.key)) 4)).orElse fun _ => scan its s f.key r with
        | none => rfl
        | some x => simp only [FW.at_, hv]
      | itm p n =>
        have hv := load_val s (itemA p.1 p.2 n)
        by_cases hh : hit its s f.key p n = true
        · have hf : fnext its s f r (.itm p n) = ({ f with b := p.1, u := p.2, k := n, ref := wrap64 (s.val (itemA p.1 p.2 n)) }, []) := if_pos hh
          simp only [fiter, hf, fiter_nil, scan, if_pos hh, FW.at_]
          exact ⟨trivial, hv⟩
        · have hf : fnext its s f r (.itm p n) = (f, r) := if_neg hh
          have := ih (s.acc 1 (itemA p.1 p.2 n) (s.val (itemA p.1 p.2 n))) f r htr (by rw [cost_val hv]; simp only [cost] at hc; omega)
          rw [scan_val hv, hv] at this
          simp only [fiter, hf, scan, if_neg hh]
          refine ⟨?_, this.2⟩
          show (fiter its m (s.acc 1 (itemA p.1 p.2 n) (s.val (itemA p.1 p.2 n))) f r).2.2 = _
          rw [this.1]
          cases scan its s f.key r with
          | none => rfl
          | some x => simp only [FW.at_, hv]
/-- How many steps that takes. -/
theorem fiter_steps (its : List Itm) (m : Nat) : ∀ (s : CS) (f : FW) (ls : List Ld), (∀ l ∈ ls, l ≠ .tab) → cost s f.key ls ≤ m → (fiter its m s f ls).1 ≤ cost s f.key ls ∧ (scan its s f.key ls = none → (fiter its m s f ls).1 = cost s f.key ls) ∧ (ls ≠ [] → 1 ≤ (fiter its m s f ls).1) := by
  induction m with
  | zero =>
    intro s f ls ht hc
    cases ls with
    | nil => exact ⟨Nat.le_refl _, fun _ => rfl, fun h => absurd rfl h⟩
    | cons l r =>
      cases l with
      | tab => exact absurd rfl (ht .tab (by simp))
      | tag p => simp only [cost] at hc; omega
      | itm p n => simp only [cost] at hc; omega
  | succ m ih =>
    intro s f ls ht hc
    cases ls with
    | nil => exact ⟨Nat.le_refl _, fun _ => rfl, fun h => absurd rfl h⟩
    | cons l r =>
      have htr : ∀ l ∈ r, l ≠ .tab := fun l' h => ht l' (List.mem_cons_of_mem _ h)
      cases l with
      | tab => exact absurd rfl (ht .tab (by simp))
      | tag p =>
        have hv := load_val s (tagsA p.1 p.2)
        have := ih (s.acc 1 (tagsA p.1 p.2) (s.val (tagsA p.1 p.2))) f ((has (s.val (tagsA p.1 p.2)) (tag01 (hashOf f.key)) 4).map (fun (n : Nat) => Ld.itm p n) ++ r)
          (fun l hl => by
            rcases List.mem_append.1 hl with hl | hl
            · obtain ⟨n, -, rfl⟩ := List.mem_map.1 hl; intro c; cases c
            · exact htr l hl)
          (by rw [cost_val hv, cost_app]; simp only [cost] at hc; omega)
        rw [scan_val hv, scan_app, cost_val hv, cost_app] at this
        obtain ⟨h1, h2, -⟩ := this
        refine ⟨?_, fun hn => ?_, fun _ => ?_⟩
        · show (fiter its m (s.acc 1 (tagsA p.1 p.2) (s.val (tagsA p.1 p.2))) f ((has (s.val (tagsA p.1 p.2)) (tag01 (hashOf f.key)) 4).map (fun (n : Nat) => Ld.itm p n) ++ r)).1 + 1 ≤ _
          simp only [cost]; omega
        · have h3 := h2 hn
          show (fiter its m (s.acc 1 (tagsA p.1 p.2) (s.val (tagsA p.1 p.2))) f ((has (s.val (tagsA p.1 p.2)) (tag01 (hashOf f.key)) 4).map (fun (n : Nat) => Ld.itm p n) ++ r)).1 + 1 = _
          simp only [cost]; omega
        · show 1 ≤ (fiter its m (s.acc 1 (tagsA p.1 p.2) (s.val (tagsA p.1 p.2))) f ((has (s.val (tagsA p.1 p.2)) (tag01 (hashOf f.key)) 4).map (fun (n : Nat) => Ld.itm p n) ++ r)).1 + 1
          omega
      | itm p n =>
        have hv := load_val s (itemA p.1 p.2 n)
        by_cases hh : hit its s f.key p n = true
        · have hf : fnext its s f r (.itm p n) = ({ f with b := p.1, u := p.2, k := n, ref := wrap64 (s.val (itemA p.1 p.2 n)) }, []) := if_pos hh
          simp only [fiter, hf, fiter_nil, scan, if_pos hh, cost]
          exact ⟨by omega, fun h => (by cases h), fun _ => by omega⟩
        · have hf : fnext its s f r (.itm p n) = (f, r) := if_neg hh
          have := ih (s.acc 1 (itemA p.1 p.2 n) (s.val (itemA p.1 p.2 n))) f r htr (by rw [cost_val hv]; simp only [cost] at hc; omega)
          rw [scan_val hv, cost_val hv] at this
          obtain ⟨h1, h2, -⟩ := this
          simp only [fiter, hf, scan, if_neg hh, cost, ldA]
          exact ⟨by omega, fun h => by have := h2 h; omega, fun _ => by omega⟩
theorem fhit_app (its : List Itm) (s : CS) (key : ByteArray) (p : Int × Int) (A C : List Nat) : fhit its s key p (A ++ C) = (fhit its s key p A).orElse fun _ => fhit its s key p C := by
  induction A with
  | nil => rfl
  | cons n A ih =>
    by_cases h : hit its s key p (n : Int) = true
    · simp only [List.cons_append, fhit, if_pos h]; rfl
    · simp only [List.cons_append, fhit, if_neg h, ih]
/-- Has this slot the key? -/
def holds (its : List Itm) (s : CS) (key : ByteArray) (p : Int × Int) (n : Nat) : Bool := decide (tg (s.val (tagsA p.1 p.2)) n = tag01 (hashOf key)) && hit its s key p (n : Int)
theorem fhit_has (its : List Itm) (s : CS) (key : ByteArray) (p : Int × Int) (k : Nat) : fhit its s key p (has (s.val (tagsA p.1 p.2)) (tag01 (hashOf key)) k) = ((List.range k).find? (holds its s key p)).map fun n => (p, (n : Int)) := by
  induction k with
  | zero => rfl
  | succ k ih =>
    rw [List.range_succ, List.find?_append]
    show fhit its s key p (has (s.val (tagsA p.1 p.2)) (tag01 (hashOf key)) k ++ if tg (s.val (tagsA p.1 p.2)) k = tag01 (hashOf key) then [k] else []) = _
    rw [fhit_app, ih]
    cases hf : (List.range k).find? (holds its s key p) with
    | some x => rfl
    | none =>
      by_cases ht : tg (s.val (tagsA p.1 p.2)) k = tag01 (hashOf key)
      · by_cases hh : hit its s key p (k : Int) = true
        · simp [ht, fhit, hh, holds]
        · simp [ht, fhit, hh, holds]
      · simp [ht, fhit, holds]
/-- The slots of places, in their order. -/
def slotsL (L : List (Int × Int)) : List ((Int × Int) × Nat) := L.flatMap fun p => (List.range 4).map fun n => (p, n)
theorem scan_tags (its : List Itm) (s : CS) (key : ByteArray) (L : List (Int × Int)) : scan its s key (L.map Ld.tag) = ((slotsL L).find? fun x => holds its s key x.1 x.2).map fun x => (x.1, (x.2 : Int)) := by
  induction L with
  | nil => rfl
  | cons p L ih =>
    show (fhit its s key p (has (s.val (tagsA p.1 p.2)) (tag01 (hashOf key)) 4)).orElse (fun _ => scan its s key (L.map Ld.tag)) = _
    rw [ih, fhit_has]
    show _ = (((List.range 4).map (fun n => (p, n)) ++ slotsL L).find? fun x => holds its s key x.1 x.2).map fun x => (x.1, (x.2 : Int))
    rw [List.find?_append, List.find?_map]
    show _ = Option.map _ (((List.range 4).find? (fun n => holds its s key p n)).map (fun n => (p, n)) |>.or _)
    cases (List.range 4).find? (holds its s key p) with
    | some x => rfl
    | none => rfl
theorem cost_tags (s : CS) (key : ByteArray) (L : List (Int × Int)) : L.length ≤ cost s key (L.map Ld.tag) ∧ cost s key (L.map Ld.tag) ≤ 5 * L.length := by
  induction L with
  | nil => exact ⟨Nat.le_refl _, Nat.le_refl _⟩
  | cons p L ih =>
    have := has_le (s.val (tagsA p.1 p.2)) (tag01 (hashOf key)) 4
    show L.length + 1 ≤ 1 + (has (s.val (tagsA p.1 p.2)) (tag01 (hashOf key)) 4).length + cost s key (L.map Ld.tag) ∧ 1 + (has (s.val (tagsA p.1 p.2)) (tag01 (hashOf key)) 4).length + cost s key (L.map Ld.tag) ≤ 5 * (L.length + 1)
    omega
/-- What 'slots' tells: the first, its item, how many. -/
def slStep {X : Type} (P : X → Bool) (g : X → Int) (a : X × Int × Nat) (x : X) : X × Int × Nat := if P x = true then (if a.2.2 = 0 then (x, g x, 1) else (a.1, a.2.1, a.2.2 + 1)) else a
theorem slots_some {X : Type} (P : X → Bool) (g : X → Int) (l : List X) : ∀ a : X × Int × Nat, a.2.2 ≠ 0 → l.foldl (slStep P g) a = (a.1, a.2.1, a.2.2 + l.countP P) := by
  induction l with
  | nil => intro a _; rfl
  | cons x l ih =>
    intro a ha
    rw [List.foldl_cons]
    by_cases h : P x = true
    · have e : slStep P g a x = (a.1, a.2.1, a.2.2 + 1) := by unfold slStep; rw [if_pos h, if_neg ha]
      rw [e, ih _ (by simp), List.countP_cons_of_pos h]
      simp only [Prod.mk.injEq, true_and]; omega
    · have e : slStep P g a x = a := by unfold slStep; rw [if_neg h]
      rw [e, ih _ ha, List.countP_cons_of_neg h]
theorem slots_law {X : Type} (P : X → Bool) (g : X → Int) (z : X) (l : List X) : l.foldl (slStep P g) (z, 0, 0) = match l.find? P with
    | none => (z, 0, 0)
    | some x => (x, g x, l.countP P) := by
  induction l with
  | nil => rfl
  | cons x l ih =>
    rw [List.foldl_cons]
    by_cases h : P x = true
    · have e : slStep P g (z, 0, 0) x = (x, g x, 1) := by unfold slStep; rw [if_pos h]; rfl
      rw [e, slots_some _ _ _ _ (by simp), List.find?_cons_of_pos h, List.countP_cons_of_pos h]
      simp only [Prod.mk.injEq, true_and]; omega
    · have e : slStep P g (z, 0, 0) x = (z, 0, 0) := by unfold slStep; rw [if_neg h]
      rw [e, ih, List.find?_cons_of_neg h]
      cases hf : l.find? P with
      | none => rfl
      | some y => rw [List.countP_cons_of_neg h]
end Go.Proofs.YtmagpbbjjkmbpaaGreat

/-
  The slots that have a key, as the statements go through them.
-/
namespace Go.Proofs.YtmagpbbjjkmbpaaGreat
open Go.RowKit Go.Maps TagPure
set_option linter.unusedVariables false

theorem tagOf_tg (x : Int) (n : Nat) (h : n < 4) : tagOf x (n : Int) = tg x n := by unfold tagOf; rw [if_pos (by omega)]; simp
abbrev SlAcc := ((Int × Int) × Nat) × Int × Nat
/-- What is told of some slots. -/
def slFold (its : List Itm) (s : CS) (key : ByteArray) (l : List ((Int × Int) × Nat)) : SlAcc := l.foldl (slStep (fun x => holds its s key x.1 x.2) (fun x => wrap64 (s.val (itemA x.1.1 x.1.2 x.2)))) (((0, 0), 0), 0, 0)
def slUpto (L : List (Int × Int)) (i : Nat) (p : Int × Int) (k : Nat) : List ((Int × Int) × Nat) := slotsL (L.take i) ++ (List.range k).map fun n => (p, n)
theorem slUpto_zero (L : List (Int × Int)) (i : Nat) (p : Int × Int) : slUpto L i p 0 = slotsL (L.take i) := by simp [slUpto]
theorem slUpto_four (L : List (Int × Int)) (i : Nat) (p : Int × Int) (h : L[i]? = some p) : slUpto L i p 4 = slotsL (L.take (i + 1)) := by
  unfold slUpto slotsL
  rw [List.take_add_one, h, List.flatMap_append]; simp
theorem slFold_next (its : List Itm) (s : CS) (key : ByteArray) (L : List (Int × Int)) (i : Nat) (p : Int × Int) (k : Nat) : slFold its s key (slUpto L i p (k + 1)) = slStep (fun x => holds its s key x.1 x.2) (fun x => wrap64 (s.val (itemA x.1.1 x.1.2 x.2))) (slFold its s key (slUpto L i p k)) (p, k) := by
  unfold slFold slUpto
  rw [List.range_succ, List.map_append, ← List.append_assoc, List.foldl_append]
  rfl
/-- The block that has the first one. -/
def SlQ (w : World) (q : Nat) (x : (Int × Int) × Nat) : Prop := w.heap[q]? = some (.cells #[.int .i64 x.1.1, .int .i64 x.1.2, .int .i64 (x.2 : Int)] 43 (0, 0))
theorem spot_res (W : World) (q : Nat) (a b c : Int) (h : W.heap[q]? = some (.cells #[.int .i64 a, .int .i64 b, .int .i64 c] 43 (0, 0))) : W.cell? ⟨q, 0, none⟩ = some (.int .i64 a) ∧ W.cell? ⟨q, 1, none⟩ = some (.int .i64 b) ∧ W.cell? ⟨q, 2, none⟩ = some (.int .i64 c) ∧ W.frozen? ⟨q, 0, none⟩ = false ∧ W.frozen? ⟨q, 1, none⟩ = false ∧ W.frozen? ⟨q, 2, none⟩ = false := ⟨hcell h 0, hcell h 1, hcell h 2, hfrz h 0, hfrz h 1, hfrz h 2⟩
set_option maxRecDepth 10000 in
set_option maxHeartbeats 4000000 in
theorem slots_any {w0 w : World} {B : WB} {V : WV} {s : CS} (h : WS w0 w B V s) (hl : V.its.length ≤ 1048576) (key : ByteArray) (hk : key.size ≤ 1000000) :
    Calls Tryz.prog 19 #[.pointer (some ⟨B.wb, 0, none⟩), .string key] w fun e w' => e = .returned (.tuple #[.agg #[.int .i64 (slFold V.its s key (slotsL (plist (hashOf key) (s.val 2)))).1.1.1, .int .i64 (slFold V.its s key (slotsL (plist (hashOf key) (s.val 2)))).1.1.2, .int .i64 ((slFold V.its s key (slotsL (plist (hashOf key) (s.val 2)))).1.2 : Int)], .int .i64 (slFold V.its s key (slotsL (plist (hashOf key) (s.val 2)))).2.1, .int .i64 ((slFold V.its s key (slotsL (plist (hashOf key) (s.val 2)))).2.2 : Int)]) ∧ Below w.heap.size w w' := by
  have hH := Lib.hid (fun W => hash_any key hk W)
  obtain ⟨ha0, ha1⟩ := hfold_bd key key.size
  have hP := Lib.hid (fun W => places_any (hashOf key) (s.val 2) ha0 ha1 (h.own.wf 2) W)
  have hT := Lib.hid (fun W => tag_fn (hashOf key) ha0 ha1 W)
  have hpl := plist_len (hashOf key) (s.val 2)
  obtain ⟨L, hL⟩ : ∃ L, L = plist (hashOf key) (s.val 2) := ⟨_, rfl⟩
  rw [← hL] at hP hpl ⊢
  have H := Lib.hid h; have HLL := Lib.hid hl; have HPL := Lib.hid hpl
  have hb1 := below_alloc w (.cells #[.int .i64 0, .int .i64 0, .int .i64 0] 43)
  have hz1 := heap_alloc_new w (.cells #[.int .i64 0, .int .i64 0, .int .i64 0] 43)
  have HB1 := Lib.hid hb1; have HZ1 := Lib.hid hz1
  have HSZ := Lib.hid (show (w.alloc (.cells #[.int .i64 0, .int .i64 0, .int .i64 0] 43)).heap.size = w.heap.size + 1 by simp)
  clear h hl hk ha0 ha1 hL hpl hb1 hz1
  go_enter Tryz.func19, Tryz.ntmps19
  go_upto_region 1 with (fail)
  change Code.wp _ _ _ _ (w.alloc (.cells #[.int .i64 0, .int .i64 0, .int .i64 0] 43))
  generalize w.alloc (.cells #[.int .i64 0, .int .i64 0, .int .i64 0] 43) = w1 at *
  obtain ⟨q, hq⟩ : ∃ q, q = w.heap.size := ⟨_, rfl⟩
  rw [← hq] at HZ1 HSZ ⊢
  have HQ := Lib.hid hq
  clear hq
  generalize hash : hashOf key = hsh at hH hP hT
  have HASH := Lib.hid hash
  clear hash
  go_upto_region 2 with (go_at_call 20; refine (hH.out _).mono ?_; intro e w2 hh; obtain ⟨hh1, b2⟩ := hh; subst hh1; have B2 := Lib.hid b2; clear b2 hH)
  have hw2 := H.out.keep (HB1.out.trans (B2.out.mono HB1.out.size))
  have hpk := hw2.peek 2 (by decide)
  have c0 := hw2.c0
  clear hw2
  go_upto_region 3 with (first
    | (go_at_call 22; refine hpk.mono ?_; intro e w' hh; obtain ⟨hh1, hh2⟩ := hh; subst hh1; obtain rfl := hh2.symm; clear hpk)
    | (go_at_call 21; refine (hP.out _).mono ?_; intro e w3 hh; obtain ⟨pv, hh1, hp, b3⟩ := hh; subst hh1; have HPN := Lib.hid hp; have B3 := Lib.hid b3; clear hp b3 hP c0))
  have hz3 : w3.heap[q]? = some (.cells #[.int .i64 0, .int .i64 0, .int .i64 0] 43 (0, 0)) := by
    have g2 := (B2.out.block _ (Array.getElem?_eq_some_iff.1 HZ1.out).1).trans HZ1.out
    exact (B3.out.block _ (Array.getElem?_eq_some_iff.1 g2).1).trans g2
  have HB3 := Lib.hid ((HB1.out.trans (B2.out.mono HB1.out.size)).trans (B3.out.mono (HB1.out.trans (B2.out.mono HB1.out.size)).size))
  have HQ2 := Lib.hid (show q < w2.heap.size by have h1 := B2.out.size; have h2 := HSZ.out; omega)
  have HZ3 := Lib.hid hz3
  obtain ⟨ao, rfl, -⟩ := HPN.out.plc
  have hplc : ∀ W, Keeps (· = q) w3 W → Plc W ao L.length L := fun W hW => by
    obtain ⟨ao', he, hx⟩ := (HPN.out.keeps hW (fun j hj => by have := HQ2.out; omega)).plc
    simp only [Value.slice.injEq] at he
    rw [he.1]; exact hx
  have HPLC := Lib.hid hplc
  have hqlo : w.heap.size ≤ q := Nat.le_of_eq HQ.out.symm
  have hkb : ∀ W, Keeps (· = q) w3 W → Below w.heap.size w W := fun W hW => keeps_below hW HB3.out HB3.out.size (fun j hj => by omega)
  have HKB := Lib.hid hkb
  clear hplc hkb
  clear hz3 B2 B3 HB1 HZ1 HSZ
  go_wp2_with fail
  go_loopw [5, 6, 9] (fun v5 v6 i wr => ∃ (k : Nat) (A : SlAcc), k ≤ L.length ∧ i = .int .i64 k ∧ v5 = .int .i64 A.2.1 ∧ v6 = .int .i64 (A.2.2 : Int) ∧ Hid (A = slFold V.its s key (slotsL (L.take k))) ∧ A.2.2 ≤ 4 * k ∧ SlQ wr q A.1 ∧ Keeps (· = q) w3 wr) (fun _ _ i _ => L.length - (intOf i).toNat)
  case atStart => exact ⟨0, (((0, 0), 0), 0, 0), by omega, rfl, rfl, rfl, rfl, Nat.le_refl _, HZ3.out, below_keeps (Below.refl _ _) _⟩
  case round =>
    obtain ⟨k, A, hk, rfl, rfl, rfl, HA, hcnt, hz, hK⟩ := hrel
    by_cases hlt : k < L.length
    · have hlt' : (k : Int) < L.length := by omega
      have HLT := Lib.hid hlt; have HZ := Lib.hid hz; have HK := Lib.hid hK; have HCNT := Lib.hid hcnt
      obtain ⟨⟨p1, p2⟩, hp⟩ : ∃ p, L[k]? = some p := ⟨L[k], List.getElem?_eq_getElem hlt⟩
      have HP := Lib.hid hp
      have HK16 := Lib.hid (show 4 * k + 4 ≤ 100 by have := HPL.out; omega)
      clear hlt hz hK hcnt hk hp
      go_wp2_with fail
      go_loopw [5, 6, 10] (fun v5 v6 i wr => ∃ (n : Nat) (A : SlAcc), n ≤ 4 ∧ i = .int .i64 n ∧ v5 = .int .i64 A.2.1 ∧ v6 = .int .i64 (A.2.2 : Int) ∧ Hid (A = slFold V.its s key (slUpto L k (p1, p2) n)) ∧ A.2.2 ≤ 4 * k + n ∧ SlQ wr q A.1 ∧ Keeps (· = q) w3 wr) (fun _ _ i _ => 4 - (intOf i).toNat)
      case atStart => exact ⟨0, A, by omega, rfl, rfl, rfl, by rw [slUpto_zero]; exact HA, HCNT.out, HZ.out, HK.out⟩
      case round =>
        clear HA HZ HK HCNT
        obtain ⟨n, A, hn, rfl, rfl, rfl, HA, hcnt, hz, hK⟩ := hrel
        by_cases hn4 : n < 4
        · have hn4' : (n : Int) < 4 := by omega
          obtain ⟨g, o, x, y, hao, hxy, g0, g1⟩ := (HPLC.out wr hK).at k HLT.out
          rw [HP.out] at hxy
          simp only [Option.some.injEq, Prod.mk.injEq] at hxy
          obtain ⟨rfl, rfl⟩ := hxy
          obtain rfl := hao
          have hb5 := below_alloc wr (.cells #[.int .i64 p1, .int .i64 p2, .int .i64 n] 43)
          have hz5 := heap_alloc_new wr (.cells #[.int .i64 p1, .int .i64 p2, .int .i64 n] 43)
          have HK5 := Lib.hid (hK.again (below_keeps hb5 (· = q)))
          have HQ5 : Hid (SlQ _ q A.1) := (hb5.block _ (Array.getElem?_eq_some_iff.1 hz).1).trans hz
          have HZ5 := Lib.hid hz5
          have HNQ := Lib.hid (show q ≠ wr.heap.size from Nat.ne_of_lt (Array.getElem?_eq_some_iff.1 hz).1)
          have HCN := Lib.hid hcnt; have HN4 := Lib.hid hn4
          clear hb5 hz5 hK hz hcnt hn hn4
          go_upto_region 10 with (fail)
          change Code.wp _ _ _ _ (wr.alloc (.cells #[.int .i64 p1, .int .i64 p2, .int .i64 n] 43))
          clear g0 g1
          generalize wr.alloc (.cells #[.int .i64 p1, .int .i64 p2, .int .i64 n] 43) = w5 at *
          generalize wr.heap.size = sb at *
          have hnw : (Lit.int .i64 (n : Int)).wf = true := by have := HN4.out; simp [Lit.wf, IntKind.min, IntKind.max, IntKind.bits, IntKind.signed]; omega
          have hw5 := H.out.keep (HKB.out _ HK5.out)
          have hsl := slot_any hw5 p1 p2 n hnw
          rw [tagOf_tg _ _ HN4.out] at hsl
          obtain ⟨tv, htv⟩ : ∃ tv, tv = tg (s.val (tagsA p1 p2)) n := ⟨_, rfl⟩
          obtain ⟨iv, hiv⟩ : ∃ iv, iv = s.val (itemA p1 p2 n) := ⟨_, rfl⟩
          obtain ⟨ref, href⟩ : ∃ ref, ref = wrap64 iv := ⟨_, rfl⟩
          rw [← htv, ← hiv] at hsl
          have HTV := Lib.hid htv; have HIV := Lib.hid hiv; have HREF := Lib.hid href
          obtain ⟨x0, x1, x2, -, -, -⟩ := spot_res _ _ _ _ _ HZ5.out
          clear htv hiv href hnw hw5
          go_upto_region 11 with (go_at_call 77; refine hsl.mono ?_; intro e w6 hh; obtain ⟨hh1, b6⟩ := hh; subst hh1; have HK6 := Lib.hid (HK5.out.again (below_keeps b6 (· = q))); have HQ6 : Hid (SlQ _ q A.1) := (b6.block _ (Array.getElem?_eq_some_iff.1 HQ5.out).1).trans HQ5.out; have HZ6 := Lib.hid ((b6.block _ (Array.getElem?_eq_some_iff.1 HZ5.out).1).trans HZ5.out); clear b6 hsl x0 x1 x2 HK5 HQ5 HZ5)
          have hw6 := H.out.keep (HKB.out _ HK6.out)
          have hat := hw6.iat5 HLL.out ref
          have y1 := hw6.hd5.2.1
          have er1 : wrap64 iv = ref := HREF.out.symm
          have er2 : IntKind.i64.wrap iv = ref := (IntWalk.i64_left _).trans HREF.out.symm
          obtain ⟨it, hit⟩ : ∃ it, it = (atOf V.its ref).1 := ⟨_, rfl⟩
          obtain ⟨is, his⟩ : ∃ is, is = (atOf V.its ref).2 := ⟨_, rfl⟩
          rw [← hit, ← his] at hat
          have HIT := Lib.hid hit; have HIS := Lib.hid his
          clear hw6 hit his
          go_upto_region 12 with (go_at_call 47; refine hat.mono ?_; intro e w7 hh; obtain ⟨hh1, b7⟩ := hh; subst hh1; have HK7 := Lib.hid (HK6.out.again (below_keeps b7 (· = q))); have HQ7 : Hid (SlQ _ q A.1) := (b7.block _ (Array.getElem?_eq_some_iff.1 HQ6.out).1).trans HQ6.out; have HZ7 := Lib.hid ((b7.block _ (Array.getElem?_eq_some_iff.1 HZ6.out).1).trans HZ6.out); clear b7 hat y1 HK6 HQ6 HZ6)
          change Code.wp _ _ _ _ (w7.alloc (.cells it.cells.toArray 52))
          have hb8 := below_alloc w7 (.cells it.cells.toArray 52)
          have hz8 := heap_alloc_new w7 (.cells it.cells.toArray 52)
          have HK8 := Lib.hid (HK7.out.again (below_keeps hb8 (· = q)))
          have HQ8 : Hid (SlQ _ q A.1) := (hb8.block _ (Array.getElem?_eq_some_iff.1 HQ7.out).1).trans HQ7.out
          have HS8 := Lib.hid ((hb8.block _ (Array.getElem?_eq_some_iff.1 HZ7.out).1).trans HZ7.out)
          have HZ8 := Lib.hid hz8
          clear hb8 hz8 er1 er2 HK7 HQ7 HZ7
          generalize w7.alloc (.cells it.cells.toArray 52) = w8 at *
          generalize w7.heap.size = tb at *
          have htf := hT.out
          obtain ⟨tw, htw⟩ : ∃ tw, tw = tag01 hsh := ⟨_, rfl⟩
          rw [← htw] at htf
          have HTW := Lib.hid htw
          clear htw
          obtain ⟨d, hd⟩ : ∃ d, d = (decide (tv = tw) && (is && decide (it.key = key))) := ⟨_, rfl⟩
          have hdh : d = holds V.its s key (p1, p2) n := by
            rw [hd]; unfold holds hit; rw [HTV.out, HTW.out, HASH.out.symm, HIS.out, HIT.out, HREF.out, HIV.out]
          have HDH := Lib.hid hdh
          have HD := Lib.hid hd
          clear hd hdh
          go_cut [70] (fun v70 wx => v70 = .bool (!d) ∧ wx = w8)
          case first =>
            have c0 : w8.cell? ⟨tb, 0, none⟩ = some (.string it.key) := hcell HZ8.out 0
            by_cases htt : tv = tw
            · subst htt
              cases is
              · go_wp2_with (go_at_call 26; refine (htf _).mono ?_; intro e w' hh; obtain ⟨hh1, hh2⟩ := hh; subst hh1; obtain rfl := hh2.symm)
                all_goals go_meet
                all_goals exact ⟨by rw [HD.out]; simp, rfl⟩
              · by_cases hke : it.key = key
                · rw [hke] at c0
                  have HKE := Lib.hid hke
                  clear hke
                  go_wp2_with (go_at_call 26; refine (htf _).mono ?_; intro e w' hh; obtain ⟨hh1, hh2⟩ := hh; subst hh1; obtain rfl := hh2.symm)
                  all_goals go_meet
                  all_goals exact ⟨by rw [HD.out, decide_eq_true HKE.out]; simp, rfl⟩
                · have HKE := Lib.hid hke
                  have kn := key_ne hke
                  clear hke
                  go_wp2_with (go_at_call 26; refine (htf _).mono ?_; intro e w' hh; obtain ⟨hh1, hh2⟩ := hh; subst hh1; obtain rfl := hh2.symm)
                  all_goals go_meet
                  all_goals exact ⟨by rw [HD.out, decide_eq_false HKE.out]; simp, rfl⟩
            · have HTT := Lib.hid htt
              have tn : (tv == tw) = false := beq_eq_false_iff_ne.2 htt
              have tn2 : (tv != tw) = true := bne_iff_ne.2 htt
              clear htt
              go_wp2_with (go_at_call 26; refine (htf _).mono ?_; intro e w' hh; obtain ⟨hh1, hh2⟩ := hh; subst hh1; obtain rfl := hh2.symm)
              all_goals go_meet
              all_goals exact ⟨by rw [HD.out, decide_eq_false HTT.out]; simp, rfl⟩
          case rest =>
            obtain ⟨rfl, rfl⟩ := hcut
            clear htf
            have hnx := slFold_next V.its s key L k (p1, p2) n
            rw [← HA.out] at hnx
            cases d
            · have hst : slFold V.its s key (slUpto L k (p1, p2) (n + 1)) = A := by rw [hnx]; unfold slStep; rw [if_neg (by simp only [← HDH.out]; decide)]
              have HST := Lib.hid hst
              clear hnx hst
              go_wp2
              go_roundw
              case rel => exact ⟨n + 1, A, HN4.out, by go_num, rfl, rfl, HST.out.symm, by have := HCN.out; omega, HQ8.out, HK8.out⟩
              case measure => simp [intOf]; omega
            · have hh : holds V.its s key (p1, p2) n = true := HDH.out.symm
              have hgr : wrap64 (s.val (itemA p1 p2 n)) = ref := by rw [← HIV.out]; exact HREF.out.symm
              obtain ⟨m, hm⟩ : ∃ m, m = A.2.2 := ⟨_, rfl⟩
              rw [← hm]
              have hcm : m ≤ 100 := by have := HCN.out; have := HK16.out; have := HN4.out; omega
              have HM := Lib.hid hm
              obtain ⟨x0, x1, x2, -, -, -⟩ := spot_res _ _ _ _ _ HS8.out
              obtain ⟨y0, y1, y2, z0, z1, z2⟩ := spot_res _ _ _ _ _ HQ8.out
              by_cases hm0 : m = 0
              · have hst : slFold V.its s key (slUpto L k (p1, p2) (n + 1)) = (((p1, p2), n), ref, m + 1) := by rw [hnx]; unfold slStep; rw [if_pos hh, if_pos (by omega), hm0]; simp only [hgr]
                have HST := Lib.hid hst
                have e0 : ((m : Int) == 0) = true := beq_iff_eq.2 (by omega)
                have er1 : wrap64 iv = ref := HREF.out.symm
                have er2 : IntKind.i64.wrap iv = ref := (IntWalk.i64_left _).trans HREF.out.symm
                clear hnx hst hh hgr hm hm0
                go_wp2
                go_roundw
                case rel =>
                  have s1 := setCell_same HQ8.out 0 (.int .i64 p1)
                  have s2 := setCell_same s1 1 (.int .i64 p2)
                  have s3 := setCell_same s2 2 (.int .i64 (n : Int))
                  have k3 := ((HK8.out.again (setCell_keeps _ q 0 (.int .i64 p1))).again (setCell_keeps _ q 1 (.int .i64 p2))).again (setCell_keeps _ q 2 (.int .i64 (n : Int)))
                  exact ⟨n + 1, (((p1, p2), n), ref, m + 1), HN4.out, by go_num, rfl, by go_num, HST.out.symm, by have h1 := HCN.out; have h2 := HM.out; show m + 1 ≤ _; omega, s3, k3⟩
                case measure => have := HN4.out; simp [intOf]; omega
              · have hst : slFold V.its s key (slUpto L k (p1, p2) (n + 1)) = (A.1, A.2.1, m + 1) := by rw [hnx]; unfold slStep; rw [if_pos hh, if_neg (by omega), hm]
                have HST := Lib.hid hst
                have e0 : ((m : Int) == 0) = false := beq_eq_false_iff_ne.2 (by omega)
                clear hnx hst hh hgr hm hm0 x0 x1 x2 y0 y1 y2 z0 z1 z2
                go_wp2
                go_roundw
                case rel => exact ⟨n + 1, (A.1, A.2.1, m + 1), HN4.out, by go_num, rfl, by go_num, HST.out.symm, by have h1 := HCN.out; have h2 := HM.out; show m + 1 ≤ _; omega, HQ8.out, HK8.out⟩
                case measure => have := HN4.out; simp [intOf]; omega
        · obtain rfl : n = 4 := by omega
          rw [slUpto_four L k (p1, p2) HP.out] at HA
          have HZ := Lib.hid hz; have HK := Lib.hid hK; have HCNT := Lib.hid hcnt
          have hk5 : (k : Int) + 1 < 100 := by have := HK16.out; omega
          clear hz hK hcnt
          go_wp2
          go_roundw
          case rel => exact ⟨k + 1, A, HLT.out, by go_num, rfl, rfl, HA, by have := HCNT.out; omega, HZ.out, HK.out⟩
          case measure => have := HLT.out; simp [intOf]; omega
    · obtain rfl : k = L.length := by omega
      rw [List.take_length] at HA
      obtain ⟨y0, y1, y2, z0, z1, z2⟩ := spot_res _ _ _ _ _ hz
      have HZ := Lib.hid hz; have HK := Lib.hid hK
      clear hz hK hcnt
      go_wp2
      have s1 := setCell_same HZ.out 0 (.int .i64 A.1.1.1)
      have s2 := setCell_same s1 1 (.int .i64 A.1.1.2)
      have s3 := setCell_same s2 2 (.int .i64 (A.1.2 : Int))
      have h0 := hcell s3 0; have h1 := hcell s3 1; have h2 := hcell s3 2
      have k3 := ((HK.out.again (setCell_keeps _ q 0 (.int .i64 A.1.1.1))).again (setCell_keeps _ q 1 (.int .i64 A.1.1.2))).again (setCell_keeps _ q 2 (.int .i64 (A.1.2 : Int)))
      refine bodyPost_ret (v := .tuple #[.agg #[.int .i64 A.1.1.1, .int .i64 A.1.1.2, .int .i64 (A.1.2 : Int)], .int .i64 A.2.1, .int .i64 (A.2.2 : Int)]) (by simp [results, Tryz.results19, go_sem, h0, h1, h2]) rfl ⟨by rw [← HA.out], ?_⟩
      exact HKB.out _ k3
end Go.Proofs.YtmagpbbjjkmbpaaGreat

/-
  FindsFirst: the plain law.
-/
namespace Go.Proofs.YtmagpbbjjkmbpaaGreat
open Go.RowKit Go.Maps TagPure
set_option linter.unusedVariables false

def wthF (l : List (Int × Int)) (p : Int × Int) : List (Int × Int) := if p ∈ l then l else l ++ [p]
theorem dedup_grows (l : List (Int × Int)) : ∀ acc : List (Int × Int), acc.length ≤ (l.foldl wthF acc).length := by
  induction l with
  | nil => intro acc; exact Nat.le_refl _
  | cons p l ih =>
    intro acc
    refine Nat.le_trans ?_ (ih (wthF acc p))
    unfold wthF; split <;> simp
theorem dedup_pos (p : Int × Int) (l : List (Int × Int)) : 1 ≤ (dedup (p :: l)).length := dedup_grows l [p]
theorem fiter_tab (its : List Itm) (m : Nat) (s : CS) (f : FW) : fiter its (m + 1) s f [.tab] = ((fiter its m (s.acc 1 2 (s.val 2)) { f with word := s.val 2 } ((plist (hashOf f.key) (s.val 2)).map Ld.tag)).1 + 1, (fiter its m (s.acc 1 2 (s.val 2)) { f with word := s.val 2 } ((plist (hashOf f.key) (s.val 2)).map Ld.tag)).2) := rfl
theorem plist_pos (h v : Int) : 1 ≤ (plist h v).length := by
  have h12 := as_in12 v
  have hne : asOld v ≠ 0 := by have := h12.1; omega
  unfold plist
  have e : pairOf h (asOld v) = [(asOld v, bk h (asOld v)), (asOld v, oth (bk h (asOld v)) (tag01 h) (asOld v))] := pairOf_in h _ h12.1
  rw [e]
  exact dedup_pos _ _
theorem hit_pos {its : List Itm} {s : CS} {key : ByteArray} {p : Int × Int} {n : Int} (h : hit its s key p n = true) : 0 < wrap64 (s.val (itemA p.1 p.2 n)) := by
  unfold hit at h
  rw [Bool.and_eq_true] at h
  have h1 := h.1
  unfold atOf at h1
  split at h1
  · rename_i hc; omega
  · cases h1
structure FirstLaw (its : List Itm) (s : CS) (key : ByteArray) (L : List (Int × Int)) (A : SlAcc) (R : Nat × CS × FW × List Ld) : Prop where
  out : R.2.2 = (⟨key, s.val 2, A.1.1.1, A.1.1.2, (A.1.2 : Int), A.2.1⟩, [])
  val : R.2.1.val = s.val
  two : 2 ≤ R.1
  most : R.1 ≤ 1 + 5 * L.length
  more : 0 < A.2.1 ∨ L.length < R.1
  none : A.2.2 = 0 → A.1 = ((0, 0), 0) ∧ A.2.1 = 0
theorem first_law (its : List Itm) (s : CS) (key : ByteArray) (L : List (Int × Int)) (hL : L = plist (hashOf key) (s.val 2)) (m : Nat) (hm : 90 ≤ m) : FirstLaw its s key L (slFold its s key (slotsL L)) (fiter its (m + 1) s ⟨key, 0, 0, 0, 0, 0⟩ [.tab]) := by
  have hp := plist_pos (hashOf key) (s.val 2)
  have hq := plist_len (hashOf key) (s.val 2)
  rw [← hL] at hp hq
  obtain ⟨s1, hs1⟩ : ∃ s1, s1 = s.acc 1 2 (s.val 2) := ⟨_, rfl⟩
  have hv : s1.val = s.val := by rw [hs1]; exact load_val s 2
  obtain ⟨f1, hf1⟩ : ∃ f1 : FW, f1 = ⟨key, s.val 2, 0, 0, 0, 0⟩ := ⟨_, rfl⟩
  have hfk : f1.key = key := by rw [hf1]
  have hR : fiter its (m + 1) s ⟨key, 0, 0, 0, 0, 0⟩ [.tab] = ((fiter its m s1 f1 (L.map Ld.tag)).1 + 1, (fiter its m s1 f1 (L.map Ld.tag)).2) := by
    rw [fiter_tab, hs1, hf1, hL]
  have hc := cost_tags s1 f1.key L
  have ht : ∀ l ∈ L.map Ld.tag, l ≠ .tab := fun l hl => by obtain ⟨p, -, rfl⟩ := List.mem_map.1 hl; intro c; cases c
  have h1 := fiter_scan its m s1 f1 (L.map Ld.tag) ht (by omega)
  have h2 := fiter_steps its m s1 f1 (L.map Ld.tag) ht (by omega)
  have hne : L.map Ld.tag ≠ [] := by intro c; simp at c; rw [c] at hp; simp at hp
  have h3 := h2.2.2 hne
  rw [hfk, scan_val hv, scan_tags] at h1 h2
  rw [hR]
  rw [hfk] at hc
  cases hf : (slotsL L).find? (fun x => holds its s key x.1 x.2) with
  | none =>
    have hA : slFold its s key (slotsL L) = (((0, 0), 0), 0, 0) := by unfold slFold; rw [slots_law, hf]
    rw [hf] at h1 h2
    have h4 := h2.2.1 rfl
    refine ⟨?_, ?_, by omega, by omega, .inr (by show L.length < (fiter its m s1 f1 (L.map Ld.tag)).1 + 1; omega), fun _ => by rw [hA]; exact ⟨rfl, rfl⟩⟩
    · show (fiter its m s1 f1 (L.map Ld.tag)).2.2 = _
      rw [h1.1, hA, hf1]; rfl
    · show (fiter its m s1 f1 (L.map Ld.tag)).2.1.val = _
      rw [h1.2, hv]
  | some x =>
    have hA : slFold its s key (slotsL L) = (x, wrap64 (s.val (itemA x.1.1 x.1.2 x.2)), (slotsL L).countP (fun x => holds its s key x.1 x.2)) := by unfold slFold; rw [slots_law, hf]
    rw [hf] at h1
    have hh : holds its s key x.1 x.2 = true := List.find?_some (p := fun x : (Int × Int) × Nat => holds its s key x.1 x.2) hf
    have hm2 : 0 < (slotsL L).countP (fun x => holds its s key x.1 x.2) := List.countP_pos_iff.2 ⟨x, List.mem_of_find?_eq_some hf, hh⟩
    unfold holds at hh
    rw [Bool.and_eq_true] at hh
    have hpos := hit_pos hh.2
    refine ⟨?_, ?_, by omega, by omega, .inl ?_, fun c => ?_⟩
    · show (fiter its m s1 f1 (L.map Ld.tag)).2.2 = _
      rw [h1.1, hA, hf1]
      simp only [Option.map_some, FW.at_, hv]
    · show (fiter its m s1 f1 (L.map Ld.tag)).2.1.val = _
      rw [h1.2, hv]
    · rw [hA]; exact hpos
    · rw [hA] at c; simp only at c; omega
end Go.Proofs.YtmagpbbjjkmbpaaGreat

/-
  The document's hash, bucket and places, told exactly: they are the program's.
-/
namespace Go.Proofs.YtmagpbbjjkmbpaaGreat
open Go.RowKit
set_option linter.unusedVariables false

theorem rhash_eq (key : ByteArray) (hk : key.size ≤ 1000000) (w : World) : Calls Tryz.prog 91 #[.string key] w fun e w' => e = .returned (.int .u64 (hashOf key)) ∧ w' = w := by
  go_enter Tryz.func91, Tryz.ntmps91
  go_wp2
  go_loop [3, 4] (fun h i => ∃ (k : Nat) (y : Int), k ≤ key.size ∧ i = .int .i64 k ∧ h = .int .u64 y ∧ Hid (y = hfold key k)) (fun _ i => key.size - (intOf i).toNat)
  case atStart => exact ⟨0, _, by omega, rfl, rfl, rfl⟩
  case round =>
    obtain ⟨k, y, hk2, rfl, rfl, hy⟩ := hrel
    by_cases hlt : k < key.size
    · have hlt' : (k : Int) < key.size := by omega
      have hby : hbyte key k = (key[k].toNat : Int) := by unfold hbyte; rw [dif_pos hlt]
      have hbb : 0 ≤ (key[k].toNat : Int) ∧ (key[k].toNat : Int) < 256 := by have := UInt8.toNat_lt key[k]; omega
      have k1 : IntKind.u64.wrap (key[k].toNat : Int) = (key[k].toNat : Int) := by rw [IntKind.wrap_u64]; omega
      have HB := Lib.hid hby
      clear hby hbb
      go_wp2
      go_round
      case rel => exact ⟨k + 1, _, by omega, by go_num, rfl, by show _ = hstep (hfold key k) (hbyte key k); rw [HB.out, ← hy.out]; rfl⟩
      case measure => simp [intOf]; omega
    · obtain rfl : k = key.size := by omega
      go_wp2
      go_ret
      exact ⟨by rw [hy.out]; rfl, rfl⟩
theorem rbucket_eq (x b : Int) (h0 : 0 ≤ x) (h1 : x < 18446744073709551616) (hb : 1 ≤ b ∧ b ≤ 12) (w : World) : Calls Tryz.prog 151 #[.int .u64 x, .int .i64 b] w fun e w' => e = .returned (.int .i64 (bk x b)) ∧ w' = w := by
  have hp := tsize_pos hb
  have hs := rsize_any b
  unfold bk
  generalize tsize b = t at *
  have e0 : (t == 0) = false := beq_eq_false_iff_ne.2 (by omega)
  have e00 : ¬ t = 0 := by omega
  have e1 : IntKind.u64.wrap t = t := by rw [IntKind.wrap_u64]; omega
  obtain ⟨R, hR⟩ : ∃ R, R = x % t := ⟨_, rfl⟩
  have hRb : 0 ≤ R ∧ R < t := by rw [hR]; exact ⟨Int.emod_nonneg _ (by omega), Int.emod_lt_of_pos _ (by omega)⟩
  have e2 : x.tmod t = R := by rw [hR]; exact Int.tmod_eq_emod_of_nonneg h0
  have e3 : x % t = R := hR.symm
  have e4 : wrap64 R = R := IntWalk.wrap64_in _ (by omega)
  have e5 : IntKind.u64.wrap R = R := by rw [IntKind.wrap_u64]; omega
  rw [e3]
  have ht1 : 1 ≤ t := by omega
  clear hR hRb hp hb
  go_enter Tryz.func151, Tryz.ntmps151
  go_wp2_with (go_at_call 155; refine (hs _).mono ?_; rintro e w1 ⟨rfl, rfl⟩)
  go_ret
  first | exact ⟨rfl, rfl⟩ | exact ⟨ret_i64 (by first | exact e4 | (rw [e3]; exact e4) | (rw [e2]; exact e4)), rfl⟩
theorem mask_i64 (x : Int) (m k : Nat) (hm : m = 2 ^ k - 1) (hk : k ≤ 62) (h0 : 0 ≤ x) (h1 : x < 9223372036854775808) : bits .and .i64 x (m : Int) = x % ((2 ^ k : Nat) : Int) := by
  have hp : (2 : Nat) ^ k ≤ 2 ^ 62 := Nat.pow_le_pow_right (by decide) hk
  have hp0 : 0 < (2 : Nat) ^ k := Nat.two_pow_pos k
  have hmm : (BitVec.ofInt 64 (m : Int)).toNat = 2 ^ k - 1 := by
    rw [BitVec.toNat_ofInt]; omega
  have key : (BitVec.ofInt 64 x &&& BitVec.ofInt 64 (m : Int)).toNat = (x % ((2 ^ 64 : Nat) : Int)).toNat % 2 ^ k := by
    rw [BitVec.toNat_and, BitVec.toNat_ofInt, hmm, Nat.and_two_pow_sub_one_eq_mod]
  show IntKind.i64.wrap ((BitVec.ofInt 64 x &&& BitVec.ofInt 64 (m : Int)).toNat : Nat) = _
  rw [key, IntKind.wrap_i64]
  obtain ⟨n, rfl⟩ := Int.eq_ofNat_of_zero_le h0
  have e : ((n : Int) % ((2 ^ 64 : Nat) : Int)).toNat = n := by omega
  rw [e]
  have hlt := Nat.mod_lt n hp0
  rw [← Int.natCast_emod]
  omega
theorem mask_mod (m b : Int) (hm : 0 ≤ m) (hm2 : m < 9223372036854775808) (hb : 1 ≤ b ∧ b ≤ 12) : bits .and .i64 m (tsize b - 1) = m % tsize b := by
  rw [tsize_in hb]
  rcases twelve hb with rfl | rfl | rfl | rfl | rfl | rfl | rfl | rfl | rfl | rfl | rfl | rfl
  all_goals (first
    | exact mask_i64 m 1 1 rfl (by decide) hm hm2 | exact mask_i64 m 3 2 rfl (by decide) hm hm2 | exact mask_i64 m 7 3 rfl (by decide) hm hm2 | exact mask_i64 m 15 4 rfl (by decide) hm hm2 | exact mask_i64 m 31 5 rfl (by decide) hm hm2 | exact mask_i64 m 63 6 rfl (by decide) hm hm2 | exact mask_i64 m 127 7 rfl (by decide) hm hm2 | exact mask_i64 m 255 8 rfl (by decide) hm hm2 | exact mask_i64 m 511 9 rfl (by decide) hm hm2 | exact mask_i64 m 1023 10 rfl (by decide) hm hm2 | exact mask_i64 m 2047 11 rfl (by decide) hm hm2 | exact mask_i64 m 4095 12 rfl (by decide) hm hm2)
theorem oth_eq (k t b : Int) (hb : 1 ≤ b ∧ b ≤ 12) (hk : 0 ≤ k ∧ k < tsize b) (ht : 1 ≤ t ∧ t ≤ 255) : oth01 k t b = oth k t b := by
  unfold oth01 oth
  rw [if_neg (by omega), mask_mod _ _ (by omega) (by omega) hb]
def wth (l : List (Int × Int)) (p : Int × Int) : List (Int × Int) := if p ∈ l then l else l ++ [p]
theorem dedup_snoc (l : List (Int × Int)) (p : Int × Int) : dedup (l ++ [p]) = wth (dedup l) p := by unfold dedup wth; rw [List.foldl_append]; rfl
theorem wth_le (l : List (Int × Int)) (p : Int × Int) : (wth l p).length ≤ l.length + 1 := by unfold wth; split <;> simp
def WithX (w : World) (base : Nat) (l : List (Int × Int)) (e : Ending) (w' : World) : Prop := ∃ v', e = .returned v' ∧ PlR w' base v' l ∧ Below base w w'
set_option maxHeartbeats 1000000 in
theorem rwith8x (w : World) (base : Nat) (v : Value) (l : List (Int × Int)) (hb : base ≤ w.heap.size) (h : PlR w base v l) (hl : l.length ≤ 1000) (b u : Int) : Calls Tryz.prog 152 #[v, .agg #[.int .i64 b, .int .i64 u]] w (WithX w base (wth l (b, u))) := by
  obtain ⟨a, cap, rfl, hm, hc⟩ := h.read
  obtain ⟨i0, hi0, hz0, hz1, hz2⟩ := info_parts info_plc
  have HI := Lib.hid hi0; have HZ0 := Lib.hid hz0; have HZ1 := Lib.hid hz1; have HZ2 := Lib.hid hz2
  have HC := Lib.hid hc; have HH := Lib.hid h; have HL := Lib.hid hl; have HBS := Lib.hid hb
  unfold maxLen at hm
  have hq := box2 w b u 41
  have hB0 := below_alloc w (.cells #[.int .i64 b, .int .i64 u] 41)
  have HQ := Lib.hid hq; have HB0 := Lib.hid hB0
  clear h hl hc hi0 hz0 hz1 hz2 hq hB0 hb
  go_enter Tryz.func152, Tryz.ntmps152
  go_wp2
  go_loopw [5] (fun i wr => ∃ k : Nat, k ≤ l.length ∧ i = .int .i64 k ∧ Hid ((b, u) ∉ l.take k) ∧ Below (w.heap.size + 1) (w.alloc (.cells #[.int .i64 b, .int .i64 u] 41)) wr) (fun i _ => l.length - (intOf i).toNat)
  case atStart => exact ⟨0, by omega, rfl, (by show _ ∉ _; simp), Below.refl _ _⟩
  case round =>
    obtain ⟨k, hk, rfl, HNI, hbl⟩ := hrel
    have hq0 := (hbl.cell (p := ⟨w.heap.size, 0, none⟩) (by simp)).trans (HQ.out 0)
    have hq1 := (hbl.cell (p := ⟨w.heap.size, 1, none⟩) (by simp)).trans (HQ.out 1)
    have hbw : Below w.heap.size w wr := HB0.out.trans (hbl.mono (by simp))
    by_cases hlt : k < l.length
    · obtain ⟨g, rfl, hgb, hrow⟩ := HC.out (by omega)
      obtain ⟨r0, r1⟩ := hrow k hlt
      have r0 := (hbw.cell (World.block_lt_of_cell? _ _ r0)).trans r0
      have r1 := (hbw.cell (World.block_lt_of_cell? _ _ r1)).trans r1
      obtain ⟨p, hp⟩ : ∃ p, p = l[k] := ⟨_, rfl⟩
      rw [← hp] at r0 r1
      have HP := Lib.hid hp
      clear hp
      obtain ⟨pb, pu⟩ := p
      simp only at r0 r1
      have hlt' : (k : Int) < l.length := by omega
      have HB := Lib.hid hbl; have HBW := Lib.hid hbw
      clear hrow hbl hbw
      by_cases hin : pb = b ∧ pu = u
      · obtain ⟨rfl, rfl⟩ := hin
        have x0 := fun st : ExtW wr => st.cell r0
        have x1 := fun st : ExtW wr => st.cell r1
        have x2 := fun st : ExtW wr => st.cell hq0
        have x3 := fun st : ExtW wr => st.cell hq1
        clear r0 r1 hq0 hq1
        go_wp2
        refine wp_region_ext (by kernel_rfl) (by kernel_rfl) ?_
        repeat (go_big_quiet_step (fail))
        refine wpQuiet_nil ?_
        rintro W ⟨⟨W2, hW⟩, rfl⟩
        clear x0 x1 x2 x3
        have HW2 := Lib.hid (HBW.out.trans (hW.mono HBW.out.size))
        clear hW
        have hmem : (pb, pu) ∈ l := by rw [HP.out]; exact List.getElem_mem hlt
        have he : wth l (pb, pu) = l := if_pos hmem
        have HE := Lib.hid he
        clear hmem he
        go_wp2
        go_ret
        exact ⟨_, rfl, by rw [HE.out]; exact rown_below HH.out HW2.out, HW2.out.mono HBS.out⟩
      · have hor : (pb == b) = false ∨ ((pb == b) = true ∧ (pu == u) = false) := by
          by_cases h1 : pb = b
          · exact .inr ⟨beq_iff_eq.2 h1, beq_eq_false_iff_ne.2 (fun c => hin ⟨h1, c⟩)⟩
          · exact .inl (beq_eq_false_iff_ne.2 h1)
        have hni : (b, u) ∉ l.take (k + 1) := by
          rw [List.take_succ_eq_append_getElem hlt, ← HP.out]
          simp only [List.mem_append, List.mem_singleton, Prod.mk.injEq, not_or]
          exact ⟨HNI.out, fun c => hin ⟨c.1.symm, c.2.symm⟩⟩
        have HN2 := Lib.hid hni
        have x0 := fun st : ExtW wr => st.cell r0
        have x1 := fun st : ExtW wr => st.cell r1
        have x2 := fun st : ExtW wr => st.cell hq0
        have x3 := fun st : ExtW wr => st.cell hq1
        clear r0 r1 hq0 hq1 hni hin
        rcases hor with h0 | ⟨h0, h1⟩
        all_goals go_wp2
        all_goals (refine wp_region_ext (by kernel_rfl) (by kernel_rfl) ?_)
        all_goals (repeat (go_big_quiet_step (fail)))
        all_goals (refine wpQuiet_nil ?_)
        all_goals (rintro W ⟨⟨W2, hW⟩, rfl⟩)
        all_goals (clear x0 x1 x2 x3)
        all_goals (have hs : w.heap.size + 1 ≤ wr.heap.size := by have := HB.out.size; simpa using this)
        all_goals (have HW1 := Lib.hid (HB.out.trans (hW.mono hs)))
        all_goals (clear hW hs)
        all_goals go_wp2
        all_goals go_roundw
        all_goals (first
          | exact ⟨k + 1, by omega, by go_num, HN2, HW1.out⟩
          | (simp [intOf]; omega))
    · obtain rfl : k = l.length := by omega
      have hrow := rown_below HH.out hbw
      have hni := HNI.out
      rw [List.take_length] at hni
      have he : wth l (b, u) = l ++ [(b, u)] := if_neg hni
      have HE := Lib.hid he
      have HB := Lib.hid hbw; have HR := Lib.hid hrow
      have hsz : w.heap.size ≤ wr.heap.size := hbw.size
      clear hbl hbw hrow hni he HNI
      go_wp2_with (at_builtin; refine wpList_append_own _ rfl _ _ 61 rfl base 41 i0 (.agg #[.int .i64 0, .int .i64 0]) 2 16 Tryz.underlying61 HI.out HZ0.out HZ1.out HZ2.out rfl (by decide) _ _ _ rfl (HR.out.alloc _) ⟨_, 0, none⟩ 1 1 [.int .i64 b, .int .i64 u] rfl rfl (World.news_of_block (cs := #[.int .i64 b, .int .i64 u]) (t := 41) (fr := (0, 0)) (heap_alloc_new _ _)) ?c2 ?c3 ?c4 ?c5 ?_)
      case c2 => simp [Value.oneCell']
      case c3 => have := HL.out; unfold maxLen; omega
      case c4 => have := HL.out; omega
      case c5 => have := HBS.out; first | omega | (simp; omega)
      intro v' w2 hown' hgrow _
      have hb2 : Below base w w2 := ((HB.out.mono HBS.out).alloc (Nat.le_trans HBS.out hsz) (.cells #[.int .i64 b, .int .i64 u] 41)).grown hgrow (by simp; have := HBS.out; omega) (fun j hj => (HR.out.lt j hj).1)
      have HO2 := Lib.hid hown'; have HB2 := Lib.hid hb2
      clear hown' hgrow hb2
      go_wp2
      go_ret
      exact ⟨_, rfl, by rw [HE.out]; unfold PlR; rw [flatP_snoc, show (l ++ [(b, u)]).length = l.length + 1 by simp]; exact HO2.out, HB2.out⟩
def PlacesX (w : World) (L : List (Int × Int)) (e : Ending) (w' : World) : Prop := ∃ pv, e = .returned pv ∧ PlR w' w.heap.size pv L ∧ Below w.heap.size w w'
/-- A round of the document's loop over the tables. -/
def Rnd (x : Int) (L : List (Int × Int)) (k : Nat) (b : Int) : Prop := (1 ≤ b ∧ b ≤ 12) ∧ dedup (L.take (2 * (k + 1))) = wth (wth (dedup (L.take (2 * k))) (b, bk x b)) (b, oth (bk x b) (tag01 x) b)
theorem rnd_of (x : Int) {L : List (Int × Int)} {k : Nat} {b : Int} (hb : 1 ≤ b ∧ b ≤ 12) (h0 : L[2 * k]? = some (b, bk x b)) (h1 : L[2 * k + 1]? = some (b, oth (bk x b) (tag01 x) b)) : Rnd x L k b := by
  refine ⟨hb, ?_⟩
  rw [← dedup_snoc, ← dedup_snoc, show 2 * (k + 1) = 2 * k + 1 + 1 by omega, List.take_add_one, h1, List.take_add_one, h0]
  rfl
set_option maxRecDepth 10000 in
set_option maxHeartbeats 2000000 in
theorem rplaces_onex (x v : Int) (h0 : 0 ≤ x) (h1 : x < 18446744073709551616) (v0 : 0 ≤ v) (v1 : v < 18446744073709551616) (hn : asNow v = 0) (w : World) : Calls Tryz.prog 90 #[.int .u64 x, .int .u64 v] w (PlacesX w (plist x v)) := by
  have ha := ras_any v v0 v1 w
  have h12 := as_in12 v
  have hpl : plist x v = dedup (pairOf x (asOld v)) := by unfold plist; rw [hn, show pairOf x 0 = [] from if_pos rfl, List.append_nil]
  rw [pairOf_in x _ h12.1] at hpl
  obtain ⟨PL, hPL⟩ : ∃ PL, PL = [(asOld v, bk x (asOld v)), (asOld v, oth (bk x (asOld v)) (tag01 x) (asOld v))] := ⟨_, rfl⟩
  have hrn : Rnd x PL 0 (asOld v) := rnd_of x h12.1 (by rw [hPL]; rfl) (by rw [hPL]; rfl)
  have hlen : PL.length = 2 := by rw [hPL]; rfl
  rw [hpl, ← hPL]
  have htg := tag01_bd x h0 h1
  rw [hn] at ha
  clear hn hpl hPL h12
  generalize asOld v = o at *
  have HLEN := Lib.hid hlen; have HTG := Lib.hid htg
  clear hlen htg
  obtain ⟨W, hWe⟩ : ∃ W, W = w.alloc (.cells #[.int .i64 o] 3) := ⟨_, rfl⟩
  have HW : Hid (Below w.heap.size w W) := by rw [hWe]; exact below_alloc _ _
  have HQ : Hid (∀ k, k < 1 → ∃ bv, W.cell? ⟨w.heap.size, k, none⟩ = some (.int .i64 bv) ∧ Rnd x PL k bv) := fun k hk => by
    obtain rfl : k = 0 := by omega
    have := heap_alloc_new w (.cells #[.int .i64 o] 3)
    rw [← hWe] at this
    exact ⟨o, by simp [World.cell?, this], hrn⟩
  clear hrn
  go_enter Tryz.func90, Tryz.ntmps90
  go_wp2_with (go_at_call 150; refine ha.mono ?_; rintro e w1 ⟨rfl, hw⟩; obtain rfl := hw.symm; clear ha)
  rw [← hWe]
  clear hWe
  have hWs := HW.out.size
  go_loopw [8, 9] (fun ov i wr => ∃ (k : Nat) (l : List (Int × Int)), k ≤ 1 ∧ i = .int .i64 k ∧ PlR wr W.heap.size ov l ∧ Hid (l = dedup (PL.take (2 * k))) ∧ l.length ≤ 2 * k ∧ Below W.heap.size W wr) (fun _ i _ => 1 - (intOf i).toNat)
  case atStart => exact ⟨0, [], by omega, rfl, World.ownsRow_nil _ _ _ _, (by show _ = _; simp; rfl), by simp, Below.refl _ _⟩
  case round =>
    obtain ⟨k, l, hk, rfl, hrow, HL1, hl2, hbl⟩ := hrel
    by_cases hlt : k < 1
    · obtain ⟨bv, q0, hrd⟩ := HQ.out k hlt
      have HRD := Lib.hid hrd
      have hbb := hrd.1
      clear hrd
      have hbu := bk_bd x bv hbb
      have hg : w.heap.size < W.heap.size := World.block_lt_of_cell? _ _ q0
      have hw8 := rwith8x wr W.heap.size _ l hbl.size hrow (by omega) bv (bk x bv)
      have HQ0 := Lib.hid q0
      have q0 := (hbl.cell (p := ⟨w.heap.size, k, none⟩) hg).trans q0
      have hlt' : (k : Int) < 1 := by omega
      have HB := Lib.hid hbl; have HW8 := Lib.hid hw8; have HG := Lib.hid hg
      clear hbl hrow hw8 hg
      go_wp2_with (first
        | (go_at_call 151; refine (rbucket_eq x bv h0 h1 hbb _).mono ?_; rintro e w1 ⟨rfl, hw⟩; obtain rfl := hw.symm)
        | (go_at_call 152; refine HW8.out.mono ?_; rintro e w2 ⟨v2, rfl, p2, b2⟩; clear q0))
      have n2 := wth_le l (bv, bk x bv)
      obtain ⟨l2, hl2e⟩ : ∃ l2, l2 = wth l (bv, bk x bv) := ⟨_, rfl⟩
      rw [← hl2e] at p2 n2
      have HL2E := Lib.hid hl2e
      clear hl2e
      obtain ⟨a2, cap2, rfl, hm2, -⟩ := p2.read
      unfold maxLen at hm2
      have hbl2 := HB.out.trans b2
      have q0 := (hbl2.cell (p := ⟨w.heap.size, k, none⟩) HG.out).trans HQ0.out
      have x0 := fun st : ExtW w2 => st.cell q0
      have ht : ∀ st : ExtW w2, Calls Tryz.prog 123 #[.int .u64 x] st.val fun e w' => e = .returned (.int .i64 (tag01 x)) ∧ st.val = w' := fun st => (rtag01_any x h0 h1 st.val).mono fun e w' ⟨he, hw⟩ => ⟨he, hw.symm⟩
      have ho : ∀ st : ExtW w2, Calls Tryz.prog 153 #[.int .i64 (bk x bv), .int .i64 (tag01 x), .int .i64 bv] st.val fun e w' => e = .returned (.int .i64 (oth (bk x bv) (tag01 x) bv)) ∧ st.val = w' := fun st => (rother01_any (bk x bv) (tag01 x) bv st.val).mono fun e w' ⟨he, hw⟩ => ⟨by rw [← oth_eq _ _ _ hbb hbu HTG.out]; exact he, hw.symm⟩
      have HB2 := Lib.hid hbl2; have HP2 := Lib.hid p2
      clear q0 hbl2 p2 b2
      obtain ⟨ot, hot⟩ : ∃ ot, ot = oth (bk x bv) (tag01 x) bv := ⟨_, rfl⟩
      rw [← hot] at ho
      have HOT := Lib.hid hot
      clear hot
      generalize htge : tag01 x = tg at ht ho
      generalize hbue : bk x bv = bu at ho ⊢
      have HE2 := Lib.hid (And.intro htge hbue)
      clear htge hbue
      refine wp_region_segs [14] (by kernel_rfl) (by kernel_rfl) (by kernel_rfl) ?_
      simp only [Segs, List.take_succ_cons, List.take_zero, List.drop_succ_cons, List.drop_zero]
      repeat (go_big_quiet_step (first
        | (go_at_call 123; with_reducible refine calls_ext_same (ht _))
        | (go_at_call 153; with_reducible refine calls_ext_same (ho _))))
      refine wpQuiet_nil ?_
      rintro W3 ⟨⟨W4, hW4⟩, rfl⟩
      clear x0 ht ho
      have hsz := HB2.out.size
      refine seg_call rfl (by kernel_rfl) 152 #[.slice a2 l2.length cap2, .agg #[.int .i64 bv, .int .i64 ot]] (by kernel_rfl) ?_
      refine (rwith8x W3 W.heap.size _ l2 (Nat.le_trans hsz hW4.size) (rown_below HP2.out hW4) (by omega) bv ot).mono ?_
      rintro e w5 ⟨v5, rfl, p5, b5⟩
      have n5 := wth_le l2 (bv, ot)
      obtain ⟨l5, hl5e⟩ : ∃ l5, l5 = wth l2 (bv, ot) := ⟨_, rfl⟩
      rw [← hl5e] at p5 n5
      have HL5E := Lib.hid hl5e
      clear hl5e
      refine ⟨_, rfl, ?_⟩
      simp only [List.getElem_toArray, List.getElem_cons_succ, List.getElem_cons_zero]
      go_frame
      have HB5 := Lib.hid ((HB2.out.trans (hW4.mono hsz)).trans b5); have HP5 := Lib.hid p5
      clear hW4 p5 b5
      repeat (go_big_quiet_step (fail))
      refine wpQuiet_nil ?_
      rintro W6 ⟨⟨W7, hW6⟩, rfl⟩
      have hs5 := HB5.out.size
      have HB6 := Lib.hid (HB5.out.trans (hW6.mono hs5)); have HP6 := Lib.hid (rown_below HP5.out hW6)
      clear hW6
      go_wp2
      go_roundw
      case rel => exact ⟨k + 1, l5, by omega, by go_num, HP6.out, (by show _ = _; rw [HL5E.out, HL2E.out, HOT.out, HL1.out, HRD.out.2]), by omega, HB6.out⟩
      case measure => simp [intOf]; omega
    · obtain rfl : k = 1 := by omega
      have HB := Lib.hid hbl; have HR := Lib.hid hrow
      clear hbl hrow
      go_wp2
      go_ret
      refine ⟨_, rfl, ?_, HW.out.trans (HB.out.mono hWs)⟩
      have hx := HL1.out
      rw [show 2 * 1 = PL.length by rw [HLEN.out], List.take_length] at hx
      rw [← hx]
      exact own_lower HR.out hWs

set_option maxRecDepth 10000 in
set_option maxHeartbeats 2000000 in
theorem rplaces_twox (x v : Int) (h0 : 0 ≤ x) (h1 : x < 18446744073709551616) (v0 : 0 ≤ v) (v1 : v < 18446744073709551616) (hn : asNow v ≠ 0) (w : World) : Calls Tryz.prog 90 #[.int .u64 x, .int .u64 v] w (PlacesX w (plist x v)) := by
  have ha := ras_any v v0 v1 w
  have hr := as_range v
  have h12 := as_in12 v
  have h12n : 1 ≤ asNow v ∧ asNow v ≤ 12 := h12.2.resolve_left hn
  have hn1 : 0 < asNow v := by omega
  have hpl : plist x v = dedup (pairOf x (asOld v) ++ pairOf x (asNow v)) := rfl
  rw [pairOf_in x _ h12.1, pairOf_in x _ h12n] at hpl
  obtain ⟨PL, hPL⟩ : ∃ PL, PL = [(asOld v, bk x (asOld v)), (asOld v, oth (bk x (asOld v)) (tag01 x) (asOld v))] ++ [(asNow v, bk x (asNow v)), (asNow v, oth (bk x (asNow v)) (tag01 x) (asNow v))] := ⟨_, rfl⟩
  have hrn0 : Rnd x PL 0 (asOld v) := rnd_of x h12.1 (by rw [hPL]; rfl) (by rw [hPL]; rfl)
  have hrn1 : Rnd x PL 1 (asNow v) := rnd_of x h12n (by rw [hPL]; rfl) (by rw [hPL]; rfl)
  have hlen : PL.length = 4 := by rw [hPL]; rfl
  rw [hpl, ← hPL]
  have htg := tag01_bd x h0 h1
  clear hn hr hpl hPL h12 h12n
  generalize asOld v = o at *
  generalize asNow v = n at *
  have HLEN := Lib.hid hlen; have HTG := Lib.hid htg; have HRN0 := Lib.hid hrn0; have HRN1 := Lib.hid hrn1
  clear hlen htg hrn0 hrn1
  obtain ⟨i0, hi0, hz0, hz1, hz2⟩ := info_parts info_int
  have HI := Lib.hid hi0; have HZ0 := Lib.hid hz0; have HZ1 := Lib.hid hz1; have HZ2 := Lib.hid hz2
  clear hi0 hz0 hz1 hz2
  have hrow : ((w.alloc (.cells #[.int .i64 o] 3)).alloc (.cells #[.int .i64 n] 3)).ownsRow w.heap.size 3 1 (.slice (some ⟨w.heap.size, 0, none⟩) 1 1) 1 [.int .i64 o] :=
    ⟨rfl, .inr ⟨w.heap.size, 1, #[.int .i64 o], rfl, Nat.le_refl _, heap_alloc_old (heap_alloc_new w _), Nat.le_refl _, by unfold maxLen; omega, rfl, rfl⟩⟩
  have HRW := Lib.hid hrow
  clear hrow
  go_enter Tryz.func90, Tryz.ntmps90
  go_wp2_with (first
    | (go_at_call 150; refine ha.mono ?_; rintro e w1 ⟨rfl, hw⟩; obtain rfl := hw.symm; clear ha)
    | (at_builtin; refine wpList_append_own _ rfl _ _ 117 rfl w.heap.size 3 i0 (.int .i64 0) 1 8 Tryz.underlying117 HI.out HZ0.out HZ1.out HZ2.out rfl (by decide) _ _ _ rfl HRW.out ⟨_, 0, none⟩ 1 1 [.int .i64 n] rfl rfl (World.news_of_block (cs := #[.int .i64 n]) (t := 3) (fr := (0, 0)) (heap_alloc_at _ _ (by simp))) ?c2 ?c3 ?c4 ?c5 ?_))
  case c2 => simp [Value.oneCell']
  case c3 => unfold maxLen; omega
  case c4 => omega
  case c5 => first | (simp; done) | (simp; omega)
  intro v' W hown hgrow hnil
  have HW : Hid (Below w.heap.size w W) := (((Below.refl _ w).alloc (Nat.le_refl _) (.cells #[.int .i64 o] 3)).alloc (by simp) (.cells #[.int .i64 n] 3)).grown hgrow (by simp; omega) (fun j hj => (HRW.out.lt j hj).1)
  obtain ⟨hlen, ⟨-, hbad⟩ | ⟨g, cap, cur, rfl, hgb, hg, hnc, hcm, hcs, ht⟩⟩ := hown
  · exact absurd hbad (by decide)
  have HQ : Hid (∀ k, k < 2 → ∃ bv, W.cell? ⟨g, k, none⟩ = some (.int .i64 bv) ∧ Rnd x PL k bv) := fun k hk => by
    have e : cur[k]? = ([.int .i64 o, .int .i64 n] : List Value)[k]? := by
      have : (cur.toList.take 2)[k]? = ([.int .i64 o, .int .i64 n] : List Value)[k]? := by rw [show 2 = (1 + 1) * 1 from rfl, ht]
      rw [List.getElem?_take, if_pos hk] at this
      simpa using this
    rcases (by omega : k = 0 ∨ k = 1) with rfl | rfl
    · exact ⟨o, by simp [World.cell?, hg, e], HRN0.out⟩
    · exact ⟨n, by simp [World.cell?, hg, e], HRN1.out⟩
  clear hgrow hnil hlen hg ht hcs hgb HRW
  unfold maxLen at hcm
  go_wp2_with fail
  have hWs := HW.out.size
  go_loopw [8, 9] (fun ov i wr => ∃ (k : Nat) (l : List (Int × Int)), k ≤ 2 ∧ i = .int .i64 k ∧ PlR wr W.heap.size ov l ∧ Hid (l = dedup (PL.take (2 * k))) ∧ l.length ≤ 2 * k ∧ Below W.heap.size W wr) (fun _ i _ => 2 - (intOf i).toNat)
  case atStart => exact ⟨0, [], by omega, rfl, World.ownsRow_nil _ _ _ _, (by show _ = _; simp; rfl), by simp, Below.refl _ _⟩
  case round =>
    obtain ⟨k, l, hk, rfl, hrow, HL1, hl2, hbl⟩ := hrel
    by_cases hlt : k < 2
    · obtain ⟨bv, q0, hrd⟩ := HQ.out k hlt
      have HRD := Lib.hid hrd
      have hbb := hrd.1
      clear hrd
      have hbu := bk_bd x bv hbb
      have hg : g < W.heap.size := World.block_lt_of_cell? _ _ q0
      have hw8 := rwith8x wr W.heap.size _ l hbl.size hrow (by omega) bv (bk x bv)
      have HQ0 := Lib.hid q0
      have q0 := (hbl.cell (p := ⟨g, k, none⟩) hg).trans q0
      have hlt' : (k : Int) < 2 := by omega
      have HB := Lib.hid hbl; have HW8 := Lib.hid hw8; have HG := Lib.hid hg
      clear hbl hrow hw8 hg
      go_wp2_with (first
        | (go_at_call 151; refine (rbucket_eq x bv h0 h1 hbb _).mono ?_; rintro e w1 ⟨rfl, hw⟩; obtain rfl := hw.symm)
        | (go_at_call 152; refine HW8.out.mono ?_; rintro e w2 ⟨v2, rfl, p2, b2⟩; clear q0))
      have n2 := wth_le l (bv, bk x bv)
      obtain ⟨l2, hl2e⟩ : ∃ l2, l2 = wth l (bv, bk x bv) := ⟨_, rfl⟩
      rw [← hl2e] at p2 n2
      have HL2E := Lib.hid hl2e
      clear hl2e
      obtain ⟨a2, cap2, rfl, hm2, -⟩ := p2.read
      unfold maxLen at hm2
      have hbl2 := HB.out.trans b2
      have q0 := (hbl2.cell (p := ⟨g, k, none⟩) HG.out).trans HQ0.out
      have x0 := fun st : ExtW w2 => st.cell q0
      have ht : ∀ st : ExtW w2, Calls Tryz.prog 123 #[.int .u64 x] st.val fun e w' => e = .returned (.int .i64 (tag01 x)) ∧ st.val = w' := fun st => (rtag01_any x h0 h1 st.val).mono fun e w' ⟨he, hw⟩ => ⟨he, hw.symm⟩
      have ho : ∀ st : ExtW w2, Calls Tryz.prog 153 #[.int .i64 (bk x bv), .int .i64 (tag01 x), .int .i64 bv] st.val fun e w' => e = .returned (.int .i64 (oth (bk x bv) (tag01 x) bv)) ∧ st.val = w' := fun st => (rother01_any (bk x bv) (tag01 x) bv st.val).mono fun e w' ⟨he, hw⟩ => ⟨by rw [← oth_eq _ _ _ hbb hbu HTG.out]; exact he, hw.symm⟩
      have HB2 := Lib.hid hbl2; have HP2 := Lib.hid p2
      clear q0 hbl2 p2 b2
      obtain ⟨ot, hot⟩ : ∃ ot, ot = oth (bk x bv) (tag01 x) bv := ⟨_, rfl⟩
      rw [← hot] at ho
      have HOT := Lib.hid hot
      clear hot
      generalize htge : tag01 x = tg at ht ho
      generalize hbue : bk x bv = bu at ho ⊢
      have HE2 := Lib.hid (And.intro htge hbue)
      clear htge hbue
      refine wp_region_segs [14] (by kernel_rfl) (by kernel_rfl) (by kernel_rfl) ?_
      simp only [Segs, List.take_succ_cons, List.take_zero, List.drop_succ_cons, List.drop_zero]
      repeat (go_big_quiet_step (first
        | (go_at_call 123; with_reducible refine calls_ext_same (ht _))
        | (go_at_call 153; with_reducible refine calls_ext_same (ho _))))
      refine wpQuiet_nil ?_
      rintro W3 ⟨⟨W4, hW4⟩, rfl⟩
      clear x0 ht ho
      have hsz := HB2.out.size
      refine seg_call rfl (by kernel_rfl) 152 #[.slice a2 l2.length cap2, .agg #[.int .i64 bv, .int .i64 ot]] (by kernel_rfl) ?_
      refine (rwith8x W3 W.heap.size _ l2 (Nat.le_trans hsz hW4.size) (rown_below HP2.out hW4) (by omega) bv ot).mono ?_
      rintro e w5 ⟨v5, rfl, p5, b5⟩
      have n5 := wth_le l2 (bv, ot)
      obtain ⟨l5, hl5e⟩ : ∃ l5, l5 = wth l2 (bv, ot) := ⟨_, rfl⟩
      rw [← hl5e] at p5 n5
      have HL5E := Lib.hid hl5e
      clear hl5e
      refine ⟨_, rfl, ?_⟩
      simp only [List.getElem_toArray, List.getElem_cons_succ, List.getElem_cons_zero]
      go_frame
      have HB5 := Lib.hid ((HB2.out.trans (hW4.mono hsz)).trans b5); have HP5 := Lib.hid p5
      clear hW4 p5 b5
      repeat (go_big_quiet_step (fail))
      refine wpQuiet_nil ?_
      rintro W6 ⟨⟨W7, hW6⟩, rfl⟩
      have hs5 := HB5.out.size
      have HB6 := Lib.hid (HB5.out.trans (hW6.mono hs5)); have HP6 := Lib.hid (rown_below HP5.out hW6)
      clear hW6
      go_wp2
      go_roundw
      case rel => exact ⟨k + 1, l5, by omega, by go_num, HP6.out, (by show _ = _; rw [HL5E.out, HL2E.out, HOT.out, HL1.out, HRD.out.2]), by omega, HB6.out⟩
      case measure => simp [intOf]; omega
    · obtain rfl : k = 2 := by omega
      have HB := Lib.hid hbl; have HR := Lib.hid hrow
      clear hbl hrow
      go_wp2
      go_ret
      refine ⟨_, rfl, ?_, HW.out.trans (HB.out.mono hWs)⟩
      have hx := HL1.out
      rw [show 2 * 2 = PL.length by rw [HLEN.out], List.take_length] at hx
      rw [← hx]
      exact own_lower HR.out hWs

theorem rplaces_eq (x v : Int) (h0 : 0 ≤ x) (h1 : x < 18446744073709551616) (v0 : 0 ≤ v) (v1 : v < 18446744073709551616) (w : World) : Calls Tryz.prog 90 #[.int .u64 x, .int .u64 v] w (PlacesX w (plist x v)) := by
  by_cases hn : asNow v = 0
  · exact rplaces_onex x v h0 h1 v0 v1 hn w
  · exact rplaces_twox x v h0 h1 v0 v1 hn w
end Go.Proofs.YtmagpbbjjkmbpaaGreat

/-
  FindsPut: the plain law.
-/
namespace Go.Proofs.YtmagpbbjjkmbpaaGreat
open Go.RowKit Go.Maps TagPure
set_option linter.unusedVariables false

theorem xor_lt (x y : Int) (n : Nat) (hn : n ≤ 12) (hx : 0 ≤ x ∧ x < ((2 ^ n : Nat) : Int)) (hy : 0 ≤ y ∧ y < ((2 ^ n : Nat) : Int)) : 0 ≤ bits .xor .i64 x y ∧ bits .xor .i64 x y < ((2 ^ n : Nat) : Int) := by
  have hp : (2 : Nat) ^ n ≤ 2 ^ 12 := Nat.pow_le_pow_right (by decide) hn
  obtain ⟨a, rfl⟩ := Int.eq_ofNat_of_zero_le hx.1
  obtain ⟨b, rfl⟩ := Int.eq_ofNat_of_zero_le hy.1
  have ha : a < 2 ^ n := by exact_mod_cast hx.2
  have hb : b < 2 ^ n := by exact_mod_cast hy.2
  have key : (BitVec.ofInt 64 (a : Int) ^^^ BitVec.ofInt 64 (b : Int)).toNat = a ^^^ b := by
    rw [BitVec.toNat_xor, BitVec.toNat_ofInt, BitVec.toNat_ofInt]
    congr 1 <;> omega
  have hlt := Nat.xor_lt_two_pow ha hb
  have e : bits .xor .i64 (a : Int) (b : Int) = IntKind.i64.wrap (((BitVec.ofInt 64 (a : Int) ^^^ BitVec.ofInt 64 (b : Int)).toNat : Nat) : Int) := rfl
  rw [e, key, IntKind.wrap_i64]
  omega
theorem tsize_pow {b : Int} (hb : 1 ≤ b ∧ b ≤ 12) : tsize b = ((2 ^ b.toNat : Nat) : Int) := by
  rw [tsize_in hb]
  rcases twelve hb with rfl | rfl | rfl | rfl | rfl | rfl | rfl | rfl | rfl | rfl | rfl | rfl <;> rfl
theorem oth_bd (k t b : Int) (hb : 1 ≤ b ∧ b ≤ 12) (hk : 0 ≤ k ∧ k < tsize b) (ht : 1 ≤ t ∧ t ≤ 255) : 0 ≤ oth k t b ∧ oth k t b < tsize b := by
  unfold oth
  rw [mask_mod _ _ (by omega) (by omega) hb]
  have hp := tsize_pos hb
  have h1 := Int.emod_nonneg (t * 1540483477) (b := tsize b) (by omega)
  have h2 := Int.emod_lt_of_pos (t * 1540483477) (show 0 < tsize b by omega)
  rw [tsize_pow hb] at hk h1 h2 ⊢
  exact xor_lt _ _ _ (by omega) hk ⟨h1, h2⟩
def POk12 (p : Int × Int) : Prop := (1 ≤ p.1 ∧ p.1 ≤ 12) ∧ 0 ≤ p.2 ∧ p.2 < tsize p.1
theorem dedup_sub (l : List (Int × Int)) : ∀ p ∈ dedup l, p ∈ l := by
  have key : ∀ (l o : List (Int × Int)), ∀ p ∈ l.foldl (fun out p => if p ∈ out then out else out ++ [p]) o, p ∈ o ∨ p ∈ l := by
    intro l
    induction l with
    | nil => intro o p hp; exact .inl hp
    | cons x l ih =>
      intro o p hp
      rcases ih _ p hp with h | h
      · simp only at h
        split at h
        · exact .inl h
        · rcases List.mem_append.1 h with h | h
          · exact .inl h
          · rw [List.mem_singleton.1 h]; exact .inr (by simp)
      · exact .inr (by simp [h])
  intro p hp
  rcases key l [] p hp with h | h
  · cases h
  · exact h
theorem pair_ok (h b : Int) (h0 : 0 ≤ h) (h1 : h < 18446744073709551616) (hb : 1 ≤ b ∧ b ≤ 12) : ∀ p ∈ pairOf h b, POk12 p := by
  intro p hp
  rw [pairOf_in h b hb] at hp
  have hbu := bk_bd h b hb
  rcases List.mem_cons.1 hp with rfl | hp
  · exact ⟨hb, hbu⟩
  · rw [List.mem_singleton.1 hp]
    exact ⟨hb, oth_bd _ _ _ hb hbu (tag01_bd h h0 h1)⟩
theorem plist_ok (h v : Int) (h0 : 0 ≤ h) (h1 : h < 18446744073709551616) : ∀ p ∈ plist h v, POk12 p := by
  intro p hp
  have h12 := as_in12 v
  rcases List.mem_append.1 (dedup_sub _ p hp) with hp | hp
  · exact pair_ok h _ h0 h1 h12.1 p hp
  · rcases h12.2 with hz | hz
    · rw [hz, show pairOf h 0 = [] from if_pos rfl] at hp; cases hp
    · exact pair_ok h _ h0 h1 hz p hp
theorem cell_one12 {b b' u u' : Int} (hb : 1 ≤ b ∧ b ≤ 12) (hb' : 1 ≤ b' ∧ b' ≤ 12) (hu : 0 ≤ u ∧ u < tsize b) (hu' : 0 ≤ u' ∧ u' < tsize b') (h : tsize b + u = tsize b' + u') : b = b' ∧ u = u' := by
  have key : ∀ c d : Int, (1 ≤ c ∧ c ≤ 12) → (1 ≤ d ∧ d ≤ 12) → c < d → tsize c + tsize c ≤ tsize d := fun c d hc hd hcd => by
    rw [tsize_pow hc, tsize_pow hd]
    have : 2 ^ (c.toNat + 1) ≤ 2 ^ d.toNat := Nat.pow_le_pow_right (by decide) (by omega)
    rw [Nat.pow_succ] at this
    omega
  by_cases h1 : b = b'
  · subst h1; exact ⟨rfl, by omega⟩
  · exfalso
    rcases (by omega : b < b' ∨ b' < b) with h2 | h2
    · have := key b b' hb hb' h2; omega
    · have := key b' b hb' hb h2; omega
/-- What turned: one slot's tag and item. -/
structure Tur12 (s s' : CS) (p : Int × Int) (k : Nat) (t r : Int) : Prop where
  tags : tg (s'.val (tagsA p.1 p.2)) k = t
  item : s'.val (itemA p.1 p.2 k) = r
  else_ : ∀ (q : Int × Int) (n : Nat), POk12 q → n < 4 → ¬ (q = p ∧ n = k) → tg (s'.val (tagsA q.1 q.2)) n = tg (s.val (tagsA q.1 q.2)) n ∧ s'.val (itemA q.1 q.2 n) = s.val (itemA q.1 q.2 n)
  two : s'.val 2 = s.val 2
theorem tur_of {s s' : CS} {p : Int × Int} {k : Nat} {t r : Int} (hp : POk12 p) (hk : k < 4) (ht : 0 ≤ t ∧ t ≤ 255) (h0 : 0 ≤ s.val (tagsA p.1 p.2))
    (h1 : s'.val (tagsA p.1 p.2) = withOf (s.val (tagsA p.1 p.2)) k t) (h2 : s'.val (itemA p.1 p.2 k) = r) (h3 : ∀ x, x ≠ tagsA p.1 p.2 → x ≠ itemA p.1 p.2 k → s'.val x = s.val x) : Tur12 s s' p k t r := by
  have e1 := tags_at hp.2; have e2 := item_at hp.2 (k := (k : Int)) (by omega)
  have hw : withOf (s.val (tagsA p.1 p.2)) k t = put (s.val (tagsA p.1 p.2)) k t := by unfold withOf; rw [if_pos ⟨by omega, ht⟩]; simp
  have hpos := tsize_pos hp.1
  have hp2 : 0 ≤ p.2 := hp.2.1
  refine ⟨?_, h2, fun q n hq hn hne => ?_, h3 2 (by omega) (by omega)⟩
  · rw [h1, hw, ptg _ _ _ _ h0 hk hk ht.1 ht.2, if_pos rfl]
  · have e3 := tags_at hq.2; have e4 := item_at hq.2 (k := (n : Int)) (by omega)
    by_cases hc : tsize q.1 + q.2 = tsize p.1 + p.2
    · obtain ⟨c1, c2⟩ := cell_one12 hq.1 hp.1 hq.2 hp.2 hc
      have hqp : q = p := Prod.ext c1 c2
      subst hqp
      have hnk : n ≠ k := fun c => hne ⟨rfl, c⟩
      refine ⟨?_, h3 _ (by omega) (by omega)⟩
      rw [h1, hw, ptg _ _ _ _ h0 hk hn ht.1 ht.2, if_neg hnk]
    · rw [h3 _ (by omega) (by omega), h3 _ (by omega) (by omega)]; exact ⟨rfl, rfl⟩
theorem put_tur (s : CS) {p : Int × Int} {k : Nat} {t r : Int} (hp : POk12 p) (hk : k < 4) (ht : 0 ≤ t ∧ t ≤ 255) (h0 : 0 ≤ s.val (tagsA p.1 p.2)) : Tur12 s (pst s (tagsA p.1 p.2) (itemA p.1 p.2 k) k t r 3) p k t r := by
  have hne : tagsA p.1 p.2 ≠ itemA p.1 p.2 k := by rw [tags_at hp.2, item_at hp.2 (by omega)]; omega
  have e : (s.acc 2 (itemA p.1 p.2 k) r).val (tagsA p.1 p.2) = s.val (tagsA p.1 p.2) := CS.acc_val _ _ _ _ hne
  refine tur_of hp hk ht h0 ?_ ?_ ?_
  · show (CS.acc _ _ _ _).val _ = _
    rw [CS.acc_self, e]
  · show (CS.acc _ _ _ _).val _ = _
    rw [CS.acc_val _ _ _ _ hne.symm, CS.acc_val _ _ _ _ hne.symm, CS.acc_self]
  · intro x h1 h2
    show (CS.acc _ _ _ _).val _ = _
    rw [CS.acc_val _ _ _ _ h1, CS.acc_val _ _ _ _ h1, CS.acc_val _ _ _ _ h2]
theorem out_tur (s : CS) {p : Int × Int} {k : Nat} (hp : POk12 p) (hk : k < 4) (h0 : 0 ≤ s.val (tagsA p.1 p.2)) : Tur12 s (ost s (tagsA p.1 p.2) (itemA p.1 p.2 k) k 3) p k 0 0 := by
  have hne : tagsA p.1 p.2 ≠ itemA p.1 p.2 k := by rw [tags_at hp.2, item_at hp.2 (by omega)]; omega
  refine tur_of hp hk (by omega) h0 ?_ ?_ ?_
  · show (CS.acc _ _ _ _).val _ = _
    rw [CS.acc_val _ _ _ _ hne, CS.acc_self]
  · show (CS.acc _ _ _ _).val _ = _
    rw [CS.acc_self]
  · intro x h1 h2
    show (CS.acc _ _ _ _).val _ = _
    rw [CS.acc_val _ _ _ _ h2, CS.acc_val _ _ _ _ h1, CS.acc_val _ _ _ _ h1]
/-- Nothing has the key: no slot holds. -/
theorem sl_none {its : List Itm} {s : CS} {key : ByteArray} {L : List ((Int × Int) × Nat)} (h : (slFold its s key L).2.2 = 0) : ∀ x ∈ L, holds its s key x.1 x.2 = false := by
  intro x hx
  unfold slFold at h
  rw [slots_law] at h
  cases hf : L.find? (fun x => holds its s key x.1 x.2) with
  | none =>
    have := List.find?_eq_none.1 hf x hx
    simpa using this
  | some y =>
    rw [hf] at h
    have hm : 0 < L.countP (fun x => holds its s key x.1 x.2) := List.countP_pos_iff.2 ⟨y, List.mem_of_find?_eq_some hf, List.find?_some (p := fun x : (Int × Int) × Nat => holds its s key x.1 x.2) hf⟩
    simp only at h; omega
theorem sl_mem {L : List (Int × Int)} {x : (Int × Int) × Nat} (h : x ∈ slotsL L) : x.1 ∈ L ∧ x.2 < 4 := by
  obtain ⟨p, hp, hx⟩ := List.mem_flatMap.1 h
  obtain ⟨n, hn, rfl⟩ := List.mem_map.1 hx
  exact ⟨hp, List.mem_range.1 hn⟩
theorem sl_in {L : List (Int × Int)} {p : Int × Int} {k : Nat} (hp : p ∈ L) (hk : k < 4) : (p, k) ∈ slotsL L := List.mem_flatMap.2 ⟨p, hp, List.mem_map.2 ⟨k, List.mem_range.2 hk, rfl⟩⟩
/-- Just one slot holds: it is told. -/
theorem sl_one {its : List Itm} {s : CS} {key : ByteArray} {L : List ((Int × Int) × Nat)} {x : (Int × Int) × Nat} (hx : x ∈ L) (h1 : holds its s key x.1 x.2 = true) (h2 : ∀ y ∈ L, y ≠ x → holds its s key y.1 y.2 = false) : (slFold its s key L).1 = x ∧ (slFold its s key L).2.1 = wrap64 (s.val (itemA x.1.1 x.1.2 x.2)) := by
  unfold slFold
  rw [slots_law]
  cases hf : L.find? (fun x => holds its s key x.1 x.2) with
  | none =>
    have := List.find?_eq_none.1 hf x hx
    simp [h1] at this
  | some y =>
    have hy := List.find?_some (p := fun x : (Int × Int) × Nat => holds its s key x.1 x.2) hf
    have hyx : y = x := by
      by_cases c : y = x
      · exact c
      · have := h2 y (List.mem_of_find?_eq_some hf) c
        rw [hy] at this; cases this
    subst hyx; exact ⟨rfl, rfl⟩
theorem sl_zero {its : List Itm} {s : CS} {key : ByteArray} {L : List ((Int × Int) × Nat)} (h : ∀ y ∈ L, holds its s key y.1 y.2 = false) : slFold its s key L = (((0, 0), 0), 0, 0) := by
  unfold slFold
  rw [slots_law, List.find?_eq_none.2 (fun x hx => by simp [h x hx])]
theorem holds_same {its : List Itm} {s s' : CS} {key : ByteArray} {q : Int × Int} {n : Nat} (h1 : tg (s'.val (tagsA q.1 q.2)) n = tg (s.val (tagsA q.1 q.2)) n) (h2 : s'.val (itemA q.1 q.2 n) = s.val (itemA q.1 q.2 n)) : holds its s' key q n = holds its s key q n := by
  unfold holds hit; rw [h1, h2]
theorem fiter_bd (its : List Itm) (m : Nat) : ∀ (s : CS) (f : FW) (ls : List Ld), (fiter its m s f ls).2.1.n ≤ s.n + m ∧ (fiter its m s f ls).2.1.cnt ≤ s.cnt + m := by
  induction m with
  | zero => intro s f ls; exact ⟨Nat.le_refl _, Nat.le_refl _⟩
  | succ m ih =>
    intro s f ls
    cases ls with
    | nil => exact ⟨Nat.le_add_right _ _, Nat.le_add_right _ _⟩
    | cons l r =>
      have := ih (s.acc 1 (ldA l) (s.val (ldA l))) (fnext its s f r l).1 (fnext its s f r l).2
      simp only [CS.acc] at this
      simp only [fiter]
      simp only [CS.acc]
      omega
theorem pln_fr {w w' : World} {b : Nat} {v : Value} {l : List (Int × Int)} (h : PlN w b v l) (hf : Fr wTy true w w') : PlN w' b v l := by
  rcases h with h | ⟨g, cur, h1, h2, h3, h4⟩
  · exact .inl h
  · exact .inr ⟨g, cur, h1, h2, hf.cells _ _ _ _ h3 rfl, h4⟩
/-- Behind the Put the Find finds that slot. -/
theorem put_found {its : List Itm} {it : Itm} {s s' : CS} {key : ByteArray} {L : List (Int × Int)} {p : Int × Int} {k : Nat} (hp : p ∈ L) (hL : ∀ q ∈ L, POk12 q) (hk : k < 4) (hn : (slFold (its ++ [it]) s key (slotsL L)).2.2 = 0) (hkey : it.key = key) (hlen : its.length < 1048576) (T : Tur12 s s' p k (tag01 (hashOf key)) ((its.length + 1 : Nat) : Int)) :
    (slFold (its ++ [it]) s' key (slotsL L)).1 = (p, k) ∧ (slFold (its ++ [it]) s' key (slotsL L)).2.1 = ((its.length + 1 : Nat) : Int) ∧ ∀ y ∈ slotsL L, y ≠ (p, k) → holds (its ++ [it]) s' key y.1 y.2 = false := by
  have hno := sl_none hn
  have hw : wrap64 (((its.length + 1 : Nat) : Int)) = ((its.length + 1 : Nat) : Int) := IntWalk.wrap64_in _ (by omega)
  have hoth : ∀ y ∈ slotsL L, y ≠ (p, k) → holds (its ++ [it]) s' key y.1 y.2 = false := fun y hy hne => by
    obtain ⟨y1, y2⟩ := sl_mem hy
    have := T.else_ y.1 y.2 (hL _ y1) y2 (fun c => hne (Prod.ext c.1 c.2))
    rw [holds_same this.1 this.2]; exact hno y hy
  have hh : holds (its ++ [it]) s' key p k = true := by
    unfold holds hit
    rw [T.tags, T.item, hw]
    have ha : atOf (its ++ [it]) ((its.length + 1 : Nat) : Int) = (it, true) := by
      unfold atOf
      rw [if_pos (by simp; omega)]
      simp
    rw [ha]; simp [hkey]
  obtain ⟨h1, h2⟩ := sl_one (sl_in hp hk) hh hoth
  refine ⟨h1, ?_, hoth⟩
  rw [h2]
  show wrap64 (s'.val (itemA p.1 p.2 k)) = _
  rw [T.item, hw]
/-- Taken out nothing is found. -/
theorem out_found {its : List Itm} {s s' : CS} {key : ByteArray} {L : List (Int × Int)} {p : Int × Int} {k : Nat} (hL : ∀ q ∈ L, POk12 q) (hno : ∀ y ∈ slotsL L, y ≠ (p, k) → holds its s key y.1 y.2 = false) (T : Tur12 s s' p k 0 0) (ht : 1 ≤ tag01 (hashOf key)) : slFold its s' key (slotsL L) = (((0, 0), 0), 0, 0) := by
  refine sl_zero fun y hy => ?_
  obtain ⟨y1, y2⟩ := sl_mem hy
  by_cases c : y = (p, k)
  · subst c
    unfold holds
    rw [T.tags, decide_eq_false (by omega), Bool.false_and]
  · have := T.else_ y.1 y.2 (hL _ y1) y2 (fun d => c (Prod.ext d.1 d.2))
    rw [holds_same this.1 this.2]; exact hno y hy c
theorem holds_val {its : List Itm} {s s' : CS} (h : s'.val = s.val) (key : ByteArray) (q : Int × Int) (n : Nat) : holds its s' key q n = holds its s key q n := by unfold holds hit; rw [h]
end Go.Proofs.YtmagpbbjjkmbpaaGreat

/-
  FindsPut: a Put, a Find, an Out, a Find: what the words are, and what is found.
-/
namespace Go.Proofs.YtmagpbbjjkmbpaaGreat
open Go.RowKit Go.Maps TagPure
set_option linter.unusedVariables false

structure PutStory (its : List Itm) (s : CS) (key : ByteArray) (pb pu : Int) (k : Nat) (ref : Int) (s1 s2 s3 s4 : CS) : Prop where
  e1 : s1 = pst s (tagsA pb pu) (itemA pb pu k) k (tag01 (hashOf key)) ref 3
  c1 : s1.n ≤ 303 ∧ s1.cnt ≤ 303
  f1 : ∃ n, fiter its 99 s1 ⟨key, 0, 0, 0, 0, 0⟩ [.tab] = (n, s2, ⟨key, s1.val 2, pb, pu, (k : Int), ref⟩, [])
  c2 : s2.n ≤ 402 ∧ s2.cnt ≤ 402
  e3 : s3 = ost s2 (tagsA pb pu) (itemA pb pu k) k 3
  c3 : s3.n ≤ 405 ∧ s3.cnt ≤ 405
  f3 : ∃ n, fiter its 99 s3 ⟨key, 0, 0, 0, 0, 0⟩ [.tab] = (n, s4, ⟨key, s3.val 2, 0, 0, 0, 0⟩, [])
theorem put_story {V its : List Itm} {it : Itm} {s : CS} {key : ByteArray} {L : List (Int × Int)} {pb pu : Int} {k : Nat} {ref : Int} (hits : its = V ++ [it]) (hkey : it.key = key) (hlen : V.length < 1048576) (href : ref = ((V.length + 1 : Nat) : Int)) (hL : L = plist (hashOf key) (s.val 2)) (hok : ∀ q ∈ L, POk12 q)
    (hp : (pb, pu) ∈ L) (hk : k < 4) (hn : (slFold its s key (slotsL L)).2.2 = 0) (ht : 1 ≤ tag01 (hashOf key) ∧ tag01 (hashOf key) ≤ 255) (h0 : ∀ a, 0 ≤ s.val a ∧ s.val a < 18446744073709551616) (hc : s.n ≤ 300 ∧ s.cnt ≤ 300) : ∃ s1 s2 s3 s4, PutStory its s key pb pu k ref s1 s2 s3 s4 := by
  subst hits
  have T1 := put_tur s (r := ref) (hok _ hp) hk (t := tag01 (hashOf key)) (by omega) (h0 _).1
  obtain ⟨s1, hs1⟩ : ∃ s1, s1 = pst s (tagsA pb pu) (itemA pb pu k) k (tag01 (hashOf key)) ref 3 := ⟨_, rfl⟩
  have c1 : s1.n ≤ 303 ∧ s1.cnt ≤ 303 := by rw [hs1]; simp only [pst, CS.acc]; omega
  simp only at T1
  rw [← hs1] at T1
  rw [href] at T1
  obtain ⟨p1, p2, p3⟩ := put_found hp hok hk hn hkey hlen T1
  have hL1 : L = plist (hashOf key) (s1.val 2) := by rw [T1.two]; exact hL
  obtain ⟨R1, hR1⟩ : ∃ R1, R1 = fiter (V ++ [it]) 99 s1 ⟨key, 0, 0, 0, 0, 0⟩ [.tab] := ⟨_, rfl⟩
  have F1 : FirstLaw (V ++ [it]) s1 key L (slFold (V ++ [it]) s1 key (slotsL L)) R1 := by rw [hR1]; exact first_law _ _ _ _ hL1 98 (by decide)
  have b1 := fiter_bd (V ++ [it]) 99 s1 ⟨key, 0, 0, 0, 0, 0⟩ [.tab]
  rw [← hR1] at b1
  have c2 : R1.2.1.n ≤ 402 ∧ R1.2.1.cnt ≤ 402 := by omega
  have v2 := F1.val
  have h12 : 0 ≤ R1.2.1.val (tagsA pb pu) := by
    rw [v2, hs1]
    show 0 ≤ (CS.acc _ _ _ _).val _
    rw [CS.acc_self]
    have hne : tagsA pb pu ≠ itemA pb pu k := by rw [tags_at (hok _ hp).2, item_at (hok _ hp).2 (by omega)]; omega
    rw [CS.acc_val _ _ _ _ hne]
    exact (wf_bd (withOf_wf _ _ _ (h0 _).1 (h0 _).2)).1
  have T3 := out_tur R1.2.1 (p := (pb, pu)) (hok _ hp) hk h12
  obtain ⟨s3, hs3⟩ : ∃ s3, s3 = ost R1.2.1 (tagsA pb pu) (itemA pb pu k) k 3 := ⟨_, rfl⟩
  have c3 : s3.n ≤ 405 ∧ s3.cnt ≤ 405 := by rw [hs3]; simp only [ost, CS.acc]; omega
  simp only at T3
  rw [← hs3] at T3
  have hno3 : ∀ y ∈ slotsL L, y ≠ ((pb, pu), k) → holds (V ++ [it]) R1.2.1 key y.1 y.2 = false := fun y hy hne => by rw [holds_val v2]; exact p3 y hy hne
  have o3 := out_found hok hno3 T3 ht.1
  have hL3 : L = plist (hashOf key) (s3.val 2) := by rw [T3.two, v2, T1.two]; exact hL
  obtain ⟨R2, hR2⟩ : ∃ R2, R2 = fiter (V ++ [it]) 99 s3 ⟨key, 0, 0, 0, 0, 0⟩ [.tab] := ⟨_, rfl⟩
  have F2 : FirstLaw (V ++ [it]) s3 key L (slFold (V ++ [it]) s3 key (slotsL L)) R2 := by rw [hR2]; exact first_law _ _ _ _ hL3 98 (by decide)
  refine ⟨s1, R1.2.1, s3, R2.2.1, hs1, c1, ⟨R1.1, ?_⟩, c2, hs3, c3, ⟨R2.1, ?_⟩⟩
  · rw [← hR1]
    have e := F1.out
    rw [p1, p2, ← href] at e
    rw [← e]
  · rw [← hR2]
    have e := F2.out
    rw [o3] at e
    have e2 : R2.2.2 = (⟨key, s3.val 2, 0, 0, 0, 0⟩, []) := e
    rw [← e2]
end Go.Proofs.YtmagpbbjjkmbpaaGreat

/-
  A region that draws its order: what reads, and what makes memory, in whatever order; then operations that write, one behind the other, behind all of these. One walk serves every order.
-/
namespace Go.Proofs.YtmagpbbjjkmbpaaGreat
open Go.RowKit
set_option linter.unusedVariables false
section
variable {P : Program} {ops : Array Oper} {md : Region.Mode} {D : World → Prop}

/-- What is listed is closed under what it waits for, and holds what was listed at first. -/
structure ClosedS (md : Region.Mode) (ops : Array Oper) (s0 seen : Array Bool) : Prop where
  size : seen.size = ops.size
  closed : ∀ j oj, ops[j]? = some oj → seen.getD j false = true → ∀ e ∈ oj.after, Region.binds md e = true → seen.getD e.on false = true
  old : ∀ i, s0.getD i false = true → seen.getD i false = true
theorem ClosedS.set {s0 seen : Array Bool} {i : Nat} (inv : ClosedS md ops s0 seen) (hi : i ∈ Region.ready md ops seen) : ClosedS md ops s0 (seen.setIfInBounds i true) := by
  obtain ⟨_, oi, hoi, hall⟩ := mem_ready.1 hi
  refine ⟨by simp [inv.size], fun j oj hj hl e he hb => ?_, fun k hk => getD_set_true (inv.old k hk)⟩
  by_cases hij : i = j
  · subst hij
    have : oj = oi := Option.some.inj (hj.symm.trans hoi)
    subst this
    exact getD_set_true (hall e he hb)
  · rw [getD_set_ne false hij] at hl
    exact getD_set_true (inv.closed j oj hj hl e he hb)
def closedB (md : Region.Mode) (ops : Array Oper) (seen : Array Bool) : Bool := decide (seen.size = ops.size) && (List.range ops.size).all fun j => !seen.getD j false || (match ops[j]? with | some o => o.after.all fun e => !Region.binds md e || seen.getD e.on false | none => true)
theorem closedB_spec {seen : Array Bool} (h : closedB md ops seen = true) : ClosedS md ops seen seen := by
  simp only [closedB, Bool.and_eq_true, decide_eq_true_eq] at h
  refine ⟨h.1, fun j oj hj hl e he hb => ?_, fun i hi => hi⟩
  have hjs : j < ops.size := (Array.getElem?_eq_some_iff.1 hj).1
  have h1 := List.all_eq_true.1 h.2 j (List.mem_range.2 hjs)
  rw [hl, hj] at h1
  simp only [Bool.not_true, Bool.false_or] at h1
  have h2 := Array.all_eq_true_iff_forall_mem.1 h1 e he
  rw [hb] at h2
  simpa using h2
/-- Each operation ahead of n that was not listed at first is waited for by a later one, up to n. -/
def sinkS (md : Region.Mode) (ops : Array Oper) (s0 : Array Bool) (n : Nat) : Bool := (List.range n).all fun i => s0.getD i false || (List.range (n + 1)).any fun j => decide (i < j) && Region.waitsFor md ops j i
theorem sinkS_waits {n : Nat} {s0 seen : Array Bool} (hs : sinkS md ops s0 n = true) (hn : n < ops.size) (inv : ClosedS md ops s0 seen) : ∀ (d i : Nat), n - i = d → i < n → seen.getD i true = false → n ∉ Region.ready md ops seen := by
  intro d
  induction d using Nat.strongRecOn with
  | _ d ih =>
    intro i hd hi hun hr
    obtain ⟨_, ot, hot, hall⟩ := mem_ready.1 hr
    have h1 := List.all_eq_true.1 hs i (List.mem_range.2 hi)
    simp only [Bool.or_eq_true] at h1
    rcases h1 with h1 | h1
    · have := inv.old i h1
      rw [getD_both hun] at this; cases this
    obtain ⟨j, hj, hj2⟩ := List.any_eq_true.1 h1
    simp only [Bool.and_eq_true, decide_eq_true_eq] at hj2
    obtain ⟨oj, hoj, e, he, hb, hon⟩ := Region.waitsFor_spec hj2.2
    have hjle : j ≤ n := by have := List.mem_range.1 hj; omega
    by_cases hjt : j = n
    · subst hjt
      have : oj = ot := Option.some.inj (hoj.symm.trans hot)
      subst this
      have h2 := hall e he hb
      rw [hon, getD_both hun] at h2
      cases h2
    · cases hl : seen.getD j false with
      | true =>
        have h2 := inv.closed j oj hoj hl e he hb
        rw [hon, getD_both hun] at h2
        cases h2
      | false =>
        have hjs : j < seen.size := by rw [inv.size]; omega
        exact ih (n - j) (by omega) j rfl (by omega) (getD_in hjs hl) hr

/-- Whatever order, up to what is listed then. -/
def anyM (P : Program) (md : Region.Mode) (ops : Array Oper) (D : World → Prop) (L : Array Bool → Act → World → Prop) (Q : Exit → Act → World → Prop) : Nat → Array Bool → Act → World → Prop
  | 0, seen, a, w => L seen a w
  | f + 1, seen, a, w => Region.ready md ops seen ≠ [] ∧ ∀ i, i ∈ Region.ready md ops seen → Go.wpOp P ops Q i (fun a' w' => D w' ∧ anyM P md ops D L Q f (seen.setIfInBounds i true) a' w') a w
theorem any_of_M {Q : Exit → Act → World → Prop} {L : Array Bool → Act → World → Prop} {g : Nat} (hL : ∀ seen a w, L seen a w → wpAny P md ops Q g seen a w) (f : Nat) : ∀ (seen : Array Bool) (a : Act) (w : World), anyM P md ops D L Q f seen a w → wpAny P md ops Q (f + g) seen a w := by
  induction f with
  | zero => intro seen a w h; rw [Nat.zero_add]; exact hL _ _ _ h
  | succ f ih =>
    intro seen a w h
    rw [show f + 1 + g = (f + g) + 1 by omega]
    exact ⟨fun h0 => absurd h0 h.1, fun i hi => wpOp_mono (fun a' w' h' => ih _ a' w' h'.2) (h.2 i hi)⟩
theorem anyM_first {Q : Exit → Act → World → Prop} {L : Array Bool → Act → World → Prop} {s0 : Array Bool} {n i : Nat} {oi : Oper} {v : Value} (hi : ops[i]? = some oi) (hsel : ∀ (j : Nat) (o : Oper) cs b, ops[j]? = some o → o.op ≠ .select cs b) (hQ : ∀ c a w, Q (.panic c) (a.put oi.dst v) w → Q (.panic c) a w)
    (hs : sinkS md ops s0 n = true) (hn : n < ops.size) (hin : i < n) (hdone : ∀ seen a w, L seen a w → ∀ j, j ∈ Region.ready md ops seen → j = n) (f : Nat) :
    ∀ (seen : Array Bool) (a : Act) (w : World), ClosedS md ops s0 seen →
      (∀ j oj, ops[j]? = some oj → j ≠ i → seen.getD j true = false → (∀ e, e ∈ oj.after → Region.binds md e = true → e.on ≠ i) → oi.apart ops oj = true) →
      i ∈ Region.ready md ops seen → PureY P ops D oi v a → D w → anyM P md ops D L Q f (seen.setIfInBounds i true) (a.put oi.dst v) w → anyM P md ops D L Q (f + 1) seen a w := by
  induction f with
  | zero =>
    intro seen a w inv _ hr hy hD H
    refine ⟨fun h => by rw [h] at hr; simp at hr, fun j hj => ?_⟩
    by_cases hji : j = i
    · rw [hji]; exact hy.wpOp hi hD ⟨hD, H⟩
    · have hjn := hdone _ _ _ H j (ready_mono hj hji)
      rw [hjn] at hj
      exact absurd hj (sinkS_waits hs hn inv _ i rfl hin (mem_ready.1 hr).1)
  | succ f ih =>
    intro seen a w inv hfree hr hy hD H
    refine ⟨fun h => by rw [h] at hr; simp at hr, fun j hj => ?_⟩
    by_cases hji : j = i
    · rw [hji]; exact hy.wpOp hi hD ⟨hD, H⟩
    have hun : seen.getD i true = false := (mem_ready.1 hr).1
    obtain ⟨hjun, oj, hoj, hall⟩ := mem_ready.1 hj
    have hno : ∀ e, e ∈ oj.after → Region.binds md e = true → e.on ≠ i := by
      intro e he hb heq
      have := hall e he hb
      rw [heq, getD_both hun] at this
      exact absurd this (by simp)
    have st := wpOp_swap hoj (hfree j oj hoj hji hjun hno) (fun cs b => hsel i oi cs b hi) (fun cs b => hsel j oj cs b hoj) hQ hy (H.2 j (ready_mono hj hji))
    refine wpOp_mono (fun a' w' h3 => ⟨h3.2.1, ?_⟩) st
    refine ih _ a' w' (inv.set hj) (fun k ok hk hki hunk hnok => hfree k ok hk hki ?_ hnok) (ready_mono hr (Ne.symm hji)) h3.1 h3.2.1 ?_
    · by_cases hjk : j = k
      · rw [← hjk]; exact hjun
      · rwa [getD_set_ne true hjk] at hunk
    · rw [Array.setIfInBounds_comm _ _ hji]; exact h3.2.2

/-- Operations one behind the other. -/
def tailE (P : Program) (ops : Array Oper) (Q : Exit → Act → World → Prop) : List Nat → Act → World → Prop
  | [], a, w => Q .normal a w
  | i :: r, a, w => Go.wpOp P ops Q i (fun a' w' => tailE P ops Q r a' w') a w
theorem any_of_tailE {Q : Exit → Act → World → Prop} : ∀ (t : List Nat) (seen : Array Bool) (a : Act) (w : World), soloB md ops t seen = true → tailE P ops Q t a w → wpAny P md ops Q t.length seen a w
  | [], _, _, _, hB, h => ⟨by simpa [soloB] using hB, h⟩
  | i :: r, seen, a, w, hB, h => by
    simp only [soloB, Bool.and_eq_true, decide_eq_true_eq] at hB
    refine ⟨fun h1 => (by rw [hB.1] at h1; cases h1), fun j hj => ?_⟩
    rw [hB.1] at hj
    have hji : j = i := by simpa using hj
    subst hji
    exact wpOp_mono (fun a' w' h' => any_of_tailE r _ a' w' hB.2 h') h
/-- What makes memory, one behind the other; behind each the class still holds; then what writes. -/
def tailM (P : Program) (ops : Array Oper) (D : World → Prop) (Q : Exit → Act → World → Prop) (t2 : List Nat) : List Nat → Act → World → Prop
  | [], a, w => tailE P ops Q t2 a w
  | i :: r, a, w => Go.wpOp P ops Q i (fun a' w' => D w' ∧ tailM P ops D Q t2 r a' w') a w
def solo2B (md : Region.Mode) (ops : Array Oper) (t2 : List Nat) : List Nat → Array Bool → Bool
  | [], seen => soloB md ops t2 seen
  | i :: r, seen => decide (Region.ready md ops seen = [i]) && solo2B md ops t2 r (seen.setIfInBounds i true)
theorem anyM_of_tail {Q : Exit → Act → World → Prop} {t2 : List Nat} : ∀ (t : List Nat) (seen : Array Bool) (a : Act) (w : World), solo2B md ops t2 t seen = true → tailM P ops D Q t2 t a w → anyM P md ops D (fun s a w => soloB md ops t2 s = true ∧ tailE P ops Q t2 a w) Q t.length seen a w
  | [], seen, a, w, hB, h => ⟨by simpa [solo2B] using hB, h⟩
  | i :: r, seen, a, w, hB, h => by
    simp only [solo2B, Bool.and_eq_true, decide_eq_true_eq] at hB
    refine ⟨fun h1 => (by rw [hB.1] at h1; cases h1), fun j hj => ?_⟩
    rw [hB.1] at hj
    have hji : j = i := by simpa using hj
    subst hji
    exact wpOp_mono (fun a' w' h' => ⟨h'.1, anyM_of_tail r _ a' w' hB.2 h'.2⟩) h
def mixB (md : Region.Mode) (ops : Array Oper) (n : Nat) (t1 t2 : List Nat) : List Nat → Array Bool → Bool
  | [], seen => solo2B md ops t2 t1 seen
  | i :: p, seen => decide (i < n) && (Region.ready md ops seen).contains i && Region.free md ops seen i && (match ops[i]? with | some o => plainOp o.op | none => false) && mixB md ops n t1 t2 p (seen.setIfInBounds i true)
theorem anyM_of_mix {Q : Exit → Act → World → Prop} {s0 : Array Bool} {n : Nat} {t2 : List Nat} (hsel : Region.noSelect ops = true) (hQ : ∀ c (d : Option Nat) v a w, Q (.panic c) (a.put d v) w → Q (.panic c) a w) (hs : sinkS md ops s0 n = true) (hn : n < ops.size) (t1 : List Nat) (w : World) (hD : D w) :
    ∀ (p : List Nat) (seen : Array Bool) (a : Act), ClosedS md ops s0 seen → mixB md ops n t1 (n :: t2) p seen = true → wpQuiet P ops D (fun a' => tailM P ops D Q (n :: t2) t1 a' w) (pickL ops.toList p) a → anyM P md ops D (fun s a w => soloB md ops (n :: t2) s = true ∧ tailE P ops Q (n :: t2) a w) Q (p.length + t1.length) seen a w
  | [], seen, a, inv, hB, h => by simpa using anyM_of_tail t1 seen a w hB h
  | i :: p, seen, a, inv, hB, h => by
    simp only [mixB, Bool.and_eq_true, decide_eq_true_eq] at hB
    obtain ⟨⟨⟨⟨hin, hr⟩, hf⟩, hp⟩, hB'⟩ := hB
    cases ho : ops[i]? with
    | none => rw [ho] at hp; cases hp
    | some o =>
      rw [ho] at hp
      have hd : (ops.toList.drop i).take 1 = [o] := drop_one (by rw [Array.getElem?_toList]; exact ho)
      rw [pickL_cons, hd, List.singleton_append] at h
      have hq : qOp P ops D i (wpQuiet P ops D (fun a' => tailM P ops D Q (n :: t2) t1 a' w) (pickL ops.toList p)) a := by unfold qOp; simp only [ho]; exact h
      obtain ⟨v, hy, hK⟩ := yieldsIn_of_qOp ho hq
      have e : (i :: p).length + t1.length = (p.length + t1.length) + 1 := by simp only [List.length_cons]; omega
      rw [e]
      have hri : i ∈ Region.ready md ops seen := by simpa using hr
      refine anyM_first ho (Region.noSelect_spec hsel) (fun c a w => hQ c _ _ a w) hs hn hin (fun s a w hL j hj => ?_) _ seen a w inv (Region.free_spec ho hf) hri (PureY.of hp hy) hD (anyM_of_mix hsel hQ hs hn t1 w hD p _ _ (inv.set hri) hB' hK)
      have h1 := hL.1
      simp only [soloB, Bool.and_eq_true, decide_eq_true_eq] at h1
      rw [h1.1] at hj
      simpa using hj
/-- The region; what was listed (s0) by 'wpAny_take' ahead of it. p: what reads; t1: what makes memory; n :: t2: what writes. -/
theorem any_of_mix {Q : Exit → Act → World → Prop} {a : Act} {w : World} {l : List Oper} {s0 : Array Bool} {f : Nat} (p t1 : List Nat) (n : Nat) (t2 : List Nat) (hsel : Region.noSelect l.toArray = true) (hlen : p.length + t1.length + (n :: t2).length = f) (hc : closedB md l.toArray s0 = true)
    (hs : sinkS md l.toArray s0 n = true) (hn : n < l.toArray.size) (hB : mixB md l.toArray n t1 (n :: t2) p s0 = true) (hQ : ∀ c (d : Option Nat) v a w, Q (.panic c) (a.put d v) w → Q (.panic c) a w) (hD : D w)
    (h : wpQuiet P l.toArray D (fun a' => tailM P l.toArray D Q (n :: t2) t1 a' w) (pickL l p) a) : wpAny P md l.toArray Q f s0 a w := by
  have := any_of_M (P := P) (md := md) (D := D) (Q := Q) (g := (n :: t2).length) (fun seen a w hL => any_of_tailE _ _ _ _ hL.1 hL.2) _ s0 a w (anyM_of_mix hsel hQ hs hn t1 w hD p s0 a (closedB_spec hc) hB h)
  rw [hlen] at this
  exact this
theorem wp_region_mix {id : Nat} {Q : Exit → Act → World → Prop} {a : Act} {w : World} {l : List Oper} (p t1 : List Nat) (n : Nat) (t2 : List Nat) (hm : P.follows .mixedOrders = true) (hsel : Region.noSelect l.toArray = true) (hlen : p.length + t1.length + (n :: t2).length = l.toArray.size)
    (hs : sinkS .any l.toArray (Array.replicate l.toArray.size false) n = true) (hn : n < l.toArray.size) (hc : closedB .any l.toArray (Array.replicate l.toArray.size false) = true) (hB : mixB .any l.toArray n t1 (n :: t2) p (Array.replicate l.toArray.size false) = true) (hQ : ∀ c (d : Option Nat) v a w, Q (.panic c) (a.put d v) w → Q (.panic c) a w) (hD : D w.drew)
    (h : wpQuiet P l.toArray D (fun a' => tailM P l.toArray D Q (n :: t2) t1 a' w.drew) (pickL l p) a) : (Code.region id l.toArray true).wp P Q a w :=
  wp_region_any hm (any_of_mix p t1 n t2 hsel hlen hc hs hn hB hQ hD h)
/-- One operation of the tail, by its own rule. -/
theorem tailE_op {Q : Exit → Act → World → Prop} {i : Nat} {r : List Nat} {o : Oper} {a : Act} {w : World} (hi : ops[i]? = some o) (hg : o.guard = none) (h : Oper.wp P o a w (fun a' w' => tailE P ops Q r a' w') Q) : tailE P ops Q (i :: r) a w := by
  have hw : Region.wanted o (yielded ops a.tmps) = true := by simp [Region.wanted, hg]
  unfold tailE Go.wpOp
  simp only [hi]
  rw [if_pos hw]
  exact .inl h
theorem tailM_op {Q : Exit → Act → World → Prop} {i : Nat} {r t2 : List Nat} {o : Oper} {a : Act} {w : World} (hi : ops[i]? = some o) (hg : o.guard = none) (h : Oper.wp P o a w (fun a' w' => D w' ∧ tailM P ops D Q t2 r a' w') Q) : tailM P ops D Q t2 (i :: r) a w := by
  have hw : Region.wanted o (yielded ops a.tmps) = true := by simp [Region.wanted, hg]
  unfold tailM Go.wpOp
  simp only [hi]
  rw [if_pos hw]
  exact .inl h
/-- A struct that is read whole, in each world of the class. -/
theorem wpQuiet_mid {Q : Act → Prop} {rest : List Oper} {op : Oper} {a : Act} (hgd : op.guard = none) (ty : TypeId) (x : Operand) (ho : op.op = .load ty x) (b o : Nat) (hx : a.eval x = .pointer (some ⟨b, o, none⟩)) (cs : List Value) (d : TypeDesc) (hc : ∀ w, D w → w.rangeAt b o cs)
    (hu : P.underlying ty = some d) (hd : d.isRow = true) (hi : (P.info? ty).map (·.size) = some cs.length) (h : wpQuiet P ops D Q rest (a.put op.dst (.agg cs.toArray))) : wpQuiet P ops D Q (op :: rest) a := by
  refine wpQuiet_step fun K hK => ?_
  have hw : Region.wanted op (yielded ops a.tmps) = true := by simp [Region.wanted, hgd]
  rw [if_pos hw]
  refine ⟨_, fun w hw => ?_, hK _ h⟩
  unfold Oper.quietAt execOp
  simp only [ho, hx, Sem.run_bind, run_loadAt_mid w b o ty cs d (hc w hw) hu hd hi, Result.andThen_ok]
  exact ⟨rfl, rfl⟩
/-- One cell is written. -/
theorem wp_store_one {op : Oper} {a : Act} {w : World} {K : Act → World → Prop} {Q : Exit → Act → World → Prop} (ty : TypeId) (x y : Operand) (ho : op.op = .store ty x y) (b o : Nat) (hx : a.eval x = .pointer (some ⟨b, o, none⟩)) (v : Value) (hy : a.eval y = v)
    (hrun : (Instr.storeAt ty (.pointer (some ⟨b, o, none⟩)) v).run P w = .ok () (w.setCell ⟨b, o, none⟩ v)) (h : K (a.put op.dst undef) (w.setCell ⟨b, o, none⟩ v)) : op.wp P a w K Q := by
  unfold Oper.wp execOp
  simp only [ho, hx, hy, Sem.run_bind, hrun, Result.andThen_ok]
  exact h
/-- A whole struct into the block that was made last. -/
theorem wp_store_new {op : Oper} {a : Act} {K : Act → World → Prop} {Q : Exit → Act → World → Prop} (ty : TypeId) (x y : Operand) (ho : op.op = .store ty x y) (w : World) (c c' : Array Value) (hx : a.eval x = .pointer (some ⟨w.heap.size, 0, none⟩)) (hy : a.eval y = .agg c')
    (hi : (P.info? ty).map (·.size) = some c'.size) (hs : c.size = c'.size) (h1 : c'.all (·.oneCell') = true) (h : K (a.put op.dst undef) (w.alloc (.cells c' ty))) : op.wp P a (w.alloc (.cells c ty)) K Q := by
  unfold Oper.wp execOp
  simp only [ho, hx, hy, run_storeAt_new w ty c c' hi hs h1, Sem.run_bind, Sem.run_pure, Result.andThen_ok]
  exact h
end
end Go.Proofs.YtmagpbbjjkmbpaaGreat

/-
  FindsFirst: the walk.
-/
namespace Go.Proofs.YtmagpbbjjkmbpaaGreat
open Go.RowKit Go.Maps TagPure
set_option linter.unusedVariables false

theorem ffacc (a b c d : Int) (W : World) : (Instr.field 203 (.agg #[.int .u8 a, .int .u64 b, .int .u64 c, .int .u64 d]) 0).run Tryz.prog W = .ok (.int .u8 a) W := by kernel_rfl
theorem wfrom_fx {w w' : World} {base fb : Nat} {a : Option Addr} {ws : List (Int × Int)} {K : TypeId → Bool} {mp : Bool} {f : FW} {ls : List Ld} (h : WFrom w base a ws 0) (hf : Fx K mp fb w w') (hK : K 255 = false) (hfb : FindAt w fb f ls) : WFrom w' base a ws 0 := by
  rcases h with h | ⟨g, cur, rfl, hgb, hg, hc⟩
  · exact .inl h
  · refine .inr ⟨g, cur, rfl, hgb, hf.cells _ _ _ _ hg hK fun c => ?_, hc⟩
    obtain ⟨v, h1, -⟩ := hfb
    rw [c, h1] at hg
    simp at hg
theorem wfrom_low {w w' : World} {base : Nat} {a : Option Addr} {ws : List (Int × Int)} (h : WFrom w base a ws 0) (hb : Below w.heap.size w w') : WFrom w' base a ws 0 := by
  rcases h with h | ⟨g, cur, rfl, hgb, hg, hc⟩
  · exact .inl h
  · exact .inr ⟨g, cur, rfl, hgb, (hb.block _ (Array.getElem?_eq_some_iff.1 hg).1).trans hg, hc⟩
theorem wfrom_at {w : World} {base : Nat} {a : Option Addr} {ws : List (Int × Int)} (h : WFrom w base a ws 0) (k : Nat) (hk : k < ws.length) : ∃ g, a = some ⟨g, 0, none⟩ ∧ w.cell? ⟨g, k * 2, none⟩ = some (.int .u64 (ws[k]).1) ∧ w.cell? ⟨g, k * 2 + 1, none⟩ = some (.int .u64 (ws[k]).2) := by
  rcases h with h | ⟨g, cur, rfl, _, hg, hc⟩
  · omega
  · obtain ⟨c1, c2⟩ := hc k (Nat.zero_le _) hk
    exact ⟨g, rfl, (hcell hg _).trans c1, (hcell hg _).trans c2⟩
/-- A block of a slot that stays beside a Find's steps. -/
def SpotB (w : World) (q : Nat) (a b c : Int) : Prop := w.heap[q]? = some (.cells #[.int .i64 a, .int .i64 b, .int .i64 c] 43 (0, 0))
theorem SpotB.below {w w' : World} {q : Nat} {a b c : Int} (h : SpotB w q a b c) (hb : Below w.heap.size w w') : SpotB w' q a b c := (hb.block _ (Array.getElem?_eq_some_iff.1 h).1).trans h
theorem SpotB.fx {w w' : World} {q fb : Nat} {a b c : Int} {f : FW} {ls : List Ld} (h : SpotB w q a b c) (hf : Fx wTy true fb w w') (hfb : FindAt w fb f ls) : SpotB w' q a b c := by
  refine hf.cells _ _ _ _ h rfl fun e => ?_
  obtain ⟨v, h1, -⟩ := hfb
  unfold SpotB at h
  rw [e, h1] at h
  simp at h
end Go.Proofs.YtmagpbbjjkmbpaaGreat

/-
  FindsPut: the walk.
-/
namespace Go.Proofs.YtmagpbbjjkmbpaaGreat
open Go.RowKit Go.Maps TagPure
set_option linter.unusedVariables false

abbrev ZS (zq g j : Nat) (za zb pb pu : Int) (W : World) : Prop := W.cell? ⟨zq, 0, none⟩ = some (.int .u8 za) ∧ W.cell? ⟨zq, 1, none⟩ = some (.int .u8 zb) ∧ W.cell? ⟨g, j, none⟩ = some (.int .i64 pb) ∧ W.cell? ⟨g, j + 1, none⟩ = some (.int .i64 pu)
abbrev TSp (q : Nat) (a b : Int) (c : Nat) (W : World) : Prop := W.cell? ⟨q, 0, none⟩ = some (.int .i64 a) ∧ W.cell? ⟨q, 1, none⟩ = some (.int .i64 b) ∧ W.cell? ⟨q, 2, none⟩ = some (.int .i64 (c : Int))
theorem eql_spot5 (a b c x y z : Int) (W : World) : (binOp .eql 43 (.agg #[.int .i64 a, .int .i64 b, .int .i64 c]) (.agg #[.int .i64 x, .int .i64 y, .int .i64 z])).run Tryz.prog W = .ok (.bool ((a == x && b == y) && c == z)) W := by
  cases h1 : a == x <;> cases h2 : b == y <;> cases h3 : c == z <;> go_simp
theorem w64_small (x : Int) (h : 0 ≤ x ∧ x < 256) : wrap64 x = x := IntWalk.wrap64_in _ (by omega)
theorem fppair_w (a b : Value) (W : World) : (Instr.field 34 (.agg #[a, b]) 0).run Tryz.prog W = .ok a W := by kernel_rfl
set_option maxRecDepth 100000 in
set_option maxHeartbeats 8000000 in
theorem fput_any (f : Fst) (key : ByteArray) (hkm : key.size ≤ maxLen) (za zb : Int) (hza : 0 ≤ za ∧ za < 256) (hzb : 0 ≤ zb ∧ zb < 256) (w : World) (hr : FstRd w f) :
    Calls Tryz.prog 4 #[.agg #[.int .i64 f.c.bits, .int .i64 f.c.budget, .int .i64 f.c.tries, .int .i64 f.c.quantum, .int .i64 f.c.way, .bool f.gr, .slice f.ia f.its.length f.ic, .slice f.pa f.puts.length f.pc, .slice f.sa f.sts.length f.sc, .int .i64 f.ticks], .string key, .agg #[.int .u8 za, .int .u8 zb]] w
    fun e w' => e = .returned (.bool true) ∧ Below w.heap.size w w' := by
  unfold maxLen at hkm
  have hB := below_alloc w (.cells f.cells 28)
  have z := heap_alloc_new w (.cells f.cells 28)
  have HR := Lib.hid (hr.below hB); have HB := Lib.hid hB; have HZ := Lib.hid z
  clear hr hB z
  have HZAB := Lib.hid (And.intro hza hzb)
  clear hza hzb
  go_enter Tryz.func4, Tryz.ntmps4
  go_upto_region 1 with (fail)
  change Code.wp _ _ _ _ ((w.alloc (.cells f.cells 28)).alloc (.cells #[.int .u8 za, .int .u8 zb] 57))
  have hs0 : (w.alloc (.cells f.cells 28)).heap.size = w.heap.size + 1 := by simp
  generalize w.alloc (.cells f.cells 28) = w0 at *
  have hb0 := below_alloc w0 (.cells #[.int .u8 za, .int .u8 zb] 57)
  have hzz := heap_alloc_new w0 (.cells #[.int .u8 za, .int .u8 zb] 57)
  obtain ⟨zq, hzq⟩ : ∃ zq, zq = w0.heap.size := ⟨_, rfl⟩
  rw [← hzq] at hzz
  have hzq2 : w.heap.size + 1 = zq := by omega
  simp only [hzq2]
  generalize w0.alloc (.cells #[.int .u8 za, .int .u8 zb] 57) = w1 at *
  have HZZ := Lib.hid hzz
  have z := (hb0.block _ (Array.getElem?_eq_some_iff.1 HZ.out).1).trans HZ.out
  have HZ1 := Lib.hid z
  have HR1 := Lib.hid (HR.out.below hb0)
  have HB1 := Lib.hid (HB.out.trans (hb0.mono HB.out.size))
  clear hb0 hzz hs0 hzq hzq2 HZ HR HB
  obtain ⟨e0, e1, e2, e3, e4, e5, e6, e7, e8, e9⟩ := fst_cells z
  clear z
  by_cases h3 : 400 < key.size
  · have d3 : decide ((400 : Int) < key.size) = true := decide_eq_true (by omega)
    clear h3
    go_upto_if 31 with (go_at_call 9; refine (great_any f w1 HR1.out).mono ?_; rintro e w2 ⟨g, rfl, b2, hg⟩; have B2 := Lib.hid b2; clear b2 hg e0 e1 e2 e3 e4 e5 e6 e7 e8 e9; cases g)
    all_goals
      go_wp2_with (go_at_call 18; refine (lives15 _).mono ?_; rintro e w3 ⟨rfl, b3⟩)
      go_ret
      have h1 := HB1.out.trans (B2.out.mono HB1.out.size)
      exact ⟨rfl, h1.trans (b3.mono h1.size)⟩
  have d3 : decide ((400 : Int) < key.size) = false := decide_eq_false (by omega)
  have HK4 : Hid (key.size ≤ 1000000) := by show key.size ≤ _; omega
  clear h3
  go_upto_if 31 with (go_at_call 9; refine (great_any f w1 HR1.out).mono ?_; rintro e w2 ⟨g, rfl, b2, hg⟩; have B2 := Lib.hid b2; have HG := Lib.hid hg; clear b2 hg e0 e1 e2 e3 e4 e5 e6 e7 e8 e9; cases g)
  rotate_left
  · go_wp2_with (go_at_call 18; refine (lives15 _).mono ?_; rintro e w3 ⟨rfl, b3⟩)
    go_ret
    have h1 := HB1.out.trans (B2.out.mono HB1.out.size)
    exact ⟨rfl, h1.trans (b3.mono h1.size)⟩
  obtain ⟨hin, hsz⟩ := HG.out trivial
  have HIN := Lib.hid (hin.below B2.out)
  have HNI := Lib.hid hin.ni
  have HBB : Hid (Below w.heap.size w w2) := HB1.out.trans (B2.out.mono HB1.out.size)
  have z := (B2.out.block _ (Array.getElem?_eq_some_iff.1 HZ1.out).1).trans HZ1.out
  obtain ⟨e0, e1, e2, e3, e4, e5, e6, e7, e8, e9⟩ := fst_cells z
  clear z hin hsz
  have hpw := fppair_w
  have HZZ2 := Lib.hid ((B2.out.block _ (Array.getElem?_eq_some_iff.1 HZZ.out).1).trans HZZ.out)
  go_upto_region 4 with (go_at_call 11; refine (begin_any f w2 HIN.out).mono ?_; rintro e w3 ⟨B, R, V, s, x, rfl, hpr, hV, hfar, hcok, -⟩; have H3 := Lib.hid hpr.ws; have HITS := Lib.hid (show V.its.length ≤ 40 by rw [hV]; exact HNI.out); have HFAR := Lib.hid (And.intro hfar.1 hfar.2.1); clear hpr hV hfar hcok e0 e1 e2 e3 e4 e5 e6 e7 e8 e9)
  clear d3 HG HIN HR1 HB1 B2 HZ1 HNI HZZ hpw
  have z3 := (H3.out.below.block _ (Array.getElem?_eq_some_iff.1 HZZ2.out).1).trans HZZ2.out
  have HQZ := Lib.hid z3
  clear z3
  obtain ⟨L, hL⟩ : ∃ L, L = plist (hashOf key) (s.val 2) := ⟨_, rfl⟩
  obtain ⟨A, hA⟩ : ∃ A, A = slFold V.its s key (slotsL L) := ⟨_, rfl⟩
  have hsl := slots_any H3.out (Nat.le_trans HITS.out (by decide)) key HK4.out
  rw [← hL, ← hA] at hsl
  obtain ⟨ha0, ha1⟩ := hfold_bd key key.size
  have hP := Lib.hid (fun W => places_any (hashOf key) (s.val 2) ha0 ha1 (H3.out.own.wf 2) W)
  rw [← hL] at hP
  have hH := Lib.hid (fun W => hash_any key HK4.out W)
  have HTG := Lib.hid (tag01_bd (hashOf key) ha0 ha1)
  have hT := Lib.hid (fun W => tag_fn (hashOf key) ha0 ha1 W)
  have HLL := Lib.hid (show L.length ≤ 4 ∧ 1 ≤ L.length by rw [hL]; exact ⟨plist_len _ _, plist_pos _ _⟩)
  have HLOK := Lib.hid (show ∀ q ∈ L, POk12 q by rw [hL]; exact plist_ok _ _ ha0 ha1)
  have HLE := Lib.hid hL
  have hNF := Lib.hid (fun W => newfind key W)
  clear hL hA ha0 ha1
  go_upto_region 5 with (go_at_call 19; refine hsl.mono ?_; rintro e w4 ⟨rfl, b4⟩; have H4 := Lib.hid (H3.out.keep b4); have Z4 := Lib.hid ((b4.block _ (Array.getElem?_eq_some_iff.1 HQZ.out).1).trans HQZ.out); clear b4 hsl H3 HQZ)
  have b5 := below_alloc w4 (.cells #[.int .i64 A.1.1.1, .int .i64 A.1.1.2, .int .i64 (A.1.2 : Int)] 43)
  have H5 := Lib.hid (H4.out.keep b5)
  have Z5 := Lib.hid ((b5.block _ (Array.getElem?_eq_some_iff.1 Z4.out).1).trans Z4.out)
  change Code.wp _ _ _ _ (w4.alloc (.cells #[.int .i64 A.1.1.1, .int .i64 A.1.1.2, .int .i64 (A.1.2 : Int)] 43))
  generalize w4.alloc (.cells #[.int .i64 A.1.1.1, .int .i64 A.1.1.2, .int .i64 (A.1.2 : Int)] 43) = w5 at *
  generalize w4.heap.size = q5 at *
  clear b5 H4 Z4
  generalize hash : hashOf key = hsh at hP hH hT
  have HASH := Lib.hid hash
  clear hash
  go_upto_region 6 with (go_at_call 20; refine (hH.out _).mono ?_; intro e w6 hh; obtain ⟨hh1, b6⟩ := hh; subst hh1; have H6 := Lib.hid (H5.out.keep b6); have Z6 := Lib.hid ((b6.block _ (Array.getElem?_eq_some_iff.1 Z5.out).1).trans Z5.out); clear b6 hH H5 Z5)
  have c0 := H6.out.c0
  have hpk := H6.out.peek 2 (by decide)
  go_upto_region 7 with (first
    | (go_at_call 22; refine hpk.mono ?_; intro e w' hh; obtain ⟨hh1, hh2⟩ := hh; subst hh1; obtain rfl := hh2.symm; clear hpk)
    | (go_at_call 21; refine (hP.out _).mono ?_; intro e w7 hh; obtain ⟨pv, hh1, hp, b7⟩ := hh; subst hh1; have HPN := Lib.hid hp; have H7 := Lib.hid (H6.out.keep b7); have Z7 := Lib.hid ((b7.block _ (Array.getElem?_eq_some_iff.1 Z6.out).1).trans Z6.out); clear b7 hp hP c0 H6 Z6))
  obtain ⟨ao, rfl, -⟩ := HPN.out.plc
  have c1 := H7.out.hd5.2.1
  obtain ⟨V2, hV2⟩ : ∃ V2 : WV, V2 = { V with its := V.its ++ [⟨key, ⟨#[]⟩, 0, 0, -1, 0⟩] } := ⟨_, rfl⟩
  have hit : Calls Tryz.prog 23 #[.pointer (some ⟨B.ib, 0, none⟩), .agg #[.string key, .string ⟨#[]⟩, .int .u32 0, .int .u64 0, .int .i64 (-1), .int .i64 0]] w7 _ := H7.out.item ⟨key, ⟨#[]⟩, 0, 0, -1, 0⟩ (by have := HITS.out; omega)
  obtain ⟨ref, href⟩ : ∃ ref : Int, ref = ((V.its.length + 1 : Nat) : Int) := ⟨_, rfl⟩
  rw [← href, ← hV2] at hit
  have HV2 := Lib.hid hV2; have HREF := Lib.hid href
  have HRB := Lib.hid (show 1 ≤ ref ∧ ref ≤ 41 by have := HITS.out; omega)
  have HIT2 := Lib.hid (show V2.its.length ≤ 1048576 by rw [hV2]; simp; have := HITS.out; omega)
  clear hV2 href
  go_upto_region 8 with (go_at_call 23; refine hit.mono ?_; intro e w8 hh; obtain ⟨hh1, h8, f8⟩ := hh; subst hh1; have H8 := Lib.hid h8; have Z8 := Lib.hid (f8.cells _ _ _ _ Z7.out rfl); have HPN8 := Lib.hid (pln_fr HPN.out f8); clear h8 f8 hit c1 H7 Z7 HPN)
  have l0 : ((L.length : Int) == 0) = false := beq_eq_false_iff_ne.2 (by have := HLL.out.2; omega)
  have l4 : (L.length : Int) ≤ 4 := by have := HLL.out.1; omega
  obtain ⟨A2, hA2⟩ : ∃ A2, A2 = slFold V2.its s key (slotsL L) := ⟨_, rfl⟩
  have hsl := slots_any H8.out HIT2.out key HK4.out
  rw [← HLE.out, ← hA2] at hsl
  have HA2 := Lib.hid hA2
  clear hA2
  go_upto_region 11 with (go_at_call 19; refine hsl.mono ?_; rintro e w9 ⟨rfl, b9⟩; have H9 := Lib.hid (H8.out.keep b9); have Z9 := Lib.hid ((b9.block _ (Array.getElem?_eq_some_iff.1 Z8.out).1).trans Z8.out); have HPN9 := Lib.hid (pln_fr HPN8.out (below_fr b9 _ _)); clear b9 hsl H8 Z8 HPN8)
  have b10 := below_alloc w9 (.cells #[.int .i64 A2.1.1.1, .int .i64 A2.1.1.2, .int .i64 (A2.1.2 : Int)] 43)
  have H10 := Lib.hid (H9.out.keep b10)
  have Z10 := Lib.hid ((b10.block _ (Array.getElem?_eq_some_iff.1 Z9.out).1).trans Z9.out)
  have HPN10 := Lib.hid (pln_fr HPN9.out (below_fr b10 _ _))
  change Code.wp _ _ _ _ (w9.alloc (.cells #[.int .i64 A2.1.1.1, .int .i64 A2.1.1.2, .int .i64 (A2.1.2 : Int)] 43))
  generalize w9.alloc (.cells #[.int .i64 A2.1.1.1, .int .i64 A2.1.1.2, .int .i64 (A2.1.2 : Int)] 43) = w10 at *
  generalize w9.heap.size = q10 at *
  clear b10 H9 Z9 HPN9
  by_cases hm1 : 0 < A.2.2
  · have t1 : (0 : Int) < (A.2.2 : Int) := by omega
    clear hm1
    go_wp2_with (go_at_call 18; refine (lives15 _).mono ?_; rintro e w30 ⟨rfl, b30⟩)
    go_ret
    have h1 := H10.out.below
    exact ⟨rfl, HBB.out.trans ((h1.trans (b30.mono h1.size)).mono HBB.out.size)⟩
  have t1 : ¬ (0 : Int) < (A.2.2 : Int) := by omega
  by_cases hm2 : 0 < A2.2.2
  · have t2 : (0 : Int) < (A2.2.2 : Int) := by omega
    clear hm1 hm2
    go_wp2_with (go_at_call 18; refine (lives15 _).mono ?_; rintro e w30 ⟨rfl, b30⟩)
    go_ret
    have h1 := H10.out.below
    exact ⟨rfl, HBB.out.trans ((h1.trans (b30.mono h1.size)).mono HBB.out.size)⟩
  have t2 : ¬ (0 : Int) < (A2.2.2 : Int) := by omega
  have HN2 := Lib.hid (show A2.2.2 = 0 by omega)
  clear hm1 hm2
  obtain ⟨i, hi⟩ : ∃ i : Nat, i = (za % (L.length : Int)).toNat := ⟨_, rfl⟩
  have hll := HLL.out.2
  have hzm := Int.emod_nonneg za (b := (L.length : Int)) (by omega)
  have hzl := Int.emod_lt_of_pos za (b := (L.length : Int)) (by omega)
  have hiL : i < L.length := by omega
  obtain ⟨k, hk⟩ : ∃ k : Nat, k = (zb % 4).toNat := ⟨_, rfl⟩
  have hk4 : k < 4 := by omega
  have hzz := HZAB.out
  have hzb4 : (zb % 4) = (k : Int) := by omega
  have y6 : IntKind.u8.wrap (k : Int) = (k : Int) := by rw [IntKind.wrap_u8]; omega
  have y2 : za.tmod (L.length : Int) = (i : Int) := by rw [Int.tmod_eq_emod_of_nonneg hzz.1.1]; omega
  have y3 : zb.tmod 4 = (k : Int) := by rw [Int.tmod_eq_emod_of_nonneg hzz.2.1]; omega
  have y5 : (i : Int) < L.length := by omega
  have w1' : 0 ≤ (k : Int) ∧ (k : Int) < 256 := by omega
  have y1 : wrap64 za = za := w64_small za hzz.1
  have y4 : wrap64 (k : Int) = (k : Int) := w64_small _ w1'
  clear w1'
  obtain ⟨ao', he, hplc⟩ := HPN10.out.plc
  simp only [Value.slice.injEq] at he
  obtain rfl := he.1
  obtain ⟨g, o, pb, pu, hao, hlk, g0, g1⟩ := hplc.at i hiL
  have HI := Lib.hid hi; have HKK := Lib.hid (And.intro hk hk4); have HLK := Lib.hid hlk
  have e0 : w10.cell? ⟨zq, 0, none⟩ = some (.int .u8 za) := hcell Z10.out 0
  have e1 : w10.cell? ⟨zq, 1, none⟩ = some (.int .u8 zb) := hcell Z10.out 1
  clear hi hk hlk hplc he hzm hzl
  subst hao
  go_upto_region 13 with (fail)
  have x0 := fun st : ExtW w10 => st.cell e0
  have x1 := fun st : ExtW w10 => st.cell e1
  have x2 := fun st : ExtW w10 => st.cell g0
  have x3 := fun st : ExtW w10 => st.cell g1
  clear e0 e1 g0 g1
  refine wp_region_any (by kernel_rfl) ?_
  try (change wpAny _ _ _ _ _ _ _ (World.drew _))
  refine wpAny_take (i := 4) (v := .slice (some ⟨g, o, none⟩) L.length L.length) rfl (by kernel_rfl) (by kernel_rfl) (by kernel_rfl) (fun _ _ _ h => h) (Or.inl ⟨by rfl, by intro w; go_simp⟩) ?_
  refine wpAny_take (i := 5) (v := .int .i64 L.length) rfl (by kernel_rfl) (by kernel_rfl) (by kernel_rfl) (fun _ _ _ h => h) (Or.inl ⟨by rfl, by intro w; go_simp⟩) ?_
  simp only [List.getElem_toArray, List.getElem_cons_succ, List.getElem_cons_zero]
  go_frame
  refine any_of_mix (D := fun W => ∃ s : ExtW w10, W = s.val) [0, 1, 2, 3, 6, 7, 8, 9, 10, 11, 12, 13] [14] 15 [] (by kernel_rfl) (by kernel_rfl) (by kernel_rfl) (by kernel_rfl) (by decide) (by kernel_rfl) (fun c d v a w h => by cases d <;> exact h) ⟨⟨_, (Below.refl _ _).drew⟩, rfl⟩ ?_
  simp only [pickL_cons, pickL_nil, List.drop_succ_cons, List.drop_zero, List.take_succ_cons, List.take_zero, List.cons_append, List.nil_append]
  repeat (go_big_quiet_step (fail))
  refine wpQuiet_nil ?_
  refine tailM_op rfl rfl ?_
  go_simp
  refine ⟨⟨⟨_, ((Below.refl _ _).drew).alloc (Nat.le_refl _) _⟩, rfl⟩, ?_⟩
  change tailE Tryz.prog _ _ [15] _ _
  try (simp only [List.getElem_toArray, List.getElem_cons_succ, List.getElem_cons_zero])
  try go_frame
  refine tailE_op rfl rfl ?_
  refine wp_store_new 43 (.tmp 18) (.tmp 96) rfl w10.drew _ #[.int .i64 pb, .int .i64 pu, .int .i64 k] rfl rfl (by kernel_rfl) rfl (by simp [Value.oneCell']) ?_
  try (simp only [List.getElem_toArray, List.getElem_cons_succ, List.getElem_cons_zero])
  try go_frame
  unfold tailE
  clear x0 x1 x2 x3 y1 y2 y3 y4 y5 y6
  obtain ⟨s1, s2, s3, s4, story⟩ := put_story (V := V.its) (its := V2.its) (it := ⟨key, ⟨#[]⟩, 0, 0, -1, 0⟩) (s := s) (key := key) (L := L) (pb := pb) (pu := pu) (k := k) (ref := ref) (by rw [HV2.out]) rfl (by have := HITS.out; omega) HREF.out HLE.out HLOK.out (List.mem_of_getElem? HLK.out) HKK.out.2 (by rw [← HA2.out]; exact HN2.out) HTG.out (fun a => wf_bd (H10.out.own.wf a)) HFAR.out
  have ST := Lib.hid story
  clear story
  have hk4 := HKK.out.2
  have hpok : POk12 (pb, pu) := HLOK.out _ (List.mem_of_getElem? HLK.out)
  have hu : 0 ≤ pu ∧ pu < tsize pb := hpok.2
  have hpos : 0 ≤ tsize pb := (tsize_bd pb).1
  have htg := tags_at hu
  have hit := item_at (k := (k : Int)) hu (by omega)
  have hkw : (Lit.int .i64 (k : Int)).wf = true := by
    have : (k : Int) = 0 ∨ (k : Int) = 1 ∨ (k : Int) = 2 ∨ (k : Int) = 3 := by omega
    rcases this with h | h | h | h <;> rw [h] <;> rfl
  have hsof : sof pb pu k = ⟨tagsA pb pu, itemA pb pu k, k, 0, 0⟩ := by
    unfold sof; rw [if_neg (by omega)]
  have hz0 : tagsA pb pu ≠ 0 := by omega
  have hno := fun W => newout_any pb pu k hkw W
  have hnp := fun W => newput_in pb pu k (tag01 hsh) ref hkw (by rw [← HASH.out]; exact HTG.out) HRB.out.1 W
  rw [hsof] at hno
  simp only [hsof] at hnp
  have HNO := Lib.hid hno; have HNP := Lib.hid hnp; have HPOK := Lib.hid hpok; have HZ0 := Lib.hid hz0
  have bS := ((Below.refl w10.heap.size w10).drew).alloc (o := .cells #[.int .i64 pb, .int .i64 pu, .int .i64 k] 43) (Nat.le_refl _)
  have zS := heap_alloc_new w10.drew (.cells #[.int .i64 pb, .int .i64 pu, .int .i64 k] 43)
  have HS := Lib.hid (H10.out.keep bS)
  have ZS := Lib.hid (show (w10.drew.alloc (.cells #[.int .i64 pb, .int .i64 pu, .int .i64 k] 43)).heap[w10.heap.size]? = some (.cells #[.int .i64 pb, .int .i64 pu, .int .i64 k] 43 (0, 0)) from zS)
  clear hk4 hpok hu hpos htg hit hkw hsof hz0 hno hnp bS zS H10 Z10 HPN10
  change Exit.then _ _ Exit.normal _ (w10.drew.alloc _)
  generalize w10.drew.alloc (.cells #[.int .i64 pb, .int .i64 pu, .int .i64 k] 43) = wS at *
  generalize w10.heap.size = qS at *
  go_upto_region 14 with (fail)
  have ts : TSp qS pb pu k wS.drew := ⟨hcell (w := wS.drew) ZS.out 0, hcell (w := wS.drew) ZS.out 1, hcell (w := wS.drew) ZS.out 2⟩
  go_region_held2 (fun W => TSp qS pb pu k W) (assumption) (first
    | (go_at_call 26; refine (hT.out _).mono ?_; intro e w10 hh; obtain ⟨hh1, hh2⟩ := hh; subst hh1; obtain rfl := hh2.symm)
    | (go_at_call 25; refine (HNP.out _).mono ?_; intro e w10 hh; obtain ⟨pq, hh1, sq, lq, bq⟩ := hh; subst hh1; have bq' := (Below.refl wS.heap.size wS).drew.trans bq; have HB := Lib.hid (HS.out.keep bq'); have hzB := (bq'.block _ (Array.getElem?_eq_some_iff.1 ZS.out).1).trans ZS.out; have ZB := Lib.hid hzB; have tsB : TSp qS pb pu k w10 := ⟨hcell hzB 0, hcell hzB 1, hcell hzB 2⟩; have hrp := run_put (m := 300) HFAR.out (by unfold lim; omega) (Nat.le_trans HS.out.slow lq) HZ0.out (tagsA_wf pb pu) (itemA_wf pb pu k) (by have := HRB.out; omega) HB.out sq; have SQ := Lib.hid sq; clear sq lq bq bq' hzB ts HS ZS)
    | (go_at_call 24; refine hrp.mono ?_; intro e w11 hh; obtain ⟨hh1, h11, s11, f11⟩ := hh; subst hh1; have HC : Hid (WS w2 w11 B V2 s1) := by { rw [ST.out.e1, HASH.out]; exact h11 }; have zC := f11.cells _ _ _ _ ZB.out rfl (by intro c; have := ZB.out; rw [c] at this; have := this.symm.trans SQ.out; simp at this); have tsC : TSp qS pb pu k w11 := ⟨hcell zC 0, hcell zC 1, hcell zC 2⟩; have ZC := Lib.hid zC; clear h11 s11 f11 hrp tsB zC))
  have hrF : ∀ (W : World) (fy : Nat), WS w2 W B V2 s1 → w2.heap.size ≤ fy → FindAt W fy ⟨key, 0, 0, 0, 0, 0⟩ [.tab] → Calls Tryz.prog 24 #[.pointer (some ⟨B.wb, 0, none⟩), .iface 78 (.pointer (some ⟨fy, 0, none⟩)), .int .i64 99] W fun e w' => (∃ n : Int, e = .returned (.int .i64 n)) ∧ WS w2 w' B V2 s2 ∧ FindAt w' fy ⟨key, s1.val 2, pb, pu, (k : Int), ref⟩ [] ∧ Fx wTy true fy W w' := fun W fy g1 g2 g3 => by
    obtain ⟨n, hn⟩ := ST.out.f1
    have := frun 99 (by decide) 303 ST.out.c1 (by unfold lim; decide) g1 g2 HK4.out HIT2.out ⟨.inl rfl, by decide⟩ g3
    rw [hn] at this
    exact this.mono fun e w' hh => ⟨⟨_, hh.1⟩, hh.2⟩
  have hrG : ∀ (W : World) (fy : Nat), WS w2 W B V2 s3 → w2.heap.size ≤ fy → FindAt W fy ⟨key, 0, 0, 0, 0, 0⟩ [.tab] → Calls Tryz.prog 24 #[.pointer (some ⟨B.wb, 0, none⟩), .iface 78 (.pointer (some ⟨fy, 0, none⟩)), .int .i64 99] W fun e w' => (∃ n : Int, e = .returned (.int .i64 n)) ∧ WS w2 w' B V2 s4 ∧ FindAt w' fy ⟨key, s3.val 2, 0, 0, 0, 0⟩ [] ∧ Fx wTy true fy W w' := fun W fy g1 g2 g3 => by
    obtain ⟨n, hn⟩ := ST.out.f3
    have := frun 99 (by decide) 405 ST.out.c3 (by unfold lim; decide) g1 g2 HK4.out HIT2.out ⟨.inl rfl, by decide⟩ g3
    rw [hn] at this
    exact this.mono fun e w' hh => ⟨⟨_, hh.1⟩, hh.2⟩
  have HRF := Lib.hid hrF; have HRG := Lib.hid hrG
  clear hrF hrG tsC SQ ZB HB
  go_upto_region 18 with (first
    | (go_at_call 27; refine (hNF.out _).mono ?_; intro e w12 hh; obtain ⟨fy, hh1, a12, l12, b12⟩ := hh; subst hh1; have HD := Lib.hid (HC.out.keep b12); have hr2 := HRF.out w12 fy HD.out (Nat.le_trans HC.out.slow l12) a12; have ZD := Lib.hid ((b12.block _ (Array.getElem?_eq_some_iff.1 ZC.out).1).trans ZC.out); have NS := Lib.hid (Nat.ne_of_lt (Nat.lt_of_lt_of_le (Array.getElem?_eq_some_iff.1 ZC.out).1 l12)); clear a12 l12 b12 HC ZC)
    | (go_at_call 24; refine hr2.mono ?_; intro e w13 hh; obtain ⟨⟨n13, hh1⟩, h13, a13, f13⟩ := hh; subst hh1; have HE := Lib.hid h13; have hg2 := fgot a13; have ZE := Lib.hid (f13.cells _ _ _ _ ZD.out rfl NS.out); clear h13 a13 f13 hr2 HD ZD NS)
    | (go_at_call 28; refine hg2.mono ?_; intro e w14 hh; obtain ⟨hh1, b14⟩ := hh; subst hh1; have HF := Lib.hid (HE.out.keep b14); have ZF := Lib.hid ((b14.block _ (Array.getElem?_eq_some_iff.1 ZE.out).1).trans ZE.out); clear b14 hg2 HE ZE))
  have hbG := below_alloc w14 (.cells #[.int .i64 pb, .int .i64 pu, .int .i64 k] 43)
  have hzG := heap_alloc_new w14 (.cells #[.int .i64 pb, .int .i64 pu, .int .i64 k] 43)
  have HG := Lib.hid (HF.out.keep hbG)
  have ZG := Lib.hid ((hbG.block _ (Array.getElem?_eq_some_iff.1 ZF.out).1).trans ZF.out)
  have YG := Lib.hid hzG
  clear hbG hzG HF ZF
  change Code.wp _ _ _ _ (w14.alloc (.cells #[.int .i64 pb, .int .i64 pu, .int .i64 k] 43))
  generalize w14.alloc (.cells #[.int .i64 pb, .int .i64 pu, .int .i64 k] 43) = w15 at *
  generalize w14.heap.size = qT at *
  have c0 := hcell ZG.out 0; have c1 := hcell ZG.out 1; have c2 := hcell ZG.out 2
  simp only [List.getElem?_toArray, List.getElem?_cons_zero, List.getElem?_cons_succ] at c0 c1 c2
  go_upto_region 19 with (first
    | (go_at_call 29; refine (HNO.out _).mono ?_; intro e w16 hh; obtain ⟨pq, hh1, sq, lq, bq⟩ := hh; subst hh1; have HB := Lib.hid (HG.out.keep bq); have hzB := (bq.block _ (Array.getElem?_eq_some_iff.1 ZG.out).1).trans ZG.out; have ZB := Lib.hid hzB; have hyB := (bq.block _ (Array.getElem?_eq_some_iff.1 YG.out).1).trans YG.out; have YB := Lib.hid hyB; have hrp := run_out (m := 402) ST.out.c2 (by unfold lim; omega) (Nat.le_trans HG.out.slow lq) HZ0.out (tagsA_wf pb pu) (itemA_wf pb pu k) HB.out sq; rw [← ST.out.e3] at hrp; have SQ := Lib.hid sq; clear sq lq bq hzB hyB HG ZG YG c0 c1 c2)
    | (go_at_call 24; refine hrp.mono ?_; intro e w17 hh; obtain ⟨hh1, h11, s11, f11⟩ := hh; subst hh1; have HC := Lib.hid h11; have ZC := Lib.hid (f11.cells _ _ _ _ ZB.out rfl (by intro c; have := ZB.out; rw [c] at this; have := this.symm.trans SQ.out; simp at this)); have YC := Lib.hid (f11.cells _ _ _ _ YB.out rfl (by intro c; have := YB.out; rw [c] at this; have := this.symm.trans SQ.out; simp at this)); clear h11 s11 f11 hrp))
  clear HB ZB YB SQ
  go_upto_region 21 with (first
    | (go_at_call 27; refine (hNF.out _).mono ?_; intro e w12 hh; obtain ⟨fz, hh1, a12, l12, b12⟩ := hh; subst hh1; have HD := Lib.hid (HC.out.keep b12); have hr2 := HRG.out w12 fz HD.out (Nat.le_trans HC.out.slow l12) a12; have ZD := Lib.hid ((b12.block _ (Array.getElem?_eq_some_iff.1 ZC.out).1).trans ZC.out); have YD := Lib.hid ((b12.block _ (Array.getElem?_eq_some_iff.1 YC.out).1).trans YC.out); have NS := Lib.hid (Nat.ne_of_lt (Nat.lt_of_lt_of_le (Array.getElem?_eq_some_iff.1 ZC.out).1 l12)); have NT := Lib.hid (Nat.ne_of_lt (Nat.lt_of_lt_of_le (Array.getElem?_eq_some_iff.1 YC.out).1 l12)); clear a12 l12 b12 HC ZC YC)
    | (go_at_call 24; refine hr2.mono ?_; intro e w13 hh; obtain ⟨⟨n23, hh1⟩, h13, a13, f13⟩ := hh; subst hh1; have HE := Lib.hid h13; have hg2 := fgot a13; have AE := Lib.hid a13; have ZE := Lib.hid (f13.cells _ _ _ _ ZD.out rfl NS.out); have YE := Lib.hid (f13.cells _ _ _ _ YD.out rfl NT.out); clear h13 a13 f13 hr2 HD ZD NS YD NT))
  go_upto_region 22 with (go_at_call 28; refine hg2.mono ?_; intro e w14 hh; obtain ⟨hh1, b14⟩ := hh; subst hh1; have HF := Lib.hid (HE.out.keep b14); have AF := Lib.hid (AE.out.below b14); have ZF := Lib.hid ((b14.block _ (Array.getElem?_eq_some_iff.1 ZE.out).1).trans ZE.out); have YF := Lib.hid ((b14.block _ (Array.getElem?_eq_some_iff.1 YE.out).1).trans YE.out); clear b14 hg2 HE ZE YE AE)
  have hbG := below_alloc w14 (.cells #[.int .i64 0, .int .i64 0, .int .i64 0] 43)
  have hzG := heap_alloc_new w14 (.cells #[.int .i64 0, .int .i64 0, .int .i64 0] 43)
  have HG := Lib.hid (HF.out.keep hbG)
  have zz := (hbG.block _ (Array.getElem?_eq_some_iff.1 ZF.out).1).trans ZF.out
  have yy := (hbG.block _ (Array.getElem?_eq_some_iff.1 YF.out).1).trans YF.out
  have hov := fover (AF.out.below hbG)
  change Code.wp _ _ _ _ (w14.alloc (.cells #[.int .i64 0, .int .i64 0, .int .i64 0] 43))
  clear hbG HF ZF YF AF
  generalize w14.alloc (.cells #[.int .i64 0, .int .i64 0, .int .i64 0] 43) = w15 at *
  generalize w14.heap.size = qU at *
  have c0 := hcell zz 0; have c1 := hcell zz 1; have c2 := hcell zz 2
  have d0 := hcell yy 0; have d1 := hcell yy 1; have d2 := hcell yy 2
  have e0 := hcell hzG 0; have e1 := hcell hzG 1; have e2 := hcell hzG 2
  simp only [List.getElem?_toArray, List.getElem?_cons_zero, List.getElem?_cons_succ] at c0 c1 c2 d0 d1 d2 e0 e1 e2
  have heq := eql_spot5 pb pu k pb pu k w15
  rw [show ((pb == pb && pu == pu) && (k : Int) == (k : Int)) = true by simp] at heq
  rw [show decide (([] : List Ld) = []) = true from rfl] at hov
  clear zz yy hzG
  go_wp2_with (first
    | (go_at_call 30; refine hov.mono ?_; intro e w16 hh; obtain ⟨hh1, hh2⟩ := hh; subst hh1; obtain rfl := hh2.symm; clear hov)
    | (go_at_call 18; refine (lives15 _).mono ?_; rintro e w30 ⟨rfl, b30⟩))
  go_ret
  have h1 := HG.out.below
  exact ⟨rfl, HBB.out.trans ((h1.trans (b30.mono h1.size)).mono HBB.out.size)⟩
theorem leaves_arr2 : leaves Tryz.prog 4 57 = some [Leaf.int IntKind.u8, Leaf.int IntKind.u8] := by kernel_rfl
set_option maxRecDepth 100000 in
theorem arr2_open {H : Type} {w : World} {enc : TypeId × Value → H} {base : Nat} {v : Value} {d : DataW H} {p : List MemPlace} (k : DataW.Trod enc Tryz.prog w 0 (fun _ => true) true 57 v d p) (o : Value.okWide Tryz.prog w .any base 57 v) : ∃ a b : Int, v = .agg #[.int .u8 a, .int .u8 b] ∧ (0 ≤ a ∧ a < 256) ∧ (0 ≤ b ∧ b < 256) := by
  obtain ⟨cs, rfl⟩ := okWide_array Tryz.underlying57 o
  have h := opened leaves_arr2 k
  obtain ⟨c0, r, h0, g0, h⟩ := allHold_cons h
  obtain ⟨c1, r, rfl, g1, h⟩ := allHold_cons h
  obtain rfl := allHold_nil h
  obtain ⟨a, rfl, wa⟩ := holds_int g0
  obtain ⟨b, rfl, wb⟩ := holds_int g1
  refine ⟨a, b, ?_, u8_nn wa, u8_nn wb⟩
  have e : cs = #[.int .u8 a, .int .u8 b] := Array.toList_inj.1 h0
  rw [e]
set_option maxRecDepth 100000 in
theorem walkFindsPut {H1 : Type} (w : World) (enc : TypeId × Value → H1) (base : Nat) (v : Value) (d : DataW H1) (p : List MemPlace) (k : DataW.Trod enc Tryz.prog w 0 (fun _ => true) true 28 v d p) (o : Value.okWide Tryz.prog w .any base 28 v) (key : ByteArray) (hk : key.size ≤ maxLen)
    (enc2 : TypeId × Value → H1) (base2 : Nat) (v2 : Value) (d2 : DataW H1) (p2 : List MemPlace) (k2 : DataW.Trod enc2 Tryz.prog w 0 (fun _ => true) true 57 v2 d2 p2) (o2 : Value.okWide Tryz.prog w .any base2 57 v2) :
    Calls Tryz.prog 4 #[v, .string key, v2] w fun e w' => e = .returned (.bool true) ∧ Below w.heap.size w w' := by
  obtain ⟨f, rfl, hr⟩ := fst_open k o
  obtain ⟨a, b, rfl, ha, hb⟩ := arr2_open k2 o2
  exact fput_any f key hk a b ha hb w hr
end Go.Proofs.YtmagpbbjjkmbpaaGreat
