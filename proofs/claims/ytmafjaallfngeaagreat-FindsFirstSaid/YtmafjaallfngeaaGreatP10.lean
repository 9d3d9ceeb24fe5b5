/-
  Texts of this prover, merged: FindLives, FindLaw, FindSlots, FirstLaw, FindFirst.
-/
import Derived.Test.YtmafjaallfngeaaGreatP8
import Derived.Test.YtmafjaallfngeaaGreatP9
import Derived.Test.YtmafjaallfngeaaGreatP1
import Derived.Laws.IdiomStrings
/-
  Finds: layer 15's examples.
-/
namespace Go.Proofs.YtmafjaallfngeaaGreat
open Go.RowKit Go.Maps TagPure
set_option linter.unusedVariables false

def ka : ByteArray := ⟨#[97]⟩
def ita : Itm := ⟨ka, ByteArray.empty, 0, 0, 0, 0⟩
def s15 : CS := (fiter [] 40 (CS.init [(2, tword 2 0)]) ⟨ka, 0, 0, 0, 0, 0⟩ [.tab]).2.1
def q15 : CS := pst s15 (tagsA 2 3) (itemA 2 3 3) 3 175 5 3
theorem ka_pl : plist (hashOf ka) 2 = [(2, 0), (2, 3)] := by kernel_rfl
theorem ka_tag : tag01 (hashOf ka) = 175 := by kernel_rfl
theorem ex1 : (fiter [] 40 (CS.init [(2, tword 2 0)]) ⟨ka, 0, 0, 0, 0, 0⟩ [.tab]) = (3, s15, ⟨ka, 2, 0, 0, 0, 0⟩, []) := by kernel_rfl
theorem ex3 : (fiter (List.replicate 5 ita) 40 q15 ⟨ka, 0, 0, 0, 0, 0⟩ [.tab]).1 = 4 := by kernel_rfl
theorem ex4 : (fiter (List.replicate 5 ita) 40 q15 ⟨ka, 0, 0, 0, 0, 0⟩ [.tab]).2.2 = (⟨ka, 2, 2, 3, 3, 5⟩, []) := by kernel_rfl
theorem ex5 : (s15.n ≤ 10 ∧ s15.cnt ≤ 10) ∧ (q15.n ≤ 20 ∧ q15.cnt ≤ 20) := by
  have a : s15.n = 4 := by kernel_rfl
  have b : s15.cnt = 3 := by kernel_rfl
  have c : q15.n = 7 := by kernel_rfl
  have d : q15.cnt = 6 := by kernel_rfl
  omega
set_option maxRecDepth 10000 in
set_option maxHeartbeats 1000000 in
theorem two_any (w : World) : Calls Tryz.prog 60 #[.int .i64 2] w fun e w' => e = .returned (.string ka) ∧ Below w.heap.size w w' := by
  have hH := Lib.hid (fun W => hash_any ka (by decide) W)
  have hP := Lib.hid (fun W => places_any (hashOf ka) 2 (hfold_bd _ _).1 (hfold_bd _ _).2 (by decide) W)
  rw [ka_pl] at hP
  go_enter Tryz.func60, Tryz.ntmps60
  go_wp2
  go_loopw [3] (fun i wr => i = .int .i64 0 ∧ Below w.heap.size w wr) (fun i _ => 0)
  case atStart => exact ⟨rfl, Below.refl _ _⟩
  case round =>
    obtain ⟨rfl, hB⟩ := hrel
    have HB := Lib.hid hB
    clear hB
    have hba := below_alloc wr (.cells #[.int .u8 97] 5)
    have hza := heap_alloc_new wr (.cells #[.int .u8 97] 5)
    have hcv : (convert 72 9 (.slice (some ⟨wr.heap.size, 0, none⟩) 1 1)).run Tryz.prog (wr.alloc (.cells #[.int .u8 97] 5)) = .ok (.string ka) (wr.alloc (.cells #[.int .u8 97] 5)) :=
      run_convert_bytes_back _ 72 9 5 ⟨wr.heap.size, 0, none⟩ 1 [97] Tryz.underlying72 Tryz.underlying5 Tryz.underlying9 (fun j hj => by
        obtain rfl : j = 0 := by simp at hj; omega
        rw [Addr.add_lit]; exact hcell hza 0)
    have HBA := Lib.hid (HB.out.trans (hba.mono HB.out.size))
    clear hba hza
    go_upto_region 5 with (fail)
    clear hcv
    change Code.wp _ _ _ _ (wr.alloc (.cells #[.int .u8 97] 5))
    generalize wr.alloc (.cells #[.int .u8 97] 5) = w1 at *
    clear HB
    go_wp2_with (first
      | (go_at_call 14; refine (hH.out _).mono ?_; intro e w2 hh; obtain ⟨hh1, b2⟩ := hh; subst hh1; have B2 := Lib.hid (HBA.out.trans (b2.mono HBA.out.size)); clear b2)
      | (go_at_call 15; refine (hP.out _).mono ?_; intro e w3 hh; obtain ⟨pv, hh1, hp, b3⟩ := hh; subst hh1; obtain ⟨ao2, hpv, hpl⟩ := hp.plc; subst hpv; have B3 := Lib.hid (B2.out.trans (b3.mono B2.out.size)); clear b3 hp hpl))
    go_ret
    exact ⟨rfl, B3.out⟩
theorem find_nil_fx {w w' : World} {fx fy : Nat} {f : FW} {K : TypeId → Bool} {mp : Bool} (h : FindAt w fx f []) (hf : Fx K mp fy w w') (hK : K 193 = false) (hne : fx ≠ fy) : FindAt w' fx f [] := by
  obtain ⟨v, h1, a, c, h2, h3, h4, h5, -⟩ := h
  exact ⟨v, hf.cells _ _ _ _ h1 hK hne, a, c, h2, h3, h4, h5, .inl rfl⟩
abbrev TSpot (q : Nat) (W : World) : Prop := W.cell? ⟨q, 0, none⟩ = some (.int .i64 2) ∧ W.cell? ⟨q, 1, none⟩ = some (.int .i64 3) ∧ W.cell? ⟨q, 2, none⟩ = some (.int .i64 3)
def vf15 : WV := { v0 ⟨2, 8, 3, 1, 16⟩ with its := List.replicate 5 ita }
set_option maxRecDepth 10000 in
set_option maxHeartbeats 4000000 in
theorem lives15 (w : World) : Calls Tryz.prog 11 #[] w fun e w' => e = .returned (.bool true) ∧ Below w.heap.size w w' := by
  have hH := Lib.hid (fun W => hash_any ka (by decide) W)
  have hP := Lib.hid (fun W => places_any (hashOf ka) 2 (hfold_bd _ _).1 (hfold_bd _ _).2 (by decide) W)
  rw [ka_pl] at hP
  have hT := Lib.hid (fun W => tag_fn (hashOf ka) (hfold_bd _ _).1 (hfold_bd _ _).2 W)
  rw [ka_tag] at hT
  have hTW := Lib.hid (fun W => two_any W)
  have hNF := Lib.hid (fun W => newfind ka W)
  have hNP := Lib.hid (fun W => newput_in 2 3 3 175 5 (by decide) (by decide) (by decide) W)
  have hke : ka.toList.isEmpty = false := by rw [ByteArray.toList_eq]; rfl
  go_enter Tryz.func11, Tryz.ntmps11
  go_upto_region 6 with (first
    | (go_at_call 59; refine (world12v 2 (by decide) w).mono ?_; intro e w1 hh; obtain ⟨B, hh1, h1⟩ := hh; subst hh1; have H1 := Lib.hid h1; clear h1)
    | (go_at_call 60; refine (hTW.out _).mono ?_; intro e w2 hh; obtain ⟨hh1, b2⟩ := hh; subst hh1; have H2 := Lib.hid (H1.out.keep b2); clear b2 H1)
    | (go_at_call 21; refine (hNF.out _).mono ?_; intro e w3 hh; obtain ⟨fx, hh1, a3, l3, b3⟩ := hh; subst hh1; have H3 := Lib.hid (H2.out.keep b3); have A3 := Lib.hid a3; have L3 := Lib.hid (Nat.le_trans H2.out.slow l3); clear a3 l3 b3 H2))
  have hr := frun 40 (by decide) 1 ⟨by decide, by decide⟩ (by unfold lim; decide) H3.out L3.out (by decide) (by decide) ⟨.inl rfl, by decide⟩ A3.out
  rw [show (v0 ⟨2, 8, 3, 1, 16⟩).its = [] from rfl, ex1] at hr
  clear hke
  go_upto_region 8 with (first
    | (go_at_call 18; refine hr.mono ?_; intro e w4 hh; obtain ⟨hh1, h4, a4, -⟩ := hh; subst hh1; have H4 := Lib.hid h4; have A4 := Lib.hid a4; have hg := fgot a4; clear h4 a4 hr H3 A3)
    | (go_at_call 22; refine hg.mono ?_; intro e w5 hh; obtain ⟨hh1, b5⟩ := hh; subst hh1; have H5 := Lib.hid (H4.out.keep b5); have A5 := Lib.hid (A4.out.below b5); clear b5 hg H4 A4))
  have hb6 := below_alloc w5 (.cells #[.int .i64 0, .int .i64 0, .int .i64 0] 39)
  have H6 := Lib.hid (H5.out.keep hb6); have A6 := Lib.hid (A5.out.below hb6)
  clear hb6 H5 A5
  generalize w5.alloc (.cells #[.int .i64 0, .int .i64 0, .int .i64 0] 39) = w6 at *
  generalize w5.heap.size = z6 at *
  go_wp2_with fail
  go_loopw [7] (fun i wr => ∃ k : Nat, k ≤ 5 ∧ i = .int .i64 k ∧ WS w wr B { v0 ⟨2, 8, 3, 1, 16⟩ with its := List.replicate k ita } s15 ∧ FindAt wr fx ⟨ka, 2, 0, 0, 0, 0⟩ []) (fun i _ => 5 - (intOf i).toNat)
  case atStart => exact ⟨0, by omega, rfl, H6.out, A6.out⟩
  case round =>
    obtain ⟨k, hk, rfl, h7, a7⟩ := hrel
    by_cases hlt : k < 5
    · have hlt' : (k : Int) < 5 := by omega
      have c0 := h7.hd5.2.1
      have hit : Calls Tryz.prog 17 #[.pointer (some ⟨B.ib, 0, none⟩), .agg #[.string ka, .string ⟨#[]⟩, .int .u32 0, .int .u64 0, .int .i64 0, .int .i64 0]] wr _ := h7.item ita (by simp; omega)
      have A7 := Lib.hid a7
      clear h7 a7
      go_wp2_with (go_at_call 17; refine hit.mono ?_; intro e w8 hh; obtain ⟨hh1, h8, f8⟩ := hh; subst hh1; have P := Lib.hid (And.intro h8 (A7.out.fr f8 w_not_f rfl)); clear h8 f8 hit c0)
      go_roundw
      case rel => exact ⟨k + 1, by omega, by go_num, by have h := P.out.1; rw [List.replicate_succ', ]; exact h, P.out.2⟩
      case measure => simp [intOf]; omega
    · obtain rfl : k = 5 := by omega
      have H7 := Lib.hid h7; have A7 := Lib.hid a7
      clear h7 a7
      go_upto_region 14 with (first
        | (go_at_call 14; refine (hH.out _).mono ?_; intro e w8 hh; obtain ⟨hh1, b8⟩ := hh; subst hh1; have H8 := Lib.hid (H7.out.keep b8); have A8 := Lib.hid (A7.out.below b8); clear b8 H7 A7)
        | (go_at_call 15; refine (hP.out _).mono ?_; intro e w9 hh; obtain ⟨pv, hh1, hp, b9⟩ := hh; subst hh1; obtain ⟨ao2, hpv, hpl⟩ := hp.plc; subst hpv; obtain ⟨g9, o9, p9, q9, rfl, hlk, g0, g1⟩ := hpl.at 1 (by decide); simp at hlk; obtain ⟨rfl, rfl⟩ := hlk; have H9 := Lib.hid (H8.out.keep b9); have A9 := Lib.hid (A8.out.below b9); clear b9 hp hpl H8 A8))
      have hbA := below_alloc w9 (.cells #[.int .i64 2, .int .i64 3, .int .i64 3] 39)
      have hzA := heap_alloc_new w9 (.cells #[.int .i64 2, .int .i64 3, .int .i64 3] 39)
      have HA : Hid (WS w _ B vf15 s15) := H9.out.keep hbA
      have AA := Lib.hid (A9.out.below hbA); have ZA := Lib.hid hzA
      clear hbA hzA H9 A9 g0 g1
      generalize w9.alloc (.cells #[.int .i64 2, .int .i64 3, .int .i64 3] 39) = wA at *
      generalize w9.heap.size = sp at *
      have ts : TSpot sp wA.drew := ⟨hcell (w := wA.drew) ZA.out 0, hcell (w := wA.drew) ZA.out 1, hcell (w := wA.drew) ZA.out 2⟩
      go_region_held2 (fun W => TSpot sp W) (assumption) (first
        | (go_at_call 20; refine (hT.out _).mono ?_; intro e w10 hh; obtain ⟨hh1, hh2⟩ := hh; subst hh1; obtain rfl := hh2.symm)
        | (go_at_call 19; refine (hNP.out _).mono ?_; intro e w10 hh; obtain ⟨pq, hh1, sq, lq, bq⟩ := hh; subst hh1; have bq' := (Below.refl wA.heap.size wA).drew.trans bq; have HB := Lib.hid (HA.out.keep bq'); have AB := Lib.hid (AA.out.below bq'); have hzB := (bq'.block _ (Array.getElem?_eq_some_iff.1 ZA.out).1).trans ZA.out; have ZB := Lib.hid hzB; have tsB : TSpot sp w10 := ⟨hcell hzB 0, hcell hzB 1, hcell hzB 2⟩; have hrp := run_put (m := 10) ex5.1 (by unfold lim; decide) (Nat.le_trans HA.out.slow lq) (by decide) (by decide) (by decide) (by decide) HB.out sq; have SQ := Lib.hid sq; clear sq lq bq bq' hzB ts HA AA ZA)
        | (go_at_call 18; refine hrp.mono ?_; intro e w11 hh; obtain ⟨hh1, h11, s11, f11⟩ := hh; subst hh1; have HC : Hid (WS w w11 B vf15 q15) := h11; have FC := Lib.hid f11; have tsC : TSpot sp w11 := by { have z := f11.cells _ _ _ _ ZB.out rfl (by intro c; have := ZB.out; rw [c] at this; have := this.symm.trans SQ.out; simp at this); exact ⟨hcell z 0, hcell z 1, hcell z 2⟩ }; have ZC := Lib.hid (f11.cells _ _ _ _ ZB.out rfl (by intro c; have := ZB.out; rw [c] at this; have := this.symm.trans SQ.out; simp at this)); clear h11 s11 f11 hrp tsB))
      have hne : fx ≠ pq := fun c => by
        obtain ⟨v, z, -⟩ := AB.out
        rw [c] at z
        have := z.symm.trans SQ.out
        simp at this
      have AC := Lib.hid (find_nil_fx AB.out FC.out rfl hne)
      clear hne AB FC SQ ZB HB tsC
      go_upto_region 18 with (first
        | (go_at_call 21; refine (hNF.out _).mono ?_; intro e w12 hh; obtain ⟨fy, hh1, a12, l12, b12⟩ := hh; subst hh1; have HD := Lib.hid (HC.out.keep b12); have hr2 := frun 40 (by decide) 20 ex5.2 (by unfold lim; decide) HD.out (Nat.le_trans HC.out.slow l12) (by decide) (by decide) ⟨.inl rfl, by decide⟩ a12; rw [show vf15.its = List.replicate 5 ita from rfl, ex3, ex4] at hr2; have AD := Lib.hid (AC.out.below b12); have ZD := Lib.hid ((b12.block _ (Array.getElem?_eq_some_iff.1 ZC.out).1).trans ZC.out); have NX := Lib.hid (Nat.ne_of_lt (Nat.lt_of_lt_of_le AC.out.lt l12)); have NS := Lib.hid (Nat.ne_of_lt (Nat.lt_of_lt_of_le (Array.getElem?_eq_some_iff.1 ZC.out).1 l12)); clear a12 l12 b12 HC AC ZC)
        | (go_at_call 18; refine hr2.mono ?_; intro e w13 hh; obtain ⟨hh1, h13, a13, f13⟩ := hh; subst hh1; have HE := Lib.hid h13; have hg2 := fgot a13; have AE := Lib.hid (find_nil_fx AD.out f13 rfl NX.out); have ZE := Lib.hid (f13.cells _ _ _ _ ZD.out rfl NS.out); clear h13 a13 f13 hr2 HD AD ZD)
        | (go_at_call 22; refine hg2.mono ?_; intro e w14 hh; obtain ⟨hh1, b14⟩ := hh; subst hh1; have HF := Lib.hid (HE.out.keep b14); have AF := Lib.hid (AE.out.below b14); have ZF := Lib.hid ((b14.block _ (Array.getElem?_eq_some_iff.1 ZE.out).1).trans ZE.out); clear b14 hg2 HE AE ZE))
      have hbG := below_alloc w14 (.cells #[.int .i64 2, .int .i64 3, .int .i64 3] 39)
      have hzG := heap_alloc_new w14 (.cells #[.int .i64 2, .int .i64 3, .int .i64 3] 39)
      have HG := Lib.hid (HF.out.keep hbG); have AG := AF.out.below hbG
      have ZG := (hbG.block _ (Array.getElem?_eq_some_iff.1 ZF.out).1).trans ZF.out
      have hwd := fword AG
      rw [if_pos rfl] at hwd
      have c0 := hcell hzG 0; have c1 := hcell hzG 1; have c2 := hcell hzG 2
      have d0 := hcell ZG 0; have d1 := hcell ZG 1; have d2 := hcell ZG 2
      clear hbG hzG AG ZG HF AF ZF NX NS
      change Code.wp _ _ _ _ (w14.alloc (.cells #[.int .i64 2, .int .i64 3, .int .i64 3] 39))
      generalize w14.alloc (.cells #[.int .i64 2, .int .i64 3, .int .i64 3] 39) = w15 at *
      generalize w14.heap.size = sy at *
      go_wp2_with (go_at_call 47; refine hwd.mono ?_; intro e w16 hh; obtain ⟨hh1, hh2⟩ := hh; subst hh1; obtain rfl := hh2.symm; clear hwd)
      go_ret
      exact ⟨rfl, HG.out.below⟩
end Go.Proofs.YtmafjaallfngeaaGreat

/-
  A Find's run: the plain law.
-/
namespace Go.Proofs.YtmafjaallfngeaaGreat
open Go.RowKit Go.Maps TagPure
set_option linter.unusedVariables false

/-- The first of some slots that has the key. -/
def fhit (its : List Itm) (s : CS) (key : ByteArray) (p : Int × Int) : List Nat → Option ((Int × Int) × Int)
  | [] => none
  | n :: r => if hit its s key p (n : Int) = true then some (p, (n : Int)) else fhit its s key p r
/-- What a run of the loads finds. -/
def scan (its : List Itm) (s : CS) (key : ByteArray) : List Ld → Option ((Int × Int) × Int)
  | [] => none
  | .tab :: r => none
  | .tag p :: r => (fhit its s key p (has (s.val (tagsA p.1 p.2)) (tag01 (hashOf key)) 4)).orElse fun _ => scan its s key r
  | .itm p n :: r => if hit its s key p n = true then some (p, n) else scan its s key r
def cost (s : CS) (key : ByteArray) : List Ld → Nat
  | [] => 0
  | .tab :: r => 0
  | .tag p :: r => 1 + (has (s.val (tagsA p.1 p.2)) (tag01 (hashOf key)) 4).length + cost s key r
  | .itm p n :: r => 1 + cost s key r
theorem scan_app (its : List Itm) (s : CS) (key : ByteArray) (p : Int × Int) (N : List Nat) (r : List Ld) : scan its s key (N.map (fun (n : Nat) => Ld.itm p n) ++ r) = (fhit its s key p N).orElse fun _ => scan its s key r := by
  induction N with
  | nil => rfl
  | cons n N ih =>
    show (if hit its s key p (n : Int) = true then some (p, (n : Int)) else scan its s key (N.map (fun (n : Nat) => Ld.itm p n) ++ r)) = _
    by_cases h : hit its s key p (n : Int) = true
    · rw [if_pos h]; simp only [fhit, if_pos h]; rfl
    · rw [if_neg h, ih]; simp only [fhit, if_neg h]
theorem cost_app (s : CS) (key : ByteArray) (p : Int × Int) (N : List Nat) (r : List Ld) : cost s key (N.map (fun (n : Nat) => Ld.itm p n) ++ r) = N.length + cost s key r := by
  induction N with
  | nil => simp
  | cons n N ih =>
    show 1 + cost s key (N.map (fun (n : Nat) => Ld.itm p n) ++ r) = _
    rw [ih, List.length_cons]; omega
theorem load_val (s : CS) (a : Int) : (s.acc 1 a (s.val a)).val = s.val := by
  funext b; simp only [CS.acc, upd]; split
  · rename_i h; rw [h]
  · rfl
theorem hit_val {s s' : CS} (h : s.val = s'.val) (its : List Itm) (key : ByteArray) (p : Int × Int) (n : Int) : hit its s key p n = hit its s' key p n := by unfold hit; rw [h]
theorem fhit_val {s s' : CS} (h : s.val = s'.val) (its : List Itm) (key : ByteArray) (p : Int × Int) (N : List Nat) : fhit its s key p N = fhit its s' key p N := by
  induction N with
  | nil => rfl
  | cons n N ih => simp only [fhit, hit_val h, ih]
theorem scan_val {s s' : CS} (h : s.val = s'.val) (its : List Itm) (key : ByteArray) (ls : List Ld) : scan its s key ls = scan its s' key ls := by
  induction ls with
  | nil => rfl
  | cons l r ih =>
    cases l with
    | tab => rfl
    | tag p => simp only [scan, fhit_val h, h, ih]
    | itm p n => simp only [scan, hit_val h, ih]
theorem cost_val {s s' : CS} (h : s.val = s'.val) (key : ByteArray) (ls : List Ld) : cost s key ls = cost s' key ls := by
  induction ls with
  | nil => rfl
  | cons l r ih =>
    cases l with
    | tab => rfl
    | tag p => simp only [cost, h, ih]
    | itm p n => simp only [cost, ih]
def FW.at_ (s : CS) (f : FW) : Option ((Int × Int) × Int) → FW
  | none => f
  | some (p, n) => { f with b := p.1, u := p.2, k := n, ref := wrap64 (s.val (itemA p.1 p.2 n)) }
/-- A run that has steps enough finds the first slot, and is over. -/
theorem fiter_scan (its : List Itm) (m : Nat) : ∀ (s : CS) (f : FW) (ls : List Ld), (∀ l ∈ ls, l ≠ .tab) → cost s f.key ls ≤ m → (fiter its m s f ls).2.2 = (f.at_ s (scan its s f.key ls), []) ∧ (fiter its m s f ls).2.1.val = s.val := by
  induction m with
  | zero =>
    intro s f ls ht hc
    cases ls with
    | nil => exact ⟨rfl, rfl⟩
    | cons l r =>
      cases l with
      | tab => exact absurd rfl (ht .tab (by simp))
      | tag p => simp only [cost] at hc; omega
      | itm p n => simp only [cost] at hc; omega
  | succ m ih =>
    intro s f ls ht hc
    cases ls with
    | nil => exact ⟨rfl, rfl⟩
    | cons l r =>
      have htr : ∀ l ∈ r, l ≠ .tab := fun l' h => ht l' (List.mem_cons_of_mem _ h)
      cases l with
      | tab => exact absurd rfl (ht .tab (by simp))
      | tag p =>
        have hv := load_val s (tagsA p.1 p.2)
        have := ih (s.acc 1 (tagsA p.1 p.2) (s.val (tagsA p.1 p.2))) f ((has (s.val (tagsA p.1 p.2)) (tag01 (hashOf f.key)) 4).map (fun (n : Nat) => Ld.itm p n) ++ r)
          (fun l hl => by
            rcases List.mem_append.1 hl with hl | hl
            · obtain ⟨n, -, rfl⟩ := List.mem_map.1 hl; intro c; cases c
            · exact htr l hl)
          (by rw [cost_val hv, cost_app]; simp only [cost] at hc; omega)
        rw [scan_val hv, scan_app, hv] at this
        refine ⟨?_, this.2⟩
        show (fiter its m (s.acc 1 (tagsA p.1 p.2) (s.val (tagsA p.1 p.2))) f ((has (s.val (tagsA p.1 p.2)) (tag01 (hashOf f.key)) 4).map (fun (n : Nat) => Ld.itm p n) ++ r)).2.2 = _
        rw [this.1]
        simp only [scan]
        cases (fhit its s f.key p (has (s.val (tagsA p.1 p.2)) (tag01 (hashOf f.key)) 4)).orElse fun _ => scan its s f.key r with
        | none => rfl
        | some x => simp only [FW.at_, hv]
      | itm p n =>
        have hv := load_val s (itemA p.1 p.2 n)
        by_cases hh : hit its s f.key p n = true
        · have hf : fnext its s f r (.itm p n) = ({ f with b := p.1, u := p.2, k := n, ref := wrap64 (s.val (itemA p.1 p.2 n)) }, []) := if_pos hh
          simp only [fiter, hf, fiter_nil, scan, if_pos hh, FW.at_]
          exact ⟨trivial, hv⟩
        · have hf : fnext its s f r (.itm p n) = (f, r) := if_neg hh
          have := ih (s.acc 1 (itemA p.1 p.2 n) (s.val (itemA p.1 p.2 n))) f r htr (by rw [cost_val hv]; simp only [cost] at hc; omega)
          rw [scan_val hv, hv] at this
          simp only [fiter, hf, scan, if_neg hh]
          refine ⟨?_, this.2⟩
          show (fiter its m (s.acc 1 (itemA p.1 p.2 n) (s.val (itemA p.1 p.2 n))) f r).2.2 = _
          rw [this.1]
          cases scan its s f.key r with
          | none => rfl
          | some x => simp only [FW.at_, hv]
/-- How many steps that takes. -/
theorem fiter_steps (its : List Itm) (m : Nat) : ∀ (s : CS) (f : FW) (ls : List Ld), (∀ l ∈ ls, l ≠ .tab) → cost s f.key ls ≤ m → (fiter its m s f ls).1 ≤ cost s f.key ls ∧ (scan its s f.key ls = none → (fiter its m s f ls).1 = cost s f.key ls) ∧ (ls ≠ [] → 1 ≤ (fiter its m s f ls).1) := by
  induction m with
  | zero =>
    intro s f ls ht hc
    cases ls with
    | nil => exact ⟨Nat.le_refl _, fun _ => rfl, fun h => absurd rfl h⟩
    | cons l r =>
      cases l with
      | tab => exact absurd rfl (ht .tab (by simp))
      | tag p => simp only [cost] at hc; omega
      | itm p n => simp only [cost] at hc; omega
  | succ m ih =>
    intro s f ls ht hc
    cases ls with
    | nil => exact ⟨Nat.le_refl _, fun _ => rfl, fun h => absurd rfl h⟩
    | cons l r =>
      have htr : ∀ l ∈ r, l ≠ .tab := fun l' h => ht l' (List.mem_cons_of_mem _ h)
      cases l with
      | tab => exact absurd rfl (ht .tab (by simp))
      | tag p =>
        have hv := load_val s (tagsA p.1 p.2)
        have := ih (s.acc 1 (tagsA p.1 p.2) (s.val (tagsA p.1 p.2))) f ((has (s.val (tagsA p.1 p.2)) (tag01 (hashOf f.key)) 4).map (fun (n : Nat) => Ld.itm p n) ++ r)
          (fun l hl => by
            rcases List.mem_append.1 hl with hl | hl
            · obtain ⟨n, -, rfl⟩ := List.mem_map.1 hl; intro c; cases c
            · exact htr l hl)
          (by rw [cost_val hv, cost_app]; simp only [cost] at hc; omega)
        rw [scan_val hv, scan_app, cost_val hv, cost_app] at this
        obtain ⟨h1, h2, -⟩ := this
        refine ⟨?_, fun hn => ?_, fun _ => ?_⟩
        · show (fiter its m (s.acc 1 (tagsA p.1 p.2) (s.val (tagsA p.1 p.2))) f ((has (s.val (tagsA p.1 p.2)) (tag01 (hashOf f.key)) 4).map (fun (n : Nat) => Ld.itm p n) ++ r)).1 + 1 ≤ _
          simp only [cost]; omega
        · have h3 := h2 hn
          show (fiter its m (s.acc 1 (tagsA p.1 p.2) (s.val (tagsA p.1 p.2))) f ((has (s.val (tagsA p.1 p.2)) (tag01 (hashOf f.key)) 4).map (fun (n : Nat) => Ld.itm p n) ++ r)).1 + 1 = _
          simp only [cost]; omega
        · show 1 ≤ (fiter its m (s.acc 1 (tagsA p.1 p.2) (s.val (tagsA p.1 p.2))) f ((has (s.val (tagsA p.1 p.2)) (tag01 (hashOf f.key)) 4).map (fun (n : Nat) => Ld.itm p n) ++ r)).1 + 1
          omega
      | itm p n =>
        have hv := load_val s (itemA p.1 p.2 n)
        by_cases hh : hit its s f.key p n = true
        · have hf : fnext its s f r (.itm p n) = ({ f with b := p.1, u := p.2, k := n, ref := wrap64 (s.val (itemA p.1 p.2 n)) }, []) := if_pos hh
          simp only [fiter, hf, fiter_nil, scan, if_pos hh, cost]
          exact ⟨by omega, fun h => (by cases h), fun _ => by omega⟩
        · have hf : fnext its s f r (.itm p n) = (f, r) := if_neg hh
          have := ih (s.acc 1 (itemA p.1 p.2 n) (s.val (itemA p.1 p.2 n))) f r htr (by rw [cost_val hv]; simp only [cost] at hc; omega)
          rw [scan_val hv, cost_val hv] at this
          obtain ⟨h1, h2, -⟩ := this
          simp only [fiter, hf, scan, if_neg hh, cost, ldA]
          exact ⟨by omega, fun h => by have := h2 h; omega, fun _ => by omega⟩
theorem fhit_app (its : List Itm) (s : CS) (key : ByteArray) (p : Int × Int) (A C : List Nat) : fhit its s key p (A ++ C) = (fhit its s key p A).orElse fun _ => fhit its s key p C := by
  induction A with
  | nil => rfl
  | cons n A ih =>
    by_cases h : hit its s key p (n : Int) = true
    · simp only [List.cons_append, fhit, if_pos h]; rfl
    · simp only [List.cons_append, fhit, if_neg h, ih]
/-- Has this slot the key? -/
def holds (its : List Itm) (s : CS) (key : ByteArray) (p : Int × Int) (n : Nat) : Bool := decide (tg (s.val (tagsA p.1 p.2)) n = tag01 (hashOf key)) && hit its s key p (n : Int)
theorem fhit_has (its : List Itm) (s : CS) (key : ByteArray) (p : Int × Int) (k : Nat) : fhit its s key p (has (s.val (tagsA p.1 p.2)) (tag01 (hashOf key)) k) = ((List.range k).find? (holds its s key p)).map fun n => (p, (n : Int)) := by
  induction k with
  | zero => rfl
  | succ k ih =>
    rw [List.range_succ, List.find?_append]
    show fhit its s key p (has (s.val (tagsA p.1 p.2)) (tag01 (hashOf key)) k ++ if tg (s.val (tagsA p.1 p.2)) k = tag01 (hashOf key) then [k] else []) = _
    rw [fhit_app, ih]
    cases hf : (List.range k).find? (holds its s key p) with
    | some x => rfl
    | none =>
      by_cases ht : tg (s.val (tagsA p.1 p.2)) k = tag01 (hashOf key)
      · by_cases hh : hit its s key p (k : Int) = true
        · simp [ht, fhit, hh, holds]
        · simp [ht, fhit, hh, holds]
      · simp [ht, fhit, holds]
/-- The slots of places, in their order. -/
def slotsL (L : List (Int × Int)) : List ((Int × Int) × Nat) := L.flatMap fun p => (List.range 4).map fun n => (p, n)
theorem scan_tags (its : List Itm) (s : CS) (key : ByteArray) (L : List (Int × Int)) : scan its s key (L.map Ld.tag) = ((slotsL L).find? fun x => holds its s key x.1 x.2).map fun x => (x.1, (x.2 : Int)) := by
  induction L with
  | nil => rfl
  | cons p L ih =>
    show (fhit its s key p (has (s.val (tagsA p.1 p.2)) (tag01 (hashOf key)) 4)).orElse (fun _ => scan its s key (L.map Ld.tag)) = _
    rw [ih, fhit_has]
    show _ = (((List.range 4).map (fun n => (p, n)) ++ slotsL L).find? fun x => holds its s key x.1 x.2).map fun x => (x.1, (x.2 : Int))
    rw [List.find?_append, List.find?_map]
    show _ = Option.map _ (((List.range 4).find? (fun n => holds its s key p n)).map (fun n => (p, n)) |>.or _)
    cases (List.range 4).find? (holds its s key p) with
    | some x => rfl
    | none => rfl
theorem cost_tags (s : CS) (key : ByteArray) (L : List (Int × Int)) : L.length ≤ cost s key (L.map Ld.tag) ∧ cost s key (L.map Ld.tag) ≤ 5 * L.length := by
  induction L with
  | nil => exact ⟨Nat.le_refl _, Nat.le_refl _⟩
  | cons p L ih =>
    have := has_le (s.val (tagsA p.1 p.2)) (tag01 (hashOf key)) 4
    show L.length + 1 ≤ 1 + (has (s.val (tagsA p.1 p.2)) (tag01 (hashOf key)) 4).length + cost s key (L.map Ld.tag) ∧ 1 + (has (s.val (tagsA p.1 p.2)) (tag01 (hashOf key)) 4).length + cost s key (L.map Ld.tag) ≤ 5 * (L.length + 1)
    omega
/-- What 'slots' tells: the first, its item, how many. -/
def slStep {X : Type} (P : X → Bool) (g : X → Int) (a : X × Int × Nat) (x : X) : X × Int × Nat := if P x = true then (if a.2.2 = 0 then (x, g x, 1) else (a.1, a.2.1, a.2.2 + 1)) else a
theorem slots_some {X : Type} (P : X → Bool) (g : X → Int) (l : List X) : ∀ a : X × Int × Nat, a.2.2 ≠ 0 → l.foldl (slStep P g) a = (a.1, a.2.1, a.2.2 + l.countP P) := by
  induction l with
  | nil => intro a _; rfl
  | cons x l ih =>
    intro a ha
    rw [List.foldl_cons]
    by_cases h : P x = true
    · have e : slStep P g a x = (a.1, a.2.1, a.2.2 + 1) := by unfold slStep; rw [if_pos h, if_neg ha]
      rw [e, ih _ (by simp), List.countP_cons_of_pos h]
      simp only [Prod.mk.injEq, true_and]; omega
    · have e : slStep P g a x = a := by unfold slStep; rw [if_neg h]
      rw [e, ih _ ha, List.countP_cons_of_neg h]
theorem slots_law {X : Type} (P : X → Bool) (g : X → Int) (z : X) (l : List X) : l.foldl (slStep P g) (z, 0, 0) = match l.find? P with
    | none => (z, 0, 0)
    | some x => (x, g x, l.countP P) := by
  induction l with
  | nil => rfl
  | cons x l ih =>
    rw [List.foldl_cons]
    by_cases h : P x = true
    · have e : slStep P g (z, 0, 0) x = (x, g x, 1) := by unfold slStep; rw [if_pos h]; rfl
      rw [e, slots_some _ _ _ _ (by simp), List.find?_cons_of_pos h, List.countP_cons_of_pos h]
      simp only [Prod.mk.injEq, true_and]; omega
    · have e : slStep P g (z, 0, 0) x = (z, 0, 0) := by unfold slStep; rw [if_neg h]
      rw [e, ih, List.find?_cons_of_neg h]
      cases hf : l.find? P with
      | none => rfl
      | some y => rw [List.countP_cons_of_neg h]
end Go.Proofs.YtmafjaallfngeaaGreat

/-
  The slots that have a key, as the statements go through them.
-/
namespace Go.Proofs.YtmafjaallfngeaaGreat
open Go.RowKit Go.Maps TagPure
set_option linter.unusedVariables false

theorem tagOf_tg (x : Int) (n : Nat) (h : n < 4) : tagOf x (n : Int) = tg x n := by unfold tagOf; rw [if_pos (by omega)]; simp
abbrev SlAcc := ((Int × Int) × Nat) × Int × Nat
/-- What is told of some slots. -/
def slFold (its : List Itm) (s : CS) (key : ByteArray) (l : List ((Int × Int) × Nat)) : SlAcc := l.foldl (slStep (fun x => holds its s key x.1 x.2) (fun x => wrap64 (s.val (itemA x.1.1 x.1.2 x.2)))) (((0, 0), 0), 0, 0)
def slUpto (L : List (Int × Int)) (i : Nat) (p : Int × Int) (k : Nat) : List ((Int × Int) × Nat) := slotsL (L.take i) ++ (List.range k).map fun n => (p, n)
theorem slUpto_zero (L : List (Int × Int)) (i : Nat) (p : Int × Int) : slUpto L i p 0 = slotsL (L.take i) := by simp [slUpto]
theorem slUpto_four (L : List (Int × Int)) (i : Nat) (p : Int × Int) (h : L[i]? = some p) : slUpto L i p 4 = slotsL (L.take (i + 1)) := by
  unfold slUpto slotsL
  rw [List.take_add_one, h, List.flatMap_append]; simp
theorem slFold_next (its : List Itm) (s : CS) (key : ByteArray) (L : List (Int × Int)) (i : Nat) (p : Int × Int) (k : Nat) : slFold its s key (slUpto L i p (k + 1)) = slStep (fun x => holds its s key x.1 x.2) (fun x => wrap64 (s.val (itemA x.1.1 x.1.2 x.2))) (slFold its s key (slUpto L i p k)) (p, k) := by
  unfold slFold slUpto
  rw [List.range_succ, List.map_append, ← List.append_assoc, List.foldl_append]
  rfl
/-- The block that has the first one. -/
def SlQ (w : World) (q : Nat) (x : (Int × Int) × Nat) : Prop := w.heap[q]? = some (.cells #[.int .i64 x.1.1, .int .i64 x.1.2, .int .i64 (x.2 : Int)] 39 (0, 0))
theorem spot_res (W : World) (q : Nat) (a b c : Int) (h : W.heap[q]? = some (.cells #[.int .i64 a, .int .i64 b, .int .i64 c] 39 (0, 0))) : W.cell? ⟨q, 0, none⟩ = some (.int .i64 a) ∧ W.cell? ⟨q, 1, none⟩ = some (.int .i64 b) ∧ W.cell? ⟨q, 2, none⟩ = some (.int .i64 c) ∧ W.frozen? ⟨q, 0, none⟩ = false ∧ W.frozen? ⟨q, 1, none⟩ = false ∧ W.frozen? ⟨q, 2, none⟩ = false := ⟨hcell h 0, hcell h 1, hcell h 2, hfrz h 0, hfrz h 1, hfrz h 2⟩
set_option maxRecDepth 10000 in
set_option maxHeartbeats 4000000 in
theorem slots_any {w0 w : World} {B : WB} {V : WV} {s : CS} (h : WS w0 w B V s) (hl : V.its.length ≤ 1048576) (key : ByteArray) (hk : key.size ≤ 1000000) :
    Calls Tryz.prog 13 #[.pointer (some ⟨B.wb, 0, none⟩), .string key] w fun e w' => e = .returned (.tuple #[.agg #[.int .i64 (slFold V.its s key (slotsL (plist (hashOf key) (s.val 2)))).1.1.1, .int .i64 (slFold V.its s key (slotsL (plist (hashOf key) (s.val 2)))).1.1.2, .int .i64 ((slFold V.its s key (slotsL (plist (hashOf key) (s.val 2)))).1.2 : Int)], .int .i64 (slFold V.its s key (slotsL (plist (hashOf key) (s.val 2)))).2.1, .int .i64 ((slFold V.its s key (slotsL (plist (hashOf key) (s.val 2)))).2.2 : Int)]) ∧ Below w.heap.size w w' := by
  have hH := Lib.hid (fun W => hash_any key hk W)
  obtain ⟨ha0, ha1⟩ := hfold_bd key key.size
  have hP := Lib.hid (fun W => places_any (hashOf key) (s.val 2) ha0 ha1 (h.own.wf 2) W)
  have hT := Lib.hid (fun W => tag_fn (hashOf key) ha0 ha1 W)
  have hpl := plist_len (hashOf key) (s.val 2)
  obtain ⟨L, hL⟩ : ∃ L, L = plist (hashOf key) (s.val 2) := ⟨_, rfl⟩
  rw [← hL] at hP hpl ⊢
  have H := Lib.hid h; have HLL := Lib.hid hl; have HPL := Lib.hid hpl
  have hb1 := below_alloc w (.cells #[.int .i64 0, .int .i64 0, .int .i64 0] 39)
  have hz1 := heap_alloc_new w (.cells #[.int .i64 0, .int .i64 0, .int .i64 0] 39)
  have HB1 := Lib.hid hb1; have HZ1 := Lib.hid hz1
  have HSZ := Lib.hid (show (w.alloc (.cells #[.int .i64 0, .int .i64 0, .int .i64 0] 39)).heap.size = w.heap.size + 1 by simp)
  clear h hl hk ha0 ha1 hL hpl hb1 hz1
  go_enter Tryz.func13, Tryz.ntmps13
  go_upto_region 1 with (fail)
  change Code.wp _ _ _ _ (w.alloc (.cells #[.int .i64 0, .int .i64 0, .int .i64 0] 39))
  generalize w.alloc (.cells #[.int .i64 0, .int .i64 0, .int .i64 0] 39) = w1 at *
  obtain ⟨q, hq⟩ : ∃ q, q = w.heap.size := ⟨_, rfl⟩
  rw [← hq] at HZ1 HSZ ⊢
  have HQ := Lib.hid hq
  clear hq
  generalize hash : hashOf key = hsh at hH hP hT
  have HASH := Lib.hid hash
  clear hash
  go_upto_region 2 with (go_at_call 14; refine (hH.out _).mono ?_; intro e w2 hh; obtain ⟨hh1, b2⟩ := hh; subst hh1; have B2 := Lib.hid b2; clear b2 hH)
  have hw2 := H.out.keep (HB1.out.trans (B2.out.mono HB1.out.size))
  have hpk := hw2.peek 2 (by decide)
  have c0 := hw2.c0
  clear hw2
  go_upto_region 3 with (first
    | (go_at_call 16; refine hpk.mono ?_; intro e w' hh; obtain ⟨hh1, hh2⟩ := hh; subst hh1; obtain rfl := hh2.symm; clear hpk)
    | (go_at_call 15; refine (hP.out _).mono ?_; intro e w3 hh; obtain ⟨pv, hh1, hp, b3⟩ := hh; subst hh1; have HPN := Lib.hid hp; have B3 := Lib.hid b3; clear hp b3 hP c0))
  have hz3 : w3.heap[q]? = some (.cells #[.int .i64 0, .int .i64 0, .int .i64 0] 39 (0, 0)) := by
    have g2 := (B2.out.block _ (Array.getElem?_eq_some_iff.1 HZ1.out).1).trans HZ1.out
    exact (B3.out.block _ (Array.getElem?_eq_some_iff.1 g2).1).trans g2
  have HB3 := Lib.hid ((HB1.out.trans (B2.out.mono HB1.out.size)).trans (B3.out.mono (HB1.out.trans (B2.out.mono HB1.out.size)).size))
  have HQ2 := Lib.hid (show q < w2.heap.size by have h1 := B2.out.size; have h2 := HSZ.out; omega)
  have HZ3 := Lib.hid hz3
  obtain ⟨ao, rfl, -⟩ := HPN.out.plc
  have hplc : ∀ W, Keeps (· = q) w3 W → Plc W ao L.length L := fun W hW => by
    obtain ⟨ao', he, hx⟩ := (HPN.out.keeps hW (fun j hj => by have := HQ2.out; omega)).plc
    simp only [Value.slice.injEq] at he
    rw [he.1]; exact hx
  have HPLC := Lib.hid hplc
  have hqlo : w.heap.size ≤ q := Nat.le_of_eq HQ.out.symm
  have hkb : ∀ W, Keeps (· = q) w3 W → Below w.heap.size w W := fun W hW => keeps_below hW HB3.out HB3.out.size (fun j hj => by omega)
  have HKB := Lib.hid hkb
  clear hplc hkb
  clear hz3 B2 B3 HB1 HZ1 HSZ
  go_wp2_with fail
  go_loopw [5, 6, 9] (fun v5 v6 i wr => ∃ (k : Nat) (A : SlAcc), k ≤ L.length ∧ i = .int .i64 k ∧ v5 = .int .i64 A.2.1 ∧ v6 = .int .i64 (A.2.2 : Int) ∧ Hid (A = slFold V.its s key (slotsL (L.take k))) ∧ A.2.2 ≤ 4 * k ∧ SlQ wr q A.1 ∧ Keeps (· = q) w3 wr) (fun _ _ i _ => L.length - (intOf i).toNat)
  case atStart => exact ⟨0, (((0, 0), 0), 0, 0), by omega, rfl, rfl, rfl, rfl, Nat.le_refl _, HZ3.out, below_keeps (Below.refl _ _) _⟩
  case round =>
    obtain ⟨k, A, hk, rfl, rfl, rfl, HA, hcnt, hz, hK⟩ := hrel
    by_cases hlt : k < L.length
    · have hlt' : (k : Int) < L.length := by omega
      have HLT := Lib.hid hlt; have HZ := Lib.hid hz; have HK := Lib.hid hK; have HCNT := Lib.hid hcnt
      obtain ⟨⟨p1, p2⟩, hp⟩ : ∃ p, L[k]? = some p := ⟨L[k], List.getElem?_eq_getElem hlt⟩
      have HP := Lib.hid hp
      have HK16 := Lib.hid (show 4 * k + 4 ≤ 100 by have := HPL.out; omega)
      clear hlt hz hK hcnt hk hp
      go_wp2_with fail
      go_loopw [5, 6, 10] (fun v5 v6 i wr => ∃ (n : Nat) (A : SlAcc), n ≤ 4 ∧ i = .int .i64 n ∧ v5 = .int .i64 A.2.1 ∧ v6 = .int .i64 (A.2.2 : Int) ∧ Hid (A = slFold V.its s key (slUpto L k (p1, p2) n)) ∧ A.2.2 ≤ 4 * k + n ∧ SlQ wr q A.1 ∧ Keeps (· = q) w3 wr) (fun _ _ i _ => 4 - (intOf i).toNat)
      case atStart => exact ⟨0, A, by omega, rfl, rfl, rfl, by rw [slUpto_zero]; exact HA, HCNT.out, HZ.out, HK.out⟩
      case round =>
        clear HA HZ HK HCNT
        obtain ⟨n, A, hn, rfl, rfl, rfl, HA, hcnt, hz, hK⟩ := hrel
        by_cases hn4 : n < 4
        · have hn4' : (n : Int) < 4 := by omega
          obtain ⟨g, o, x, y, hao, hxy, g0, g1⟩ := (HPLC.out wr hK).at k HLT.out
          rw [HP.out] at hxy
          simp only [Option.some.injEq, Prod.mk.injEq] at hxy
          obtain ⟨rfl, rfl⟩ := hxy
          obtain rfl := hao
          have hb5 := below_alloc wr (.cells #[.int .i64 p1, .int .i64 p2, .int .i64 n] 39)
          have hz5 := heap_alloc_new wr (.cells #[.int .i64 p1, .int .i64 p2, .int .i64 n] 39)
          have HK5 := Lib.hid (hK.again (below_keeps hb5 (· = q)))
          have HQ5 : Hid (SlQ _ q A.1) := (hb5.block _ (Array.getElem?_eq_some_iff.1 hz).1).trans hz
          have HZ5 := Lib.hid hz5
          have HNQ := Lib.hid (show q ≠ wr.heap.size from Nat.ne_of_lt (Array.getElem?_eq_some_iff.1 hz).1)
          have HCN := Lib.hid hcnt; have HN4 := Lib.hid hn4
          clear hb5 hz5 hK hz hcnt hn hn4
          go_upto_region 10 with (fail)
          change Code.wp _ _ _ _ (wr.alloc (.cells #[.int .i64 p1, .int .i64 p2, .int .i64 n] 39))
          clear g0 g1
          generalize wr.alloc (.cells #[.int .i64 p1, .int .i64 p2, .int .i64 n] 39) = w5 at *
          generalize wr.heap.size = sb at *
          have hnw : (Lit.int .i64 (n : Int)).wf = true := by have := HN4.out; simp [Lit.wf, IntKind.min, IntKind.max, IntKind.bits, IntKind.signed]; omega
          have hw5 := H.out.keep (HKB.out _ HK5.out)
          have hsl := slot_any hw5 p1 p2 n hnw
          rw [tagOf_tg _ _ HN4.out] at hsl
          obtain ⟨tv, htv⟩ : ∃ tv, tv = tg (s.val (tagsA p1 p2)) n := ⟨_, rfl⟩
          obtain ⟨iv, hiv⟩ : ∃ iv, iv = s.val (itemA p1 p2 n) := ⟨_, rfl⟩
          obtain ⟨ref, href⟩ : ∃ ref, ref = wrap64 iv := ⟨_, rfl⟩
          rw [← htv, ← hiv] at hsl
          have HTV := Lib.hid htv; have HIV := Lib.hid hiv; have HREF := Lib.hid href
          obtain ⟨x0, x1, x2, -, -, -⟩ := spot_res _ _ _ _ _ HZ5.out
          clear htv hiv href hnw hw5
          go_upto_region 11 with (go_at_call 66; refine hsl.mono ?_; intro e w6 hh; obtain ⟨hh1, b6⟩ := hh; subst hh1; have HK6 := Lib.hid (HK5.out.again (below_keeps b6 (· = q))); have HQ6 : Hid (SlQ _ q A.1) := (b6.block _ (Array.getElem?_eq_some_iff.1 HQ5.out).1).trans HQ5.out; have HZ6 := Lib.hid ((b6.block _ (Array.getElem?_eq_some_iff.1 HZ5.out).1).trans HZ5.out); clear b6 hsl x0 x1 x2 HK5 HQ5 HZ5)
          have hw6 := H.out.keep (HKB.out _ HK6.out)
          have hat := hw6.iat5 HLL.out ref
          have y1 := hw6.hd5.2.1
          have er1 : wrap64 iv = ref := HREF.out.symm
          have er2 : IntKind.i64.wrap iv = ref := (IntWalk.i64_left _).trans HREF.out.symm
          obtain ⟨it, hit⟩ : ∃ it, it = (atOf V.its ref).1 := ⟨_, rfl⟩
          obtain ⟨is, his⟩ : ∃ is, is = (atOf V.its ref).2 := ⟨_, rfl⟩
          rw [← hit, ← his] at hat
          have HIT := Lib.hid hit; have HIS := Lib.hid his
          clear hw6 hit his
          go_upto_region 12 with (go_at_call 35; refine hat.mono ?_; intro e w7 hh; obtain ⟨hh1, b7⟩ := hh; subst hh1; have HK7 := Lib.hid (HK6.out.again (below_keeps b7 (· = q))); have HQ7 : Hid (SlQ _ q A.1) := (b7.block _ (Array.getElem?_eq_some_iff.1 HQ6.out).1).trans HQ6.out; have HZ7 := Lib.hid ((b7.block _ (Array.getElem?_eq_some_iff.1 HZ6.out).1).trans HZ6.out); clear b7 hat y1 HK6 HQ6 HZ6)
          change Code.wp _ _ _ _ (w7.alloc (.cells it.cells.toArray 59))
          have hb8 := below_alloc w7 (.cells it.cells.toArray 59)
          have hz8 := heap_alloc_new w7 (.cells it.cells.toArray 59)
          have HK8 := Lib.hid (HK7.out.again (below_keeps hb8 (· = q)))
          have HQ8 : Hid (SlQ _ q A.1) := (hb8.block _ (Array.getElem?_eq_some_iff.1 HQ7.out).1).trans HQ7.out
          have HS8 := Lib.hid ((hb8.block _ (Array.getElem?_eq_some_iff.1 HZ7.out).1).trans HZ7.out)
          have HZ8 := Lib.hid hz8
          clear hb8 hz8 er1 er2 HK7 HQ7 HZ7
          generalize w7.alloc (.cells it.cells.toArray 59) = w8 at *
          generalize w7.heap.size = tb at *
          have htf := hT.out
          obtain ⟨tw, htw⟩ : ∃ tw, tw = tag01 hsh := ⟨_, rfl⟩
          rw [← htw] at htf
          have HTW := Lib.hid htw
          clear htw
          obtain ⟨d, hd⟩ : ∃ d, d = (decide (tv = tw) && (is && decide (it.key = key))) := ⟨_, rfl⟩
          have hdh : d = holds V.its s key (p1, p2) n := by
            rw [hd]; unfold holds hit; rw [HTV.out, HTW.out, HASH.out.symm, HIS.out, HIT.out, HREF.out, HIV.out]
          have HDH := Lib.hid hdh
          have HD := Lib.hid hd
          clear hd hdh
          go_cut [70] (fun v70 wx => v70 = .bool (!d) ∧ wx = w8)
          case first =>
            have c0 : w8.cell? ⟨tb, 0, none⟩ = some (.string it.key) := hcell HZ8.out 0
            by_cases htt : tv = tw
            · subst htt
              cases is
              · go_wp2_with (go_at_call 20; refine (htf _).mono ?_; intro e w' hh; obtain ⟨hh1, hh2⟩ := hh; subst hh1; obtain rfl := hh2.symm)
                all_goals go_meet
                all_goals exact ⟨by rw [HD.out]; simp, rfl⟩
              · by_cases hke : it.key = key
                · rw [hke] at c0
                  have HKE := Lib.hid hke
                  clear hke
                  go_wp2_with (go_at_call 20; refine (htf _).mono ?_; intro e w' hh; obtain ⟨hh1, hh2⟩ := hh; subst hh1; obtain rfl := hh2.symm)
                  all_goals go_meet
                  all_goals exact ⟨by rw [HD.out, decide_eq_true HKE.out]; simp, rfl⟩
                · have HKE := Lib.hid hke
                  have kn := key_ne hke
                  clear hke
                  go_wp2_with (go_at_call 20; refine (htf _).mono ?_; intro e w' hh; obtain ⟨hh1, hh2⟩ := hh; subst hh1; obtain rfl := hh2.symm)
                  all_goals go_meet
                  all_goals exact ⟨by rw [HD.out, decide_eq_false HKE.out]; simp, rfl⟩
            · have HTT := Lib.hid htt
              have tn : (tv == tw) = false := beq_eq_false_iff_ne.2 htt
              have tn2 : (tv != tw) = true := bne_iff_ne.2 htt
              clear htt
              go_wp2_with (go_at_call 20; refine (htf _).mono ?_; intro e w' hh; obtain ⟨hh1, hh2⟩ := hh; subst hh1; obtain rfl := hh2.symm)
              all_goals go_meet
              all_goals exact ⟨by rw [HD.out, decide_eq_false HTT.out]; simp, rfl⟩
          case rest =>
            obtain ⟨rfl, rfl⟩ := hcut
            clear htf
            have hnx := slFold_next V.its s key L k (p1, p2) n
            rw [← HA.out] at hnx
            cases d
            · have hst : slFold V.its s key (slUpto L k (p1, p2) (n + 1)) = A := by rw [hnx]; unfold slStep; rw [if_neg (by simp only [← HDH.out]; decide)]
              have HST := Lib.hid hst
              clear hnx hst
              go_wp2
              go_roundw
              case rel => exact ⟨n + 1, A, HN4.out, by go_num, rfl, rfl, HST.out.symm, by have := HCN.out; omega, HQ8.out, HK8.out⟩
              case measure => simp [intOf]; omega
            · have hh : holds V.its s key (p1, p2) n = true := HDH.out.symm
              have hgr : wrap64 (s.val (itemA p1 p2 n)) = ref := by rw [← HIV.out]; exact HREF.out.symm
              obtain ⟨m, hm⟩ : ∃ m, m = A.2.2 := ⟨_, rfl⟩
              rw [← hm]
              have hcm : m ≤ 100 := by have := HCN.out; have := HK16.out; have := HN4.out; omega
              have HM := Lib.hid hm
              obtain ⟨x0, x1, x2, -, -, -⟩ := spot_res _ _ _ _ _ HS8.out
              obtain ⟨y0, y1, y2, z0, z1, z2⟩ := spot_res _ _ _ _ _ HQ8.out
              by_cases hm0 : m = 0
              · have hst : slFold V.its s key (slUpto L k (p1, p2) (n + 1)) = (((p1, p2), n), ref, m + 1) := by rw [hnx]; unfold slStep; rw [if_pos hh, if_pos (by omega), hm0]; simp only [hgr]
                have HST := Lib.hid hst
                have e0 : ((m : Int) == 0) = true := beq_iff_eq.2 (by omega)
                have er1 : wrap64 iv = ref := HREF.out.symm
                have er2 : IntKind.i64.wrap iv = ref := (IntWalk.i64_left _).trans HREF.out.symm
                clear hnx hst hh hgr hm hm0
                go_wp2
                go_roundw
                case rel =>
                  have s1 := setCell_same HQ8.out 0 (.int .i64 p1)
                  have s2 := setCell_same s1 1 (.int .i64 p2)
                  have s3 := setCell_same s2 2 (.int .i64 (n : Int))
                  have k3 := ((HK8.out.again (setCell_keeps _ q 0 (.int .i64 p1))).again (setCell_keeps _ q 1 (.int .i64 p2))).again (setCell_keeps _ q 2 (.int .i64 (n : Int)))
                  exact ⟨n + 1, (((p1, p2), n), ref, m + 1), HN4.out, by go_num, rfl, by go_num, HST.out.symm, by have h1 := HCN.out; have h2 := HM.out; show m + 1 ≤ _; omega, s3, k3⟩
                case measure => have := HN4.out; simp [intOf]; omega
              · have hst : slFold V.its s key (slUpto L k (p1, p2) (n + 1)) = (A.1, A.2.1, m + 1) := by rw [hnx]; unfold slStep; rw [if_pos hh, if_neg (by omega), hm]
                have HST := Lib.hid hst
                have e0 : ((m : Int) == 0) = false := beq_eq_false_iff_ne.2 (by omega)
                clear hnx hst hh hgr hm hm0 x0 x1 x2 y0 y1 y2 z0 z1 z2
                go_wp2
                go_roundw
                case rel => exact ⟨n + 1, (A.1, A.2.1, m + 1), HN4.out, by go_num, rfl, by go_num, HST.out.symm, by have h1 := HCN.out; have h2 := HM.out; show m + 1 ≤ _; omega, HQ8.out, HK8.out⟩
                case measure => have := HN4.out; simp [intOf]; omega
        · obtain rfl : n = 4 := by omega
          rw [slUpto_four L k (p1, p2) HP.out] at HA
          have HZ := Lib.hid hz; have HK := Lib.hid hK; have HCNT := Lib.hid hcnt
          have hk5 : (k : Int) + 1 < 100 := by have := HK16.out; omega
          clear hz hK hcnt
          go_wp2
          go_roundw
          case rel => exact ⟨k + 1, A, HLT.out, by go_num, rfl, rfl, HA, by have := HCNT.out; omega, HZ.out, HK.out⟩
          case measure => have := HLT.out; simp [intOf]; omega
    · obtain rfl : k = L.length := by omega
      rw [List.take_length] at HA
      obtain ⟨y0, y1, y2, z0, z1, z2⟩ := spot_res _ _ _ _ _ hz
      have HZ := Lib.hid hz; have HK := Lib.hid hK
      clear hz hK hcnt
      go_wp2
      have s1 := setCell_same HZ.out 0 (.int .i64 A.1.1.1)
      have s2 := setCell_same s1 1 (.int .i64 A.1.1.2)
      have s3 := setCell_same s2 2 (.int .i64 (A.1.2 : Int))
      have h0 := hcell s3 0; have h1 := hcell s3 1; have h2 := hcell s3 2
      have k3 := ((HK.out.again (setCell_keeps _ q 0 (.int .i64 A.1.1.1))).again (setCell_keeps _ q 1 (.int .i64 A.1.1.2))).again (setCell_keeps _ q 2 (.int .i64 (A.1.2 : Int)))
      refine bodyPost_ret (v := .tuple #[.agg #[.int .i64 A.1.1.1, .int .i64 A.1.1.2, .int .i64 (A.1.2 : Int)], .int .i64 A.2.1, .int .i64 (A.2.2 : Int)]) (by simp [results, Tryz.results13, go_sem, h0, h1, h2]) rfl ⟨by rw [← HA.out], ?_⟩
      exact HKB.out _ k3
end Go.Proofs.YtmafjaallfngeaaGreat

/-
  FindsFirst: the plain law.
-/
namespace Go.Proofs.YtmafjaallfngeaaGreat
open Go.RowKit Go.Maps TagPure
set_option linter.unusedVariables false

def wthF (l : List (Int × Int)) (p : Int × Int) : List (Int × Int) := if p ∈ l then l else l ++ [p]
theorem dedup_grows (l : List (Int × Int)) : ∀ acc : List (Int × Int), acc.length ≤ (l.foldl wthF acc).length := by
  induction l with
  | nil => intro acc; exact Nat.le_refl _
  | cons p l ih =>
    intro acc
    refine Nat.le_trans ?_ (ih (wthF acc p))
    unfold wthF; split <;> simp
theorem dedup_pos (p : Int × Int) (l : List (Int × Int)) : 1 ≤ (dedup (p :: l)).length := dedup_grows l [p]
theorem fiter_tab (its : List Itm) (m : Nat) (s : CS) (f : FW) : fiter its (m + 1) s f [.tab] = ((fiter its m (s.acc 1 2 (s.val 2)) { f with word := s.val 2 } ((plist (hashOf f.key) (s.val 2)).map Ld.tag)).1 + 1, (fiter its m (s.acc 1 2 (s.val 2)) { f with word := s.val 2 } ((plist (hashOf f.key) (s.val 2)).map Ld.tag)).2) := rfl
theorem plist_pos (h v : Int) : 1 ≤ (plist h v).length := by
  have h12 := as_in12 v
  have hne : asOld v ≠ 0 := by have := h12.1; omega
  unfold plist
  have e : pairOf h (asOld v) = [(asOld v, bk h (asOld v)), (asOld v, oth (bk h (asOld v)) (tag01 h) (asOld v))] := pairOf_in h _ h12.1
  rw [e]
  exact dedup_pos _ _
theorem hit_pos {its : List Itm} {s : CS} {key : ByteArray} {p : Int × Int} {n : Int} (h : hit its s key p n = true) : 0 < wrap64 (s.val (itemA p.1 p.2 n)) := by
  unfold hit at h
  rw [Bool.and_eq_true] at h
  have h1 := h.1
  unfold atOf at h1
  split at h1
  · rename_i hc; omega
  · cases h1
structure FirstLaw (its : List Itm) (s : CS) (key : ByteArray) (L : List (Int × Int)) (A : SlAcc) (R : Nat × CS × FW × List Ld) : Prop where
  out : R.2.2 = (⟨key, s.val 2, A.1.1.1, A.1.1.2, (A.1.2 : Int), A.2.1⟩, [])
  val : R.2.1.val = s.val
  two : 2 ≤ R.1
  most : R.1 ≤ 1 + 5 * L.length
  more : 0 < A.2.1 ∨ L.length < R.1
  none : A.2.2 = 0 → A.1 = ((0, 0), 0) ∧ A.2.1 = 0
theorem first_law (its : List Itm) (s : CS) (key : ByteArray) (L : List (Int × Int)) (hL : L = plist (hashOf key) (s.val 2)) (m : Nat) (hm : 90 ≤ m) : FirstLaw its s key L (slFold its s key (slotsL L)) (fiter its (m + 1) s ⟨key, 0, 0, 0, 0, 0⟩ [.tab]) := by
  have hp := plist_pos (hashOf key) (s.val 2)
  have hq := plist_len (hashOf key) (s.val 2)
  rw [← hL] at hp hq
  obtain ⟨s1, hs1⟩ : ∃ s1, s1 = s.acc 1 2 (s.val 2) := ⟨_, rfl⟩
  have hv : s1.val = s.val := by rw [hs1]; exact load_val s 2
  obtain ⟨f1, hf1⟩ : ∃ f1 : FW, f1 = ⟨key, s.val 2, 0, 0, 0, 0⟩ := ⟨_, rfl⟩
  have hfk : f1.key = key := by rw [hf1]
  have hR : fiter its (m + 1) s ⟨key, 0, 0, 0, 0, 0⟩ [.tab] = ((fiter its m s1 f1 (L.map Ld.tag)).1 + 1, (fiter its m s1 f1 (L.map Ld.tag)).2) := by
    rw [fiter_tab, hs1, hf1, hL]
  have hc := cost_tags s1 f1.key L
  have ht : ∀ l ∈ L.map Ld.tag, l ≠ .tab := fun l hl => by obtain ⟨p, -, rfl⟩ := List.mem_map.1 hl; intro c; cases c
  have h1 := fiter_scan its m s1 f1 (L.map Ld.tag) ht (by omega)
  have h2 := fiter_steps its m s1 f1 (L.map Ld.tag) ht (by omega)
  have hne : L.map Ld.tag ≠ [] := by intro c; simp at c; rw [c] at hp; simp at hp
  have h3 := h2.2.2 hne
  rw [hfk, scan_val hv, scan_tags] at h1 h2
  rw [hR]
  rw [hfk] at hc
  cases hf : (slotsL L).find? (fun x => holds its s key x.1 x.2) with
  | none =>
    have hA : slFold its s key (slotsL L) = (((0, 0), 0), 0, 0) := by unfold slFold; rw [slots_law, hf]
    rw [hf] at h1 h2
    have h4 := h2.2.1 rfl
    refine ⟨?_, ?_, by omega, by omega, .inr (by show L.length < (fiter its m s1 f1 (L.map Ld.tag)).1 + 1; omega), fun _ => by rw [hA]; exact ⟨rfl, rfl⟩⟩
    · show (fiter its m s1 f1 (L.map Ld.tag)).2.2 = _
      rw [h1.1, hA, hf1]; rfl
    · show (fiter its m s1 f1 (L.map Ld.tag)).2.1.val = _
      rw [h1.2, hv]
  | some x =>
    have hA : slFold its s key (slotsL L) = (x, wrap64 (s.val (itemA x.1.1 x.1.2 x.2)), (slotsL L).countP (fun x => holds its s key x.1 x.2)) := by unfold slFold; rw [slots_law, hf]
    rw [hf] at h1
    have hh : holds its s key x.1 x.2 = true := List.find?_some (p := fun x : (Int × Int) × Nat => holds its s key x.1 x.2) hf
    have hm2 : 0 < (slotsL L).countP (fun x => holds its s key x.1 x.2) := List.countP_pos_iff.2 ⟨x, List.mem_of_find?_eq_some hf, hh⟩
    unfold holds at hh
    rw [Bool.and_eq_true] at hh
    have hpos := hit_pos hh.2
    refine ⟨?_, ?_, by omega, by omega, .inl ?_, fun c => ?_⟩
    · show (fiter its m s1 f1 (L.map Ld.tag)).2.2 = _
      rw [h1.1, hA, hf1]
      simp only [Option.map_some, FW.at_, hv]
    · show (fiter its m s1 f1 (L.map Ld.tag)).2.1.val = _
      rw [h1.2, hv]
    · rw [hA]; exact hpos
    · rw [hA] at c; simp only at c; omega
end Go.Proofs.YtmafjaallfngeaaGreat

/-
  FindsFirst: the walk.
-/
namespace Go.Proofs.YtmafjaallfngeaaGreat
open Go.RowKit Go.Maps TagPure
set_option linter.unusedVariables false

theorem ffacc (a b c d : Int) (W : World) : (Instr.field 111 (.agg #[.int .u8 a, .int .u64 b, .int .u64 c, .int .u64 d]) 0).run Tryz.prog W = .ok (.int .u8 a) W := by kernel_rfl
theorem wfrom_fx {w w' : World} {base fb : Nat} {a : Option Addr} {ws : List (Int × Int)} {K : TypeId → Bool} {mp : Bool} {f : FW} {ls : List Ld} (h : WFrom w base a ws 0) (hf : Fx K mp fb w w') (hK : K 115 = false) (hfb : FindAt w fb f ls) : WFrom w' base a ws 0 := by
  rcases h with h | ⟨g, cur, rfl, hgb, hg, hc⟩
  · exact .inl h
  · refine .inr ⟨g, cur, rfl, hgb, hf.cells _ _ _ _ hg hK fun c => ?_, hc⟩
    obtain ⟨v, h1, -⟩ := hfb
    rw [c, h1] at hg
    simp at hg
theorem wfrom_low {w w' : World} {base : Nat} {a : Option Addr} {ws : List (Int × Int)} (h : WFrom w base a ws 0) (hb : Below w.heap.size w w') : WFrom w' base a ws 0 := by
  rcases h with h | ⟨g, cur, rfl, hgb, hg, hc⟩
  · exact .inl h
  · exact .inr ⟨g, cur, rfl, hgb, (hb.block _ (Array.getElem?_eq_some_iff.1 hg).1).trans hg, hc⟩
theorem wfrom_at {w : World} {base : Nat} {a : Option Addr} {ws : List (Int × Int)} (h : WFrom w base a ws 0) (k : Nat) (hk : k < ws.length) : ∃ g, a = some ⟨g, 0, none⟩ ∧ w.cell? ⟨g, k * 2, none⟩ = some (.int .u64 (ws[k]).1) ∧ w.cell? ⟨g, k * 2 + 1, none⟩ = some (.int .u64 (ws[k]).2) := by
  rcases h with h | ⟨g, cur, rfl, _, hg, hc⟩
  · omega
  · obtain ⟨c1, c2⟩ := hc k (Nat.zero_le _) hk
    exact ⟨g, rfl, (hcell hg _).trans c1, (hcell hg _).trans c2⟩
/-- A block of a slot that stays beside a Find's steps. -/
def SpotB (w : World) (q : Nat) (a b c : Int) : Prop := w.heap[q]? = some (.cells #[.int .i64 a, .int .i64 b, .int .i64 c] 39 (0, 0))
theorem SpotB.below {w w' : World} {q : Nat} {a b c : Int} (h : SpotB w q a b c) (hb : Below w.heap.size w w') : SpotB w' q a b c := (hb.block _ (Array.getElem?_eq_some_iff.1 h).1).trans h
theorem SpotB.fx {w w' : World} {q fb : Nat} {a b c : Int} {f : FW} {ls : List Ld} (h : SpotB w q a b c) (hf : Fx wTy true fb w w') (hfb : FindAt w fb f ls) : SpotB w' q a b c := by
  refine hf.cells _ _ _ _ h rfl fun e => ?_
  obtain ⟨v, h1, -⟩ := hfb
  unfold SpotB at h
  rw [e, h1] at h
  simp at h
set_option maxRecDepth 100000 in
set_option maxHeartbeats 8000000 in
theorem ffirst_any (f : Fst) (key : ByteArray) (hkm : key.size ≤ maxLen) (w : World) (hr : FstRd w f) :
    Calls Tryz.prog 6 #[.agg #[.int .i64 f.c.bits, .int .i64 f.c.budget, .int .i64 f.c.tries, .int .i64 f.c.quantum, .int .i64 f.c.way, .bool f.gr, .slice f.ia f.its.length f.ic, .slice f.pa f.puts.length f.pc, .slice f.sa f.sts.length f.sc, .int .i64 f.ticks], .string key] w
    fun e w' => e = .returned (.bool true) ∧ Below w.heap.size w w' := by
  unfold maxLen at hkm
  have hB := below_alloc w (.cells f.cells 28)
  have z := heap_alloc_new w (.cells f.cells 28)
  have HR := Lib.hid (hr.below hB); have HB := Lib.hid hB; have HZ := Lib.hid z
  clear hr hB z
  go_enter Tryz.func6, Tryz.ntmps6
  go_upto_region 1 with (fail)
  change Code.wp _ _ _ _ (w.alloc (.cells f.cells 28))
  generalize w.alloc (.cells f.cells 28) = w1 at *
  have z := HZ.out
  obtain ⟨e0, e1, e2, e3, e4, e5, e6, e7, e8, e9⟩ := fst_cells z
  clear z
  by_cases h3 : 400 < key.size
  · have d3 : decide ((400 : Int) < key.size) = true := decide_eq_true (by omega)
    clear h3
    go_upto_if 26 with (go_at_call 10; refine (great_any f w1 HR.out).mono ?_; rintro e w2 ⟨g, rfl, b2, hg⟩; have B2 := Lib.hid b2; clear b2 hg e0 e1 e2 e3 e4 e5 e6 e7 e8 e9; cases g)
    all_goals
      go_wp2_with (go_at_call 11; refine (lives15 _).mono ?_; rintro e w3 ⟨rfl, b3⟩)
      go_ret
      have h1 := HB.out.trans (B2.out.mono HB.out.size)
      exact ⟨rfl, h1.trans (b3.mono h1.size)⟩
  have d3 : decide ((400 : Int) < key.size) = false := decide_eq_false (by omega)
  have HK4 : Hid (key.size ≤ 1000000) := by show key.size ≤ _; omega
  clear h3
  go_upto_if 26 with (go_at_call 10; refine (great_any f w1 HR.out).mono ?_; rintro e w2 ⟨g, rfl, b2, hg⟩; have B2 := Lib.hid b2; have HG := Lib.hid hg; clear b2 hg e0 e1 e2 e3 e4 e5 e6 e7 e8 e9; cases g)
  rotate_left
  · go_wp2_with (go_at_call 11; refine (lives15 _).mono ?_; rintro e w3 ⟨rfl, b3⟩)
    go_ret
    have h1 := HB.out.trans (B2.out.mono HB.out.size)
    exact ⟨rfl, h1.trans (b3.mono h1.size)⟩
  obtain ⟨hin, hsz⟩ := HG.out trivial
  have HIN := Lib.hid (hin.below B2.out)
  have HNI := Lib.hid hin.ni
  have HBB : Hid (Below w.heap.size w w2) := HB.out.trans (B2.out.mono HB.out.size)
  have z := (B2.out.block _ (Array.getElem?_eq_some_iff.1 HZ.out).1).trans HZ.out
  obtain ⟨e0, e1, e2, e3, e4, e5, e6, e7, e8, e9⟩ := fst_cells z
  clear z hin hsz
  go_upto_region 4 with (go_at_call 12; refine (begin_any f w2 HIN.out).mono ?_; rintro e w3 ⟨B, R, V, s, x, rfl, hpr, hV, hfar, hcok, -⟩; have H3 := Lib.hid hpr.ws; have HITS := Lib.hid (show V.its.length ≤ 1048576 by rw [hV]; exact Nat.le_trans HNI.out (by decide)); have HFAR := Lib.hid (And.intro hfar.1 hfar.2.1); clear hpr hV hfar hcok e0 e1 e2 e3 e4 e5 e6 e7 e8 e9)
  clear d3 HG HIN HR HB B2 HZ HNI
  have hq0 := heap_alloc_new w3 (.cells #[.pointer (some ⟨B.wb, 0, none⟩), .pointer (some ⟨R.wb, 0, none⟩)] 34)
  have hB4 := below_alloc w3 (.cells #[.pointer (some ⟨B.wb, 0, none⟩), .pointer (some ⟨R.wb, 0, none⟩)] 34)
  have H4 := Lib.hid (H3.out.keep hB4)
  change Code.wp _ _ _ _ (w3.alloc (.cells #[.pointer (some ⟨B.wb, 0, none⟩), .pointer (some ⟨R.wb, 0, none⟩)] 34))
  generalize w3.alloc (.cells #[.pointer (some ⟨B.wb, 0, none⟩), .pointer (some ⟨R.wb, 0, none⟩)] 34) = w4 at *
  generalize w3.heap.size = q at *
  have p0 : w4.cell? ⟨q, 0, none⟩ = some (.pointer (some ⟨B.wb, 0, none⟩)) := hcell hq0 0
  clear hq0 hB4 H3
  obtain ⟨L, hL⟩ : ∃ L, L = plist (hashOf key) (s.val 2) := ⟨_, rfl⟩
  obtain ⟨A, hA⟩ : ∃ A, A = slFold V.its s key (slotsL L) := ⟨_, rfl⟩
  obtain ⟨Rr, hRr⟩ : ∃ Rr, Rr = fiter V.its (98 + 1) s ⟨key, 0, 0, 0, 0, 0⟩ [.tab] := ⟨_, rfl⟩
  have hlaw := first_law V.its s key L hL 98 (by decide)
  rw [← hA, ← hRr] at hlaw
  have hsl := slots_any H4.out HITS.out key HK4.out
  rw [← hL, ← hA] at hsl
  have LAW := Lib.hid hlaw; have HRR := Lib.hid hRr
  obtain ⟨ha0, ha1⟩ := hfold_bd key key.size
  have hP := Lib.hid (fun W => places_any (hashOf key) (s.val 2) ha0 ha1 (H4.out.own.wf 2) W)
  rw [← hL] at hP
  have hH := Lib.hid (fun W => hash_any key HK4.out W)
  have HL1 := Lib.hid (show L.length ≤ 4 ∧ 1 ≤ L.length by rw [hL]; exact ⟨plist_len _ _, plist_pos _ _⟩)
  have hNF := Lib.hid (fun W => newfind key W)
  clear hlaw hRr hA hL ha0 ha1
  go_upto_region 6 with (go_at_call 13; refine hsl.mono ?_; rintro e w5 ⟨rfl, b5⟩; have H5 := Lib.hid (H4.out.keep b5); clear b5 hsl H4 p0)
  have hq6 := heap_alloc_new w5 (.cells #[.int .i64 A.1.1.1, .int .i64 A.1.1.2, .int .i64 (A.1.2 : Int)] 39)
  have hB6 := below_alloc w5 (.cells #[.int .i64 A.1.1.1, .int .i64 A.1.1.2, .int .i64 (A.1.2 : Int)] 39)
  have H6 := Lib.hid (H5.out.keep hB6)
  change Code.wp _ _ _ _ (w5.alloc (.cells #[.int .i64 A.1.1.1, .int .i64 A.1.1.2, .int .i64 (A.1.2 : Int)] 39))
  generalize w5.alloc (.cells #[.int .i64 A.1.1.1, .int .i64 A.1.1.2, .int .i64 (A.1.2 : Int)] 39) = w6 at *
  generalize w5.heap.size = tq at *
  have Q6 : Hid (SpotB w6 tq A.1.1.1 A.1.1.2 (A.1.2 : Int)) := hq6
  clear hq6 hB6 H5
  have c0 := H6.out.c0
  have hpk := H6.out.peek 2 (by decide)
  generalize hash : hashOf key = hsh at hP hH
  clear hash
  go_upto_region 8 with (first
    | (go_at_call 16; refine hpk.mono ?_; intro e w' hh; obtain ⟨hh1, hh2⟩ := hh; subst hh1; obtain rfl := hh2.symm; clear hpk)
    | (go_at_call 14; refine (hH.out _).mono ?_; intro e w7 hh; obtain ⟨hh1, b7⟩ := hh; subst hh1; have H7 := Lib.hid (H6.out.keep b7); have Q7 := Lib.hid (Q6.out.below b7); clear b7 hH c0 H6 Q6)
    | (go_at_call 15; refine (hP.out _).mono ?_; intro e w8 hh; obtain ⟨pv, hh1, hp, b8⟩ := hh; subst hh1; obtain ⟨ao, hpv, hpl⟩ := hp.plc; subst hpv; have H8 := Lib.hid (H7.out.keep b8); have Q8 := Lib.hid (Q7.out.below b8); clear b8 hp hpl hP H7 Q7))
  have c0 := H8.out.c0
  have hwd := words_own H8.out.own (by have := HFAR.out.1; omega)
  go_upto_region 9 with (go_at_call 43; refine hwd.mono ?_; rintro e w9 ⟨ga, ws, rfl, hws, b9⟩; have H9 := Lib.hid (H8.out.keep b9); have Q9 := Lib.hid (Q8.out.below b9); have W9 := Lib.hid hws; clear hws b9 hwd c0 H8 Q8)
  have hst := H9.out.steps5
  have hwl : ws.length ≤ 1000000 := W9.out.most
  go_upto_region 11 with (first
    | (go_at_call 44; refine hst.mono ?_; intro e w' hh; obtain ⟨hh1, hh2⟩ := hh; subst hh1; obtain rfl := hh2.symm; clear hst)
    | (go_at_call 21; refine (hNF.out _).mono ?_; intro e w10 hh; obtain ⟨fb, hh1, a10, l10, b10⟩ := hh; subst hh1; have H10 := Lib.hid (H9.out.keep b10); have Q10 := Lib.hid (Q9.out.below b10); have W10 := Lib.hid (wfrom_low W9.out.row b10); have A10 := Lib.hid a10; have L10 := Lib.hid (Nat.le_trans H9.out.slow l10); clear a10 l10 b10 H9 Q9 hNF))
  go_wp2_with fail
  go_loopw [15] (fun i wr => ∃ (k : Nat) (s' : CS) (f' : FW) (ls' : List Ld), k ≤ 99 ∧ i = .int .i64 k ∧ Hid (WS w2 wr B V s' ∧ FindAt wr fb f' ls' ∧ POk ls' k ∧ f'.key = key ∧ (s'.n ≤ 300 + k ∧ s'.cnt ≤ 300 + k) ∧ s'.cnt = s.cnt + k ∧ Rr = ((fiter V.its (99 - k) s' f' ls').1 + k, (fiter V.its (99 - k) s' f' ls').2) ∧ SpotB wr tq A.1.1.1 A.1.1.2 (A.1.2 : Int) ∧ WFrom wr w8.heap.size ga ws 0)) (fun i _ => 99 - (intOf i).toNat)
  case atStart => exact ⟨0, s, ⟨key, 0, 0, 0, 0, 0⟩, [.tab], by omega, rfl, ⟨H10.out, A10.out, ⟨.inl rfl, by decide⟩, rfl, HFAR.out, rfl, HRR.out, Q10.out, W10.out⟩⟩
  case round =>
    clear H10 Q10 W10 A10 HRR
    obtain ⟨k, s', f', ls', hk, rfl, P⟩ := hrel
    obtain ⟨g1, g2, g3, g4, g5, g6, g7, g8, g9⟩ := P.out
    have hk21 : k ≤ 21 := by
      have h1 := LAW.out.most
      have h2 := HL1.out.1
      rw [g7] at h1
      simp only at h1
      omega
    have hlt' : (k : Int) < 99 := by omega
    have hov := fover g2
    cases ls' with
    | cons l r =>
      rw [show decide (l :: r = []) = false from rfl] at hov
      have hst := fstep_any g1 (CS.room_of (300 + k) g5 (by unfold lim; omega)) L10.out (by rw [g4]; exact HK4.out) HITS.out l r k (by omega) g3 g2
      have hR2 : Rr = ((fiter V.its (99 - (k + 1)) (s'.acc 1 (ldA l) (s'.val (ldA l))) (fnext V.its s' f' r l).1 (fnext V.its s' f' r l).2).1 + (k + 1), (fiter V.its (99 - (k + 1)) (s'.acc 1 (ldA l) (s'.val (ldA l))) (fnext V.its s' f' r l).1 (fnext V.its s' f' r l).2).2) := by
        obtain ⟨m, hm⟩ : ∃ m, m = 99 - (k + 1) := ⟨_, rfl⟩
        rw [show 99 - k = m + 1 by omega] at g7
        rw [← hm, g7]; simp only [fiter]; rw [Prod.mk.injEq]; exact ⟨by omega, rfl⟩
      have Q := Lib.hid (And.intro (g3.next V.its s' f') (And.intro ((fnext_key V.its s' f' r l).trans g4) (And.intro (show (s'.acc 1 (ldA l) (s'.val (ldA l))).n ≤ 300 + (k + 1) ∧ (s'.acc 1 (ldA l) (s'.val (ldA l))).cnt ≤ 300 + (k + 1) by simp only [CS.acc]; omega) (And.intro (show (s'.acc 1 (ldA l) (s'.val (ldA l))).cnt = s.cnt + (k + 1) by simp only [CS.acc]; omega) hR2))))
      have G := Lib.hid (And.intro g2 (And.intro g8 g9))
      clear g1 g2 g3 g4 g5 g6 g7 g8 g9 hR2 P hk
      generalize hd : decide ((fnext V.its s' f' r l).2 = []) = d at hst
      clear hd
      have hfa := ffacc
      go_upto_region 15 with (first
        | (go_at_call 24; refine hov.mono ?_; intro e w11 hh; obtain ⟨hh1, hh2⟩ := hh; subst hh1; obtain rfl := hh2.symm; clear hov)
        | (go_at_call 45; refine hst.mono ?_; intro e w12 hh; obtain ⟨hh1, g1, g2, g3⟩ := hh; subst hh1; have P := Lib.hid (And.intro g1 (And.intro g2 (And.intro (G.out.2.1.fx g3 G.out.1) (wfrom_fx G.out.2.2 g3 rfl G.out.1)))); clear g1 g2 g3 hst))
      have c0 := P.out.1.c0
      have hls : Calls Tryz.prog 46 #[.pointer (some ⟨B.cb, 0, none⟩)] w12 fun e w' => e = .returned (.agg #[.int .u8 1, .int .u64 (s'.acc 1 (ldA l) (s'.val (ldA l))).addr, .int .u64 (s'.acc 1 (ldA l) (s'.val (ldA l))).was, .int .u64 (s'.acc 1 (ldA l) (s'.val (ldA l))).is]) ∧ Below w12.heap.size w12 w' := P.out.1.last5
      generalize (s'.acc 1 (ldA l) (s'.val (ldA l))).addr = y1 at hls
      generalize (s'.acc 1 (ldA l) (s'.val (ldA l))).was = y2 at hls
      generalize (s'.acc 1 (ldA l) (s'.val (ldA l))).is = y3 at hls
      go_wp2_with (go_at_call 46; refine hls.mono ?_; intro e w13 hh; obtain ⟨hh1, b13⟩ := hh; subst hh1; have P2 := Lib.hid (And.intro (P.out.1.keep b13) (And.intro (P.out.2.1.below b13) (And.intro (P.out.2.2.1.below b13) (wfrom_low P.out.2.2.2 b13)))); clear b13 hls c0)
      go_roundw
      case rel => exact ⟨k + 1, _, _, _, by omega, by go_num, ⟨P2.out.1, P2.out.2.1, Q.out.1, Q.out.2.1, Q.out.2.2.1, Q.out.2.2.2.1, Q.out.2.2.2.2, P2.out.2.2.1, P2.out.2.2.2⟩⟩
      case measure => simp [intOf]; omega
    | nil =>
      rw [show decide (([] : List Ld) = []) = true from rfl] at hov
      rw [fiter_nil] at g7
      have hlw := LAW.out
      rw [g7] at hlw
      obtain ⟨o1, o2, o3, o4, o5, -⟩ := hlw
      simp only [Prod.mk.injEq, and_true] at o1 o2
      obtain rfl := o1
      simp only [Nat.zero_add] at o3 o4 o5
      have K := Lib.hid (And.intro g1 (And.intro g2 (And.intro g8 (And.intro g9 (And.intro o2 g6)))))
      have hgt := fgot g2
      have O5 := Lib.hid o5
      have n1 : ¬ ((k : Int) < 2) := by omega
      have n2 : ¬ ((k : Int) > 1 + 5 * (L.length : Int)) := by omega
      have k21 : (k : Int) ≤ 21 := by omega
      have l4 : (L.length : Int) ≤ 4 := by have := HL1.out.1; omega
      have N12 := Lib.hid (And.intro n1 n2)
      have SN := Lib.hid (show s'.n ≤ 1000000 by omega)
      clear g1 g2 g3 g4 g5 g6 g7 g8 g9 P hk hk21 o2 o3 o4 o5
      go_upto_region 18 with (first
        | (go_at_call 24; refine hov.mono ?_; intro e w11 hh; obtain ⟨hh1, hh2⟩ := hh; subst hh1; obtain rfl := hh2.symm; clear hov)
        | (go_at_call 22; refine hgt.mono ?_; intro e w12 hh; obtain ⟨hh1, b12⟩ := hh; subst hh1; have K12 := Lib.hid (And.intro (K.out.1.keep b12) (And.intro (K.out.2.1.below b12) (And.intro (K.out.2.2.1.below b12) (And.intro (wfrom_low K.out.2.2.2.1 b12) K.out.2.2.2.2)))); clear b12 hgt K))
      have hq13 := heap_alloc_new w12 (.cells #[.int .i64 A.1.1.1, .int .i64 A.1.1.2, .int .i64 (A.1.2 : Int)] 39)
      have b13 := below_alloc w12 (.cells #[.int .i64 A.1.1.1, .int .i64 A.1.1.2, .int .i64 (A.1.2 : Int)] 39)
      have K13 := Lib.hid (And.intro (K12.out.1.keep b13) (And.intro (K12.out.2.1.below b13) (And.intro (K12.out.2.2.1.below b13) (And.intro (wfrom_low K12.out.2.2.2.1 b13) K12.out.2.2.2.2))))
      change Code.wp _ _ _ _ (w12.alloc (.cells #[.int .i64 A.1.1.1, .int .i64 A.1.1.2, .int .i64 (A.1.2 : Int)] 39))
      generalize w12.alloc (.cells #[.int .i64 A.1.1.1, .int .i64 A.1.1.2, .int .i64 (A.1.2 : Int)] 39) = w13 at *
      generalize w12.heap.size = tr at *
      have Q13 : Hid (SpotB w13 tr A.1.1.1 A.1.1.2 (A.1.2 : Int)) := hq13
      clear hq13 b13 K12
      have c0 := K13.out.1.c0
      have hwd := words_own K13.out.1.own SN.out
      go_upto_region 19 with (go_at_call 43; refine hwd.mono ?_; rintro e w14 ⟨gb, ws2, rfl, hws, b14⟩; have H14 := Lib.hid (And.intro (K13.out.1.keep b14) (And.intro (K13.out.2.1.below b14) (And.intro (K13.out.2.2.1.below b14) (And.intro (wfrom_low K13.out.2.2.2.1 b14) K13.out.2.2.2.2)))); have Q14 := Lib.hid (Q13.out.below b14); have W14 := Lib.hid hws; clear hws b14 hwd c0 K13 Q13)
      have hwe : ws2 = ws := ris_eq W14.out.ris W9.out.ris W14.out.nz W9.out.nz fun a => by rw [W14.out.look, W9.out.look, H14.out.2.2.2.2.1]
      subst hwe
      have ho2 := fover H14.out.2.1
      rw [show decide (([] : List Ld) = []) = true from rfl] at ho2
      have hw2 := fword H14.out.2.1
      rw [if_pos rfl] at hw2
      have hs2 := H14.out.1.steps5
      have hcn : (s'.cnt : Int) = (s.cnt : Int) + k := by have := H14.out.2.2.2.2.2; omega
      rw [hcn] at hs2
      have sc : (s.cnt : Int) ≤ 300 := by have := HFAR.out.2; omega
      have x0 := hcell H14.out.2.2.1 0; have x1 := hcell H14.out.2.2.1 1; have x2 := hcell H14.out.2.2.1 2
      have y0 := hcell Q14.out 0; have y1 := hcell Q14.out 1; have y2 := hcell Q14.out 2
      have n1 := N12.out.1; have n2 := N12.out.2
      go_upto_region 22 with (first
        | (go_at_call 24; refine ho2.mono ?_; intro e w15 hh; obtain ⟨hh1, hh2⟩ := hh; subst hh1; obtain rfl := hh2.symm; clear ho2)
        | (go_at_call 47; refine hw2.mono ?_; intro e w15 hh; obtain ⟨hh1, hh2⟩ := hh; subst hh1; obtain rfl := hh2.symm; clear hw2)
        | (go_at_call 44; refine hs2.mono ?_; intro e w15 hh; obtain ⟨hh1, hh2⟩ := hh; subst hh1; obtain rfl := hh2.symm; clear hs2))
      clear x0 x1 x2 y0 y1 y2 n1 n2
      have W14r := Lib.hid W14.out.row
      have H14r := Lib.hid H14.out.2.2.2.1
      have HB14 := Lib.hid H14.out.1.below
      clear W9 LAW HFAR Q14 H14 W14
      go_wp2_with fail
      go_loopw [19] (fun i wr => ∃ k2 : Nat, k2 ≤ ws2.length ∧ i = .int .i64 k2 ∧ Below w14.heap.size w14 wr) (fun i _ => ws2.length - (intOf i).toNat)
      case atStart => exact ⟨0, by omega, rfl, Below.refl _ _⟩
      case round =>
        obtain ⟨k2, hk2, rfl, hB2⟩ := hrel
        by_cases hlt2 : k2 < ws2.length
        · have hlt2' : (k2 : Int) < ws2.length := by omega
          obtain ⟨ga1, rfl, z0, z1⟩ := wfrom_at (wfrom_low H14r.out hB2) k2 hlt2
          obtain ⟨gb1, rfl, z2, z3⟩ := wfrom_at (wfrom_low W14r.out hB2) k2 hlt2
          generalize (ws2[k2]).1 = va at *
          generalize (ws2[k2]).2 = vb at *
          have x0 := fun st : ExtW wr => st.cell z0
          have x1 := fun st : ExtW wr => st.cell z1
          have x2 := fun st : ExtW wr => st.cell z2
          have x3 := fun st : ExtW wr => st.cell z3
          have HB2 := Lib.hid hB2; have HLT2 := Lib.hid hlt2
          clear z0 z1 z2 z3 hB2 hlt2 hk2
          go_upto_region 24 with (fail)
          refine wp_region_ext (by kernel_rfl) (by kernel_rfl) ?_
          repeat (go_big_quiet_step (fail))
          refine wpQuiet_nil ?_
          rintro W ⟨⟨W2, hW⟩, rfl⟩
          clear x0 x1 x2 x3
          have HB3 := Lib.hid (HB2.out.trans (hW.mono HB2.out.size))
          clear hW
          go_wp2_with fail
          go_roundw
          case rel => exact ⟨k2 + 1, HLT2.out, by go_num, HB3.out⟩
          case measure => have := HLT2.out; simp [intOf]; omega
        · obtain rfl : k2 = ws2.length := by omega
          have HB2 := Lib.hid hB2
          clear hB2 hlt2 hk2
          by_cases hpos : 0 < A.2.1
          · have hp1 : decide (A.2.1 > 0) = true := decide_eq_true hpos
            clear hpos
            go_wp2_with (go_at_call 11; refine (lives15 _).mono ?_; rintro e w30 ⟨rfl, b30⟩)
            go_ret
            have h1 := HB14.out.trans (HB2.out.mono HB14.out.size)
            exact ⟨rfl, HBB.out.trans ((h1.trans (b30.mono h1.size)).mono HBB.out.size)⟩
          · have hp2 : L.length < k := by have := O5.out; omega
            have hp3 : (L.length : Int) < (k : Int) := by omega
            go_wp2_with (go_at_call 11; refine (lives15 _).mono ?_; rintro e w30 ⟨rfl, b30⟩)
            go_ret
            have h1 := HB14.out.trans (HB2.out.mono HB14.out.size)
            exact ⟨rfl, HBB.out.trans ((h1.trans (b30.mono h1.size)).mono HBB.out.size)⟩
set_option maxRecDepth 100000 in
theorem walkFindsFirst {H1 : Type} (w : World) (enc : TypeId × Value → H1) (base : Nat) (v : Value) (d : DataW H1) (p : List MemPlace) (k : DataW.Trod enc Tryz.prog w 0 (fun _ => true) true 28 v d p) (o : Value.okWide Tryz.prog w .any base 28 v) (key : ByteArray) (hk : key.size ≤ maxLen) :
    Calls Tryz.prog 6 #[v, .string key] w fun e w' => e = .returned (.bool true) ∧ Below w.heap.size w w' := by
  obtain ⟨f, rfl, hr⟩ := fst_open k o
  exact ffirst_any f key hk w hr
end Go.Proofs.YtmafjaallfngeaaGreat
