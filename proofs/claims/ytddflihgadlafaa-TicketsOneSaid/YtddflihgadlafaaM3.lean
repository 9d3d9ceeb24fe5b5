/-
  Texts of this prover, merged: TurnsGoes, TurnsEnd, TicketsOne.
-/
import Derived.Test.YtddflihgadlafaaM2
import Derived.Test.YtddflihgadlafaaM1
import Derived.Deep.DeepCutAuto
import Derived.Deep.CutBlock
/-
  TicketsOne: a client goes, and what is asked behind it.
-/
namespace Go.Proofs.Ytddflihgadlafaa
open Go.RowKit
set_option linter.unusedVariables false

def nines (l : List Nat) : List Value := l.map fun k => Value.int .i64 ((9 * k : Nat) : Int)
def LineAt (w : World) (base q : Nat) (dr : List Nat) (sv : Nat) : Prop := ∃ v, w.heap[q]? = some (.cells #[v, .int .i64 sv] 86 (0, 0)) ∧ base ≤ q ∧ w.ownsRow base 3 1 v dr.length (nines dr)
def AllAt (w : World) (base n : Nat) (bs : Nat → Nat) (v : Value) : Prop := w.ownsRow base 78 1 v n ((List.range n).map fun j => Value.pointer (some ⟨bs j, 0, none⟩))
theorem LineAt.fr {K : TypeId → Bool} {mp : Bool} {w w' : World} {base q : Nat} {dr : List Nat} {sv : Nat} (h : LineAt w base q dr sv) (hf : Fr K mp w w') (h1 : K 86 = false) (h2 : K 3 = false) : LineAt w' base q dr sv := by
  obtain ⟨v, h3, h4, h5⟩ := h
  exact ⟨v, hf.cells _ _ _ _ h3 h1, h4, own_fr h5 hf h2⟩
theorem CW.fr {K : TypeId → Bool} {w0 w w' : World} {B : WB} {n H : Nat} {bs : Nat → Nat} {σ : TSt} {m : Nat} (h : CW w0 w B n H bs σ m) (hf : Fr K false w w') (hK : ∀ T, cTy T = true → K T = false) (hB : Below w0.heap.size w0 w') : CW w0 w' B n H bs σ m := by
  obtain ⟨V, s, hW, h2⟩ := h.wld
  exact ⟨⟨V, s, hW.fr hf (fun T hT => hK T (by unfold cTy; rw [hT]; rfl)) hB, h2⟩, fun j hj => (h.cl j hj).fr hf (hK _ rfl) (hK _ rfl) (hK _ rfl)⟩
theorem CW.below {w0 w : World} {B : WB} {n H : Nat} {bs : Nat → Nat} {σ : TSt} {m : Nat} (h : CW w0 w B n H bs σ m) : Below w0.heap.size w0 w := by obtain ⟨V, s, hW, h2⟩ := h.wld; exact hW.below
theorem CW.keep {w0 w w' : World} {B : WB} {n H : Nat} {bs : Nat → Nat} {σ : TSt} {m : Nat} (h : CW w0 w B n H bs σ m) (hb : Below w.heap.size w w') : CW w0 w' B n H bs σ m :=
  h.fr (below_fr hb (fun _ => false) false) (fun _ _ => rfl) (h.below.trans (hb.mono h.below.size))
theorem CW.c0 {w0 w : World} {B : WB} {n H : Nat} {bs : Nat → Nat} {σ : TSt} {m : Nat} (h : CW w0 w B n H bs σ m) : w.cell? ⟨B.wb, 0, none⟩ = some (.pointer (some ⟨B.cb, 0, none⟩)) := by obtain ⟨V, s, hW, h2⟩ := h.wld; exact hW.c0
theorem CW.peek0 {w0 w : World} {B : WB} {n H : Nat} {bs : Nat → Nat} {σ : TSt} {m : Nat} (h : CW w0 w B n H bs σ m) : Calls Try.prog 17 #[.pointer (some ⟨B.cb, 0, none⟩), .int .u64 0] w fun e w' => e = .returned (.int .u64 σ.N) ∧ w' = w := by
  obtain ⟨V, s, hW, h2, _⟩ := h.wld; rw [← h2]; exact hW.peek 0 (by decide)
theorem CW.peek1 {w0 w : World} {B : WB} {n H : Nat} {bs : Nat → Nat} {σ : TSt} {m : Nat} (h : CW w0 w B n H bs σ m) : Calls Try.prog 17 #[.pointer (some ⟨B.cb, 0, none⟩), .int .u64 1] w fun e w' => e = .returned (.int .u64 σ.S) ∧ w' = w := by
  obtain ⟨V, s, hW, _, h2, _⟩ := h.wld; rw [← h2]; exact hW.peek 1 (by decide)
theorem ClAt.c0 {w : World} {base b t H l : Nat} {ph : Ph} (h : ClAt w base b t H l ph) : w.cell? ⟨b, 0, none⟩ = some (.int .i64 t) := by
  obtain ⟨cs, h1, h2⟩ := h.blk
  rw [hcell h1 0]; exact h2
def Ph.isIn : Ph → Bool
  | .hold _ => true
  | _ => false
theorem ClAt.c4 {w : World} {base b t H l : Nat} {ph : Ph} (h : ClAt w base b t H l ph) : w.cell? ⟨b, 4, none⟩ = some (.bool ph.isIn) := by
  cases ph with
  | idle => obtain ⟨_, hs, h⟩ := h; exact hcell h 4
  | wait k => obtain ⟨_, hs, tb, h, _⟩ := h; exact hcell h 4
  | hold g => obtain ⟨_, h⟩ := h; exact hcell h 4
  | give => obtain ⟨_, hs, gb, h, _⟩ := h; exact hcell h 4
theorem ClAt.c6 {w : World} {base b t H l : Nat} {ph : Ph} (h : ClAt w base b t H l ph) : (ph.isIn = true ∧ ph.busy = true) ∨ (ph.isIn = false ∧ ph.busy = true ∧ ∃ gb, w.cell? ⟨b, 6, none⟩ = some (.pointer (some ⟨gb, 0, none⟩))) ∨ (ph.isIn = false ∧ ph.busy = false ∧ w.cell? ⟨b, 6, none⟩ = some (.pointer none)) := by
  cases ph with
  | idle => obtain ⟨_, hs, h⟩ := h; exact .inr (.inr ⟨rfl, rfl, hcell h 6⟩)
  | wait k => obtain ⟨_, hs, tb, h, _⟩ := h; exact .inr (.inr ⟨rfl, rfl, hcell h 6⟩)
  | hold g => exact .inl ⟨rfl, rfl⟩
  | give => obtain ⟨_, hs, gb, h, _⟩ := h; exact .inr (.inl ⟨rfl, rfl, gb, hcell h 6⟩)
theorem AllAt.at {w : World} {base n : Nat} {bs : Nat → Nat} {v : Value} (h : AllAt w base n bs v) (i : Nat) (hi : i < n) : ∃ g cap, v = .slice (some ⟨g, 0, none⟩) n cap ∧ w.cell? ⟨g, i, none⟩ = some (.pointer (some ⟨bs i, 0, none⟩)) := by
  obtain ⟨g, cap, x, rfl, hx, hc, -⟩ := own_at h i hi
  rw [List.getElem?_map, List.getElem?_range hi] at hx
  simp only [Option.map_some, Option.some.injEq] at hx
  exact ⟨g, cap, rfl, by rw [hx]; exact hc⟩
/-- How many are busy. -/
def busyTo (σ : TSt) : Nat → Nat := sumTo fun k => if (σ.ph k).busy then 1 else 0
theorem busy_le {n H total : Nat} {σ : TSt} (h : TInv n H total σ) : ∀ i, i ≤ n → busyTo σ i ≤ 1 := by
  have key : ∀ j, (∀ i, i < n → (σ.ph i).busy = true → i = j) → ∀ i, i ≤ n → busyTo σ i ≤ if j < i then 1 else 0 := fun j hu i => by
    induction i with
    | zero => intro; simp [busyTo, sumTo]
    | succ i ih =>
      intro hi
      have h1 := ih (by omega)
      unfold busyTo at h1 ⊢
      simp only [sumTo]
      cases hb : (σ.ph i).busy
      · simp only [Bool.false_eq_true, if_false]
        split
        · split at h1 <;> omega
        · rw [if_neg (by omega)] at h1; omega
      · obtain rfl := hu i (by omega) hb
        rw [if_neg (Nat.lt_irrefl i)] at h1
        rw [if_pos (Nat.lt_succ_self i)]; simp only [if_true]; omega
  intro i hi
  rcases h.lock with ⟨j, hj, _, hu, _⟩ | ⟨hn, _⟩
  · have := key j hu i hi; split at this <;> omega
  · have := key n (fun i hi hb => by rw [hn i hi] at hb; cases hb) i hi; split at this <;> omega
/-- What a client's step does to the line. -/
theorem tgo_line (H : Nat) (σ : TSt) (j : Nat) : ((tgo H σ j).N = σ.N + 1 ∧ (tgo H σ j).drawn = σ.drawn ++ [j] ∧ (tgo H σ j).served = σ.served ∧ ((tgo H σ j).ph j).isIn = false) ∨
    ((tgo H σ j).N = σ.N ∧ (tgo H σ j).drawn = σ.drawn ∧ (((tgo H σ j).served = σ.served ∧ (((tgo H σ j).ph j).isIn = false ∨ (σ.ph j).isIn = true)) ∨ ((tgo H σ j).served = σ.served + 1 ∧ ((tgo H σ j).ph j).isIn = true ∧ (σ.ph j).isIn = false ∧ σ.ph j = .wait σ.S))) := by
  unfold tgo
  cases hp : σ.ph j with
  | give => right; exact ⟨rfl, rfl, .inl ⟨rfl, .inl (by simp [tupd_same, Ph.isIn])⟩⟩
  | hold g => right; exact ⟨rfl, rfl, .inl ⟨rfl, .inr rfl⟩⟩
  | wait k =>
    dsimp only
    by_cases hk : k = σ.S
    · rw [if_pos hk]; right; exact ⟨rfl, rfl, .inr ⟨rfl, by simp [tupd_same, Ph.isIn], rfl, by rw [hk]⟩⟩
    · rw [if_neg hk]; right; exact ⟨rfl, rfl, .inl ⟨rfl, .inl (by rw [hp]; rfl)⟩⟩
  | idle =>
    dsimp only
    by_cases hl : 0 < σ.left j
    · rw [if_pos hl]; left; exact ⟨rfl, rfl, rfl, by simp [tupd_same, Ph.isIn]⟩
    · rw [if_neg hl]; right; exact ⟨rfl, rfl, .inl ⟨rfl, .inl (by rw [hp]; rfl)⟩⟩

/-- Types of what turns when a client goes. -/
def gTy (T : TypeId) : Bool := cTy T || T == 86 || T == 3
structure GS (w0 w : World) (B : WB) (n H : Nat) (bs : Nat → Nat) (σ : TSt) (m q : Nat) (dr : List Nat) (sv : Nat) (va : Value) : Prop where
  cw : CW w0 w B n H bs σ m
  ln : LineAt w w0.heap.size q dr sv
  all : AllAt w w0.heap.size n bs va
theorem line_ty (T : TypeId) (h : cTy T = true) : (T == 86) = false := by
  cases hT : (T == 86)
  · rfl
  · rw [beq_iff_eq] at hT; subst hT; cases h
theorem int_ty (T : TypeId) (h : cTy T = true) : (T == 3) = false := by
  cases hT : (T == 3)
  · rfl
  · rw [beq_iff_eq] at hT; subst hT; cases h
set_option maxRecDepth 10000 in
set_option maxHeartbeats 4000000 in
theorem goes_any {w0 w : World} {B : WB} {n H total : Nat} {bs : Nat → Nat} {σ : TSt} {m q : Nat} {va : Value} (h : GS w0 w B n H bs σ m q σ.drawn σ.served va) (hI : TInv n H total σ) (ht : total ≤ 32) (hm : m < 9000) (hn : n ≤ 8) (hH : 1 ≤ H ∧ H ≤ 3) (j : Nat) (hj : j < n) :
    Calls Try.prog 23 #[.pointer (some ⟨q, 0, none⟩), .pointer (some ⟨B.wb, 0, none⟩), .pointer (some ⟨bs j, 0, none⟩), va] w fun e w' => e = .returned (.bool true) ∧ GS w0 w' B n H bs (tgo H σ j) (m + 1) q (tgo H σ j).drawn (tgo H σ j).served va := by
  have hI' := hI.next hH.1 j hj
  have hst := cstep_any h.cw hI ht hm hn hH j hj
  have hln := tgo_line H σ j
  have hlen := hI.len
  have hN : σ.N ≤ 32 := by have := hI.sum; omega
  have hsv : σ.served ≤ σ.N := hI.le
  have hsl : σ.ph j = .wait σ.S → σ.served < σ.drawn.length ∧ σ.drawn[σ.served]? = some j := fun hp => by
    obtain ⟨w1, w2, w3⟩ := hI.waits j hj _ hp
    have : σ.served = σ.S := by rcases hI.lock with ⟨_, _, _, _, h⟩ | ⟨_, h⟩ <;> omega
    rw [this] at w1 ⊢
    exact ⟨by omega, w3⟩
  generalize tgo H σ j = σ' at *
  have p0 := h.cw.peek0
  have c0 := h.cw.c0
  have k4 := (h.cw.cl j hj).c4
  obtain ⟨i0, hi0, hz0, hz1, hz2⟩ := info_parts info_int
  have HI0 := Lib.hid hi0; have HZ0 := Lib.hid hz0; have HZ1 := Lib.hid hz1; have HZ2 := Lib.hid hz2
  have HH := Lib.hid h; have HI := Lib.hid hI'; have HLN := Lib.hid hln; have HLEN := Lib.hid hlen; have HN := Lib.hid hN; have HSV := Lib.hid hsv; have HSL := Lib.hid hsl
  have HHH := Lib.hid hH; have HTT := Lib.hid ht; have HMM := Lib.hid hm; have HNN := Lib.hid hn
  clear h hI hI' hln hlen hN hsv hsl ht hm hH hi0 hz0 hz1 hz2 hn
  go_enter Try.func23, Try.ntmps23
  go_upto_region 4 with (first
    | (go_at_call 17; refine p0.mono ?_; rintro e w1 ⟨rfl, hw⟩; obtain rfl := hw.symm; clear p0)
    | (go_at_call 53; refine hst.mono ?_; rintro e w2 ⟨rfl, h2, f2⟩; have H2 := Lib.hid h2; have HL2 := Lib.hid (HH.out.ln.fr f2 rfl rfl); have HA2 : Hid (AllAt w2 w0.heap.size n bs va) := own_fr HH.out.all f2 rfl; clear hst h2 f2 k4 c0))
  clear HH
  have p0 := H2.out.peek0
  have c0 := H2.out.c0
  go_upto_if 31 with (go_at_call 17; refine p0.mono ?_; rintro e w1 ⟨rfl, hw⟩; obtain rfl := hw.symm; clear p0 c0)
  go_cut [] (fun wx => GS w0 wx B n H bs σ' (m + 1) q σ'.drawn σ.served va)
  case first =>
    rcases HLN.out with ⟨e1, e2, e3, e4⟩ | ⟨e1, e2, e3⟩
    · have d1 : ((σ'.N : Int) != (σ.N : Int)) = true := by rw [bne_iff_ne]; omega
      obtain ⟨lv, hl1, hl2, hl3⟩ := HL2.out
      obtain ⟨ao, cap, rfl⟩ := own_sl2 hl3
      have hqlt := (Array.getElem?_eq_some_iff.1 hl1).1
      have l0 := hcell hl1 0
      have l0' : ∀ o, (w2.alloc o).cell? ⟨q, 0, none⟩ = some (.slice ao σ.drawn.length cap) := fun o => by rw [World.cell?_alloc_past _ _ _ hqlt]; exact l0
      have lf := hfrz hl1 0
      have lf' : ∀ o, (w2.alloc o).frozen? ⟨q, 0, none⟩ = false := fun o => by rw [World.frozen?_alloc_past _ _ _ hqlt]; exact lf
      have k0 := (H2.out.cl j hj).c0
      have hjlt := World.block_lt_of_cell? _ _ k0
      have k0' : ∀ o, (w2.alloc o).cell? ⟨bs j, 0, none⟩ = some (.int .i64 ((9 * j : Nat) : Int)) := fun o => by rw [World.cell?_alloc_past _ _ _ hjlt]; exact k0
      have hlen2 : σ.drawn.length ≤ 32 := by have := HLEN.out; have := HN.out; omega
      have E2 : Hid (σ.drawn.length + 1 ≤ maxLen) := by unfold maxLen; show σ.drawn.length + 1 ≤ _; omega
      have E3 : Hid ((σ.drawn.length + 1) * 8 ≤ 140737488355328) := by show (σ.drawn.length + 1) * 8 ≤ 140737488355328; omega
      have E4 : Hid (w0.heap.size ≤ w2.heap.size) := H2.out.below.size
      have HNW : Hid (((w2.drew).alloc (.cells #[.int .i64 ((9 * j : Nat) : Int)] 3)).heap[w2.heap.size]? = some (.cells #[.int .i64 ((9 * j : Nat) : Int)] 3 (0, 0))) := heap_alloc_new (w2.drew) _
      have HW0 : Hid (Below w2.heap.size w2 ((w2.drew).alloc (.cells #[.int .i64 ((9 * j : Nat) : Int)] 3))) := ((Below.refl _ _).drew).alloc (Nat.le_refl _) _
      have HL1 := Lib.hid hl1; have HL3 := Lib.hid hl3; have HLO := Lib.hid hl2
      have HE := Lib.hid (And.intro e1 (And.intro e2 (And.intro e3 e4)))
      clear hl1 hl3 hl2 e1 e2 e3 e4 hlen2
      go_wp2_with fail
      go_region_law ((refine step_append_lies _ (by rfl) _ _ _ (by rfl) w0.heap.size 3 i0 _ 1 8 Try.underlying84 HI0.out HZ0.out HZ1.out HZ2.out rfl (by decide) (.slice ao σ.drawn.length cap) σ.drawn.length (nines σ.drawn) (by rfl) ((HL3.out.drew).alloc _) ⟨w2.heap.size, 0, none⟩ 1 1 [.int .i64 ((9 * j : Nat) : Int)] (by rfl) (by rfl) (World.news_of_block (cs := #[.int .i64 ((9 * j : Nat) : Int)]) (t := 3) (fr := (0, 0)) HNW.out) (by simp [Value.oneCell']) (by omega) E2.out E3.out (by have := E4.out; simp; omega) (w2.heap.size + 1) (by simp) ?_; intro g cap1 w4 hown1 hgrow hat hlt; have HOW := Lib.hid hown1; have HGR := Lib.hid hgrow; have hq4 : w4.heap[q]? = some (.cells #[.slice ao σ.drawn.length cap, .int .i64 σ.served] 86 (0, 0)) := (grown_ty ((HL3.out.drew).alloc _) hgrow).cells _ _ _ _ ((HW0.out.block _ (Array.getElem?_eq_some_iff.1 HL1.out).1).trans HL1.out) rfl; have t0 := hcell hq4 0; have t1 := hfrz hq4 0; have HQ4 := Lib.hid hq4; clear hown1 hgrow hat hlt hq4))
      all_goals
        have hB4 : Below w0.heap.size w0 w4 := grown_below ((HL3.out.drew).alloc _) HGR.out (H2.out.below.trans (HW0.out.mono E4.out)) (Nat.le_trans E4.out HW0.out.size) (Nat.le_refl _)
        have f4 : Fr (fun T => T == 3) false w2 w4 := (below_fr HW0.out _ _).trans (grown_ty ((HL3.out.drew).alloc _) HGR.out)
        have f5 := set_ty HQ4.out 0 (.slice (some ⟨g, 0, none⟩) (σ.drawn.length + 1) cap1)
        have hB5 := set_below hB4 hB4.size HLO.out 0 (.slice (some ⟨g, 0, none⟩) (σ.drawn.length + 1) cap1)
        have hq5 := setCell_same HQ4.out 0 (.slice (some ⟨g, 0, none⟩) (σ.drawn.length + 1) cap1)
        have HG5 : Hid (GS w0 (w4.setCell ⟨q, 0, none⟩ (.slice (some ⟨g, 0, none⟩) (σ.drawn.length + 1) cap1)) B n H bs σ' (m + 1) q σ'.drawn σ.served va) := by
          refine ⟨H2.out.fr (ty_or f4 f5) (fun T hT => by rw [int_ty T hT, line_ty T hT]; rfl) hB5, ?_, own_fr HA2.out (ty_or f4 f5) rfl⟩
          rw [HE.out.2.1]
          refine ⟨_, hq5, HLO.out, ?_⟩
          have h1 := own_fr HOW.out f5 rfl
          have e5 : nines (σ.drawn ++ [j]) = nines σ.drawn ++ [.int .i64 ((9 * j : Nat) : Int)] := by simp [nines]
          rw [e5, List.length_append, List.length_singleton]
          exact h1
        clear hB4 f4 f5 hB5 hq5 HQ4 HGR HOW t0 t1
        generalize w4.setCell ⟨q, 0, none⟩ (.slice (some ⟨g, 0, none⟩) (σ.drawn.length + 1) cap1) = w5 at *
        clear l0 l0' lf lf' k0 k0'
        go_wp2_with fail
        go_meet
        case rel => exact HG5.out
    · have d1 : ((σ'.N : Int) != (σ.N : Int)) = false := by rw [e1]; simp
      go_wp2_with fail
      go_meet
      case rel => rw [e2]; exact ⟨H2.out, HL2.out, HA2.out⟩
  case rest =>
  clear H2 HL2 HA2
  have HG := Lib.hid hcut
  clear hcut
  have k4 := (HG.out.cw.cl j hj).c4
  obtain ⟨c, hc⟩ : ∃ c, c = ((σ'.ph j).isIn && !(σ.ph j).isIn) := ⟨_, rfl⟩
  go_upto_region 6 with (fail)
  go_cut [52] (fun v wx => v = .bool c ∧ wx = wc)
  case first =>
    subst hc
    generalize (σ'.ph j).isIn = a at *
    generalize (σ.ph j).isIn = b at *
    cases a <;> cases b
    all_goals
      go_wp2_with fail
      go_meet
      case rel => exact ⟨rfl, rfl⟩
  case rest =>
  obtain ⟨rfl, hwc⟩ := hcut
  obtain rfl := hwc.symm
  clear k4
  have HC := Lib.hid hc
  clear hc
  go_upto_if 52 with (fail)
  go_cut [] (fun wx => GS w0 wx B n H bs σ' (m + 1) q σ'.drawn σ'.served va)
  case first =>
    cases c
    · have hse : σ'.served = σ.served := by
        rcases HLN.out with ⟨_, _, e3, _⟩ | ⟨_, _, ⟨e3, _⟩ | ⟨_, e4, e5, _⟩⟩
        · exact e3
        · exact e3
        · have := HC.out; rw [e4, e5] at this; cases this
      go_wp2_with fail
      go_meet
      case rel => rw [hse]; exact HG.out
    · obtain ⟨hdr, hse, hin, hp⟩ : σ'.drawn = σ.drawn ∧ σ'.served = σ.served + 1 ∧ (σ'.ph j).isIn = true ∧ σ.ph j = .wait σ.S := by
        rcases HLN.out with ⟨_, _, _, e4⟩ | ⟨_, e2, ⟨_, e4 | e4⟩ | ⟨e3, e4, _, e5⟩⟩
        · have := HC.out; rw [e4] at this; cases this
        · have := HC.out; rw [e4] at this; cases this
        · have := HC.out; rw [e4] at this; simp at this
        · exact ⟨e2, e3, e4, e5⟩
      obtain ⟨hs1, hs2⟩ := HSL.out hp
      have hgs := HG.out
      rw [hdr] at hgs
      obtain ⟨lv, hl1, hl2, hl3⟩ := hgs.ln
      obtain ⟨g, cap, x, rfl, hx, hxc, -⟩ := own_at hl3 σ.served hs1
      have hxx : x = .int .i64 ((9 * j : Nat) : Int) := by
        unfold nines at hx; rw [List.getElem?_map, hs2] at hx; simpa using hx.symm
      subst hxx
      have hhd : wc.cell? ⟨B.wb, 72, none⟩ = some (.int .i64 ((9 * j : Nat) : Int)) := by
        obtain ⟨V, s, hW, _, _, _, h4, _⟩ := hgs.cw.wld
        rw [← h4 j hj (by cases hq : σ'.ph j <;> rw [hq] at hin <;> first | rfl | cases hin)]
        exact hW.hcell'
      have hlen := HLEN.out
      have hN := HN.out
      have d1 : decide ((σ.drawn.length : Int) ≤ σ.served) = false := decide_eq_false (by omega)
      have d1n : decide (σ.drawn.length ≤ σ.served) = false := decide_eq_false (by omega)
      have d2 : (σ.served : Int) < σ.drawn.length := by omega
      have e9 : wrap64 ((σ.served : Int) + 1) = (σ.served : Int) + 1 := IntWalk.wrap64_in _ (by omega)
      have l0 : ∀ st : ExtW wc, st.val.cell? ⟨q, 0, none⟩ = some (.slice (some ⟨g, 0, none⟩) σ.drawn.length cap) := fun st => st.cell (hcell hl1 0)
      have l1 : ∀ st : ExtW wc, st.val.cell? ⟨q, 1, none⟩ = some (.int .i64 σ.served) := fun st => st.cell (hcell hl1 1)
      have lx := fun st : ExtW wc => st.cell hxc
      have lh := fun st : ExtW wc => st.cell hhd
      have lk := fun st : ExtW wc => st.cell (hgs.cw.cl j hj).c0
      have HGS := Lib.hid hgs; have HL1 := Lib.hid hl1; have HL2 := Lib.hid hl2; have HL3 := Lib.hid hl3; have HDR := Lib.hid hdr; have HSE := Lib.hid hse
      clear hgs hl1 hl2 hl3 hdr hse hx hxc hhd hs2 hp hin hlen hN
      go_upto_region 7 with (fail)
      refine wp_region_ext (by kernel_rfl) (by kernel_rfl) ?_
      repeat (go_big_quiet_step (fail))
      refine wpQuiet_nil ?_
      rintro W ⟨⟨W2, hW⟩, rfl⟩
      clear l0 l1 lx lh lk d1 d1n d2
      have HL1' := Lib.hid ((hW.block _ (Array.getElem?_eq_some_iff.1 HL1.out).1).trans HL1.out)
      have HGS' := Lib.hid (HGS.out.cw.keep hW)
      have HL3' := Lib.hid (own_fr HL3.out (below_fr hW (fun _ => false) false) rfl)
      have HA' := Lib.hid (own_fr HGS.out.all (below_fr hW (fun _ => false) false) rfl)
      clear hW HL1 HL3 HGS
      have t1 := hcell HL1'.out 1
      have tf := hfrz HL1'.out 1
      have f5 := set_ty HL1'.out 1 (.int .i64 ((σ.served : Int) + 1))
      have hB5 := set_below HGS'.out.below HGS'.out.below.size HL2.out 1 (.int .i64 ((σ.served : Int) + 1))
      have hq5 := setCell_same HL1'.out 1 (.int .i64 ((σ.served : Int) + 1))
      have HG5 : Hid (GS w0 (W.setCell ⟨q, 1, none⟩ (.int .i64 ((σ.served : Int) + 1))) B n H bs σ' (m + 1) q σ'.drawn σ'.served va) := by
        refine ⟨HGS'.out.fr f5 (fun T hT => line_ty T hT) hB5, ?_, own_fr HA'.out f5 rfl⟩
        rw [HDR.out, HSE.out]
        refine ⟨.slice (some ⟨g, 0, none⟩) σ.drawn.length cap, ?_, HL2.out, own_fr HL3'.out f5 rfl⟩
        rw [show ((σ.served + 1 : Nat) : Int) = (σ.served : Int) + 1 by omega]
        exact hq5
      clear f5 hB5 hq5
      go_wp2_with fail
      go_meet
      case rel => exact HG5.out
  case rest =>
  clear HG HC HSL HLN
  have HG := Lib.hid hcut
  clear hcut
  go_wp2_with fail
  go_loopw [11, 12] (fun v i wr => ∃ k : Nat, k ≤ n ∧ i = .int .i64 k ∧ v = .int .i64 (busyTo σ' k) ∧ wr = wc) (fun _ i _ => n - (intOf i).toNat)
  case atStart => exact ⟨0, by omega, rfl, rfl, rfl⟩
  case round =>
    obtain ⟨k, hk, rfl, rfl, hwr⟩ := hrel
    obtain rfl := hwr.symm
    have hn8 : n ≤ 8 := HNN.out
    by_cases hlt : k < n
    · obtain ⟨g, cap, hva, hcx⟩ := HG.out.all.at k hlt
      subst hva
      have hlt' : (k : Int) < n := by omega
      have hb1 := busy_le HI.out k (by omega)
      have hb2 : busyTo σ' (k + 1) = busyTo σ' k + if (σ'.ph k).busy then 1 else 0 := rfl
      have k4 := (HG.out.cw.cl k hlt).c4
      have k6 := (HG.out.cw.cl k hlt).c6
      generalize (σ'.ph k).isIn = a at *
      generalize (σ'.ph k).busy = b at *
      generalize busyTo σ' k = z at *
      have ez : wrap64 ((z : Int) + 1) = (z : Int) + 1 := IntWalk.wrap64_in _ (by omega)
      rcases k6 with ⟨rfl, rfl⟩ | ⟨rfl, rfl, gb, k6⟩ | ⟨rfl, rfl, k6⟩
      · have HB2 : Hid (busyTo σ' (k + 1) = z + 1) := hb2
        clear hb1 hb2
        go_wp2_with fail
        go_roundw
        case rel => exact ⟨k + 1, by omega, by go_num, by rw [show busyTo σ' (k + 1) = z + 1 from HB2.out, ez]; rfl, by first | rfl | trivial⟩
        case measure => simp [intOf]; omega
      · have HB2 : Hid (busyTo σ' (k + 1) = z + 1) := hb2
        clear hb1 hb2
        go_wp2_with fail
        go_roundw
        case rel => exact ⟨k + 1, by omega, by go_num, by rw [show busyTo σ' (k + 1) = z + 1 from HB2.out, ez]; rfl, by first | rfl | trivial⟩
        case measure => simp [intOf]; omega
      · have HB2 : Hid (busyTo σ' (k + 1) = z) := hb2
        clear hb1 hb2
        go_wp2_with fail
        go_roundw
        case rel => exact ⟨k + 1, by omega, by go_num, by rw [show busyTo σ' (k + 1) = z from HB2.out], by first | rfl | trivial⟩
        case measure => simp [intOf]; omega
    · obtain rfl : k = n := by omega
      have hb1 := busy_le HI.out k (Nat.le_refl _)
      have d1 : decide (((busyTo σ' k : Nat) : Int) ≤ 1) = true := decide_eq_true (by omega)
      have hva : ∃ a cap, va = .slice a k cap := own_sl2 HG.out.all
      obtain ⟨a, cap, rfl⟩ := hva
      generalize busyTo σ' k = z at *
      clear hb1
      go_wp2
      go_ret
      exact ⟨rfl, HG.out⟩
end Go.Proofs.Ytddflihgadlafaa

/-
  TicketsOne: is a client done, does it wait.
-/
namespace Go.Proofs.Ytddflihgadlafaa
open Go.RowKit
set_option linter.unusedVariables false

def tdone (l : Nat) : Ph → Bool
  | .idle => l == 0
  | _ => false
def twait (S : Nat) : Ph → Bool
  | .wait k => k != S
  | _ => false
theorem skip_eq (σ : TSt) (j : Nat) : tskip σ j = (twait σ.S (σ.ph j) || tdone (σ.left j) (σ.ph j)) := by
  unfold tskip twait tdone
  cases σ.ph j <;> simp
set_option maxHeartbeats 1000000 in
theorem done_any {w : World} {base b t H l : Nat} {ph : Ph} (h : ClAt w base b t H l ph) (hl : l ≤ 100) : Calls Try.prog 25 #[.pointer (some ⟨b, 0, none⟩)] w fun e w' => e = .returned (.bool (tdone l ph)) ∧ w' = w := by
  have key : ∀ (hs : Int) (i : Bool) (tk gv : Option Addr), Clb w b t l H hs i (.pointer tk) (.pointer gv) → Calls Try.prog 25 #[.pointer (some ⟨b, 0, none⟩)] w fun e w' => e = .returned (.bool (l == 0 && tk.isNone && gv.isNone && !i)) ∧ w' = w := by
    intro hs i tk gv hC
    have c1 := hcell hC 1
    have c4 := hcell hC 4
    have c5 := hcell hC 5
    have c6 := hcell hC 6
    clear hC h
    by_cases h0 : l = 0
    · subst h0
      cases tk with
      | none =>
        cases gv with
        | none =>
          cases i
          all_goals
            go_enter Try.func25, Try.ntmps25
            go_wp2
            go_ret
            exact ⟨rfl, rfl⟩
        | some g =>
          go_enter Try.func25, Try.ntmps25
          go_wp2
          go_ret
          exact ⟨rfl, rfl⟩
      | some g =>
        go_enter Try.func25, Try.ntmps25
        go_wp2
        go_ret
        exact ⟨rfl, rfl⟩
    · have d1 : ((l : Int) == 0) = false := beq_eq_false_iff_ne.2 (by omega)
      have d2 : (l == 0) = false := beq_eq_false_iff_ne.2 h0
      have HD := Lib.hid d2
      clear h0 d2
      go_enter Try.func25, Try.ntmps25
      go_wp2
      go_ret
      exact ⟨by rw [HD.out]; rfl, rfl⟩
  cases ph with
  | idle => obtain ⟨_, hs, h⟩ := h; have := key _ _ _ _ h; simpa [tdone] using this
  | wait k => obtain ⟨_, hs, tb, h, _⟩ := h; have := key _ _ _ _ h; simpa [tdone] using this
  | hold g => obtain ⟨_, h⟩ := h; have := key _ _ _ _ h; simpa [tdone] using this
  | give => obtain ⟨_, hs, gb, h, _⟩ := h; have := key _ _ _ _ h; simpa [tdone] using this
theorem cwaits {j : Nat} {w0 w : World} {B : WB} {n H : Nat} {bs : Nat → Nat} {σ : TSt} {m : Nat} (h : CW w0 w B n H bs σ m) (hk : ∀ k, σ.ph j = .wait k → k ≤ 100) (hn : n ≤ 7 + 1) (hj : j < n) :
    Calls Try.prog 24 #[.pointer (some ⟨B.wb, 0, none⟩), .int .i64 ((9 * j : Nat) : Int)] w fun e w' => e = .returned (.bool (twait σ.S (σ.ph j))) ∧ w' = w := by
  obtain ⟨V, s, hW, v0', v1', htk, _⟩ := h.wld
  refine (waits_any hW (9 * j) (by omega)).mono fun e w' ⟨he, hw⟩ => ⟨?_, hw⟩
  rw [he, htk j hj, v1']
  congr 2
  cases hp : σ.ph j with
  | wait k =>
    have hk2 := hk k hp
    have e1 : IntKind.u64.wrap ((k : Int) + 1 - 1) = k := by rw [IntKind.wrap_u64]; omega
    have e2 : (((k : Int) + 1) != 0) = true := by rw [bne_iff_ne]; omega
    simp only [tkOf, twait, e1, e2, Bool.true_and]
    by_cases e : k = σ.S
    · subst e; simp
    · have h1 : ((σ.S : Int) != k) = true := by rw [bne_iff_ne]; omega
      have h2 : (k != σ.S) = true := by rw [bne_iff_ne]; exact e
      rw [h1, h2]
  | idle => simp [tkOf, twait]
  | hold g => simp [tkOf, twait]
  | give => simp [tkOf, twait]
theorem GS.le {w0 w : World} {B : WB} {n H : Nat} {bs : Nat → Nat} {σ : TSt} {m m' q : Nat} {dr : List Nat} {sv : Nat} {va : Value} (h : GS w0 w B n H bs σ m q dr sv va) (hm : m ≤ m') : GS w0 w B n H bs σ m' q dr sv va := by
  obtain ⟨V, s, h1, h2, h3, h4, h5, h6, h7, h8⟩ := h.cw.wld
  exact ⟨⟨⟨V, s, h1, h2, h3, h4, h5, h6, by omega, by omega⟩, h.cw.cl⟩, h.ln, h.all⟩
theorem GS.keep {w0 w w' : World} {B : WB} {n H : Nat} {bs : Nat → Nat} {σ : TSt} {m q : Nat} {dr : List Nat} {sv : Nat} {va : Value} (h : GS w0 w B n H bs σ m q dr sv va) (hb : Below w.heap.size w w') : GS w0 w' B n H bs σ m q dr sv va :=
  ⟨h.cw.keep hb, h.ln.fr (below_fr hb (fun _ => false) false) rfl rfl, own_fr h.all (below_fr hb (fun _ => false) false) rfl⟩
theorem sumTo_ge {f : Nat → Nat} {j : Nat} : ∀ {n : Nat}, j < n → f j ≤ sumTo f n
  | 0, h => by omega
  | n + 1, h => by
    simp only [sumTo]
    by_cases e : j = n
    · subst e; omega
    · have := sumTo_ge (f := f) (n := n) (j := j) (by omega); omega
theorem TInv.left_le {n H total : Nat} {σ : TSt} (h : TInv n H total σ) (j : Nat) (hj : j < n) : σ.left j ≤ total := by
  have := sumTo_ge (f := σ.left) hj; have := h.sum; omega
theorem CW.tk {w0 w : World} {B : WB} {n H : Nat} {bs : Nat → Nat} {σ : TSt} {m : Nat} (h : CW w0 w B n H bs σ m) (j : Nat) (hj : j < n) (hn : n ≤ 7 + 1) : w.cell? ⟨B.wb, 8 + 9 * j, none⟩ = some (.int .u64 (tkOf (σ.ph j))) := by
  obtain ⟨V, s, hW, _, _, htk, _⟩ := h.wld
  rw [← htk j hj]; exact hW.cellb (9 * j) (by omega)
theorem CW.free {w0 w : World} {B : WB} {n H : Nat} {bs : Nat → Nat} {σ : TSt} {m : Nat} (h : CW w0 w B n H bs σ m) (hb : ∀ j, j < n → (σ.ph j).busy = false) : w.cell? ⟨B.wb, 72, none⟩ = some (.int .i64 (-1)) := by
  obtain ⟨V, s, hW, _, _, _, _, h6, _⟩ := h.wld
  rw [← h6 hb]; exact hW.hcell'
theorem nine_cast (j : Nat) : ((9 * j : Nat) : Int) = 9 * (j : Int) := by omega
end Go.Proofs.Ytddflihgadlafaa

/-
  TicketsOne: the walk.
-/
namespace Go.Proofs.Ytddflihgadlafaa
open Go.RowKit
set_option linter.unusedVariables false

theorem info_client : (Try.prog.info? 78).map (fun i => (i.zero, i.size, i.bytes)) = some (some (.pointer none), 1, 8) := by kernel_rfl
/-- The clients that there are, ahead of all steps. -/
structure L1 (w0 w : World) (B : WB) (i H : Nat) (R bs : Nat → Nat) (va : Value) : Prop where
  ws : WS w0 w B (v0 conf10) (CS.init [(2, 2)])
  cl : ∀ j, j < i → ClAt w w0.heap.size (bs j) (9 * j) H (R j) .idle
  all : AllAt w w0.heap.size i bs va
theorem conf10_cw {w0 w : World} {B : WB} {n H : Nat} {R bs : Nat → Nat} {va : Value} (h : L1 w0 w B n H R bs va) (hn : n ≤ 8) : CW w0 w B n H bs (tstart R) 1 :=
  ⟨⟨_, _, h.ws, rfl, rfl, fun j hj => by show (List.replicate 64 (0 : Int)).getD (9 * j) 0 = 0; rw [List.getD_eq_getElem?_getD, List.getElem?_replicate]; simp [show 9 * j < 64 by omega], fun j _ hb => (by cases hb), fun _ => rfl, by decide, by decide⟩, h.cl⟩
theorem By8.get {w : World} {a : Option Addr} {cap : Nat} {l : List Int} (h : By8 w a cap l) (i : Nat) (hi : i < l.length) :
    ∃ b off, a = some ⟨b, off, none⟩ ∧ (0 ≤ l.getD i 0 ∧ l.getD i 0 < 256) ∧ w.cell? ⟨b, off + i, none⟩ = some (.int .u8 (l.getD i 0)) := by
  have e : l.getD i 0 = l[i] := by rw [List.getD_eq_getElem?_getD, List.getElem?_eq_getElem hi]; rfl
  rw [e]
  rcases h.cell with rfl | ⟨b, off, rfl, h5⟩
  · simp at hi
  · exact ⟨b, off, rfl, h.wf _ (List.getElem_mem hi), h5 i hi⟩
theorem pcl_ty (T : TypeId) (h : cTy T = true) : (T == 78) = false := by
  cases hT : (T == 78)
  · rfl
  · rw [beq_iff_eq] at hT; subst hT; cases h
theorem w_c (T : TypeId) (h : wTy T = true) : cTy T = true := by unfold cTy; rw [h]; rfl
def roundsOf (xs : List Int) : Nat → Nat := fun j => 1 + ((xs.getD j 0) % 4).toNat
set_option maxRecDepth 10000 in
set_option maxHeartbeats 4000000 in
theorem tone_any (xs : List Int) (ax : Option Addr) (cx : Nat) (hd : Int) (hhd : (Lit.int .u8 hd).wf = true) (ys : List Int) (ay : Option Addr) (cy : Nat) (w : World) (hx : By8 w ax cx xs) (hy : By8 w ay cy ys) :
    Calls Try.prog 4 #[.slice ax xs.length cx, .int .u8 hd, .slice ay ys.length cy] w fun e w' => e = .returned (.bool true) ∧ Below w.heap.size w w' := by
  have hml : xs.length ≤ maxLen := Nat.le_trans hx.le hx.most
  have hml2 : ys.length ≤ maxLen := Nat.le_trans hy.le hy.most
  unfold maxLen at hml hml2
  have hdb : 0 ≤ hd ∧ hd < 256 := by
    have hmin : IntKind.u8.min = 0 := rfl
    have hmax : IntKind.u8.max = 255 := rfl
    simp only [Lit.wf, Bool.and_eq_true, decide_eq_true_eq] at hhd; omega
  have HX := Lib.hid hx; have HY := Lib.hid hy
  clear hx hy hhd
  by_cases h0 : xs.length = 0
  · have d0 : ((xs.length : Int) == 0) = true := beq_iff_eq.2 (by omega)
    go_enter Try.func4, Try.ntmps4
    go_wp2_with (go_at_call 21; refine (lives11 _).mono ?_; rintro e w3 ⟨rfl, b3⟩)
    go_ret
    exact ⟨rfl, b3⟩
  have d0 : ((xs.length : Int) == 0) = false := beq_eq_false_iff_ne.2 (by omega)
  by_cases h8 : 8 < xs.length
  · have d1 : decide ((8 : Int) < xs.length) = true := decide_eq_true (by omega)
    clear h0
    go_enter Try.func4, Try.ntmps4
    go_wp2_with (go_at_call 21; refine (lives11 _).mono ?_; rintro e w3 ⟨rfl, b3⟩)
    go_ret
    exact ⟨rfl, b3⟩
  have d1 : decide ((8 : Int) < xs.length) = false := decide_eq_false (by omega)
  by_cases h6 : 600 < ys.length
  · have d2 : decide ((600 : Int) < ys.length) = true := decide_eq_true (by omega)
    clear h0 h8
    go_enter Try.func4, Try.ntmps4
    go_wp2_with (go_at_call 21; refine (lives11 _).mono ?_; rintro e w3 ⟨rfl, b3⟩)
    go_ret
    exact ⟨rfl, b3⟩
  have d2 : decide ((600 : Int) < ys.length) = false := decide_eq_false (by omega)
  obtain ⟨H, hH⟩ : ∃ H : Nat, (H : Int) = 1 + hd % 3 := ⟨(1 + hd % 3).toNat, by omega⟩
  have hH13 : 1 ≤ H ∧ H ≤ 3 := by omega
  have ehd : wrap64 (1 + hd.tmod 3) = H := by rw [Int.tmod_eq_emod_of_nonneg hdb.1, ← hH]; exact IntWalk.wrap64_in _ (by omega)
  have ehda : wrap64 (hd.tmod 3) = hd.tmod 3 := by rw [Int.tmod_eq_emod_of_nonneg hdb.1]; exact IntWalk.wrap64_in _ (by omega)
  have HEHA := Lib.hid ehda
  have HH := Lib.hid hH13; have HEH := Lib.hid ehd
  have HN : Hid (1 ≤ xs.length ∧ xs.length ≤ 8) := ⟨by omega, by omega⟩
  have HM : Hid (ys.length ≤ 600) := by show ys.length ≤ 600; omega
  obtain ⟨i0, hi0, hz0, hz1, hz2⟩ := info_parts info_client
  have HI0 := Lib.hid hi0; have HZ0 := Lib.hid hz0; have HZ1 := Lib.hid hz1; have HZ2 := Lib.hid hz2
  clear h0 h8 h6 hH hH13 ehd ehda hdb hml hml2 hi0 hz0 hz1 hz2
  go_enter Try.func4, Try.ntmps4
  go_upto_region 6 with (go_at_call 22; refine (begin11 w).mono ?_; rintro e w1 ⟨B, rfl, h1⟩; have H1 := Lib.hid h1; clear h1)
  clear d0 d1 d2
  go_wp2_with fail
  go_loopw [8, 9, 10] (fun va tot i wr => ∃ (k : Nat) (bs : Nat → Nat), k ≤ xs.length ∧ i = .int .i64 k ∧ tot = .int .u64 (sumTo (roundsOf xs) k) ∧ L1 w wr B k H (roundsOf xs) bs va) (fun _ _ i _ => xs.length - (intOf i).toNat)
  case atStart => exact ⟨0, fun _ => 0, by omega, rfl, rfl, ⟨H1.out, fun j hj => by omega, World.ownsRow_nil _ _ _ _⟩⟩
  case round =>
    clear H1
    obtain ⟨k, bs, hk, rfl, rfl, hL⟩ := hrel
    have hn8 := HN.out
    by_cases hlt : k < xs.length
    · obtain ⟨b, off, rfl, hxb, hxc⟩ := (HX.out.below hL.ws.below).get k hlt
      have hr : roundsOf xs k = 1 + (xs.getD k 0 % 4).toNat := rfl
      have hS : sumTo (roundsOf xs) (k + 1) = sumTo (roundsOf xs) k + roundsOf xs k := rfl
      have hSle : sumTo (roundsOf xs) k ≤ k * 4 := sumTo_le fun i _ => by show 1 + ((xs.getD i 0) % 4).toNat ≤ 4; omega
      generalize xs.getD k 0 = x at *
      have hlt' : (k : Int) < xs.length := by omega
      have e1 : wrap64 (1 + x.tmod 4) = (roundsOf xs k : Int) := by rw [Int.tmod_eq_emod_of_nonneg hxb.1, IntWalk.wrap64_in _ (by omega)]; omega
      have e1a : wrap64 (x.tmod 4) = x.tmod 4 := by rw [Int.tmod_eq_emod_of_nonneg hxb.1]; exact IntWalk.wrap64_in _ (by omega)
      have e2 : IntKind.u64.wrap ((roundsOf xs k : Nat) : Int) = (roundsOf xs k : Int) := by rw [IntKind.wrap_u64]; omega
      have e3 : IntKind.u64.wrap (((sumTo (roundsOf xs) k : Nat) : Int) + ((roundsOf xs k : Nat) : Int)) = ((sumTo (roundsOf xs) (k + 1) : Nat) : Int) := by rw [IntKind.wrap_u64]; omega
      have e4 : wrap64 (9 * (k : Int)) = 9 * k := IntWalk.wrap64_in _ (by omega)
      have e5 : (9 * (k : Int)).tmod 64 = 9 * k := by rw [Int.tmod_eq_emod_of_nonneg (by omega)]; omega
      have e6 : (k : Int).tdiv 8 = 0 := by rw [Int.tdiv_eq_ediv_of_nonneg (by omega)]; omega
      have ehd := HEH.out
      have ehda := HEHA.out
      have HL := Lib.hid hL; have HR := Lib.hid hr
      clear hL hr hS hSle
      generalize hrk : roundsOf xs k = r at *
      generalize hsk : sumTo (roundsOf xs) (k + 1) = s1 at *
      generalize sumTo (roundsOf xs) k = s0 at *
      have HRK := Lib.hid hrk; have HSK := Lib.hid hsk; have HXB := Lib.hid hxb
      clear hrk hsk hxb
      go_upto_region 11 with (fail)
      have hw9 := HL.out.ws.below.size
      go_wp2_with (at_builtin; refine wpList_append_own _ rfl _ _ 77 rfl w.heap.size 78 i0 (.pointer none) 1 8 Try.underlying77 HI0.out HZ0.out HZ1.out HZ2.out rfl (by decide) _ _ _ rfl ((HL.out.all.alloc _).alloc _) ⟨_, 0, none⟩ 1 1 [.pointer (some ⟨wr.heap.size, 0, none⟩)] rfl rfl ?c1 ?c2 ?c3 ?c4 ?c5 ?_)
      case c1 => exact news_one _ _ _ _ (by simp)
      case c2 => simp [Value.oneCell']
      case c3 => unfold maxLen; omega
      case c4 => omega
      case c5 => simp; omega
      intro v' w11 hown' hgrow _
      have hb1 : Below wr.heap.size wr (wr.alloc (.cells #[.int .i64 (9 * (k : Int)), .int .i64 r, .int .i64 H, .int .i64 0, .bool false, .pointer none, .pointer none] 82)) := below_alloc wr _
      have hb2 : Below wr.heap.size wr ((wr.alloc (.cells #[.int .i64 (9 * (k : Int)), .int .i64 r, .int .i64 H, .int .i64 0, .bool false, .pointer none, .pointer none] 82)).alloc (.cells #[.pointer (some ⟨wr.heap.size, 0, none⟩)] 78)) := hb1.trans ((below_alloc _ _).mono hb1.size)
      have hold := (HL.out.all.alloc (.cells #[.int .i64 (9 * (k : Int)), .int .i64 r, .int .i64 H, .int .i64 0, .bool false, .pointer none, .pointer none] 82)).alloc (.cells #[.pointer (some ⟨wr.heap.size, 0, none⟩)] 78)
      have hcl : ((wr.alloc (.cells #[.int .i64 (9 * (k : Int)), .int .i64 r, .int .i64 H, .int .i64 0, .bool false, .pointer none, .pointer none] 82)).alloc (.cells #[.pointer (some ⟨wr.heap.size, 0, none⟩)] 78)).heap[wr.heap.size]? = some (.cells #[.int .i64 (9 * (k : Int)), .int .i64 r, .int .i64 H, .int .i64 0, .bool false, .pointer none, .pointer none] 82 (0, 0)) := heap_alloc_old (heap_alloc_new wr _)
      have hf : Fr (fun T => T == 78) false wr w11 := (below_fr hb2 _ _).trans (grown_ty hold hgrow)
      have hB := grown_below hold hgrow (HL.out.ws.below.trans (hb2.mono hw9)) (Nat.le_trans hw9 hb2.size) (Nat.le_refl _)
      have HREL : Hid (L1 w w11 B (k + 1) H (roundsOf xs) (tupd bs k wr.heap.size) v') := by
        refine ⟨HL.out.ws.fr hf (fun T hT => pcl_ty T (w_c T hT)) hB, fun j hj => ?_, ?_⟩
        · by_cases e : j = k
          · subst e
            rw [tupd_same, show roundsOf xs j = r from HRK.out]
            refine ⟨hw9, 0, ?_⟩
            have := (grown_ty hold hgrow).cells _ _ _ _ hcl rfl
            rw [show ((9 * j : Nat) : Int) = 9 * (j : Int) by omega]
            exact this
          · rw [tupd_other _ _ e]
            exact (HL.out.cl j (by omega)).fr hf rfl rfl rfl
        · have e1 : (List.range (k + 1)).map (fun j => Value.pointer (some ⟨tupd bs k wr.heap.size j, 0, none⟩)) = (List.range k).map (fun j => Value.pointer (some ⟨bs j, 0, none⟩)) ++ [.pointer (some ⟨wr.heap.size, 0, none⟩)] := by
            rw [List.range_succ, List.map_append]
            congr 1
            · refine List.map_congr_left fun j hj => ?_
              rw [tupd_other _ _ (by have := List.mem_range.1 hj; omega)]
            · simp [tupd_same]
          unfold AllAt
          rw [e1]
          exact hown'
      clear hb1 hb2 hold hcl hf hB hown' hgrow hxc HL
      go_wp2_with fail
      go_roundw
      case rel => exact ⟨k + 1, tupd bs k wr.heap.size, by omega, by go_num, by rw [show sumTo (roundsOf xs) (k + 1) = s1 from HSK.out], HREL.out⟩
      case measure => simp [intOf]; omega
    · obtain rfl : k = xs.length := by omega
      have HL := Lib.hid hL
      clear hL hk
      go_upto_region 13 with (fail)
      have hb := below_alloc wr (.cells #[.slice none 0 0, .int .i64 0] 86)
      have hz := heap_alloc_new wr (.cells #[.slice none 0 0, .int .i64 0] 86)
      have HGS : Hid (GS w (wr.alloc (.cells #[.slice none 0 0, .int .i64 0] 86)) B xs.length H bs (tstart (roundsOf xs)) 1 wr.heap.size [] 0 u8) :=
        ⟨(conf10_cw HL.out HN.out.2).keep hb, ⟨_, hz, HL.out.ws.below.size, World.ownsRow_nil _ _ _ _⟩, own_fr HL.out.all (below_fr hb (fun _ => false) false) rfl⟩
      clear hb hz HL
      change Code.wp _ _ _ _ (wr.alloc (.cells #[.slice none 0 0, .int .i64 0] 86))
      generalize wr.alloc (.cells #[.slice none 0 0, .int .i64 0] 86) = w4 at *
      generalize wr.heap.size = q at *
      have HTI : Hid (TInv xs.length H (sumTo (roundsOf xs) xs.length) (tstart (roundsOf xs)) ∧ tleft xs.length H (tstart (roundsOf xs)) ≤ 192 ∧ sumTo (roundsOf xs) xs.length ≤ 32) :=
        ⟨tstart_inv _ _ _, tstart_cost _ _ _ HN.out.2 HH.out.2 fun j => by show 1 + ((xs.getD j 0) % 4).toNat ≤ 4; omega, by
          have h1 : sumTo (roundsOf xs) xs.length ≤ xs.length * 4 := sumTo_le fun i _ => by show 1 + ((xs.getD i 0) % 4).toNat ≤ 4; omega
          have := HN.out.2; omega⟩
      generalize roundsOf xs = R at *
      generalize hnx : xs.length = n at *
      have hn18 : 1 ≤ n ∧ n ≤ 8 := HN.out
      obtain ⟨σ0, hσ0, hσ1⟩ : ∃ σ : TSt, TInv n H (sumTo R n) σ ∧ tleft n H σ ≤ 192 ∧ GS w w4 B n H bs σ 1 q σ.drawn σ.served u8 := ⟨_, HTI.out.1, HTI.out.2.1, HGS.out⟩
      have HT32 : Hid (sumTo R n ≤ 32) := HTI.out.2.2
      generalize sumTo R n = total at *
      have hall : ∃ g cap, u8 = .slice (some ⟨g, 0, none⟩) n cap := by obtain ⟨g, cap, h, _⟩ := hσ1.2.all.at 0 (by omega); exact ⟨g, cap, h⟩
      obtain ⟨ga, capa, hva⟩ := hall
      subst hva
      have HS0 := Lib.hid hσ0; have HS1 := Lib.hid hσ1
      clear hσ0 hσ1 HGS HTI hnx
      have hdn : ((n : Int) == 0) = false := beq_eq_false_iff_ne.2 (by omega)
      go_wp2_with fail
      go_loopw [13] (fun i wr => ∃ (k : Nat) (σ : TSt), k ≤ ys.length ∧ i = .int .i64 k ∧ TInv n H total σ ∧ tleft n H σ ≤ 192 ∧ GS w wr B n H bs σ (k + 1) q σ.drawn σ.served (.slice (some ⟨ga, 0, none⟩) n capa)) (fun i _ => ys.length - (intOf i).toNat)
      case atStart => exact ⟨0, σ0, by omega, rfl, HS0.out, HS1.out.1, HS1.out.2⟩
      case round =>
        clear HS0 HS1 σ0
        obtain ⟨k, σ, hk, rfl, hI, hc, hG⟩ := hrel
        have hy600 := HM.out
        by_cases hlt : k < ys.length
        · obtain ⟨b, off, rfl, hyb, hyc⟩ := (HY.out.below hG.cw.below).get k hlt
          generalize ys.getD k 0 = y at *
          have hlt' : (k : Int) < ys.length := by omega
          obtain ⟨j, hj⟩ : ∃ j : Nat, (j : Int) = y % n := ⟨(y % n).toNat, by have := Int.emod_nonneg y (show (n : Int) ≠ 0 by omega); omega⟩
          have hjn : j < n := by have := Int.emod_lt_of_pos y (show (0 : Int) < n by omega); omega
          have hjn' : (j : Int) < n := by omega
          have e1 : wrap64 y = y := IntWalk.wrap64_in _ (by omega)
          have e2 : y.tmod (n : Int) = j := by rw [Int.tmod_eq_emod_of_nonneg hyb.1, hj]
          obtain ⟨g, cap, hva, hcx⟩ := hG.all.at j hjn
          simp only [Value.slice.injEq, Option.some.injEq, Addr.mk.injEq, true_and, and_true] at hva
          obtain ⟨rfl, rfl⟩ := hva
          have hgo := goes_any hG hI HT32.out (by omega) hn18.2 HH.out j hjn
          have HNX := Lib.hid (hI.next HH.out.1 j hjn)
          have HLE : Hid (tleft n H (tgo H σ j) ≤ 192) := Nat.le_trans (tgo_le hI j hjn) hc
          clear hI hG hj hyb hc
          go_wp2_with (go_at_call 23; refine hgo.mono ?_; rintro e w5 ⟨rfl, h5⟩; have H5 := Lib.hid h5; clear h5 hgo hcx hyc)
          go_roundw
          case rel => exact ⟨k + 1, tgo H σ j, by omega, by go_num, HNX.out, HLE.out, H5.out⟩
          case measure => simp [intOf]; omega
        · obtain rfl : k = ys.length := by omega
          have hI0 : 0 < n := by omega
          have HI := Lib.hid hI; have HC := Lib.hid hc; have HG := Lib.hid (hG.le (show ys.length + 1 ≤ 601 + 0 by omega)); have HN0 := Lib.hid hI0
          clear hI hc hG hI0 hk
          go_wp2_with fail
          go_loopw [14] (fun i wr => ∃ k : Nat, k ≤ 4000 ∧ i = .int .i64 k ∧ GS w wr B n H bs (turns n H σ k) (601 + k) q (turns n H σ k).drawn (turns n H σ k).served (.slice (some ⟨ga, 0, none⟩) n capa)) (fun i _ => 4000 - (intOf i).toNat)
          case atStart => exact ⟨0, by omega, rfl, HG.out⟩
          case round =>
            clear HG
            obtain ⟨k, hk, rfl, hG⟩ := hrel
            have hI := turns_inv HI.out HH.out.1 HN0.out k
            by_cases hlt : k < 4000
            · have hlt' : (k : Int) < 4000 := by omega
              obtain ⟨j, hj⟩ : ∃ j : Nat, j = k % n := ⟨_, rfl⟩
              have hjn : j < n := by rw [hj]; exact Nat.mod_lt _ HN0.out
              have hjn' : (j : Int) < n := by omega
              have e2 : (k : Int).tmod (n : Int) = j := by rw [Int.tmod_eq_emod_of_nonneg (by omega), hj]; omega
              have hnext : turns n H σ (k + 1) = tround H (turns n H σ k) j := by rw [hj]; rfl
              obtain ⟨g, cap, hva, hcx⟩ := hG.all.at j hjn
              simp only [Value.slice.injEq, Option.some.injEq, Addr.mk.injEq, true_and, and_true] at hva
              obtain ⟨rfl, rfl⟩ := hva
              have k0 := (hG.cw.cl j hjn).c0
              have ht32 : total ≤ 32 := HT32.out
              have hwt := cwaits (j := j) hG.cw (fun z hz => by have := (hI.waits j hjn z hz).2.1; have := hI.sum; omega) hn18.2 hjn
              have hdn := done_any (hG.cw.cl j hjn) (by have := hI.left_le j hjn; omega)
              have hgo := goes_any hG hI ht32 (by omega) hn18.2 HH.out j hjn
              have hsk := skip_eq (turns n H σ k) j
              generalize hs2 : turns n H σ (k + 1) = σ2 at *
              have HS2 := Lib.hid hs2
              clear hs2
              generalize turns n H σ k = σ1 at *
              have HG := Lib.hid hG; have HSK := Lib.hid hsk; have HNX := Lib.hid hnext
              clear hG hI hj hsk hnext
              obtain ⟨a, ha⟩ : ∃ a, a = twait σ1.S (σ1.ph j) := ⟨_, rfl⟩
              obtain ⟨d, hd'⟩ : ∃ d, d = tdone (σ1.left j) (σ1.ph j) := ⟨_, rfl⟩
              rw [← ha] at hwt; rw [← hd'] at hdn
              have HA := Lib.hid ha; have HD := Lib.hid hd'
              clear ha hd'
              have HSK2 : Hid (tskip σ1 j = (a || d)) := by rw [show a = _ from HA.out, show d = _ from HD.out]; exact HSK.out
              clear HA HD HSK
              cases a
              · cases d
                · have HR : Hid (σ2 = tgo H σ1 j) := by rw [show σ2 = _ from HNX.out, tround, show tskip σ1 j = _ from HSK2.out]; rfl
                  go_wp2_with (first
                    | (go_at_call 24; refine hwt.mono ?_; rintro e w' ⟨rfl, hw⟩; obtain rfl := hw.symm; clear hwt)
                    | (go_at_call 25; refine hdn.mono ?_; rintro e w' ⟨rfl, hw⟩; obtain rfl := hw.symm; clear hdn)
                    | (go_at_call 23; refine hgo.mono ?_; rintro e w5 ⟨rfl, h5⟩; have H5 := Lib.hid h5; clear h5 hgo hcx k0))
                  go_roundw
                  case rel => exact ⟨k + 1, by omega, by go_num, by rw [show turns n H σ (k + 1) = σ2 from HS2.out, show σ2 = _ from HR.out]; exact H5.out⟩
                  case measure => simp [intOf]; omega
                · have HR : Hid (σ2 = σ1) := by rw [show σ2 = _ from HNX.out, tround, show tskip σ1 j = _ from HSK2.out]; rfl
                  clear hgo
                  go_wp2_with (first
                    | (go_at_call 24; refine hwt.mono ?_; rintro e w' ⟨rfl, hw⟩; obtain rfl := hw.symm; clear hwt)
                    | (go_at_call 25; refine hdn.mono ?_; rintro e w' ⟨rfl, hw⟩; obtain rfl := hw.symm; clear hdn))
                  go_roundw
                  case rel => exact ⟨k + 1, by omega, by go_num, by rw [show turns n H σ (k + 1) = σ2 from HS2.out, show σ2 = _ from HR.out]; exact HG.out.le (by omega)⟩
                  case measure => simp [intOf]; omega
              · have HR : Hid (σ2 = σ1) := by rw [show σ2 = _ from HNX.out, tround, show tskip σ1 j = _ from HSK2.out]; rfl
                clear hgo
                go_wp2_with (first
                  | (go_at_call 24; refine hwt.mono ?_; rintro e w' ⟨rfl, hw⟩; obtain rfl := hw.symm; clear hwt)
                  | (go_at_call 25; refine hdn.mono ?_; rintro e w' ⟨rfl, hw⟩; obtain rfl := hw.symm; clear hdn))
                go_roundw
                case rel => exact ⟨k + 1, by omega, by go_num, by rw [show turns n H σ (k + 1) = σ2 from HS2.out, show σ2 = _ from HR.out]; exact HG.out.le (by omega)⟩
                case measure => simp [intOf]; omega
            · obtain rfl : k = 4000 := by omega
              obtain ⟨hall, hN, hS, hsv⟩ := turns_end HI.out HH.out.1 HN0.out hn18.2 HC.out
              generalize turns n H σ 4000 = σ1 at *
              have HG := Lib.hid hG; have HALL := Lib.hid hall; have HNS := Lib.hid (And.intro hN (And.intro hS hsv))
              have ht32 : total ≤ 32 := HT32.out
              clear hG hall hN hS hsv hI hlt
              go_wp2_with fail
              go_loopw [16] (fun i wr => ∃ k : Nat, k ≤ n ∧ i = .int .i64 k ∧ GS w wr B n H bs σ1 (601 + 4000) q σ1.drawn σ1.served (.slice (some ⟨ga, 0, none⟩) n capa)) (fun i _ => n - (intOf i).toNat)
              case atStart => exact ⟨0, by omega, rfl, HG.out⟩
              case round =>
                clear HG
                obtain ⟨k, hk, rfl, hG⟩ := hrel
                by_cases hlt : k < n
                · have hlt' : (k : Int) < n := by omega
                  obtain ⟨g, cap, hva, hcx⟩ := hG.all.at k hlt
                  simp only [Value.slice.injEq, Option.some.injEq, Addr.mk.injEq, true_and, and_true] at hva
                  obtain ⟨rfl, rfl⟩ := hva
                  obtain ⟨hl0, hp0⟩ := HALL.out k hlt
                  have k0 := fun st : ExtW wr => st.cell (hG.cw.cl k hlt).c0
                  have x0 := fun st : ExtW wr => st.cell hcx
                  have tk := hG.cw.tk k hlt hn18.2
                  rw [hp0] at tk
                  have h964 : ((9 * k : Nat) : Int) < 64 := by omega
                  have h964n : 9 * k < 64 := by omega
                  have t0 : ∀ st : ExtW wr, st.val.cell? ⟨B.wb, 8 + 9 * k, none⟩ = some (.int .u64 0) := fun st => st.cell tk
                  have m1 : ∀ st : ExtW wr, Calls Try.prog 25 #[.pointer (some ⟨bs k, 0, none⟩)] st.val fun e w' => e = .returned (.bool true) ∧ st.val = w' := fun st => by
                    have := done_any ((hG.cw.keep st.below).cl k hlt) (by omega)
                    rw [hl0, hp0] at this
                    exact this.mono fun e w' ⟨h1, h2⟩ => ⟨h1, h2.symm⟩
                  have m2 : ∀ st : ExtW wr, Calls Try.prog 24 #[.pointer (some ⟨B.wb, 0, none⟩), .int .i64 ((9 * k : Nat) : Int)] st.val fun e w' => e = .returned (.bool false) ∧ st.val = w' := fun st => by
                    have := cwaits (j := k) (hG.cw.keep st.below) (fun z hz => by rw [hp0] at hz; cases hz) hn18.2 hlt
                    rw [hp0] at this
                    exact this.mono fun e w' ⟨h1, h2⟩ => ⟨h1, h2.symm⟩
                  have HG := Lib.hid hG
                  clear hG hl0 hp0 tk hcx
                  go_upto_region 27 with (fail)
                  refine wp_region_ext (by kernel_rfl) (by kernel_rfl) ?_
                  repeat (go_big_quiet_step (first
                    | (go_at_call 25; with_reducible refine calls_ext_same (m1 _))
                    | (go_at_call 24; refine calls_ext_same (m2 _))))
                  refine wpQuiet_nil ?_
                  rintro W ⟨⟨W2, hW⟩, rfl⟩
                  have HG2 := Lib.hid (HG.out.keep hW)
                  clear k0 x0 t0 m1 m2 hW
                  go_wp2
                  go_roundw
                  case rel => exact ⟨k + 1, by omega, by go_num, HG2.out⟩
                  case measure => simp [intOf]; omega
                · obtain rfl : k = n := by omega
                  have HG := Lib.hid hG
                  have c72 := hG.cw.free fun j hj => by rw [(HALL.out j hj).2]; rfl
                  have c0 := hG.cw.c0
                  have p0 := hG.cw.peek0
                  have p1 := hG.cw.peek1
                  obtain ⟨lv, hl1, -, -⟩ := hG.ln
                  have l1 : wr.cell? ⟨q, 1, none⟩ = some (.int .i64 σ1.served) := hcell hl1 1
                  obtain ⟨hN, hS, hsv⟩ := HNS.out
                  rw [hN] at p0; rw [hS] at p1; rw [hsv] at l1
                  have e1 : IntKind.u64.wrap (total : Int) = total := by rw [IntKind.wrap_u64]; omega
                  clear hG hN hS hsv hl1 hlt
                  go_wp2_with (first
                    | (go_at_call 17; with_reducible refine p0.mono ?_; rintro e w' ⟨rfl, hw⟩; obtain rfl := hw.symm; clear p0)
                    | (go_at_call 17; with_reducible refine p1.mono ?_; rintro e w' ⟨rfl, hw⟩; obtain rfl := hw.symm; clear p1)
                    | (go_at_call 21; refine (lives11 _).mono ?_; rintro e w8 ⟨rfl, b8⟩))
                  go_ret
                  exact ⟨rfl, HG.out.cw.below.trans (b8.mono HG.out.cw.below.size)⟩
set_option maxRecDepth 10000 in
theorem walkTicketsOne {H1 : Type} (w : World) (enc : TypeId × Value → H1) (base : Nat) (v : Value) (d : DataW H1) (p : List MemPlace) (k : DataW.Trod enc Try.prog w 0 (fun _ => true) true 75 v d p) (o : Value.okWide Try.prog w .any base 75 v) (n : Int) (hn : (Lit.int .u8 n).wf = true)
    (enc2 : TypeId × Value → H1) (base2 : Nat) (v2 : Value) (d2 : DataW H1) (p2 : List MemPlace) (k2 : DataW.Trod enc2 Try.prog w 0 (fun _ => true) true 75 v2 d2 p2) (o2 : Value.okWide Try.prog w .any base2 75 v2) :
    Calls Try.prog 4 #[v, .int .u8 n, v2] w fun e w' => e = .returned (.bool true) ∧ Below w.heap.size w w' := by
  obtain ⟨a0, n0, cap0, rfl⟩ := Go.WideShapes.okWide_slice Try.underlying75 o
  obtain ⟨a1, n1, cap1, rfl⟩ := Go.WideShapes.okWide_slice Try.underlying75 o2
  obtain ⟨l, a, cap, hv, hl⟩ := by8_of (opened leaves_by8 k).1
  obtain ⟨l2, a2, cap2, hv2, hl2⟩ := by8_of (opened leaves_by8 k2).1
  rw [hv, hv2]
  exact tone_any l a cap n hn l2 a2 cap2 w hl hl2
end Go.Proofs.Ytddflihgadlafaa
