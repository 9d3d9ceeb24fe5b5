/-
  The document's cells, new over words; two rising lists that say the same are one.
-/
import Derived.Test.YtmakjfeepmiggaaGreatRef05Acc
namespace Go.Proofs.YtmakjfeepmiggaaGreat
open Go.RowKit
set_option linter.unusedVariables false

/-- A list of the document's words that may be read. -/
structure RWds (w : World) (a : Option Addr) (cap : Nat) (l : List (Int × Int)) : Prop where
  le : l.length ≤ cap
  most : cap ≤ maxLen
  wf : ∀ p ∈ l, (Lit.int .u64 p.1).wf = true ∧ (Lit.int .u64 p.2).wf = true
  cell : l = [] ∨ ∃ b off, a = some ⟨b, off, none⟩ ∧ ∀ i, (hi : i < l.length) → w.cell? ⟨b, off + i * 2, none⟩ = some (.int .u64 (l[i]).1) ∧ w.cell? ⟨b, off + i * 2 + 1, none⟩ = some (.int .u64 (l[i]).2)
theorem RWds.at {w : World} {a : Option Addr} {cap : Nat} {l : List (Int × Int)} (h : RWds w a cap l) (i : Nat) (hi : i < l.length) :
    ∃ b off x y, a = some ⟨b, off, none⟩ ∧ l[i]? = some (x, y) ∧ ((Lit.int .u64 x).wf = true ∧ (Lit.int .u64 y).wf = true) ∧ w.cell? ⟨b, off + i * 2, none⟩ = some (.int .u64 x) ∧ w.cell? ⟨b, off + i * 2 + 1, none⟩ = some (.int .u64 y) := by
  rcases h.cell with rfl | ⟨b, off, rfl, h5⟩
  · simp at hi
  · exact ⟨b, off, l[i].1, l[i].2, rfl, List.getElem?_eq_getElem hi, h.wf _ (List.getElem_mem hi), h5 i hi⟩
theorem RWds.below {w w' : World} {a : Option Addr} {cap : Nat} {l : List (Int × Int)} (h : RWds w a cap l) (hb : Below w.heap.size w w') : RWds w' a cap l := by
  refine ⟨h.le, h.most, h.wf, h.cell.imp id fun ⟨b, off, e, h5⟩ => ⟨b, off, e, fun i hi => ?_⟩⟩
  obtain ⟨h6, h7⟩ := h5 i hi
  exact ⟨(hb.cell (World.block_lt_of_cell? _ _ h6)).trans h6, (hb.cell (World.block_lt_of_cell? _ _ h7)).trans h7⟩

def rfold (l : List (Int × Int)) : List (Int × Int) := l.foldl (fun x p => rput x p.1 p.2) []
theorem rfold_take {l : List (Int × Int)} {k : Nat} {x y : Int} (h : l[k]? = some (x, y)) : rfold (l.take (k + 1)) = rput (rfold (l.take k)) x y := by
  unfold rfold; rw [List.take_add_one, h, List.foldl_append]; rfl
theorem rfold_ris (l : List (Int × Int)) : Ris (rfold l) := by
  have key : ∀ (l o : List (Int × Int)), Ris o → Ris (l.foldl (fun x p => rput x p.1 p.2) o) := by
    intro l
    induction l with
    | nil => intro o h; exact h
    | cons p l ih => intro o h; exact ih _ (by show Ris (rput o p.1 p.2); rw [rput_ins h]; exact rins_ris h _ _)
  exact key l [] List.Pairwise.nil
theorem rins_len' (l : List (Int × Int)) (a v : Int) : (rins l a v).length ≤ l.length + 1 := by
  induction l with
  | nil => unfold rins; split <;> simp
  | cons p r ih =>
    unfold rins
    split
    · simp only [List.length_cons]; omega
    · split <;> split <;> simp only [List.length_cons] <;> omega
theorem rfold_len (l : List (Int × Int)) : (rfold l).length ≤ l.length := by
  have key : ∀ (l o : List (Int × Int)), Ris o → (l.foldl (fun x p => rput x p.1 p.2) o).length ≤ o.length + l.length := by
    intro l
    induction l with
    | nil => intro o h; simp
    | cons p l ih =>
      intro o h
      have e := rput_ins h p.1 p.2
      have h1 := ih (rput o p.1 p.2) (by rw [e]; exact rins_ris h _ _)
      have h2 := rins_len' o p.1 p.2
      rw [← e] at h2
      simp only [List.foldl_cons, List.length_cons]; omega
  have := key l [] List.Pairwise.nil
  unfold rfold; simpa using this

/-- Rising lists without zeros that say the same are one. -/
theorem ris_eq : ∀ {l m : List (Int × Int)}, Ris l → Ris m → (∀ p ∈ l, p.2 ≠ 0) → (∀ p ∈ m, p.2 ≠ 0) → (∀ a, rlook l a = rlook m a) → l = m
  | [], [], _, _, _, _, _ => rfl
  | [], q :: m, _, _, _, hm, h => by
    have := h q.1
    rw [show rlook (q :: m) q.1 = q.2 by simp [rlook]] at this
    exact absurd this.symm (hm q (by simp))
  | p :: l, [], _, _, hl, _, h => by
    have := h p.1
    rw [show rlook (p :: l) p.1 = p.2 by simp [rlook]] at this
    exact absurd this (hl p (by simp))
  | p :: l, q :: m, rl, rm, hl, hm, h => by
    have rl2 := List.pairwise_cons.1 rl
    have rm2 := List.pairwise_cons.1 rm
    have e1 : p.1 = q.1 := by
      rcases Int.lt_trichotomy p.1 q.1 with hlt | heq | hgt
      · have h1 := h p.1
        rw [show rlook (p :: l) p.1 = p.2 by simp [rlook], rlook_out (l := q :: m) (fun x hx => by
          rcases List.mem_cons.1 hx with rfl | hx
          · omega
          · have := rm2.1 x hx; omega)] at h1
        exact absurd h1 (hl p (by simp))
      · exact heq
      · have h1 := h q.1
        rw [show rlook (q :: m) q.1 = q.2 by simp [rlook], rlook_out (l := p :: l) (fun x hx => by
          rcases List.mem_cons.1 hx with rfl | hx
          · omega
          · have := rl2.1 x hx; omega)] at h1
        exact absurd h1.symm (hm q (by simp))
    have e2 : p.2 = q.2 := by
      have h1 := h p.1
      rw [show rlook (p :: l) p.1 = p.2 by simp [rlook], show rlook (q :: m) p.1 = q.2 by rw [e1]; simp [rlook]] at h1
      exact h1
    have e3 : p = q := Prod.ext e1 e2
    subst e3
    rw [ris_eq rl2.2 rm2.2 (fun x hx => hl x (by simp [hx])) (fun x hx => hm x (by simp [hx])) (fun a => ?_)]
    by_cases ha : p.1 = a
    · rw [rlook_out (l := l) (fun x hx => by have := rl2.1 x hx; omega), rlook_out (l := m) (fun x hx => by have := rm2.1 x hx; omega)]
    · have h1 := h a
      rw [show rlook (p :: l) a = rlook l a by simp [rlook, ha], show rlook (p :: m) a = rlook m a by simp [rlook, ha]] at h1
      exact h1

set_option maxHeartbeats 1000000 in
theorem rnew_any (w : World) (ao : Option Addr) (cap : Nat) (l : List (Int × Int)) (h : RWds w ao cap l) (hsz : l.length ≤ 1000) : Calls Tryz.prog 123 #[.slice ao l.length cap] w
    fun e w' => e = .returned (.pointer (some ⟨w.heap.size, 0, none⟩)) ∧ (∃ lv, RCells w' w.heap.size w.heap.size lv ⟨rfold l, 0, 0, 0, 0, 0⟩) ∧ Below w.heap.size w w' := by
  have HP := Lib.hid h; have HM := Lib.hid hsz
  clear h hsz
  go_enter Tryz.func123, Tryz.ntmps123
  go_wp2
  go_loopw [4] (fun i wr => ∃ (k : Nat) (lv : Value), k ≤ l.length ∧ i = .int .i64 k ∧ RCells wr w.heap.size w.heap.size lv ⟨rfold (l.take k), 0, 0, 0, 0, 0⟩ ∧ Below w.heap.size w wr) (fun i _ => l.length - (intOf i).toNat)
  case atStart => exact ⟨0, .slice none 0 0, by omega, rfl, ⟨heap_alloc_new w _, Nat.le_refl _, World.ownsRow_nil _ _ _ _, fun p hp => by cases hp⟩, below_alloc' w _⟩
  case round =>
    obtain ⟨k, lv, hk, rfl, hR, hbl⟩ := hrel
    by_cases hlt : k < l.length
    · obtain ⟨b, off, x, y, rfl, hx, hw, c0, c1⟩ := (HP.out.below hbl).at k hlt
      have hlt' : (k : Int) < l.length := by have := HM.out; omega
      have hst := rfold_take hx
      have hml := HM.out
      have hfl := rfold_len (l.take k)
      rw [List.length_take] at hfl
      have hput := fun W (hb : Below wr.heap.size wr W) => rput_any W w.heap.size w.heap.size lv _ (hR.keep hb) (by have := HM.out; simp only; omega) (Nat.le_trans hbl.size hb.size) x y hw.1 hw.2
      have x0 := fun st : ExtW wr => st.cell c0
      have x1 := fun st : ExtW wr => st.cell c1
      have HPU := Lib.hid hput; have HS := Lib.hid hst; have HB := Lib.hid hbl
      clear hput hst hbl hR hx hw c0 c1 hfl
      go_wp2
      refine wp_region_ext_tail 11 (by kernel_rfl) (by kernel_rfl) ?_
      simp only [List.take_succ_cons, List.take_zero, List.drop_succ_cons, List.drop_zero]
      repeat (go_big_quiet_step (fail))
      refine wpQuiet_nil ?_
      rintro W ⟨⟨W2, hW⟩, rfl⟩
      clear x0 x1
      have hp := HPU.out W hW
      have HW := Lib.hid hW
      clear hW
      go_wp2_with (go_at_call 178; refine hp.mono ?_; rintro e w2 ⟨rfl, ⟨lv2, r2⟩, k2⟩)
      have hb2 : Below w.heap.size w w2 := keeps_below k2 (HB.out.trans (HW.out.mono HB.out.size)) (Nat.le_trans HB.out.size HW.out.size) (fun q hq => by rw [hq]; exact Nat.le_refl _)
      go_roundw
      case rel => exact ⟨k + 1, lv2, by omega, by go_num, by rw [HS.out]; exact r2, hb2⟩
      case measure => simp [intOf]; omega
    · obtain rfl : k = l.length := by omega
      rw [List.take_length] at hR
      have HR := Lib.hid hR; have HB := Lib.hid hbl
      clear hR hbl
      go_wp2
      go_ret
      exact ⟨rfl, ⟨lv, HR.out⟩, HB.out⟩
end Go.Proofs.YtmakjfeepmiggaaGreat
