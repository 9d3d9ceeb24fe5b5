/-
  slices.SortStableFunc at a history's entries, up to 180 of them.
-/
import Derived.Test.YtmagpbbjjkmbpaaStabSrt
namespace Go.Proofs.Ytmagpbbjjkmbpaa
open Go.RowKit Go.Shelf Go.Lib Go.Sort
set_option linter.unusedVariables false

section
variable {w0 : World} {blk off cap : Nat} {d0 : Array En} (R : RowK encE 3 w0 blk off d0) (hsz : d0.size < 4611686018427387904)
include R hsz
theorem emrg (n : Nat) : MrgAll w0 blk off cap d0 n := by
  induction n with
  | zero => intro W dk a m b _ _ h1 h2 _ h3; omega
  | succ n ih =>
    intro W dk a m b h hs h1 h2 h3 h4 o1 o2 hl
    by_cases c1 : m = a + 1
    · exact emrg_left R hsz h hs a m b c1 h2 h3 o2 hl
    · by_cases c2 : b = m + 1
      · exact emrg_right R hsz h hs a m b (by omega) c2 h3 o1 hl
      · exact emrg_two R hsz h hs a m b (by omega) (by omega) h3 o1 o2 hl (fun W dk a' m' b' g gs g1 g2 g3 g4 => ih W dk a' m' b' g gs g1 g2 g3 (by omega))
/-- What a row of the sort's is. -/
structure SRow (w0 : World) (blk off : Nat) (d0 dk : Array En) (W : World) : Prop where
  swk : SWK encE 3 w0 blk off dk W
  perm : PermIn 0 d0.size d0 dk
omit R hsz in
theorem SRow.on {dk dk' : Array En} {W' : World} {W : World} {a b : Nat} (h : SRow w0 blk off d0 dk W) (hb : b ≤ dk.size) (hp : PermIn a b dk dk') (hs : SWK encE 3 w0 blk off dk' W') : SRow w0 blk off d0 dk' W' := by
  have z : dk.size = d0.size := h.perm.1
  exact ⟨hs, permIn_trans _ _ _ _ _ h.perm (permIn_mono _ _ _ _ _ _ (Nat.zero_le _) (by omega) (by omega) hp)⟩
set_option maxHeartbeats 8000000 in
set_option maxRecDepth 1000000 in
theorem estab (hn : d0.size ≤ 180) (hr : RkA En.rk d0 0 d0.size) :
    Calls Try.prog 50 #[.slice (some ⟨blk, off, none⟩) d0.size cap, .int .i64 d0.size, .func (.func 31) #[] #[]] w0 fun e w' => e = .returned (.tuple #[]) ∧ ∃ d', PermIn 0 d0.size d0 d' ∧ Ord En.st En.rk d' 0 d0.size ∧ SWK encE 3 w0 blk off d' w' := by
  have S0 : Hid (SRow w0 blk off d0 d0 w0 ∧ Bk En.st En.rk (R1 0) d0 d0.size) := ⟨⟨SWK.start R.hH, permIn_refl _ _ _⟩, bk_start hr⟩
  have HM := Lib.hid (fun n => emrg (cap := cap) R hsz n)
  obtain ⟨N, hN⟩ : ∃ N, N = d0.size := ⟨_, rfl⟩
  have HN := Lib.hid hN
  rw [← hN] at hn S0 ⊢
  clear hr hN
  go_enter Try.func50, Try.ntmps50
  go_wp2
  go_loopw [7, 8] (fun v u wr => ∃ (k : Nat) (dk : Array En), v = .int .i64 ((20 * k : Nat) : Int) ∧ u = .int .i64 ((20 * k + 20 : Nat) : Int) ∧ 20 * k ≤ N ∧ Hid (SRow w0 blk off d0 dk wr ∧ Bk En.st En.rk (R1 (20 * k)) dk N)) (fun v _ _ => 1000 - (intOf v).toNat)
  case atStart => exact ⟨0, d0, rfl, rfl, by omega, S0⟩
  case round =>
    clear S0
    obtain ⟨k, dk, rfl, rfl, hk, S1⟩ := hrel
    have hz : dk.size = N := S1.out.1.perm.1.trans HN.out.symm
    obtain ⟨a, ha⟩ : ∃ a, a = 20 * k := ⟨_, rfl⟩
    rw [← ha] at hk S1 ⊢
    have HA := Lib.hid ha; have HZ := Lib.hid hz
    by_cases hlt : a + 20 ≤ N
    · have hlt' : ((a + 20 : Nat) : Int) ≤ N := by omega
      have hc := eins (cap := cap) R S1.out.1.swk (hz.trans HN.out) hsz a (a + 20) (by omega) (by omega)
      have hst := ins_stable (st := En.st) (rk := En.rk) (d := dk) (a := a) (b := a + 20) (by omega) (by omega) (bk_rka ha hlt S1.out.2)
      rw [hz] at hc
      have HC := Lib.hid hc; have HST := Lib.hid hst
      have hb := bk_ins (k := k) ha (.inl rfl) hlt (by omega) S1.out.2 hst.1 hst.2
      have HB := Lib.hid hb
      clear hc hst hb ha hz
      go_wp2_with (go_at_call 71; refine HC.out.mono ?_; rintro e w1 ⟨rfl, hS⟩)
      have HS := Lib.hid (S1.out.1.on (by rw [HZ.out]; exact hlt) HST.out.1 hS)
      clear hS
      go_roundw
      case rel => exact ⟨k + 1, _, by rw [HA.out]; congr 2, by rw [HA.out]; congr 2, by have := HA.out; omega, ⟨HS.out, by rw [show 20 * (k + 1) = a + 20 by have := HA.out; omega]; exact HB.out⟩⟩
      case measure => simp [intOf]; omega
    · have hlt' : ¬ ((a + 20 : Nat) : Int) ≤ N := by omega
      have hc := eins (cap := cap) R S1.out.1.swk (hz.trans HN.out) hsz a N (by omega) (by omega)
      have hst := ins_stable (st := En.st) (rk := En.rk) (d := dk) (a := a) (b := N) (by omega) (by omega) (bk_rka ha (Nat.le_refl _) S1.out.2)
      rw [hz] at hc
      have HC := Lib.hid hc; have HST := Lib.hid hst
      have hb := bk_two (by omega) (bk_ins (k := k) ha (.inr ⟨rfl, by omega, hk⟩) (Nat.le_refl _) (by omega) S1.out.2 hst.1 hst.2)
      have HB := Lib.hid hb
      clear hc hst hb ha hz
      go_wp2_with (go_at_call 71; refine HC.out.mono ?_; rintro e w1 ⟨rfl, hS⟩)
      have S2 : Hid (SRow w0 blk off d0 _ w1 ∧ Bk En.st En.rk (R2 20 0) _ N) := ⟨S1.out.1.on (by rw [HZ.out]; exact Nat.le_refl _) HST.out.1 hS, HB.out⟩
      clear hS HB HST HC S1 HZ HA hlt hlt' hk
      generalize insertionSort (bst En.st) dk a N = d1 at S2
      go_wp2_with fail
      go_loopw [6, 7, 8, 9] (fun v _ _ _ wr => ∃ (s : Nat) (dk : Array En), v = .int .i64 s ∧ (s = 20 ∨ s = 40 ∨ s = 80 ∨ s = 160 ∨ s = 320) ∧ Hid (SRow w0 blk off d0 dk wr ∧ Bk En.st En.rk (R2 s 0) dk N)) (fun v _ _ _ _ => 1000 - (intOf v).toNat)
      case atStart => exact ⟨20, d1, rfl, .inl rfl, S2⟩
      case round =>
        clear S2
        obtain ⟨s, dk, rfl, hs, S1⟩ := hrel
        by_cases hsn : s < N
        · have hsn' : (s : Int) < N := by omega
          have hIs : Is s := by unfold Is; omega
          have HIS := Lib.hid hIs
          have hs2 : 20 ≤ s ∧ s ≤ 160 := by unfold Is at hIs; omega
          obtain ⟨hs3, hs4⟩ := hs2
          clear hs hIs
          go_wp2_with fail
          go_loopw [7, 8] (fun v u wr => ∃ (a k : Nat) (dk : Array En), v = .int .i64 a ∧ u = .int .i64 ((a : Int) + 2 * s) ∧ a ≤ N ∧ Hid (a = 2 * s * k ∧ SRow w0 blk off d0 dk wr ∧ Bk En.st En.rk (R2 s a) dk N)) (fun v _ _ => 1000 - (intOf v).toNat)
          case atStart => exact ⟨0, 0, dk, rfl, by go_num, by omega, ⟨by simp, S1.out.1, S1.out.2⟩⟩
          case round =>
            clear S1
            obtain ⟨a, k, dk, rfl, rfl, hk, S1⟩ := hrel
            have hz : dk.size = N := S1.out.2.1.perm.1.trans HN.out.symm
            have HZ := Lib.hid hz
            have ea : a = 2 * s * k := S1.out.1
            have HEA := Lib.hid ea
            by_cases hlt : a + 2 * s ≤ N
            · have hlt' : (a : Int) + 2 * s ≤ N := by omega
              obtain ⟨o1, o2, o3⟩ := bk_pair (m := a + s) (b := a + 2 * s) HIS.out ea rfl (Nat.le_refl _) hlt (by omega) S1.out.2.2
              have hc := HM.out (2 * s + 1) wr dk a (a + s) (a + 2 * s) S1.out.2.1.swk (hz.trans HN.out) (by omega) (by omega) (by omega) (by omega) o1 o2 o3
              rw [hz, show ((a + s : Nat) : Int) = (a : Int) + s by omega, show ((a + 2 * s : Nat) : Int) = (a : Int) + 2 * s by omega] at hc
              have HC := Lib.hid hc
              clear hc o1 o2 o3 ea hz
              go_wp2_with (go_at_call 72; refine HC.out.mono ?_; rintro e w1 ⟨rfl, d', hp, ho, hS⟩)
              have hs1 := S1.out.2.1.on (by rw [HZ.out]; exact hlt) hp hS
              have hb := bk_merge (b := a + 2 * s) HIS.out HEA.out (m := a + s) (.inl rfl) hlt (by rw [HZ.out]; exact Nat.le_refl _) S1.out.2.2 hp ho
              have Q : Hid (a + 2 * s = 2 * s * (k + 1) ∧ SRow w0 blk off d0 d' w1 ∧ Bk En.st En.rk (R2 s (a + 2 * s)) d' N) := ⟨by rw [Nat.mul_succ, ← HEA.out], hs1, hb⟩
              clear hp ho hS hs1 hb
              go_roundw
              case rel => exact ⟨a + 2 * s, k + 1, d', by congr 1, by congr 1, by omega, Q⟩
              case measure => simp [intOf]; omega
            · have hlt' : ¬ (a : Int) + 2 * s ≤ N := by omega
              by_cases hm : a + s < N
              · have hm' : (a : Int) + s < N := by omega
                obtain ⟨o1, o2, o3⟩ := bk_pair (m := a + s) (b := N) HIS.out ea rfl (by omega) (Nat.le_refl _) hm S1.out.2.2
                have hc := HM.out (2 * s + 1) wr dk a (a + s) N S1.out.2.1.swk (hz.trans HN.out) (by omega) hm (by omega) (by omega) o1 o2 o3
                rw [hz, show ((a + s : Nat) : Int) = (a : Int) + s by omega] at hc
                have HC := Lib.hid hc
                have HLT := Lib.hid hlt
                clear hc o1 o2 o3 ea hz hlt
                go_wp2_with (go_at_call 72; refine HC.out.mono ?_; rintro e w1 ⟨rfl, d', hp, ho, hS⟩)
                have hs1 := S1.out.2.1.on (by rw [HZ.out]; exact Nat.le_refl _) hp hS
                have hb := bk_next HIS.out (by have := HLT.out; omega) (bk_merge (b := N) HIS.out HEA.out (m := a + s) (.inr ⟨rfl, by have := HLT.out; omega, hk⟩) (Nat.le_refl _) (by rw [HZ.out]; exact Nat.le_refl _) S1.out.2.2 hp ho)
                have Q : Hid (SRow w0 blk off d0 d' w1 ∧ Bk En.st En.rk (R2 (2 * s) 0) d' N) := ⟨hs1, hb⟩
                clear hp ho hS hs1 hb
                go_roundw
                case rel => exact ⟨2 * s, d', by congr 1; omega, by have := HIS.out; unfold Is at this; omega, Q⟩
                case measure => simp [intOf]; omega
              · have hm' : ¬ (a : Int) + s < N := by omega
                have hb := bk_next HIS.out (by omega) (bk_rest HIS.out ea (by omega) S1.out.2.2)
                have Q : Hid (SRow w0 blk off d0 dk wr ∧ Bk En.st En.rk (R2 (2 * s) 0) dk N) := ⟨S1.out.2.1, hb⟩
                clear hb ea hz S1 hlt hm
                go_wp2
                go_roundw
                case rel => exact ⟨2 * s, dk, by congr 1; omega, by have := HIS.out; unfold Is at this; omega, Q⟩
                case measure => simp [intOf]; omega
        · have hsn' : ¬ (s : Int) < N := by omega
          have P := Lib.hid (And.intro S1.out.1.swk (And.intro S1.out.1.perm (bk_end (by omega) S1.out.2)))
          clear S1
          go_wp2
          go_end0
          exact ⟨rfl, dk, by rw [HN.out]; exact P.out.2.1, P.out.2.2, P.out.1⟩
/-- The whole sort. -/
theorem esort (hn : d0.size ≤ 180) (hr : RkA En.rk d0 0 d0.size) :
    Calls Try.prog 30 #[.slice (some ⟨blk, off, none⟩) d0.size cap, .func (.func 31) #[] #[]] w0 fun e w' => e = .returned (.tuple #[]) ∧ ∃ d', PermIn 0 d0.size d0 d' ∧ Ord En.st En.rk d' 0 d0.size ∧ SWK encE 3 w0 blk off d' w' := by
  have hc := Lib.hid (estab (cap := cap) R hsz hn hr)
  clear hr
  go_enter Try.func30, Try.ntmps30
  go_wp2_with (go_at_call 50; refine hc.out.mono ?_; rintro e w1 ⟨rfl, hS⟩)
  go_end0
  exact ⟨rfl, hS⟩
end
end Go.Proofs.Ytmagpbbjjkmbpaa
