/-
  slices.symMergeCmpFunc, and the whole stable sort, at a history's entries.
-/
import Derived.Test.YtmagpbbjjkmbpaaStabMrg
import Derived.Deep.DeepCutAuto
import Derived.Deep.CutBlock
namespace Go.Proofs.Ytmagpbbjjkmbpaa
open Go.RowKit Go.Shelf Go.Lib Go.Sort
set_option linter.unusedVariables false

theorem Rot.none {α : Type} [Inhabited α] (d : Array α) {s m e : Nat} (h : (decide (s < m) && decide (m < e)) = false) (h1 : s ≤ m) (h2 : m ≤ e) : Rot d d s m e := by
  simp only [Bool.and_eq_false_iff, decide_eq_false_iff_not] at h
  rcases h with h | h
  · rw [show s = m by omega]; exact Rot.idL d m e
  · rw [show e = m by omega]; exact Rot.idR d s m
section
variable {w0 : World} {blk off cap : Nat} {d0 : Array En} (R : RowK encE 3 w0 blk off d0) (hsz : d0.size < 4611686018427387904)
include R hsz
/-- A merge of at least two on either side, where shorter ones are merged by the contract. -/
def MrgAll (w0 : World) (blk off cap : Nat) (d0 : Array En) (n : Nat) : Prop := ∀ (W : World) (dk : Array En) (a m b : Nat), SWK encE 3 w0 blk off dk W → dk.size = d0.size → a < m → m < b → b ≤ dk.size → b - a < n → Ord En.st En.rk dk a m → Ord En.st En.rk dk m b → LoHi En.rk dk a m b →
    Calls Try.prog 72 #[.slice (some ⟨blk, off, none⟩) dk.size cap, .int .i64 a, .int .i64 m, .int .i64 b, .func (.func 31) #[] #[]] W (MrgPost w0 blk off dk a b)
set_option maxHeartbeats 8000000 in
set_option maxRecDepth 1000000 in
theorem emrg_two {W : World} {dk : Array En} (h : SWK encE 3 w0 blk off dk W) (hs : dk.size = d0.size) (a m b : Nat) (ham : a + 1 < m) (hmb : m + 1 < b) (hb : b ≤ dk.size) (h1 : Ord En.st En.rk dk a m) (h2 : Ord En.st En.rk dk m b) (hl : LoHi En.rk dk a m b) (IH : MrgAll w0 blk off cap d0 (b - a)) :
    Calls Try.prog 72 #[.slice (some ⟨blk, off, none⟩) dk.size cap, .int .i64 a, .int .i64 m, .int .i64 b, .func (.func 31) #[] #[]] W (MrgPost w0 blk off dk a b) := by
  have S0 := Lib.hid h; have HS := Lib.hid hs; have H1 := Lib.hid h1; have H2 := Lib.hid h2; have HL := Lib.hid hl; have HI := Lib.hid IH
  have g1 : dk.size < 4611686018427387904 := by omega
  have mixed := insW.mixed
  have hp := Part.of (a := a) (m := m) (b := b) (by omega) (by omega)
  obtain ⟨m1, m2, m3⟩ := half_i a b (by omega)
  obtain ⟨mid, hmid⟩ : ∃ x, x = (a + b) / 2 := ⟨_, rfl⟩
  rw [← hmid] at hp m2 m3
  obtain ⟨n, hn⟩ : ∃ x, x = mid + m := ⟨_, rfl⟩
  rw [← hn] at hp
  obtain ⟨s0, hs0⟩ : ∃ x, x = (if mid < m then n - b else a) := ⟨_, rfl⟩
  obtain ⟨r0, hr0⟩ : ∃ x, x = (if mid < m then mid else m) := ⟨_, rfl⟩
  rw [← hs0, ← hr0] at hp
  have hsr : s0 ≤ r0 ∧ n ≤ dk.size + dk.size ∧ r0 ≤ mid ∧ r0 ≤ m ∧ mid < b ∧ a < mid ∧ n - b ≤ s0 ∧ n - a ≤ b + m ∧ n - 1 - s0 < b := by
    rcases hp.h with ⟨p1, p2, p3⟩ | ⟨p1, p2, p3⟩ <;> omega
  obtain ⟨q1, q2, q3, q4, q5, q6, q7, q8, q9⟩ := hsr
  have n1 : (mid : Int) + m = n := by omega
  have HP := Lib.hid hp; have HMID := Lib.hid hmid; have HN := Lib.hid hn
  have em : ((m : Int) - a == 1) = false := beq_eq_false_iff_ne.2 (by omega)
  have em2 : ((b : Int) - m == 1) = false := beq_eq_false_iff_ne.2 (by omega)
  have am : a < m := by omega
  have mb : m < b := by omega
  have nb : m ≤ n := by omega
  clear h hs h1 h2 hl IH hp hmid hn ham hmb
  go_enter Try.func72, Try.ntmps72
  go_upto_if 140 with (fail)
  go_cut [20, 21] from 138 to 146 (fun v20 v21 wx => v20 = .int .i64 s0 ∧ v21 = .int .i64 r0 ∧ wx = W)
  case first =>
    by_cases hmm : mid < m
    · have hmm' : (m : Int) > mid := by omega
      have es : (s0 : Int) = (n : Int) - b := by rw [hs0, if_pos hmm]; rcases HP.out.h with ⟨p1, p2, p3⟩ | ⟨p1, p2, p3⟩ <;> omega
      have er : (r0 : Int) = mid := by rw [hr0, if_pos hmm]
      have HH := Lib.hid (And.intro es er)
      clear hmm es er
      go_wp2
      all_goals go_meet
      all_goals exact ⟨by rw [HH.out.1], by rw [HH.out.2], rfl⟩
    · have hmm' : ¬ (m : Int) > mid := by omega
      have es : (s0 : Int) = a := by rw [hs0, if_neg hmm]
      have er : (r0 : Int) = m := by rw [hr0, if_neg hmm]
      have HH := Lib.hid (And.intro es er)
      clear hmm es er
      go_wp2
      all_goals go_meet
      all_goals exact ⟨by rw [HH.out.1], by rw [HH.out.2], rfl⟩
  case rest =>
    obtain ⟨rfl, rfl, rfl⟩ := hcut
    clear hs0 hr0
    go_wp2
    go_loopw [20, 21, 23] (fun v u _ wr => ∃ (s r : Nat), v = .int .i64 s ∧ u = .int .i64 r ∧ Srch En.st dk (n - 1) s0 r0 s r ∧ Hid (SWK encE 3 w0 blk off dk wr)) (fun v u _ _ => (intOf u).toNat - (intOf v).toNat)
    case atStart => exact ⟨s0, r0, rfl, rfl, Srch.start q1, S0⟩
    case round =>
      clear S0
      obtain ⟨s, r, rfl, rfl, BS, S1⟩ := hrel
      have b0 := BS.h0; have b1 := BS.h1; have b2 := BS.h2
      have HB := Lib.hid BS
      clear BS
      by_cases hlt : s < r
      · have hlt' : (s : Int) < r := by omega
        obtain ⟨e1, e2, e3⟩ := half_i s r (by omega)
        obtain ⟨c, hc⟩ : ∃ c, c = (s + r) / 2 := ⟨_, rfl⟩
        rw [← hc] at e2 e3
        have c1 : s ≤ c := by omega
        have c2 : c < r := by omega
        obtain ⟨p, hp⟩ : ∃ p, p = n - 1 - c := ⟨_, rfl⟩
        have p1 : (n : Int) - 1 - c = p := by omega
        have p2 : p < dk.size := by omega
        have p3 : IntKind.i64.wrap (p : Int) = p := by rw [IntKind.wrap_i64]; omega
        obtain ⟨x, hx⟩ : ∃ x, dk[p]! = x := ⟨_, rfl⟩
        obtain ⟨y, hy⟩ : ∃ y, dk[c]! = y := ⟨_, rfl⟩
        have k1 : (c : Int) < dk.size := by omega
        have k2 : (p : Int) < dk.size := by omega
        have la := fun n os => (cellsG R S1.out HS.out p (by omega) x hx n os).1
        have lb := fun n os => (cellsG R S1.out HS.out p (by omega) x hx n os).2.1
        have lc := fun n os => (cellsG R S1.out HS.out p (by omega) x hx n os).2.2
        have ld := fun n os => (cellsG R S1.out HS.out c (by omega) y hy n os).1
        have le := fun n os => (cellsG R S1.out HS.out c (by omega) y hy n os).2.1
        have lf := fun n os => (cellsG R S1.out HS.out c (by omega) y hy n os).2.2
        have hcl := fun W => eclosure x y W
        have HX := Lib.hid hx; have HY := Lib.hid hy; have HCC := Lib.hid hc; have HPP := Lib.hid hp
        clear hx hy hc hp
        by_cases hv : x.st < y.st
        · have hd : cmpE x y < 0 := (cmpE_lt x y).2 hv
          have HV := Lib.hid hv
          generalize cmpE x y = cv at hcl hd
          have hd2 : (!decide (cv < 0)) = false := by rw [decide_eq_true hd]; rfl
          clear hv hd
          go_wp2_with fail
          go_quiet_grown (first | (go_at_call 31; refine Calls.grown_of (hcl _)))
          have S2 := Lib.hid (S1.out.grown nq osq)
          clear la lb lc ld le lf hcl S1
          generalize grow (wr.drewN nq) osq = w2 at S2 ⊢
          go_wp2
          go_roundw
          case rel => exact ⟨s, c, rfl, rfl, HB.out.down c1 c2 (by rw [← HPP.out, HX.out, HY.out]; exact HV.out), S2⟩
          case measure => simp [intOf]; omega
        · have hd : ¬ cmpE x y < 0 := fun c => hv ((cmpE_lt x y).1 c)
          have HV := Lib.hid hv
          generalize cmpE x y = cv at hcl hd
          have hd2 : (!decide (cv < 0)) = true := by rw [decide_eq_false hd]; rfl
          clear hv hd
          go_wp2_with fail
          go_quiet_grown (first | (go_at_call 31; refine Calls.grown_of (hcl _)))
          have S2 := Lib.hid (S1.out.grown nq osq)
          clear la lb lc ld le lf hcl S1
          generalize grow (wr.drewN nq) osq = w2 at S2 ⊢
          go_wp2
          go_roundw
          case rel => exact ⟨c + 1, r, by go_num, rfl, HB.out.up c1 c2 (by rw [← HPP.out, HX.out, HY.out]; have := HV.out; omega), S2⟩
          case measure => simp [intOf]; omega
      · have hsr : s = r := by omega
        have hlt' : ¬ (s : Int) < r := by omega
        have hB := HB.out
        rw [← hsr] at hB
        have bd := HP.out.bd hB.h0 hB.h2
        obtain ⟨d1', d2, d3, d4, d5, d6, d7, d8, d9, d10⟩ := bd
        obtain ⟨e, he⟩ : ∃ e, e = n - s := ⟨_, rfl⟩
        have hen : (n : Int) - s = e := by omega
        have f3 : m ≤ e := by omega
        have f4 : e ≤ b := by omega
        have f6 : mid ≤ e := by omega
        have HE := Lib.hid he; have HB2 := Lib.hid hB
        clear hB hsr hlt d3 d4 d6 d7 he
        go_upto_region 39 with (fail)
        go_cut [185] from 178 to 185 (fun v185 wx => v185 = .bool (decide (s < m) && decide (m < e)) ∧ wx = wr)
        case first =>
          by_cases t1 : s < m
          · have t1' : (s : Int) < m := by omega
            by_cases t2 : m < e
            · have t2' : (m : Int) < e := by omega
              have T := Lib.hid (And.intro t1 t2)
              clear t1 t2
              go_wp2
              all_goals go_meet
              all_goals exact ⟨by rw [decide_eq_true T.out.1, decide_eq_true T.out.2]; rfl, rfl⟩
            · have t2' : ¬ (m : Int) < e := by omega
              have T := Lib.hid (And.intro t1 t2)
              clear t1 t2
              go_wp2
              all_goals go_meet
              all_goals exact ⟨by rw [decide_eq_false T.out.2]; simp, rfl⟩
          · have t1' : ¬ (s : Int) < m := by omega
            have T := Lib.hid t1
            clear t1
            go_wp2
            all_goals go_meet
            all_goals exact ⟨by rw [decide_eq_false T.out]; rfl, rfl⟩
        case rest =>
        obtain ⟨rfl, rfl⟩ := hcut
        obtain ⟨tb, htb⟩ : ∃ tb, tb = (decide (s < m) && decide (m < e)) := ⟨_, rfl⟩
        rw [← htb]
        have HTB := Lib.hid htb
        clear htb
        go_upto_if 185 with (fail)
        go_cut [] from 186 to 191 (fun wx => ∃ d', Rot dk d' s m e ∧ SWK encE 3 w0 blk off d' wx)
        case first =>
          cases tb
          · go_wp2
            all_goals go_meet
            all_goals exact ⟨dk, Rot.none dk HTB.out.symm d2 f3, S1.out⟩
          · have h := HTB.out.symm
            simp only [Bool.and_eq_true, decide_eq_true_eq] at h
            have hrt := erot (cap := cap) R S1.out HS.out hsz s m e h.1 h.2 (by omega) (.func (.func 31) #[] #[])
            have HRT := Lib.hid hrt
            clear hrt h
            go_wp2_with (go_at_call 82; refine HRT.out.mono ?_; rintro e' w1 ⟨rfl, d', hr, hS⟩)
            all_goals go_meet
            all_goals exact ⟨d', hr, hS⟩
        case rest =>
        clear S1
        obtain ⟨d1, hrot, S2⟩ := hcut
        have hpr := part_rot HP.out hb HB2.out H1.out H2.out HL.out (HE.out ▸ hrot)
        rw [← HE.out] at hpr
        have O := Lib.hid hpr
        have HPM := Lib.hid (permIn_mono _ _ _ _ _ _ d1' f4 hb hrot.perm)
        have z1 : d1.size = dk.size := hrot.perm.1
        have SS2 := Lib.hid S2
        have HZ1 := Lib.hid z1
        clear hrot S2 hpr z1 HTB
        go_upto_region 41 with (fail)
        go_cut [199] from 192 to 199 (fun v199 wx => v199 = .bool (decide (a < s) && decide (s < mid)) ∧ wx = wc)
        case first =>
          by_cases t1 : a < s
          · have t1' : (a : Int) < s := by omega
            by_cases t2 : s < mid
            · have t2' : (s : Int) < mid := by omega
              have T := Lib.hid (And.intro t1 t2)
              clear t1 t2
              go_wp2
              all_goals go_meet
              all_goals exact ⟨by rw [decide_eq_true T.out.1, decide_eq_true T.out.2]; rfl, rfl⟩
            · have t2' : ¬ (s : Int) < mid := by omega
              have T := Lib.hid (And.intro t1 t2)
              clear t1 t2
              go_wp2
              all_goals go_meet
              all_goals exact ⟨by rw [decide_eq_false T.out.2]; simp, rfl⟩
          · have t1' : ¬ (a : Int) < s := by omega
            have T := Lib.hid t1
            clear t1
            go_wp2
            all_goals go_meet
            all_goals exact ⟨by rw [decide_eq_false T.out]; rfl, rfl⟩
        case rest =>
        obtain ⟨rfl, rfl⟩ := hcut
        obtain ⟨tc, htc⟩ : ∃ tc, tc = (decide (a < s) && decide (s < mid)) := ⟨_, rfl⟩
        rw [← htc]
        have HTC := Lib.hid htc
        clear htc
        go_upto_if 199 with (fail)
        go_cut [] from 200 to 205 (fun wx => ∃ d', PermIn a mid d1 d' ∧ Ord En.st En.rk d' a mid ∧ SWK encE 3 w0 blk off d' wx)
        case first =>
          cases tc
          · go_wp2
            all_goals go_meet
            all_goals exact ⟨d1, permIn_refl _ _ _, ord_triv_l O.out.1 O.out.2.1 (by have h := HTC.out.symm; simp only [Bool.and_eq_false_iff, decide_eq_false_iff_not] at h; omega) d1' d5, SS2.out⟩
          · have h := HTC.out.symm
            simp only [Bool.and_eq_true, decide_eq_true_eq] at h
            have hrt := HI.out wc d1 a s mid SS2.out (HZ1.out.trans HS.out) h.1 h.2 (by rw [HZ1.out]; omega) (by omega) O.out.1 O.out.2.1 O.out.2.2.2.2.1
            rw [HZ1.out] at hrt
            have HRT := Lib.hid hrt
            clear hrt h
            go_wp2_with (go_at_call 72; refine HRT.out.mono ?_; rintro e' w1 ⟨rfl, d', hr, ho, hS⟩)
            all_goals go_meet
            all_goals exact ⟨d', hr, ho, hS⟩
        case rest =>
        clear SS2 HTC
        obtain ⟨d2', hp2, ho2, S3⟩ := hcut
        have P2 := Lib.hid (And.intro hp2 ho2)
        have SS3 := Lib.hid S3
        have HZ2 := Lib.hid (hp2.1.trans HZ1.out)
        have O3 := Lib.hid (And.intro (ord_out hp2 (.inr (Nat.le_refl _)) O.out.2.2.1) (And.intro (ord_out hp2 (.inr f6) O.out.2.2.2.1) (lohi_out hp2 (.inr (Nat.le_refl _)) O.out.2.2.2.2.2.1)))
        clear hp2 ho2 S3
        go_upto_region 43 with (fail)
        go_cut [213] from 206 to 213 (fun v213 wx => v213 = .bool (decide (mid < e) && decide (e < b)) ∧ wx = wc)
        case first =>
          by_cases t1 : mid < e
          · have t1' : (mid : Int) < e := by omega
            by_cases t2 : e < b
            · have t2' : (e : Int) < b := by omega
              have T := Lib.hid (And.intro t1 t2)
              clear t1 t2
              go_wp2
              all_goals go_meet
              all_goals exact ⟨by rw [decide_eq_true T.out.1, decide_eq_true T.out.2]; rfl, rfl⟩
            · have t2' : ¬ (e : Int) < b := by omega
              have T := Lib.hid (And.intro t1 t2)
              clear t1 t2
              go_wp2
              all_goals go_meet
              all_goals exact ⟨by rw [decide_eq_false T.out.2]; simp, rfl⟩
          · have t1' : ¬ (mid : Int) < e := by omega
            have T := Lib.hid t1
            clear t1
            go_wp2
            all_goals go_meet
            all_goals exact ⟨by rw [decide_eq_false T.out]; rfl, rfl⟩
        case rest =>
        obtain ⟨rfl, rfl⟩ := hcut
        obtain ⟨td, htd⟩ : ∃ td, td = (decide (mid < e) && decide (e < b)) := ⟨_, rfl⟩
        rw [← htd]
        have HTD := Lib.hid htd
        clear htd
        cases td
        · go_wp2
          go_end0
          obtain ⟨j1, j2⟩ := part_join (Nat.le_of_lt q6) (Nat.le_of_lt q5) hb HPM.out O.out.2.2.2.2.2.2 P2.out.1 P2.out.2 (permIn_refl _ _ _) (ord_triv_l O3.out.1 O3.out.2.1 (by have h := HTD.out.symm; simp only [Bool.and_eq_false_iff, decide_eq_false_iff_not] at h; omega) f6 f4)
          exact ⟨rfl, d2', j1, j2, SS3.out⟩
        · have h := HTD.out.symm
          simp only [Bool.and_eq_true, decide_eq_true_eq] at h
          have hrt := HI.out wc d2' mid e b SS3.out (HZ2.out.trans HS.out) h.1 h.2 (by rw [HZ2.out]; exact hb) (by omega) O3.out.1 O3.out.2.1 O3.out.2.2
          rw [HZ2.out] at hrt
          have HRT := Lib.hid hrt
          clear hrt h
          go_wp2_with (go_at_call 72; refine HRT.out.mono ?_; rintro e' w1 ⟨rfl, d', hr, ho, hS⟩)
          go_end0
          obtain ⟨j1, j2⟩ := part_join (Nat.le_of_lt q6) (Nat.le_of_lt q5) hb HPM.out O.out.2.2.2.2.2.2 P2.out.1 P2.out.2 hr ho
          exact ⟨rfl, d', j1, j2, hS⟩
end
end Go.Proofs.Ytmagpbbjjkmbpaa
