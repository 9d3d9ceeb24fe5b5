/-
  slices.symMergeCmpFunc at a history's entries.
-/
import Derived.Test.YtmagpbbjjkmbpaaStabDo
namespace Go.Proofs.Ytmagpbbjjkmbpaa
open Go.RowKit Go.Shelf Go.Lib Go.Sort
set_option linter.unusedVariables false

theorem half_i (i j : Nat) (h : i + j < 9223372036854775808) : IntKind.u64.wrap ((i : Int) + j) = (i : Int) + j ∧ ((i : Int) + j) / 2 = (((i + j) / 2 : Nat) : Int) ∧ IntKind.i64.wrap ((((i + j) / 2 : Nat) : Int)) = (((i + j) / 2 : Nat) : Int) := by
  refine ⟨?_, by omega, ?_⟩
  · rw [IntKind.wrap_u64]; omega
  · rw [IntKind.wrap_i64]; omega
/-- An element's cells, whatever was made since. -/
theorem cellsG {w0 W : World} {blk off : Nat} {d0 dk : Array En} (R : RowK encE 3 w0 blk off d0) (h : SWK encE 3 w0 blk off dk W) (hs : dk.size = d0.size) (i : Nat) (hi : i < dk.size) (e : En) (he : dk[i]! = e) (n : Nat) (os : Array Obj) :
    (grow (W.drewN n) os).cell? ⟨blk, off + i * 3, none⟩ = some (.int .i64 e.st) ∧ (grow (W.drewN n) os).cell? ⟨blk, off + i * 3 + 1, none⟩ = some (.int .i64 e.ca) ∧ (grow (W.drewN n) os).cell? ⟨blk, off + i * 3 + 2, none⟩ = some (.int .i64 e.dr) :=
  (cellsE ((h.grown n os).holds R.hblk R.hH hs) i hi e he).1
section
variable {w0 : World} {blk off cap : Nat} {d0 : Array En} (R : RowK encE 3 w0 blk off d0) (hsz : d0.size < 4611686018427387904)
include R hsz
def MrgPost (w0 : World) (blk off : Nat) (dk : Array En) (a b : Nat) (e : Ending) (w' : World) : Prop := e = .returned (.tuple #[]) ∧ ∃ d', PermIn a b dk d' ∧ Ord En.st En.rk d' a b ∧ SWK encE 3 w0 blk off d' w'
set_option maxHeartbeats 4000000 in
set_option maxRecDepth 1000000 in
theorem emrg_left {W : World} {dk : Array En} (h : SWK encE 3 w0 blk off dk W) (hs : dk.size = d0.size) (a m b : Nat) (ham : m = a + 1) (hmb : m < b) (hb : b ≤ dk.size) (h2 : Ord En.st En.rk dk m b) (hl : LoHi En.rk dk a m b) :
    Calls Try.prog 72 #[.slice (some ⟨blk, off, none⟩) dk.size cap, .int .i64 a, .int .i64 m, .int .i64 b, .func (.func 31) #[] #[]] W (MrgPost w0 blk off dk a b) := by
  have S0 := Lib.hid h; have HS := Lib.hid hs; have H2 := Lib.hid h2; have HL := Lib.hid hl
  have g1 : dk.size < 4611686018427387904 := by omega
  have mixed := insW.mixed
  obtain ⟨ea, hea⟩ : ∃ e, dk[a]! = e := ⟨_, rfl⟩
  have HEA := Lib.hid hea; have HAM := Lib.hid ham
  have em : (m : Int) - a = 1 := by omega
  have am : a < m := by omega
  clear h hs h2 hl hea ham
  go_enter Try.func72, Try.ntmps72
  go_wp2
  go_loopw [10, 11, 12] (fun v u _ wr => ∃ (i j : Nat), v = .int .i64 i ∧ u = .int .i64 j ∧ Bs1 En.st dk ea.st m b i j ∧ Hid (SWK encE 3 w0 blk off dk wr)) (fun v u _ _ => (intOf u).toNat - (intOf v).toNat)
  case atStart => exact ⟨m, b, rfl, rfl, Bs1.start (by omega), S0⟩
  case round =>
    obtain ⟨i, j, rfl, rfl, BS, S1⟩ := hrel
    have b0 := BS.h0; have b1 := BS.h1; have b2 := BS.h2
    have HB := Lib.hid BS
    clear BS S0
    by_cases hlt : i < j
    · have hlt' : (i : Int) < j := by omega
      obtain ⟨e1, e2, e3⟩ := half_i i j (by omega)
      obtain ⟨c, hc⟩ : ∃ c, c = (i + j) / 2 := ⟨_, rfl⟩
      rw [← hc] at e2 e3
      have c1 : i ≤ c := by omega
      have c2 : c < j := by omega
      obtain ⟨x, hx⟩ : ∃ x, dk[c]! = x := ⟨_, rfl⟩
      have k1 : (c : Int) < dk.size := by omega
      have k2 : (a : Int) < dk.size := by omega
      have la := fun n os => (cellsG R S1.out HS.out c (by omega) x hx n os).1
      have lb := fun n os => (cellsG R S1.out HS.out c (by omega) x hx n os).2.1
      have lc := fun n os => (cellsG R S1.out HS.out c (by omega) x hx n os).2.2
      have ld := fun n os => (cellsG R S1.out HS.out a (by omega) ea HEA.out n os).1
      have le := fun n os => (cellsG R S1.out HS.out a (by omega) ea HEA.out n os).2.1
      have lf := fun n os => (cellsG R S1.out HS.out a (by omega) ea HEA.out n os).2.2
      have hcl := fun W => eclosure x ea W
      have HX := Lib.hid hx; have HCC := Lib.hid hc
      clear hx hc
      by_cases hv : x.st < ea.st
      · have hd : cmpE x ea < 0 := (cmpE_lt x ea).2 hv
        have HV := Lib.hid hv
        generalize cmpE x ea = cv at hcl hd
        clear hv
        go_wp2_with fail
        go_quiet_grown (first | (go_at_call 31; refine Calls.grown_of (hcl _)))
        have S2 := Lib.hid (S1.out.grown nq osq)
        clear la lb lc ld le lf hcl S1
        generalize grow (wr.drewN nq) osq = w2 at S2 ⊢
        go_wp2
        go_roundw
        case rel => exact ⟨c + 1, j, by go_num, rfl, HB.out.up H2.out c1 c2 (by rw [HX.out]; have := HV.out; omega), S2⟩
        case measure => simp [intOf]; omega
      · have hd : ¬ cmpE x ea < 0 := fun c => hv ((cmpE_lt x ea).1 c)
        have HV := Lib.hid hv
        generalize cmpE x ea = cv at hcl hd
        clear hv
        go_wp2_with fail
        go_quiet_grown (first | (go_at_call 31; refine Calls.grown_of (hcl _)))
        have S2 := Lib.hid (S1.out.grown nq osq)
        clear la lb lc ld le lf hcl S1
        generalize grow (wr.drewN nq) osq = w2 at S2 ⊢
        go_wp2
        go_roundw
        case rel => exact ⟨i, c, rfl, rfl, HB.out.down H2.out c1 c2 (by rw [HX.out]; have := HV.out; omega), S2⟩
        case measure => simp [intOf]; omega
    · have hij : i = j := by omega
      have hlt' : ¬ (i : Int) < j := by omega
      have HIJ := Lib.hid hij
      clear hij hlt
      go_wp2
      go_loopw [13] (fun v wr => ∃ (k : Nat) (d' : Array En), v = .int .i64 k ∧ (a ≤ k ∧ k + 1 ≤ i) ∧ Hid (Rot dk d' a (a + 1) (k + 1) ∧ SWK encE 3 w0 blk off d' wr)) (fun v _ => i - (intOf v).toNat)
      case atStart => exact ⟨a, dk, rfl, by have := HAM.out; omega, ⟨Rot.idR dk a (a + 1), S1.out⟩⟩
      case round =>
        clear S1
        obtain ⟨k, d', rfl, hk, HR⟩ := hrel
        by_cases hkl : k + 1 < i
        · have hkl' : (k : Int) < (i : Int) - 1 := by omega
          have hsd : d'.size = dk.size := HR.out.1.perm.1
          have hsd0 : d'.size = d0.size := hsd.trans HS.out
          have HC := HR.out.2.holds R.hblk R.hH hsd0
          obtain ⟨x, hx⟩ : ∃ x, d'[k]! = x := ⟨_, rfl⟩
          obtain ⟨y, hy⟩ : ∃ y, d'[k + 1]! = y := ⟨_, rfl⟩
          have sw := swp_cells R HR.out.2 k (k + 1) (by omega) (by omega) x y hx hy
          obtain ⟨⟨x0, x1, x2⟩, u0, u1, u2⟩ := cellsE HC k (by omega) x hx
          obtain ⟨⟨y0, y1, y2⟩, v0, v1, v2⟩ := cellsE HC (k + 1) (by omega) y hy
          have SW := Lib.hid sw
          have HN := Lib.hid (HR.out.1.stepR (by omega) (by omega))
          have i1 : (k : Int) < dk.size := by omega
          have i2 : (k : Int) + 1 < dk.size := by omega
          have i3 : (0 : Int) ≤ (k : Int) + 1 := by omega
          have n2 : ((k : Int) + 1).toNat = k + 1 := by omega
          have HK := Lib.hid hkl
          clear sw hx hy hsd hsd0 HC HR
          go_wp2_with fail
          go_big_region_o
          obtain ⟨w2, hw2⟩ : ∃ w2, w2 = ((((((wr.setCell ⟨blk, off + k * 3, none⟩ (.int .i64 y.st)).setCell ⟨blk, off + k * 3 + 1, none⟩ (.int .i64 y.ca)).setCell ⟨blk, off + k * 3 + 2, none⟩ (.int .i64 y.dr)).setCell ⟨blk, off + (k + 1) * 3, none⟩ (.int .i64 x.st)).setCell ⟨blk, off + (k + 1) * 3 + 1, none⟩ (.int .i64 x.ca)).setCell ⟨blk, off + (k + 1) * 3 + 2, none⟩ (.int .i64 x.dr)).drew := ⟨_, rfl⟩
          rw [← hw2] at SW ⊢
          clear hw2
          go_wp2
          go_roundw
          case rel => exact ⟨k + 1, swp d' k (k + 1), by go_num, by have := HK.out; omega, ⟨HN.out, SW.out⟩⟩
          case measure => have := HK.out; simp [intOf]; omega
        · have hkl' : ¬ (k : Int) < (i : Int) - 1 := by omega
          have HK := Lib.hid (show k + 1 = i by omega)
          clear hkl
          go_wp2
          go_end0
          have hr := HR.out.1
          rw [HK.out] at hr
          have hB := HB.out
          have hm := HAM.out
          rw [← HIJ.out] at hB
          rw [← hm] at hr
          obtain ⟨p1, p2⟩ := one_left (st := En.st) (rk := En.rk) hm hB.h0 hB.h2 hb H2.out HL.out hr (fun k k1 k2 => by rw [HEA.out]; exact hB.lo k k1 k2) (fun k k1 k2 => by rw [HEA.out]; exact hB.hi k k1 k2)
          exact ⟨rfl, d', p1, p2, HR.out.2⟩
set_option maxHeartbeats 4000000 in
set_option maxRecDepth 1000000 in
theorem emrg_right {W : World} {dk : Array En} (h : SWK encE 3 w0 blk off dk W) (hs : dk.size = d0.size) (a m b : Nat) (ham : a + 1 < m) (hmb : b = m + 1) (hb : b ≤ dk.size) (h1 : Ord En.st En.rk dk a m) (hl : LoHi En.rk dk a m b) :
    Calls Try.prog 72 #[.slice (some ⟨blk, off, none⟩) dk.size cap, .int .i64 a, .int .i64 m, .int .i64 b, .func (.func 31) #[] #[]] W (MrgPost w0 blk off dk a b) := by
  have S0 := Lib.hid h; have HS := Lib.hid hs; have H1 := Lib.hid h1; have HL := Lib.hid hl
  have g1 : dk.size < 4611686018427387904 := by omega
  have mixed := insW.mixed
  obtain ⟨ea, hea⟩ : ∃ e, dk[m]! = e := ⟨_, rfl⟩
  have HEA := Lib.hid hea; have HMB := Lib.hid hmb
  have em : ((m : Int) - a == 1) = false := beq_eq_false_iff_ne.2 (by omega)
  have em2 : (b : Int) - m = 1 := by omega
  have am : m < b := by omega
  clear h hs h1 hl hea hmb
  go_enter Try.func72, Try.ntmps72
  go_wp2
  go_loopw [14, 15, 16] (fun v u _ wr => ∃ (i j : Nat), v = .int .i64 i ∧ u = .int .i64 j ∧ Bs2 En.st dk ea.st a m i j ∧ Hid (SWK encE 3 w0 blk off dk wr)) (fun v u _ _ => (intOf u).toNat - (intOf v).toNat)
  case atStart => exact ⟨a, m, rfl, rfl, Bs2.start (by omega), S0⟩
  case round =>
    obtain ⟨i, j, rfl, rfl, BS, S1⟩ := hrel
    have b0 := BS.h0; have b1 := BS.h1; have b2 := BS.h2
    have HB := Lib.hid BS
    clear BS S0
    by_cases hlt : i < j
    · have hlt' : (i : Int) < j := by omega
      obtain ⟨e1, e2, e3⟩ := half_i i j (by omega)
      obtain ⟨c, hc⟩ : ∃ c, c = (i + j) / 2 := ⟨_, rfl⟩
      rw [← hc] at e2 e3
      have c1 : i ≤ c := by omega
      have c2 : c < j := by omega
      obtain ⟨x, hx⟩ : ∃ x, dk[c]! = x := ⟨_, rfl⟩
      have k1 : (c : Int) < dk.size := by omega
      have k2 : (m : Int) < dk.size := by omega
      have la := fun n os => (cellsG R S1.out HS.out c (by omega) x hx n os).1
      have lb := fun n os => (cellsG R S1.out HS.out c (by omega) x hx n os).2.1
      have lc := fun n os => (cellsG R S1.out HS.out c (by omega) x hx n os).2.2
      have ld := fun n os => (cellsG R S1.out HS.out m (by omega) ea HEA.out n os).1
      have le := fun n os => (cellsG R S1.out HS.out m (by omega) ea HEA.out n os).2.1
      have lf := fun n os => (cellsG R S1.out HS.out m (by omega) ea HEA.out n os).2.2
      have hcl := fun W => eclosure ea x W
      have HX := Lib.hid hx; have HCC := Lib.hid hc
      clear hx hc
      by_cases hv : ea.st < x.st
      · have hd : cmpE ea x < 0 := (cmpE_lt ea x).2 hv
        have HV := Lib.hid hv
        generalize cmpE ea x = cv at hcl hd
        have hd2 : (!decide (cv < 0)) = false := by rw [decide_eq_true hd]; rfl
        clear hv
        go_wp2_with fail
        go_quiet_grown (first | (go_at_call 31; refine Calls.grown_of (hcl _)))
        have S2 := Lib.hid (S1.out.grown nq osq)
        clear la lb lc ld le lf hcl S1
        generalize grow (wr.drewN nq) osq = w2 at S2 ⊢
        go_wp2
        go_roundw
        case rel => exact ⟨i, c, rfl, rfl, HB.out.down H1.out c1 c2 (by rw [HX.out]; have := HV.out; omega), S2⟩
        case measure => simp [intOf]; omega
      · have hd : ¬ cmpE ea x < 0 := fun c => hv ((cmpE_lt ea x).1 c)
        have HV := Lib.hid hv
        generalize cmpE ea x = cv at hcl hd
        have hd2 : (!decide (cv < 0)) = true := by rw [decide_eq_false hd]; rfl
        clear hv
        go_wp2_with fail
        go_quiet_grown (first | (go_at_call 31; refine Calls.grown_of (hcl _)))
        have S2 := Lib.hid (S1.out.grown nq osq)
        clear la lb lc ld le lf hcl S1
        generalize grow (wr.drewN nq) osq = w2 at S2 ⊢
        go_wp2
        go_roundw
        case rel => exact ⟨c + 1, j, by go_num, rfl, HB.out.up H1.out c1 c2 (by rw [HX.out]; have := HV.out; omega), S2⟩
        case measure => simp [intOf]; omega
    · have hij : i = j := by omega
      have hlt' : ¬ (i : Int) < j := by omega
      have HIJ := Lib.hid hij
      clear hij hlt
      go_wp2
      go_loopw [17] (fun v wr => ∃ (k : Nat) (d' : Array En), v = .int .i64 k ∧ (i ≤ k ∧ k ≤ m) ∧ Hid (Rot dk d' k m (m + 1) ∧ SWK encE 3 w0 blk off d' wr)) (fun v _ => (intOf v).toNat - i)
      case atStart => exact ⟨m, dk, rfl, by omega, ⟨Rot.idL dk m (m + 1), S1.out⟩⟩
      case round =>
        clear S1
        obtain ⟨k, d', rfl, hk, HR⟩ := hrel
        by_cases hkl : i < k
        · obtain ⟨k, rfl⟩ : ∃ q, k = q + 1 := ⟨k - 1, by omega⟩
          have hkl' : (k : Int) + 1 > (i : Int) := by omega
          have hsd : d'.size = dk.size := HR.out.1.perm.1
          have hsd0 : d'.size = d0.size := hsd.trans HS.out
          have HC := HR.out.2.holds R.hblk R.hH hsd0
          obtain ⟨x, hx⟩ : ∃ x, d'[k + 1]! = x := ⟨_, rfl⟩
          obtain ⟨y, hy⟩ : ∃ y, d'[k]! = y := ⟨_, rfl⟩
          have sw := swp_cells R HR.out.2 (k + 1) k (by omega) (by omega) x y hx hy
          obtain ⟨⟨x0, x1, x2⟩, u0, u1, u2⟩ := cellsE HC (k + 1) (by omega) x hx
          obtain ⟨⟨y0, y1, y2⟩, v0, v1, v2⟩ := cellsE HC k (by omega) y hy
          have SW := Lib.hid sw
          have HN := Lib.hid (HR.out.1.stepL (by omega) (by omega))
          have i1 : (k : Int) < dk.size := by omega
          have i2 : (k : Int) + 1 < dk.size := by omega
          have i3 : (0 : Int) ≤ (k : Int) + 1 := by omega
          have n2 : ((k : Int) + 1).toNat = k + 1 := by omega
          have HK := Lib.hid hkl
          clear sw hx hy hsd hsd0 HC HR
          go_wp2_with fail
          go_big_region_o
          obtain ⟨w2, hw2⟩ : ∃ w2, w2 = ((((((wr.setCell ⟨blk, off + (k + 1) * 3, none⟩ (.int .i64 y.st)).setCell ⟨blk, off + (k + 1) * 3 + 1, none⟩ (.int .i64 y.ca)).setCell ⟨blk, off + (k + 1) * 3 + 2, none⟩ (.int .i64 y.dr)).setCell ⟨blk, off + k * 3, none⟩ (.int .i64 x.st)).setCell ⟨blk, off + k * 3 + 1, none⟩ (.int .i64 x.ca)).setCell ⟨blk, off + k * 3 + 2, none⟩ (.int .i64 x.dr)).drew := ⟨_, rfl⟩
          rw [← hw2] at SW ⊢
          clear hw2
          go_wp2
          go_roundw
          case rel => exact ⟨k, swp d' (k + 1) k, by go_num, by have := HK.out; omega, ⟨HN.out, SW.out⟩⟩
          case measure => have := HK.out; simp [intOf]; omega
        · have hkl' : ¬ (k : Int) > (i : Int) := by omega
          have HK := Lib.hid (show k = i by omega)
          clear hkl
          go_wp2
          go_end0
          have hr := HR.out.1
          rw [HK.out] at hr
          have hB := HB.out
          have hm := HMB.out
          rw [← HIJ.out] at hB
          rw [← hm] at hr
          obtain ⟨p1, p2⟩ := one_right (st := En.st) (rk := En.rk) hm hB.h0 hB.h2 hb H1.out HL.out hr (fun k k1 k2 => by rw [HEA.out]; exact hB.lo k k1 k2) (fun k k1 k2 => by rw [HEA.out]; exact hB.hi k k1 k2)
          exact ⟨rfl, d', p1, p2, HR.out.2⟩
end
end Go.Proofs.Ytmagpbbjjkmbpaa
