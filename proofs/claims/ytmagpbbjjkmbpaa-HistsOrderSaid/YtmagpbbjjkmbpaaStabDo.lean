/-
  slices.SortStableFunc at a history's entries: the walk, whatever length.
-/
import Derived.Test.YtmagpbbjjkmbpaaInsLay
import Derived.Test.YtmagpbbjjkmbpaaStabSym
import Derived.Test.YtmagpbbjjkmbpaaLib
import Derived.Shelf.SlSortCmp.KitK
namespace Go.Proofs.Ytmagpbbjjkmbpaa
open Go.RowKit Go.Shelf Go.Lib Go.Sort
set_option linter.unusedVariables false

theorem eisnan (a : Int) (w : World) : Calls Try.prog 51 #[.int .i64 a] w fun e w' => e = .returned (.bool false) ∧ w' = w := by
  go_enter Try.func51, Try.ntmps51
  go_wp2
  go_ret
  exact ⟨rfl, rfl⟩
theorem ecmp (a b : Int) (w : World) : Calls Try.prog 32 #[.int .i64 a, .int .i64 b] w fun e w' => e = .returned (.int .i64 (Lib.compareInt a b)) ∧ w' = w := by
  unfold Lib.compareInt
  by_cases h1 : a < b
  · rw [if_pos h1]
    go_enter Try.func32, Try.ntmps32
    go_wp2_with (go_at_call 51; refine (eisnan _ _).mono ?_; rintro e w1 ⟨rfl, rfl⟩)
    go_ret
    exact ⟨rfl, rfl⟩
  · rw [if_neg h1]
    by_cases h2 : b < a
    · rw [if_pos h2]
      go_enter Try.func32, Try.ntmps32
      go_wp2_with (go_at_call 51; refine (eisnan _ _).mono ?_; rintro e w1 ⟨rfl, rfl⟩)
      go_ret
      exact ⟨rfl, rfl⟩
    · rw [if_neg h2]
      go_enter Try.func32, Try.ntmps32
      go_wp2_with (go_at_call 51; refine (eisnan _ _).mono ?_; rintro e w1 ⟨rfl, rfl⟩)
      go_ret
      exact ⟨rfl, rfl⟩
def encE (x : En) : List Value := [.int .i64 x.st, .int .i64 x.ca, .int .i64 x.dr]
def cmpE (x y : En) : Int := Lib.compareInt x.st y.st
theorem eclosure (x y : En) (W : World) : Calls Try.prog 31 #[.agg #[.int .i64 x.st, .int .i64 x.ca, .int .i64 x.dr], .agg #[.int .i64 y.st, .int .i64 y.ca, .int .i64 y.dr]] W fun e w' => e = .returned (.int .i64 (cmpE x y)) ∧ ∃ q os', w' = grow (W.drewN q) os' := by
  have hcon := fun W' => ecmp x.st y.st W'
  unfold cmpE
  generalize Lib.compareInt x.st y.st = r at hcon ⊢
  go_enter Try.func31, Try.ntmps31
  go_wp2_with (go_at_call 32; refine (hcon _).mono ?_; rintro e w' ⟨rfl, rfl⟩)
  go_ret
  exact ⟨rfl, 0, _, by rw [alloc_eq_grow, alloc_eq_grow, grow_grow]; rfl⟩
theorem cmpLaysE (blk off size : Nat) (w : World) : CmpLays Try.prog 31 #[] encE 3 cmpE blk off size w := fun _ _ _ _ x y => eclosure x y _
theorem ltE (x y : En) : ltOf cmpE x y = bst En.st x y := by
  unfold ltOf cmpE Lib.compareInt bst
  by_cases h1 : x.st < y.st
  · simp [h1]
  · by_cases h2 : y.st < x.st <;> simp [h1, h2]
theorem cmpE_lt (x y : En) : (cmpE x y < 0) ↔ x.st < y.st := by
  have := ltE x y
  unfold ltOf bst at this
  rwa [decide_eq_decide] at this
theorem row_e {w0 : World} {blk off : Nat} {d : Array En} (hH : HoldsK encE 3 w0 blk off d) (hb : blk < w0.heap.size) : RowK encE 3 w0 blk off d := ⟨fun _ => rfl, fun x v hv => by simp [encE] at hv; rcases hv with rfl | rfl | rfl <;> rfl, hH, hb⟩
theorem cellsE {W : World} {blk off : Nat} {d : Array En} (h : HoldsK encE 3 W blk off d) (i : Nat) (hi : i < d.size) (e : En) (he : d[i]! = e) :
    (W.cell? ⟨blk, off + i * 3, none⟩ = some (.int .i64 e.st) ∧ W.cell? ⟨blk, off + i * 3 + 1, none⟩ = some (.int .i64 e.ca) ∧ W.cell? ⟨blk, off + i * 3 + 2, none⟩ = some (.int .i64 e.dr)) ∧
    (W.frozen? ⟨blk, off + i * 3, none⟩ = false ∧ W.frozen? ⟨blk, off + i * 3 + 1, none⟩ = false ∧ W.frozen? ⟨blk, off + i * 3 + 2, none⟩ = false) := by
  have hk : ∀ x, (encE x).length = 3 := fun _ => rfl
  have h0 := h.cell hi (c := 0) (by omega)
  have h1 := h.cell hi (c := 1) (by omega)
  have h2 := h.cell hi (c := 2) (by omega)
  rw [he] at h0 h1 h2
  exact ⟨⟨h0.1, h1.1, h2.1⟩, h0.2, h1.2, h2.2⟩
/-- An exchange, cell by cell. -/
theorem swp_cells {w0 W : World} {blk off : Nat} {d0 dk : Array En} (R : RowK encE 3 w0 blk off d0) (h : SWK encE 3 w0 blk off dk W) (i j : Nat) (hi : i < dk.size) (hj : j < dk.size) (x y : En) (hx : dk[i]! = x) (hy : dk[j]! = y) :
    SWK encE 3 w0 blk off (swp dk i j) ((((((W.setCell ⟨blk, off + i * 3, none⟩ (.int .i64 y.st)).setCell ⟨blk, off + i * 3 + 1, none⟩ (.int .i64 y.ca)).setCell ⟨blk, off + i * 3 + 2, none⟩ (.int .i64 y.dr)).setCell ⟨blk, off + j * 3, none⟩ (.int .i64 x.st)).setCell ⟨blk, off + j * 3 + 1, none⟩ (.int .i64 x.ca)).setCell ⟨blk, off + j * 3 + 2, none⟩ (.int .i64 x.dr)).drew := by
  have := h.swapped R i j hi hj
  rw [hx, hy] at this
  simp only [encE, World.setCells, World.setCell_drew] at this
  exact this
section
variable {w0 W : World} {blk off cap : Nat} {d0 dk : Array En} (R : RowK encE 3 w0 blk off d0) (h : SWK encE 3 w0 blk off dk W) (hs : dk.size = d0.size) (hsz : d0.size < 4611686018427387904)
include R h hs hsz
theorem eins (a b : Nat) (hab : a ≤ b) (hb : b ≤ dk.size) : Calls Try.prog 71 #[.slice (some ⟨blk, off, none⟩) dk.size cap, .int .i64 a, .int .i64 b, .func (.func 31) #[] #[]] W fun e w' => e = .returned (.tuple #[]) ∧ SWK encE 3 w0 blk off (insertionSort (bst En.st) dk a b) w' := by
  have eg : ∀ args w, (callFunc 31 args).run Try.prog w = .ok (.enter 31 args) w := fun args w => by kernel_rfl
  refine (AnyQ.insertionSortCmpFunc insW 3 Try.isAgg42 Try.sizeOf42 encE R.hk R.h1 cmpE 31 #[] blk off cap a b dk W eg (cmpLaysE blk off dk.size W) (h.holds R.hblk R.hH hs) (Nat.lt_of_lt_of_le R.hblk h.le) hab hb (by omega)).mono ?_
  rintro e w' ⟨rfl, n, os, rfl⟩
  refine ⟨rfl, ?_⟩
  have e : insertionSort (ltOf cmpE) dk a b = insertionSort (bst En.st) dk a b := by congr 1; funext x y; exact ltE x y
  rw [e]
  exact h.on R.hblk n _ os (by
    have := (insertionSort_perm (bst En.st) dk a b hab hb).1; exact this)
set_option maxHeartbeats 4000000 in
set_option maxRecDepth 1000000 in
theorem eswr (a b n : Nat) (hab : a + n ≤ b) (hb : b + n ≤ dk.size) (f : Value) :
    Calls Try.prog 87 #[.slice (some ⟨blk, off, none⟩) dk.size cap, .int .i64 a, .int .i64 b, .int .i64 n, f] W fun e w' => e = .returned (.tuple #[]) ∧ ∃ d', Swr dk d' a b n ∧ SWK encE 3 w0 blk off d' w' := by
  have HH := Lib.hid h; have HS := Lib.hid hs
  clear h hs
  go_enter Try.func87, Try.ntmps87
  go_wp2
  go_loopw [10] (fun v wr => ∃ (i : Nat) (d' : Array En), i ≤ n ∧ v = .int .i64 i ∧ Hid (Swr dk d' a b i ∧ SWK encE 3 w0 blk off d' wr)) (fun v _ => n - (intOf v).toNat)
  case atStart => exact ⟨0, dk, by omega, rfl, ⟨Swr.zero _ _ _ (by omega), HH.out⟩⟩
  case round =>
    obtain ⟨i, d', hi, rfl, HR⟩ := hrel
    by_cases hlt : i < n
    · have hlt' : (i : Int) < n := by omega
      have hsd : d'.size = dk.size := HR.out.1.perm.1
      have hsd0 : d'.size = d0.size := hsd.trans HS.out
      have HC := HR.out.2.holds R.hblk R.hH hsd0
      obtain ⟨x, hx⟩ : ∃ x, d'[a + i]! = x := ⟨_, rfl⟩
      obtain ⟨y, hy⟩ : ∃ y, d'[b + i]! = y := ⟨_, rfl⟩
      have sw := swp_cells R HR.out.2 (a + i) (b + i) (by omega) (by omega) x y hx hy
      obtain ⟨⟨x0, x1, x2⟩, u0, u1, u2⟩ := cellsE HC (a + i) (by omega) x hx
      obtain ⟨⟨y0, y1, y2⟩, v0, v1, v2⟩ := cellsE HC (b + i) (by omega) y hy
      have SW := Lib.hid sw
      have HN := Lib.hid (HR.out.1.next (by omega) (by omega))
      have i1 : (a : Int) + i < dk.size := by omega
      have i2 : (b : Int) + i < dk.size := by omega
      have i3 : (0 : Int) ≤ (a : Int) + i := by omega
      have i4 : (0 : Int) ≤ (b : Int) + i := by omega
      have n1 : ((a : Int) + i).toNat = a + i := by omega
      have n2 : ((b : Int) + i).toNat = b + i := by omega
      have hd := HS.out
      have g1 : dk.size < 4611686018427387904 := by omega
      have HLT := Lib.hid hlt
      clear sw hx hy hsd hsd0 hd HC
      have mixed := insW.mixed
      go_wp2_with fail
      go_big_region_o
      obtain ⟨w2, hw2⟩ : ∃ w2, w2 = ((((((wr.setCell ⟨blk, off + (a + i) * 3, none⟩ (.int .i64 y.st)).setCell ⟨blk, off + (a + i) * 3 + 1, none⟩ (.int .i64 y.ca)).setCell ⟨blk, off + (a + i) * 3 + 2, none⟩ (.int .i64 y.dr)).setCell ⟨blk, off + (b + i) * 3, none⟩ (.int .i64 x.st)).setCell ⟨blk, off + (b + i) * 3 + 1, none⟩ (.int .i64 x.ca)).setCell ⟨blk, off + (b + i) * 3 + 2, none⟩ (.int .i64 x.dr)).drew := ⟨_, rfl⟩
      rw [← hw2] at SW ⊢
      clear hw2
      go_wp2
      go_roundw
      case rel => exact ⟨i + 1, swp d' (a + i) (b + i), by have := HLT.out; omega, by go_num, ⟨HN.out, SW.out⟩⟩
      case measure => have := HLT.out; simp [intOf]; omega
    · obtain rfl : i = n := by omega
      go_wp2
      go_end0
      exact ⟨rfl, d', HR.out.1, HR.out.2⟩
set_option maxHeartbeats 4000000 in
set_option maxRecDepth 1000000 in
theorem erot (a m b : Nat) (ham : a < m) (hmb : m < b) (hb : b ≤ dk.size) (f : Value) :
    Calls Try.prog 82 #[.slice (some ⟨blk, off, none⟩) dk.size cap, .int .i64 a, .int .i64 m, .int .i64 b, f] W fun e w' => e = .returned (.tuple #[]) ∧ ∃ d', Rot dk d' a m b ∧ SWK encE 3 w0 blk off d' w' := by
  have HH := Lib.hid h; have HS := Lib.hid hs
  have g1 : dk.size < 4611686018427387904 := by omega
  clear h hs
  go_enter Try.func82, Try.ntmps82
  go_wp2
  go_loopw [10, 11] (fun v u wr => ∃ (i j : Nat) (d' : Array En), v = .int .i64 i ∧ u = .int .i64 j ∧ (0 < i ∧ 0 < j ∧ a + i ≤ m ∧ m + j ≤ b) ∧ Hid (d'.size = dk.size ∧ SWK encE 3 w0 blk off d' wr ∧ ∀ e, Rot d' e (m - i) m (m + j) → Rot dk e a m b)) (fun v u _ => (intOf v).toNat + (intOf u).toNat)
  case atStart => exact ⟨m - a, b - m, dk, by congr 1; omega, by congr 1; omega, by omega, ⟨rfl, HH.out, fun e he => by rw [show m - (m - a) = a by omega, show m + (b - m) = b by omega] at he; exact he⟩⟩
  case round =>
    obtain ⟨i, j, d', rfl, rfl, hij, HR⟩ := hrel
    have hsz' : d'.size = dk.size := HR.out.1
    by_cases hne : i = j
    · subst hne
      have hc := eswr (cap := cap) R HR.out.2.1 (hsz'.trans HS.out) hsz (m - i) m i (by omega) (by omega) f
      rw [hsz', show ((m - i : Nat) : Int) = (m : Int) - i by omega] at hc
      have HC := Lib.hid hc
      clear hc
      go_wp2_with (go_at_call 87; refine HC.out.mono ?_; rintro e w1 ⟨rfl, e1, hsw, hS⟩)
      go_end0
      exact ⟨rfl, e1, HR.out.2.2 e1 (Rot.same hsw (by omega)), hS⟩
    · by_cases hgt : j < i
      · have hgt' : (j : Int) < i := by omega
        have hc := eswr (cap := cap) R HR.out.2.1 (hsz'.trans HS.out) hsz (m - i) m j (by omega) (by omega) f
        rw [hsz', show ((m - i : Nat) : Int) = (m : Int) - i by omega] at hc
        have HC := Lib.hid hc
        clear hc
        go_wp2_with (go_at_call 87; refine HC.out.mono ?_; rintro e w1 ⟨rfl, e1, hsw, hS⟩)
        have HSW := Lib.hid hsw; have HS1 := Lib.hid hS
        clear hsw hS
        go_roundw
        case rel => exact ⟨i - j, j, e1, by congr 1; omega, rfl, by omega, ⟨by rw [HSW.out.perm.1]; exact hsz', HS1.out, fun e he => HR.out.2.2 e (Rot.left HSW.out (by omega) (by omega) (by omega) he)⟩⟩
        case measure => simp [intOf]; omega
      · have hgt' : ¬ (j : Int) < i := by omega
        have hc := eswr (cap := cap) R HR.out.2.1 (hsz'.trans HS.out) hsz (m - i) (m + j - i) i (by omega) (by omega) f
        rw [hsz', show ((m - i : Nat) : Int) = (m : Int) - i by omega, show ((m + j - i : Nat) : Int) = (m : Int) + j - i by omega] at hc
        have HC := Lib.hid hc
        clear hc
        go_wp2_with (go_at_call 87; refine HC.out.mono ?_; rintro e w1 ⟨rfl, e1, hsw, hS⟩)
        have HSW := Lib.hid hsw; have HS1 := Lib.hid hS
        clear hsw hS
        go_roundw
        case rel => exact ⟨i, j - i, e1, rfl, by congr 1; omega, by omega, ⟨by rw [HSW.out.perm.1]; exact hsz', HS1.out, fun e he => HR.out.2.2 e (Rot.right HSW.out (by omega) (by omega) (by omega) he)⟩⟩
        case measure => simp [intOf]; omega
end
end Go.Proofs.Ytmagpbbjjkmbpaa
