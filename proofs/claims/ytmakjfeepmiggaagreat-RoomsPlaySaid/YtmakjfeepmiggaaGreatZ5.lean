import Derived.Test.YtmakjfeepmiggaaGreatZ4
import Derived.Test.YtmakjfeepmiggaaGreatB1
import Derived.Test.YtmakjfeepmiggaaGreatZ2
import Derived.Laws.AppendOwnNone
import Derived.Deep.AppendLies
namespace Go.Proofs.YtmakjfeepmiggaaGreat
open Go.RowKit
set_option linter.unusedVariables false
def SomeU64 (w : World) (e : Ending) (w' : World) : Prop := (∃ h : Int, e = .returned (.int .u64 h) ∧ (0 ≤ h ∧ h < 18446744073709551616)) ∧ w' = w
def SomeI64 (w : World) (e : Ending) (w' : World) : Prop := (∃ h : Int, e = .returned (.int .i64 h)) ∧ w' = w
theorem u64_bd (x : Int) : 0 ≤ IntKind.u64.wrap x ∧ IntKind.u64.wrap x < 18446744073709551616 := by rw [IntKind.wrap_u64]; omega
theorem rhash_any (key : ByteArray) (hk : key.size ≤ 1000000) (w : World) : Calls Tryz.prog 87 #[.string key] w (SomeU64 w) := by
  go_enter Tryz.func87, Tryz.ntmps87
  go_wp2
  go_loop [3, 4] (fun h i => ∃ (k : Nat) (y : Int), k ≤ key.size ∧ i = .int .i64 k ∧ h = .int .u64 y ∧ 0 ≤ y ∧ y < 18446744073709551616) (fun _ i => key.size - (intOf i).toNat)
  case atStart => exact ⟨0, _, by omega, rfl, rfl, by decide, by decide⟩
  case round =>
    obtain ⟨k, y, hk2, rfl, rfl, hy0, hy1⟩ := hrel
    by_cases hlt : k < key.size
    · have hlt' : (k : Int) < key.size := by omega
      go_wp2
      go_round
      case rel => exact ⟨k + 1, _, by omega, by go_num, rfl, (u64_bd _).1, (u64_bd _).2⟩
      case measure => simp [intOf]; omega
    · obtain rfl : k = key.size := by omega
      go_wp2
      go_ret
      exact ⟨⟨_, rfl, hy0, hy1⟩, rfl⟩
def tag01 (x : Int) : Int := if x / 72057594037927936 = 0 then 1 else x / 72057594037927936
theorem rtag01_any (x : Int) (h0 : 0 ≤ x) (h1 : x < 18446744073709551616) (w : World) : Calls Tryz.prog 111 #[.int .u64 x] w fun e w' => e = .returned (.int .i64 (tag01 x)) ∧ w' = w := by
  go_enter Tryz.func111, Tryz.ntmps111
  go_wp2
  go_loop [0, 3] (fun h i => ∃ (k : Nat) (y : Int), k ≤ 56 ∧ i = .int .i64 k ∧ h = .int .u64 y ∧ 0 ≤ y ∧ y < 18446744073709551616 ∧ y = x / ((2 ^ k : Nat) : Int)) (fun _ i => 56 - (intOf i).toNat)
  case atStart => exact ⟨0, _, by omega, rfl, rfl, h0, h1, by simp⟩
  case round =>
    obtain ⟨k, y, hk2, rfl, rfl, hy0, hy1, hy⟩ := hrel
    have HY := Lib.hid hy
    clear hy
    by_cases hlt : k < 56
    · have hlt' : (k : Int) < 56 := by omega
      go_wp2
      go_round
      case rel => exact ⟨k + 1, _, by omega, by go_num, rfl, by omega, by omega, by rw [HY.out, Nat.pow_succ, Int.natCast_mul, Int.ediv_ediv_of_nonneg (Int.natCast_nonneg _)]; rfl⟩
      case measure => simp [intOf]; omega
    · obtain rfl : k = 56 := by omega
      have hy : y = x / 72057594037927936 := HY.out
      have HT : Hid (tag01 x = if y = 0 then 1 else y) := by show tag01 x = _; rw [hy]; rfl
      have hyb : y < 256 := by omega
      clear HY hy
      by_cases hz : y = 0
      · subst hz
        go_wp2
        go_ret
        exact ⟨ret_i64 (by rw [HT.out]; rfl), rfl⟩
      · have hb : (y == 0) = false := beq_eq_false_iff_ne.2 hz
        have HT2 : Hid (tag01 x = y) := by show tag01 x = _; rw [HT.out, if_neg hz]
        clear hz HT
        go_wp2
        go_ret
        exact ⟨ret_i64 HT2.out.symm, rfl⟩
theorem rbucket_any (x b : Int) (h0 : 0 ≤ x) (h1 : x < 18446744073709551616) (w : World) : Calls Tryz.prog 110 #[.int .u64 x, .int .i64 b] w (SomeI64 w) := by
  have ht := tsize_bd b
  have hs := rsize_any b
  generalize tsize b = t at *
  by_cases h : t = 0
  · subst h
    go_enter Tryz.func110, Tryz.ntmps110
    go_wp2_with (go_at_call 51; refine (hs _).mono ?_; rintro e w1 ⟨rfl, rfl⟩)
    go_ret
    exact ⟨⟨_, rfl⟩, rfl⟩
  · have e0 : (t == 0) = false := beq_eq_false_iff_ne.2 h
    have e1 : IntKind.u64.wrap t = t := by rw [IntKind.wrap_u64]; omega
    have ht1 : 1 ≤ t := by omega
    clear h
    go_enter Tryz.func110, Tryz.ntmps110
    go_wp2_with (go_at_call 51; refine (hs _).mono ?_; rintro e w1 ⟨rfl, rfl⟩)
    go_ret
    exact ⟨⟨_, rfl⟩, rfl⟩
def oth01 (k t b : Int) : Int := if k < 0 ∨ tsize b ≤ k ∨ t < 1 ∨ 255 < t then -1 else bits .xor .i64 k (t * 1540483477 % tsize b)
theorem rother01_any (k t b : Int) (w : World) : Calls Tryz.prog 59 #[.int .i64 k, .int .i64 t, .int .i64 b] w fun e w' => e = .returned (.int .i64 (oth01 k t b)) ∧ w' = w := by
  have hb := tsize_bd b
  have hs := rsize_any b
  unfold oth01
  generalize tsize b = n at *
  by_cases hc : k < 0 ∨ n ≤ k ∨ t < 1 ∨ 255 < t
  · rw [if_pos hc]
    by_cases h0 : k < 0
    · go_enter Tryz.func59, Tryz.ntmps59
      go_wp2_with (go_at_call 51; refine (hs _).mono ?_; rintro e w1 ⟨rfl, rfl⟩)
      all_goals go_ret
      all_goals exact ⟨rfl, rfl⟩
    have h0' : 0 ≤ k := by omega
    by_cases h1 : n ≤ k
    · go_enter Tryz.func59, Tryz.ntmps59
      go_wp2_with (go_at_call 51; refine (hs _).mono ?_; rintro e w1 ⟨rfl, rfl⟩)
      all_goals go_ret
      all_goals exact ⟨rfl, rfl⟩
    have h1' : k < n := by omega
    by_cases h2 : t < 1
    · go_enter Tryz.func59, Tryz.ntmps59
      go_wp2_with (go_at_call 51; refine (hs _).mono ?_; rintro e w1 ⟨rfl, rfl⟩)
      all_goals go_ret
      all_goals exact ⟨rfl, rfl⟩
    have h2' : 1 ≤ t := by omega
    have h3 : 255 < t := by omega
    go_enter Tryz.func59, Tryz.ntmps59
    go_wp2_with (go_at_call 51; refine (hs _).mono ?_; rintro e w1 ⟨rfl, rfl⟩)
    all_goals go_ret
    all_goals exact ⟨rfl, rfl⟩
  · rw [if_neg hc]
    have h0' : 0 ≤ k := by omega
    have h1' : k < n := by omega
    have h2' : 1 ≤ t := by omega
    have h3' : t ≤ 255 := by omega
    have hn1 : 1 ≤ n := by omega
    have hm : 0 ≤ t * 1540483477 % n ∧ t * 1540483477 % n < n := ⟨Int.emod_nonneg _ (by omega), Int.emod_lt_of_pos _ (by omega)⟩
    have e1 : IntKind.u64.wrap n = n := by rw [IntKind.wrap_u64]; omega
    have e2 : IntKind.u64.wrap t = t := by rw [IntKind.wrap_u64]; omega
    have e3 : (n == 0) = false := beq_eq_false_iff_ne.2 (by omega)
    have e4 : wrap64 (t * 1540483477 % n) = t * 1540483477 % n := IntWalk.wrap64_in _ (by omega)
    clear hc
    go_enter Tryz.func59, Tryz.ntmps59
    go_wp2_with (go_at_call 51; refine (hs _).mono ?_; rintro e w1 ⟨rfl, rfl⟩)
    go_ret
    exact ⟨rfl, rfl⟩
def flatP (l : List (Int × Int)) : List Value := l.flatMap fun p => [.int .i64 p.1, .int .i64 p.2]
theorem flatP_at (l : List (Int × Int)) (i : Nat) (hi : i < l.length) : (flatP l)[i * 2]? = some (.int .i64 (l[i]).1) ∧ (flatP l)[i * 2 + 1]? = some (.int .i64 (l[i]).2) := by
  induction l generalizing i with
  | nil => simp at hi
  | cons p l ih =>
    have e : flatP (p :: l) = .int .i64 p.1 :: .int .i64 p.2 :: flatP l := rfl
    rw [e]
    cases i with
    | zero => exact ⟨rfl, rfl⟩
    | succ i =>
      have := ih i (by simpa using hi)
      rw [show (i + 1) * 2 = i * 2 + 1 + 1 by omega]
      simpa using this
theorem flatP_snoc (l : List (Int × Int)) (a v : Int) : flatP (l ++ [(a, v)]) = flatP l ++ [.int .i64 a, .int .i64 v] := by simp [flatP]
theorem info_plc : (Tryz.prog.info? 69).map (fun i => (i.zero, i.size, i.bytes)) = some (some (.agg #[.int .i64 0, .int .i64 0]), 2, 16) := by kernel_rfl
theorem info_int : (Tryz.prog.info? 3).map (fun i => (i.zero, i.size, i.bytes)) = some (some (.int .i64 0), 1, 8) := by kernel_rfl
def PlR (w : World) (base : Nat) (v : Value) (l : List (Int × Int)) : Prop := w.ownsRow base 69 2 v l.length (flatP l)
theorem PlR.read {w : World} {base : Nat} {v : Value} {l : List (Int × Int)} (h : PlR w base v l) : ∃ a cap, v = .slice a l.length cap ∧ l.length ≤ maxLen ∧ (0 < l.length → ∃ g, a = some ⟨g, 0, none⟩ ∧ base ≤ g ∧ ∀ i, (hi : i < l.length) → w.cell? ⟨g, i * 2, none⟩ = some (.int .i64 (l[i]).1) ∧ w.cell? ⟨g, i * 2 + 1, none⟩ = some (.int .i64 (l[i]).2)) := by
  obtain ⟨h1, ⟨rfl, h0⟩ | ⟨g, cap, cur, rfl, hb, hg, hn, hm, hs, ht⟩⟩ := h
  · exact ⟨none, 0, by rw [h0], by omega, fun h => by omega⟩
  · refine ⟨_, cap, rfl, by omega, fun _ => ⟨g, rfl, hb, fun i hi => ?_⟩⟩
    obtain ⟨f0, f1⟩ := flatP_at l i hi
    rw [← ht, List.getElem?_take, if_pos (by omega)] at f0 f1
    simp only [Array.getElem?_toList] at f0 f1
    simp [World.cell?, hg, f0, f1]
def WithPost (w : World) (base n : Nat) (e : Ending) (w' : World) : Prop := ∃ v' l', e = .returned v' ∧ PlR w' base v' l' ∧ 1 ≤ l'.length ∧ l'.length ≤ n + 1 ∧ Below base w w'
set_option maxHeartbeats 1000000 in
theorem rwith8_any (w : World) (base : Nat) (v : Value) (l : List (Int × Int)) (hb : base ≤ w.heap.size) (h : PlR w base v l) (hl : l.length ≤ 1000) (b u : Int) : Calls Tryz.prog 154 #[v, .agg #[.int .i64 b, .int .i64 u]] w (WithPost w base l.length) := by
  obtain ⟨a, cap, rfl, hm, hc⟩ := h.read
  obtain ⟨i0, hi0, hz0, hz1, hz2⟩ := info_parts info_plc
  have HI := Lib.hid hi0; have HZ0 := Lib.hid hz0; have HZ1 := Lib.hid hz1; have HZ2 := Lib.hid hz2
  have HC := Lib.hid hc; have HH := Lib.hid h; have HL := Lib.hid hl; have HBS := Lib.hid hb
  unfold maxLen at hm
  have hq := box2 w b u 69
  have hB0 := below_alloc w (.cells #[.int .i64 b, .int .i64 u] 69)
  have HQ := Lib.hid hq; have HB0 := Lib.hid hB0
  clear h hl hc hi0 hz0 hz1 hz2 hq hB0 hb
  go_enter Tryz.func154, Tryz.ntmps154
  go_wp2
  go_loopw [5] (fun i wr => ∃ k : Nat, k ≤ l.length ∧ i = .int .i64 k ∧ Below (w.heap.size + 1) (w.alloc (.cells #[.int .i64 b, .int .i64 u] 69)) wr) (fun i _ => l.length - (intOf i).toNat)
  case atStart => exact ⟨0, by omega, rfl, Below.refl _ _⟩
  case round =>
    obtain ⟨k, hk, rfl, hbl⟩ := hrel
    have hq0 := (hbl.cell (p := ⟨w.heap.size, 0, none⟩) (by simp)).trans (HQ.out 0)
    have hq1 := (hbl.cell (p := ⟨w.heap.size, 1, none⟩) (by simp)).trans (HQ.out 1)
    have hbw : Below w.heap.size w wr := HB0.out.trans (hbl.mono (by simp))
    by_cases hlt : k < l.length
    · obtain ⟨g, rfl, hgb, hrow⟩ := HC.out (by omega)
      obtain ⟨r0, r1⟩ := hrow k hlt
      have r0 := (hbw.cell (World.block_lt_of_cell? _ _ r0)).trans r0
      have r1 := (hbw.cell (World.block_lt_of_cell? _ _ r1)).trans r1
      generalize l[k] = p at *
      obtain ⟨pb, pu⟩ := p
      simp only at r0 r1
      have x0 := fun st : ExtW wr => st.cell r0
      have x1 := fun st : ExtW wr => st.cell r1
      have x2 := fun st : ExtW wr => st.cell hq0
      have x3 := fun st : ExtW wr => st.cell hq1
      have hlt' : (k : Int) < l.length := by omega
      have HB := Lib.hid hbl; have HBW := Lib.hid hbw
      clear r0 r1 hq0 hq1 hrow hbl hbw
      cases h0 : (pb == b)
      all_goals (cases h1 : (pu == u))
      all_goals go_wp2
      all_goals (refine wp_region_ext (by kernel_rfl) (by kernel_rfl) ?_)
      all_goals (repeat (go_big_quiet_step (fail)))
      all_goals (refine wpQuiet_nil ?_)
      all_goals (rintro W ⟨⟨W2, hW⟩, rfl⟩)
      all_goals (clear x0 x1 x2 x3)
      all_goals (have hs : w.heap.size + 1 ≤ wr.heap.size := by have := HB.out.size; simpa using this)
      all_goals (have HW1 := Lib.hid (HB.out.trans (hW.mono hs)))
      all_goals (have HW2 := Lib.hid (HBW.out.trans (hW.mono HBW.out.size)))
      all_goals (clear hW hs)
      all_goals go_wp2
      all_goals (first
        | (go_ret; exact ⟨_, l, rfl, rown_below HH.out HW2.out, by omega, by omega, HW2.out.mono HBS.out⟩)
        | (go_roundw
           case rel => exact ⟨k + 1, by omega, by go_num, HW1.out⟩
           case measure => simp [intOf]; omega))
    · obtain rfl : k = l.length := by omega
      have hrow := rown_below HH.out hbw
      have HB := Lib.hid hbw; have HR := Lib.hid hrow
      have hsz : w.heap.size ≤ wr.heap.size := hbw.size
      clear hbl hbw hrow
      go_wp2_with (at_builtin; refine wpList_append_own _ rfl _ _ 72 rfl base 69 i0 (.agg #[.int .i64 0, .int .i64 0]) 2 16 Tryz.underlying72 HI.out HZ0.out HZ1.out HZ2.out rfl (by decide) _ _ _ rfl (HR.out.alloc _) ⟨_, 0, none⟩ 1 1 [.int .i64 b, .int .i64 u] rfl rfl (World.news_of_block (cs := #[.int .i64 b, .int .i64 u]) (t := 69) (fr := (0, 0)) (heap_alloc_new _ _)) ?c2 ?c3 ?c4 ?c5 ?_)
      case c2 => simp [Value.oneCell']
      case c3 => have := HL.out; unfold maxLen; omega
      case c4 => have := HL.out; omega
      case c5 => have := HBS.out; first | omega | (simp; omega)
      intro v' w2 hown' hgrow _
      have hb2 : Below base w w2 := ((HB.out.mono HBS.out).alloc (Nat.le_trans HBS.out hsz) (.cells #[.int .i64 b, .int .i64 u] 69)).grown hgrow (by simp; have := HBS.out; omega) (fun j hj => (HR.out.lt j hj).1)
      have HO2 := Lib.hid hown'; have HB2 := Lib.hid hb2
      clear hown' hgrow hb2
      go_wp2
      go_ret
      exact ⟨_, l ++ [(b, u)], rfl, by unfold PlR; rw [flatP_snoc, show (l ++ [(b, u)]).length = l.length + 1 by simp]; exact HO2.out, by simp, by simp, HB2.out⟩
theorem ras_any (v : Int) (h0 : 0 ≤ v) (h1 : v < 18446744073709551616) (w : World) : Calls Tryz.prog 153 #[.int .u64 v] w fun e w' => e = .returned (.tuple #[.int .i64 (asOld v), .int .i64 (asNow v)]) ∧ w' = w := by
  have hz : ∀ b, tsize b = 0 ↔ (b < 1 ∨ 12 < b) := fun b => by
    constructor
    · intro h
      by_cases hb : b < 1 ∨ 12 < b
      · exact hb
      · rw [tsize_in (by omega)] at h
        have := Int.pow_pos (m := b.toNat) (show (0 : Int) < 2 by decide)
        omega
    · exact tsize_out
  have eo : asOld v = if v % 256 < 1 ∨ 12 < v % 256 then 1 else v % 256 := by
    unfold asOld; simp only [hz]
  have en : asNow v = if 12 < v / 256 % 256 ∨ v / 256 % 256 ≠ asOld v + 1 then 0 else v / 256 % 256 := by
    have : 1 ≤ asOld v := by rw [eo]; split <;> omega
    unfold asNow
    simp only [hz]
    split <;> split <;> omega
  rw [en, eo]
  have b0 : 0 ≤ v % 256 ∧ v % 256 < 256 := by omega
  have b1 : 0 ≤ v / 256 % 256 ∧ v / 256 % 256 < 256 := by omega
  have w0 : wrap64 (v % 256) = v % 256 := IntWalk.wrap64_in _ (by omega)
  have w1 : wrap64 (v / 256 % 256) = v / 256 % 256 := IntWalk.wrap64_in _ (by omega)
  clear en eo hz
  generalize ev : v % 256 = o at *
  generalize en : v / 256 % 256 = n at *
  have fin : ∀ (o2 n2 : Int), (if 12 < n ∨ n ≠ (if o < 1 ∨ 12 < o then 1 else o) + 1 then 0 else n) = n2 → (if o < 1 ∨ 12 < o then 1 else o) = o2 → Ending.returned (.tuple #[.int .i64 o2, .int .i64 n2]) =
      .returned (.tuple #[.int .i64 (if o < 1 ∨ 12 < o then 1 else o), .int .i64 (if 12 < n ∨ n ≠ (if o < 1 ∨ 12 < o then 1 else o) + 1 then 0 else n)]) := fun o2 n2 h1 h2 => by rw [h1, h2]
  have FIN := Lib.hid fin
  clear fin
  generalize hr : (Ending.returned (.tuple #[.int .i64 (if o < 1 ∨ 12 < o then 1 else o), .int .i64 (if 12 < n ∨ n ≠ (if o < 1 ∨ 12 < o then 1 else o) + 1 then 0 else n)])) = r
  have HR := Lib.hid hr
  clear hr
  by_cases h12 : 12 < n
  · have F : Hid (∀ o2, (if o < 1 ∨ 12 < o then 1 else o) = o2 → Ending.returned (.tuple #[.int .i64 o2, .int .i64 0]) = r) := fun o2 h => by rw [← HR.out]; exact FIN.out o2 0 (by rw [if_pos (.inl h12)]) h
    clear FIN HR
    by_cases o1 : o < 1
    · go_enter Tryz.func153, Tryz.ntmps153
      go_wp2
      go_ret2
      exact ⟨F.out 1 (by rw [if_pos (.inl o1)]), rfl⟩
    · by_cases o2 : 12 < o
      · have o1' : 1 ≤ o := by omega
        go_enter Tryz.func153, Tryz.ntmps153
        go_wp2
        go_ret2
        exact ⟨F.out 1 (by rw [if_pos (.inr o2)]), rfl⟩
      · have o1' : 1 ≤ o := by omega
        have o2' : o ≤ 12 := by omega
        go_enter Tryz.func153, Tryz.ntmps153
        go_wp2
        go_ret2
        exact ⟨F.out o (by rw [if_neg (by omega)]), rfl⟩
  · have h12' : n ≤ 12 := by omega
    by_cases o1 : o < 1 ∨ 12 < o
    · by_cases hn : n = 2
      · subst hn
        have F : Hid (Ending.returned (.tuple #[.int .i64 1, .int .i64 2]) = r) := by show _ = r; rw [← HR.out]; exact FIN.out 1 2 (by rw [if_pos o1]; rfl) (by rw [if_pos o1])
        clear FIN HR
        rcases o1 with o1 | o1
        · go_enter Tryz.func153, Tryz.ntmps153
          go_wp2
          go_ret2
          exact ⟨F.out, rfl⟩
        · have o1' : 1 ≤ o := by omega
          go_enter Tryz.func153, Tryz.ntmps153
          go_wp2
          go_ret2
          exact ⟨F.out, rfl⟩
      · have hb : (n != 2) = true := bne_iff_ne.2 hn
        have F : Hid (Ending.returned (.tuple #[.int .i64 1, .int .i64 0]) = r) := by show _ = r; rw [← HR.out]; exact FIN.out 1 0 (by rw [if_pos o1, if_pos (.inr hn)]) (by rw [if_pos o1])
        clear FIN HR hn
        rcases o1 with o1 | o1
        · go_enter Tryz.func153, Tryz.ntmps153
          go_wp2
          go_ret2
          exact ⟨F.out, rfl⟩
        · have o1' : 1 ≤ o := by omega
          go_enter Tryz.func153, Tryz.ntmps153
          go_wp2
          go_ret2
          exact ⟨F.out, rfl⟩
    · have o1' : 1 ≤ o := by omega
      have o2' : o ≤ 12 := by omega
      by_cases hn : n = o + 1
      · have hb : (n != o + 1) = false := by simp [hn]
        have F : Hid (Ending.returned (.tuple #[.int .i64 o, .int .i64 n]) = r) := by show _ = r; rw [← HR.out]; exact FIN.out o n (by rw [if_neg o1, if_neg (by omega)]) (by rw [if_neg o1])
        clear FIN HR hn o1
        go_enter Tryz.func153, Tryz.ntmps153
        go_wp2
        go_ret2
        exact ⟨F.out, rfl⟩
      · have hb : (n != o + 1) = true := bne_iff_ne.2 hn
        have F : Hid (Ending.returned (.tuple #[.int .i64 o, .int .i64 0]) = r) := by show _ = r; rw [← HR.out]; exact FIN.out o 0 (by rw [if_neg o1, if_pos (.inr hn)]) (by rw [if_neg o1])
        clear FIN HR hn o1
        go_enter Tryz.func153, Tryz.ntmps153
        go_wp2
        go_ret2
        exact ⟨F.out, rfl⟩
theorem own_lower {w : World} {base base' e size n : Nat} {v : Value} {xs : List Value} (h : w.ownsRow base e size v n xs) (hb : base' ≤ base) : w.ownsRow base' e size v n xs := by
  obtain ⟨h1, h2 | ⟨g, cap, cur, h3, h4, h5⟩⟩ := h
  · exact ⟨h1, .inl h2⟩
  · exact ⟨h1, .inr ⟨g, cap, cur, h3, Nat.le_trans hb h4, h5⟩⟩
def PlacesPost (w : World) (e : Ending) (w' : World) : Prop := ∃ pv l, e = .returned pv ∧ PlR w' w.heap.size pv l ∧ 1 ≤ l.length ∧ l.length ≤ 4 ∧ Below w.heap.size w w'
set_option maxRecDepth 10000 in
set_option maxHeartbeats 2000000 in
theorem rplaces_one (x v : Int) (h0 : 0 ≤ x) (h1 : x < 18446744073709551616) (v0 : 0 ≤ v) (v1 : v < 18446744073709551616) (hn : asNow v = 0) (w : World) : Calls Tryz.prog 86 #[.int .u64 x, .int .u64 v] w (PlacesPost w) := by
  have ha := ras_any v v0 v1 w
  rw [hn] at ha
  clear hn
  generalize asOld v = o at *
  obtain ⟨W, hWe⟩ : ∃ W, W = w.alloc (.cells #[.int .i64 o] 3) := ⟨_, rfl⟩
  have HW : Hid (Below w.heap.size w W) := by rw [hWe]; exact below_alloc _ _
  have HQ : Hid (∀ k, k < 1 → ∃ bk, W.cell? ⟨w.heap.size, k, none⟩ = some (.int .i64 bk)) := fun k hk => by
    obtain rfl : k = 0 := by omega
    have := heap_alloc_new w (.cells #[.int .i64 o] 3)
    rw [← hWe] at this
    exact ⟨o, by simp [World.cell?, this]⟩
  go_enter Tryz.func86, Tryz.ntmps86
  go_wp2_with (go_at_call 153; refine ha.mono ?_; rintro e w1 ⟨rfl, hw⟩; obtain rfl := hw.symm; clear ha)
  rw [← hWe]
  clear hWe
  have hWs := HW.out.size
  go_loopw [8, 9] (fun ov i wr => ∃ (k : Nat) (l : List (Int × Int)), k ≤ 1 ∧ i = .int .i64 k ∧ PlR wr W.heap.size ov l ∧ (0 < k → 1 ≤ l.length) ∧ l.length ≤ 2 * k ∧ Below W.heap.size W wr) (fun _ i _ => 1 - (intOf i).toNat)
  case atStart => exact ⟨0, [], by omega, rfl, World.ownsRow_nil _ _ _ _, by omega, by simp, Below.refl _ _⟩
  case round =>
    obtain ⟨k, l, hk, rfl, hrow, hl1, hl2, hbl⟩ := hrel
    by_cases hlt : k < 1
    · obtain ⟨bk, q0⟩ := HQ.out k hlt
      have hg : w.heap.size < W.heap.size := World.block_lt_of_cell? _ _ q0
      have hw8 := rwith8_any wr W.heap.size _ l hbl.size hrow (by omega) bk
      have HQ0 := Lib.hid q0
      have q0 := (hbl.cell (p := ⟨w.heap.size, k, none⟩) hg).trans q0
      have hlt' : (k : Int) < 1 := by omega
      have HB := Lib.hid hbl; have HW8 := Lib.hid hw8; have HG := Lib.hid hg
      clear hbl hrow hw8 hg
      go_wp2_with (first
        | (go_at_call 110; refine (rbucket_any x bk h0 h1 _).mono ?_; rintro e w1 ⟨⟨bu, rfl⟩, hw⟩; obtain rfl := hw.symm)
        | (go_at_call 154; refine (HW8.out bu).mono ?_; rintro e w2 ⟨v2, l2, rfl, p2, n2, m2, b2⟩; clear q0))
      obtain ⟨a2, cap2, rfl, hm2, -⟩ := p2.read
      unfold maxLen at hm2
      have hbl2 := HB.out.trans b2
      have q0 := (hbl2.cell (p := ⟨w.heap.size, k, none⟩) HG.out).trans HQ0.out
      have x0 := fun st : ExtW w2 => st.cell q0
      have ht : ∀ st : ExtW w2, Calls Tryz.prog 111 #[.int .u64 x] st.val fun e w' => e = .returned (.int .i64 (tag01 x)) ∧ st.val = w' := fun st => (rtag01_any x h0 h1 st.val).mono fun e w' ⟨he, hw⟩ => ⟨he, hw.symm⟩
      have ho : ∀ st : ExtW w2, Calls Tryz.prog 59 #[.int .i64 bu, .int .i64 (tag01 x), .int .i64 bk] st.val fun e w' => e = .returned (.int .i64 (oth01 bu (tag01 x) bk)) ∧ st.val = w' := fun st => (rother01_any bu (tag01 x) bk st.val).mono fun e w' ⟨he, hw⟩ => ⟨he, hw.symm⟩
      have HB2 := Lib.hid hbl2; have HP2 := Lib.hid p2
      clear q0 hbl2 p2 b2
      generalize tag01 x = tg at *
      generalize oth01 bu tg bk = ot at *
      refine wp_region_segs [14] (by kernel_rfl) (by kernel_rfl) (by kernel_rfl) ?_
      simp only [Segs, List.take_succ_cons, List.take_zero, List.drop_succ_cons, List.drop_zero]
      repeat (go_big_quiet_step (first
        | (go_at_call 111; with_reducible refine calls_ext_same (ht _))
        | (go_at_call 59; with_reducible refine calls_ext_same (ho _))))
      refine wpQuiet_nil ?_
      rintro W3 ⟨⟨W4, hW4⟩, rfl⟩
      clear x0 ht ho
      have hsz := HB2.out.size
      refine seg_call rfl (by kernel_rfl) 154 #[.slice a2 l2.length cap2, .agg #[.int .i64 bk, .int .i64 ot]] (by kernel_rfl) ?_
      refine (rwith8_any W3 W.heap.size _ l2 (Nat.le_trans hsz hW4.size) (rown_below HP2.out hW4) (by omega) bk ot).mono ?_
      rintro e w5 ⟨v5, l5, rfl, p5, n5, m5, b5⟩
      refine ⟨_, rfl, ?_⟩
      simp only [List.getElem_toArray, List.getElem_cons_succ, List.getElem_cons_zero]
      go_frame
      have HB5 := Lib.hid ((HB2.out.trans (hW4.mono hsz)).trans b5); have HP5 := Lib.hid p5
      clear hW4 p5 b5
      repeat (go_big_quiet_step (fail))
      refine wpQuiet_nil ?_
      rintro W6 ⟨⟨W7, hW6⟩, rfl⟩
      have hs5 := HB5.out.size
      have HB6 := Lib.hid (HB5.out.trans (hW6.mono hs5)); have HP6 := Lib.hid (rown_below HP5.out hW6)
      clear hW6
      go_wp2
      go_roundw
      case rel => exact ⟨k + 1, l5, by omega, by go_num, HP6.out, fun _ => n5, by omega, HB6.out⟩
      case measure => simp [intOf]; omega
    · obtain rfl : k = 1 := by omega
      have HB := Lib.hid hbl; have HR := Lib.hid hrow
      clear hbl hrow
      go_wp2
      go_ret
      exact ⟨_, l, rfl, own_lower HR.out hWs, hl1 (by decide), by omega, HW.out.trans (HB.out.mono hWs)⟩
set_option maxRecDepth 10000 in
set_option maxHeartbeats 2000000 in
theorem rplaces_two (x v : Int) (h0 : 0 ≤ x) (h1 : x < 18446744073709551616) (v0 : 0 ≤ v) (v1 : v < 18446744073709551616) (hn : asNow v ≠ 0) (w : World) : Calls Tryz.prog 86 #[.int .u64 x, .int .u64 v] w (PlacesPost w) := by
  have ha := ras_any v v0 v1 w
  have hr := as_range v
  have hn1 : 0 < asNow v := by omega
  clear hn hr
  generalize asOld v = o at *
  generalize asNow v = n at *
  obtain ⟨i0, hi0, hz0, hz1, hz2⟩ := info_parts info_int
  have HI := Lib.hid hi0; have HZ0 := Lib.hid hz0; have HZ1 := Lib.hid hz1; have HZ2 := Lib.hid hz2
  clear hi0 hz0 hz1 hz2
  have hrow : ((w.alloc (.cells #[.int .i64 o] 3)).alloc (.cells #[.int .i64 n] 3)).ownsRow w.heap.size 3 1 (.slice (some ⟨w.heap.size, 0, none⟩) 1 1) 1 [.int .i64 o] :=
    ⟨rfl, .inr ⟨w.heap.size, 1, #[.int .i64 o], rfl, Nat.le_refl _, heap_alloc_old (heap_alloc_new w _), Nat.le_refl _, by unfold maxLen; omega, rfl, rfl⟩⟩
  have HRW := Lib.hid hrow
  clear hrow
  go_enter Tryz.func86, Tryz.ntmps86
  go_wp2_with (first
    | (go_at_call 153; refine ha.mono ?_; rintro e w1 ⟨rfl, hw⟩; obtain rfl := hw.symm; clear ha)
    | (at_builtin; refine wpList_append_own _ rfl _ _ 132 rfl w.heap.size 3 i0 (.int .i64 0) 1 8 Tryz.underlying132 HI.out HZ0.out HZ1.out HZ2.out rfl (by decide) _ _ _ rfl HRW.out ⟨_, 0, none⟩ 1 1 [.int .i64 n] rfl rfl (World.news_of_block (cs := #[.int .i64 n]) (t := 3) (fr := (0, 0)) (heap_alloc_at _ _ (by simp))) ?c2 ?c3 ?c4 ?c5 ?_))
  case c2 => simp [Value.oneCell']
  case c3 => unfold maxLen; omega
  case c4 => omega
  case c5 => first | (simp; done) | (simp; omega)
  intro v' W hown hgrow hnil
  have HW : Hid (Below w.heap.size w W) := (((Below.refl _ w).alloc (Nat.le_refl _) (.cells #[.int .i64 o] 3)).alloc (by simp) (.cells #[.int .i64 n] 3)).grown hgrow (by simp; omega) (fun j hj => (HRW.out.lt j hj).1)
  obtain ⟨hlen, ⟨-, hbad⟩ | ⟨g, cap, cur, rfl, hgb, hg, hnc, hcm, hcs, ht⟩⟩ := hown
  · exact absurd hbad (by decide)
  have HQ : Hid (∀ k, k < 2 → ∃ bk, W.cell? ⟨g, k, none⟩ = some (.int .i64 bk)) := fun k hk => by
    have e : cur[k]? = ([.int .i64 o, .int .i64 n] : List Value)[k]? := by
      have : (cur.toList.take 2)[k]? = ([.int .i64 o, .int .i64 n] : List Value)[k]? := by rw [show 2 = (1 + 1) * 1 from rfl, ht]
      rw [List.getElem?_take, if_pos hk] at this
      simpa using this
    rcases (by omega : k = 0 ∨ k = 1) with rfl | rfl
    · exact ⟨o, by simp [World.cell?, hg, e]⟩
    · exact ⟨n, by simp [World.cell?, hg, e]⟩
  clear hgrow hnil hlen hg ht hcs hgb HRW
  unfold maxLen at hcm
  go_wp2_with fail
  have hWs := HW.out.size
  go_loopw [8, 9] (fun ov i wr => ∃ (k : Nat) (l : List (Int × Int)), k ≤ 2 ∧ i = .int .i64 k ∧ PlR wr W.heap.size ov l ∧ (0 < k → 1 ≤ l.length) ∧ l.length ≤ 2 * k ∧ Below W.heap.size W wr) (fun _ i _ => 2 - (intOf i).toNat)
  case atStart => exact ⟨0, [], by omega, rfl, World.ownsRow_nil _ _ _ _, by omega, by simp, Below.refl _ _⟩
  case round =>
    obtain ⟨k, l, hk, rfl, hrow, hl1, hl2, hbl⟩ := hrel
    by_cases hlt : k < 2
    · obtain ⟨bk, q0⟩ := HQ.out k hlt
      have hg : g < W.heap.size := World.block_lt_of_cell? _ _ q0
      have hw8 := rwith8_any wr W.heap.size _ l hbl.size hrow (by omega) bk
      have HQ0 := Lib.hid q0
      have q0 := (hbl.cell (p := ⟨g, k, none⟩) hg).trans q0
      have hlt' : (k : Int) < 2 := by omega
      have HB := Lib.hid hbl; have HW8 := Lib.hid hw8; have HG := Lib.hid hg
      clear hbl hrow hw8 hg
      go_wp2_with (first
        | (go_at_call 110; refine (rbucket_any x bk h0 h1 _).mono ?_; rintro e w1 ⟨⟨bu, rfl⟩, hw⟩; obtain rfl := hw.symm)
        | (go_at_call 154; refine (HW8.out bu).mono ?_; rintro e w2 ⟨v2, l2, rfl, p2, n2, m2, b2⟩; clear q0))
      obtain ⟨a2, cap2, rfl, hm2, -⟩ := p2.read
      unfold maxLen at hm2
      have hbl2 := HB.out.trans b2
      have q0 := (hbl2.cell (p := ⟨g, k, none⟩) HG.out).trans HQ0.out
      have x0 := fun st : ExtW w2 => st.cell q0
      have ht : ∀ st : ExtW w2, Calls Tryz.prog 111 #[.int .u64 x] st.val fun e w' => e = .returned (.int .i64 (tag01 x)) ∧ st.val = w' := fun st => (rtag01_any x h0 h1 st.val).mono fun e w' ⟨he, hw⟩ => ⟨he, hw.symm⟩
      have ho : ∀ st : ExtW w2, Calls Tryz.prog 59 #[.int .i64 bu, .int .i64 (tag01 x), .int .i64 bk] st.val fun e w' => e = .returned (.int .i64 (oth01 bu (tag01 x) bk)) ∧ st.val = w' := fun st => (rother01_any bu (tag01 x) bk st.val).mono fun e w' ⟨he, hw⟩ => ⟨he, hw.symm⟩
      have HB2 := Lib.hid hbl2; have HP2 := Lib.hid p2
      clear q0 hbl2 p2 b2
      generalize tag01 x = tg at *
      generalize oth01 bu tg bk = ot at *
      refine wp_region_segs [14] (by kernel_rfl) (by kernel_rfl) (by kernel_rfl) ?_
      simp only [Segs, List.take_succ_cons, List.take_zero, List.drop_succ_cons, List.drop_zero]
      repeat (go_big_quiet_step (first
        | (go_at_call 111; with_reducible refine calls_ext_same (ht _))
        | (go_at_call 59; with_reducible refine calls_ext_same (ho _))))
      refine wpQuiet_nil ?_
      rintro W3 ⟨⟨W4, hW4⟩, rfl⟩
      clear x0 ht ho
      have hsz := HB2.out.size
      refine seg_call rfl (by kernel_rfl) 154 #[.slice a2 l2.length cap2, .agg #[.int .i64 bk, .int .i64 ot]] (by kernel_rfl) ?_
      refine (rwith8_any W3 W.heap.size _ l2 (Nat.le_trans hsz hW4.size) (rown_below HP2.out hW4) (by omega) bk ot).mono ?_
      rintro e w5 ⟨v5, l5, rfl, p5, n5, m5, b5⟩
      refine ⟨_, rfl, ?_⟩
      simp only [List.getElem_toArray, List.getElem_cons_succ, List.getElem_cons_zero]
      go_frame
      have HB5 := Lib.hid ((HB2.out.trans (hW4.mono hsz)).trans b5); have HP5 := Lib.hid p5
      clear hW4 p5 b5
      repeat (go_big_quiet_step (fail))
      refine wpQuiet_nil ?_
      rintro W6 ⟨⟨W7, hW6⟩, rfl⟩
      have hs5 := HB5.out.size
      have HB6 := Lib.hid (HB5.out.trans (hW6.mono hs5)); have HP6 := Lib.hid (rown_below HP5.out hW6)
      clear hW6
      go_wp2
      go_roundw
      case rel => exact ⟨k + 1, l5, by omega, by go_num, HP6.out, fun _ => n5, by omega, HB6.out⟩
      case measure => simp [intOf]; omega
    · obtain rfl : k = 2 := by omega
      have HB := Lib.hid hbl; have HR := Lib.hid hrow
      clear hbl hrow
      go_wp2
      go_ret
      exact ⟨_, l, rfl, own_lower HR.out hWs, hl1 (by decide), by omega, HW.out.trans (HB.out.mono hWs)⟩
theorem rplaces_any (x v : Int) (h0 : 0 ≤ x) (h1 : x < 18446744073709551616) (v0 : 0 ≤ v) (v1 : v < 18446744073709551616) (w : World) : Calls Tryz.prog 86 #[.int .u64 x, .int .u64 v] w (PlacesPost w) := by
  by_cases hn : asNow v = 0
  · exact rplaces_one x v h0 h1 v0 v1 hn w
  · exact rplaces_two x v h0 h1 v0 v1 hn w
end Go.Proofs.YtmakjfeepmiggaaGreat