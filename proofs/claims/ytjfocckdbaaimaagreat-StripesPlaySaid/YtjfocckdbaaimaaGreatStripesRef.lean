/-
  The document's stripes of places.
-/
import Derived.Test.YtjfocckdbaaimaaGreatStripes
namespace Go.Proofs.YtjfocckdbaaimaaGreat
open Go.RowKit
set_option linter.unusedVariables false

theorem take_contains {xs : List Int} {k : Nat} {y a : Int} (h : xs[k]? = some y) : (xs.take (k + 1)).contains a = ((xs.take k).contains a || (a == y)) := by
  rw [List.take_add_one, h]
  simp only [List.contains_append, Option.toList_some, List.contains_cons, List.contains_nil, Bool.or_false]

set_option maxHeartbeats 1000000 in
theorem rof_any (l : List (Int × Int)) (ao : Option Addr) (cap : Nat) (w : World) (h : Plc w ao cap l) (hsz : l.length ≤ 1000000) : Calls Tryz.prog 161 #[.slice ao l.length cap] w fun e w' => ∃ v, e = .returned v ∧ w'.ownsRow w.heap.size 44 1 v (vof l).length (cu (vof l)) ∧ Below w.heap.size w w' := by
  have hml : l.length ≤ maxLen := Nat.le_trans h.le h.most
  obtain ⟨i0, hi0, hz0, hz1, hz2⟩ := info_parts info_addr
  have HI := Lib.hid hi0; have HZ0 := Lib.hid hz0; have HZ1 := Lib.hid hz1; have HZ2 := Lib.hid hz2; have HP := Lib.hid h; have HM := Lib.hid hsz
  unfold maxLen at hml
  clear hi0 hz0 hz1 hz2 h hsz
  go_enter Tryz.func161, Tryz.ntmps161
  go_wp2
  go_loopw [3, 4] (fun v i wr => ∃ k : Nat, k ≤ l.length ∧ i = .int .i64 k ∧ wr.ownsRow w.heap.size 44 1 v (vof (l.take k)).length (cu (vof (l.take k))) ∧ Below w.heap.size w wr) (fun _ i _ => l.length - (intOf i).toNat)
  case atStart => exact ⟨0, by omega, rfl, World.ownsRow_nil _ _ _ _, Below.refl _ _⟩
  case round =>
    obtain ⟨k, hk, rfl, hown, hbl⟩ := hrel
    by_cases hlt : k < l.length
    · obtain ⟨b, off, x, y, rfl, hx, c0, c1⟩ := (HP.out.below hbl).at k hlt
      have hl := vof_len (l.take k)
      rw [List.length_take] at hl
      have hst := vof_take hx
      have hlt' : (k : Int) < l.length := by omega
      have HO := Lib.hid hown; have HL := Lib.hid hbl; have HS := Lib.hid hst
      clear hown hbl hst hx
      generalize vof (l.take k) = out at *
      have hv : vstep out (x, y) = if ver x y = 0 then out else if out.contains (ver x y) then out else out ++ [ver x y] := rfl
      have hver := fun w => rver_any x y w
      generalize ver x y = vv at *
      have HV := Lib.hid hv
      clear hv
      go_wp2_with (go_at_call 211; refine (hver _).mono ?_; rintro e w1 ⟨rfl, b1⟩; have O1 := own_below HO.out b1; have L1 := HL.out.trans (b1.mono HL.out.size); have OO := Lib.hid O1; have LL := Lib.hid L1; clear O1 L1 b1)
      obtain ⟨ad, cap2, hu, r1, r2, r3, r4⟩ := Lst.rd (Lst.of_own OO.out)
      subst hu
      go_loopw [6, 7] (fun v i wr => ∃ j : Nat, j ≤ out.length ∧ i = .int .i64 j ∧ v = .bool ((vv == 0) || (out.take j).contains vv) ∧ wr = w1) (fun _ i _ => out.length - (intOf i).toNat)
      case atStart => exact ⟨0, by omega, rfl, by simp, rfl⟩
      case round =>
        obtain ⟨j, hj, rfl, rfl, rfl⟩ := hrel
        by_cases hlj : j < out.length
        · rcases r4 with r4 | ⟨g, o2, rfl, r5⟩
          · exfalso; have : (cu out).length = 0 := by rw [r4]; rfl
            simp [cu] at this; rw [this] at hlj; simp at hlj
          have hc := r5 j (by simpa [cu] using hlj)
          rw [show (cu out)[j]? = some (.int .u64 out[j]) by simp [cu, hlj]] at hc
          have ht := take_contains (a := vv) (List.getElem?_eq_getElem hlj)
          have hj1 : (j : Int) < out.length := by omega
          generalize out[j] = z at hc ht
          cases hy : (z == vv)
          · have HT : Hid (((vv == 0) || (out.take (j + 1)).contains vv) = ((vv == 0) || (out.take j).contains vv)) := by
              show _ = _; rw [ht, BEq.comm (a := vv) (b := z), hy, Bool.or_false]
            clear ht r5
            generalize ((vv == 0) || (out.take j).contains vv) = hd at *
            go_wp2
            go_roundw
            case rel => exact ⟨j + 1, by omega, by go_num, by rw [HT.out], trivial⟩
            case measure => simp [intOf]; omega
          · have HT : Hid (((vv == 0) || (out.take (j + 1)).contains vv) = true) := by
              show _ = _; rw [ht, BEq.comm (a := vv) (b := z), hy, Bool.or_true, Bool.or_true]
            clear ht r5
            generalize ((vv == 0) || (out.take j).contains vv) = hd at *
            go_wp2
            go_roundw
            case rel => exact ⟨j + 1, by omega, by go_num, by rw [HT.out], trivial⟩
            case measure => simp [intOf]; omega
        · obtain rfl : j = out.length := by omega
          rw [List.take_length]
          cases hd : ((vv == 0) || out.contains vv)
          · have HN : Hid (vstep out (x, y) = out ++ [vv]) := by
              show _ = _
              rw [Bool.or_eq_false_iff] at hd
              rw [HV.out, if_neg (beq_eq_false_iff_ne.1 hd.1), hd.2]; rfl
            clear hd r4
            go_wp2_with (at_builtin; refine wpList_append_own _ rfl _ _ 72 rfl w.heap.size 44 i0 (.int .u64 0) 1 8 Tryz.underlying72 HI.out HZ0.out HZ1.out HZ2.out rfl (by decide) _ _ _ rfl (OO.out.alloc _) ⟨_, 0, none⟩ 1 1 [.int .u64 vv] rfl rfl ?c1 ?c2 ?c3 ?c4 ?c5 ?_)
            case c1 => exact cell_one_new _ _ _
            case c2 => simp [Value.oneCell']
            case c3 => unfold maxLen; omega
            case c4 => have := HM.out; omega
            case c5 => simp; have := LL.out.size; omega
            intro v' w2 hown' hgrow _
            go_wp2
            go_roundw
            case rel =>
              refine ⟨k + 1, by omega, by go_num, ?_, (LL.out.alloc LL.out.size _).grown hgrow (by simp; have := LL.out.size; omega) (fun j hj => (OO.out.lt j hj).1)⟩
              rw [HS.out, HN.out]; simpa [cu] using hown'
            case measure => simp [intOf]; omega
          · have HN : Hid (vstep out (x, y) = out) := by
              show _ = _
              rw [HV.out]
              split
              · rfl
              · rename_i hne
                rw [beq_eq_false_iff_ne.2 hne, Bool.false_or] at hd
                rw [hd]; rfl
            clear hd r4
            go_wp2
            go_roundw
            case rel => exact ⟨k + 1, by omega, by go_num, by rw [HS.out, HN.out]; exact OO.out, LL.out⟩
            case measure => simp [intOf]; omega
    · obtain rfl : k = l.length := by omega
      rw [List.take_length] at hown
      have HL := Lib.hid hbl
      have HO := Lib.hid hown
      clear hown hbl
      go_wp2
      go_ret
      exact ⟨_, rfl, HO.out, HL.out⟩
end Go.Proofs.YtjfocckdbaaimaaGreat
