/-
  Texts of this prover, merged: Hash, PlacesFn, RefExact, StripesRef, Mix, Tag, TagHas, RefLook, RefLookD, RefLookA, RefLookS, RefLook4, FindGen, RefLook5, RefLook6, RefLook7.
-/
import Derived.Test.YtmakjfeepmiggaaGreatP1
import Derived.Test.YtmakjfeepmiggaaGreatStripes
import Derived.Test.YtmakjfeepmiggaaGreatFront
import Derived.Test.YtmakjfeepmiggaaGreatLib
import Derived.Laws.EntriesVeiled
import Derived.Laws.AppendOwnNone
import Derived.Deep.DeepCutAuto
import Derived.Deep.MidRow
import Derived.Great.BuildSlice
import Derived.Deep.WholeRow
import Derived.Deep.QuietTactic
import Derived.BigQuiet
import Derived.Deep.RegionHeld2
/-
  Hashes, tags, buckets of the program.
-/
namespace Go.Proofs.YtmakjfeepmiggaaGreat
open Go.RowKit
set_option linter.unusedVariables false

def hstep (s c : Int) : Int := IntKind.u64.wrap (bits .xor .u64 s c * 1099511628211)
theorem hstep_bd (s c : Int) : 0 ≤ hstep s c ∧ hstep s c < 18446744073709551616 := u64_bd _
def hbyte (key : ByteArray) (k : Nat) : Int := if h : k < key.size then (key[k].toNat : Int) else 0
def hfold (key : ByteArray) : Nat → Int
  | 0 => 14695981039346656037
  | k + 1 => hstep (hfold key k) (hbyte key k)
def hashOf (key : ByteArray) : Int := hfold key key.size
theorem hfold_bd (key : ByteArray) (k : Nat) : 0 ≤ hfold key k ∧ hfold key k < 18446744073709551616 := by
  cases k with
  | zero => exact ⟨by show (0 : Int) ≤ 14695981039346656037; decide, by show (14695981039346656037 : Int) < 18446744073709551616; decide⟩
  | succ k => exact hstep_bd _ _
theorem sumadd (p : Nat) (s c : Int) (hc : 0 ≤ c ∧ c < 256) (w : World) (h : w.heap[p]? = some (.cells #[.int .u64 s] 251 (0, 0))) : Calls Tryz.prog 146 #[.pointer (some ⟨p, 0, none⟩), .int .u8 c] w fun e w' => e = .returned (.tuple #[]) ∧ w'.heap[p]? = some (.cells #[.int .u64 (hstep s c)] 251 (0, 0)) ∧ Keeps (· = p) w w' := by
  have c0 := hcell h 0
  have f0 := hfrz h 0
  have k1 : IntKind.u64.wrap c = c := by rw [IntKind.wrap_u64]; omega
  have s1 := setCell_same h 0 (.int .u64 (hstep s c))
  have s2 := setCell_keeps w p 0 (.int .u64 (hstep s c))
  clear h hc
  go_enter Tryz.func146, Tryz.ntmps146
  go_wp2
  go_end0
  exact ⟨rfl, s1, s2⟩
theorem each_any (key : ByteArray) (hk : key.size ≤ 1000000) (p : Nat) (w : World) (h : w.heap[p]? = some (.cells #[.int .u64 14695981039346656037] 251 (0, 0))) : Calls Tryz.prog 145 #[.string key, .func (.func 146) #[.pointer (some ⟨p, 0, none⟩)] #[]] w fun e w' => e = .returned (.tuple #[]) ∧ w'.heap[p]? = some (.cells #[.int .u64 (hashOf key)] 251 (0, 0)) ∧ Keeps (· = p) w w' := by
  go_enter Tryz.func145, Tryz.ntmps145
  go_wp2
  go_loopw [7] (fun i wr => ∃ (k : Nat), k ≤ key.size ∧ i = .int .i64 k ∧ wr.heap[p]? = some (.cells #[.int .u64 (hfold key k)] 251 (0, 0)) ∧ Keeps (· = p) w wr) (fun i _ => key.size - (intOf i).toNat)
  case atStart => exact ⟨0, by omega, rfl, h, below_keeps (Below.refl _ _) _⟩
  case round =>
    obtain ⟨k, hk2, rfl, hz, hK⟩ := hrel
    by_cases hlt : k < key.size
    · have hlt' : (k : Int) < key.size := by omega
      have hby : hbyte key k = (key[k].toNat : Int) := by unfold hbyte; rw [dif_pos hlt]
      have hbb : 0 ≤ (key[k].toNat : Int) ∧ (key[k].toNat : Int) < 256 := by have := UInt8.toNat_lt key[k]; omega
      have hadd := sumadd p (hfold key k) (key[k].toNat : Int) hbb wr hz
      have HB := Lib.hid hby; have HK := Lib.hid hK
      clear hby hbb hz hK h
      go_wp2_with (go_at_call 146; refine hadd.mono ?_; intro e w2 hh; obtain ⟨hh1, h2, k2⟩ := hh; subst hh1; have H2 := Lib.hid h2; have K2 := Lib.hid k2; clear h2 k2 hadd)
      go_roundw
      case rel => exact ⟨k + 1, by omega, by go_num, by show _ = some (Obj.cells #[.int .u64 (hstep (hfold key k) (hbyte key k))] _ _); rw [HB.out]; exact H2.out, HK.out.again K2.out⟩
      case measure => simp [intOf]; omega
    · obtain rfl : k = key.size := by omega
      have HZ := Lib.hid hz; have HK := Lib.hid hK
      clear hz hK h
      go_wp2
      go_end0
      exact ⟨rfl, HZ.out, HK.out⟩
theorem hash_any (key : ByteArray) (hk : key.size ≤ 1000000) (w : World) : Calls Tryz.prog 80 #[.string key] w fun e w' => e = .returned (.int .u64 (hashOf key)) ∧ Below w.heap.size w w' := by
  have hz := heap_alloc_new w (.cells #[.int .u64 14695981039346656037] 251)
  have hb := below_alloc w (.cells #[.int .u64 14695981039346656037] 251)
  have he := each_any key hk w.heap.size _ hz
  have HB := Lib.hid hb
  clear hz hb
  go_enter Tryz.func80, Tryz.ntmps80
  go_wp2_with (go_at_call 145; refine he.mono ?_; intro e w2 hh; obtain ⟨hh1, h2, k2⟩ := hh; subst hh1; have c0 := hcell h2 0; have K2 := Lib.hid k2; clear h2 k2 he)
  go_ret
  exact ⟨rfl, keeps_below K2.out HB.out HB.out.size (fun k e => by omega)⟩
theorem tag_fn (x : Int) (h0 : 0 ≤ x) (h1 : x < 18446744073709551616) (w : World) : Calls Tryz.prog 83 #[.int .u64 x] w fun e w' => e = .returned (.int .i64 (tag01 x)) ∧ w' = w := by
  obtain ⟨q, hq⟩ : ∃ q, q = x / 72057594037927936 := ⟨_, rfl⟩
  have e3 : wrap64 (x / 72057594037927936) = x / 72057594037927936 := IntWalk.wrap64_in _ (by omega)
  by_cases hz : q < 1
  · have ht : Hid (tag01 x = 1) := by show tag01 x = 1; unfold tag01; rw [← hq, if_pos (by omega)]
    have e1 : x / 72057594037927936 < 1 := by omega
    have e2 : decide (x / 72057594037927936 < 1) = true := decide_eq_true e1
    clear hz hq
    go_enter Tryz.func83, Tryz.ntmps83
    go_wp2
    all_goals go_ret
    all_goals exact ⟨ret_i64 (by first | exact ht.out.symm | (rw [ht.out]; omega)), rfl⟩
  · have ht : Hid (tag01 x = x / 72057594037927936) := by show tag01 x = _; unfold tag01; rw [if_neg (by omega)]
    have e1 : ¬ x / 72057594037927936 < 1 := by omega
    have e2 : decide (x / 72057594037927936 < 1) = false := decide_eq_false e1
    clear hq hz
    go_enter Tryz.func83, Tryz.ntmps83
    go_wp2
    all_goals go_ret
    all_goals exact ⟨ret_i64 (by first | exact ht.out.symm | (rw [ht.out]; omega)), rfl⟩
/-- A hash's bucket. -/
def bk (h b : Int) : Int := h % tsize b
theorem tsize_pos {b : Int} (hb : 1 ≤ b ∧ b ≤ 12) : 2 ≤ tsize b ∧ tsize b ≤ 4096 := by
  rcases twelve hb with rfl | rfl | rfl | rfl | rfl | rfl | rfl | rfl | rfl | rfl | rfl | rfl <;> decide
theorem bk_bd (h b : Int) (hb : 1 ≤ b ∧ b ≤ 12) : 0 ≤ bk h b ∧ bk h b < tsize b := by
  have := tsize_pos hb
  unfold bk; exact ⟨Int.emod_nonneg _ (by omega), Int.emod_lt_of_pos _ (by omega)⟩
theorem bucket_fn (x b : Int) (h0 : 0 ≤ x) (h1 : x < 18446744073709551616) (hb : 1 ≤ b ∧ b ≤ 12) (w : World) : Calls Tryz.prog 108 #[.int .u64 x, .int .i64 b] w fun e w' => e = .returned (.int .i64 (bk x b)) ∧ w' = w := by
  have hs := fun w => size_any b w
  have hp := tsize_pos hb
  have hbd := bk_bd x b hb
  have hm : bits .and .u64 x (tsize b - 1) = bk x b := by
    unfold bk; rw [tsize_in hb]
    rcases twelve hb with rfl | rfl | rfl | rfl | rfl | rfl | rfl | rfl | rfl | rfl | rfl | rfl
    all_goals (first
      | exact mask_u64 x 1 1 rfl (by decide) h0 h1 | exact mask_u64 x 3 2 rfl (by decide) h0 h1 | exact mask_u64 x 7 3 rfl (by decide) h0 h1 | exact mask_u64 x 15 4 rfl (by decide) h0 h1 | exact mask_u64 x 31 5 rfl (by decide) h0 h1 | exact mask_u64 x 63 6 rfl (by decide) h0 h1 | exact mask_u64 x 127 7 rfl (by decide) h0 h1 | exact mask_u64 x 255 8 rfl (by decide) h0 h1 | exact mask_u64 x 511 9 rfl (by decide) h0 h1 | exact mask_u64 x 1023 10 rfl (by decide) h0 h1 | exact mask_u64 x 2047 11 rfl (by decide) h0 h1 | exact mask_u64 x 4095 12 rfl (by decide) h0 h1)
  generalize bk x b = B at *
  generalize tsize b = S at *
  have e0 : decide (0 < S) = true := decide_eq_true (by omega)
  obtain ⟨S1, hS1⟩ : ∃ S1, S1 = S - 1 := ⟨_, rfl⟩
  rw [← hS1] at hm
  have e1 : wrap64 (S - 1) = S1 := by rw [hS1]; exact IntWalk.wrap64_in _ (by omega)
  have e2 : IntKind.u64.wrap S1 = S1 := by rw [IntKind.wrap_u64]; omega
  have e3 : wrap64 B = B := IntWalk.wrap64_in _ (by omega)
  clear hS1 hbd hp hb
  go_enter Tryz.func108, Tryz.ntmps108
  go_wp2_with (go_at_call 49; refine (hs _).mono ?_; rintro e w1 ⟨rfl, rfl⟩)
  go_ret
  exact ⟨ret_i64 e3, rfl⟩
theorem bucket_no (x : Int) (w : World) : Calls Tryz.prog 108 #[.int .u64 x, .int .i64 0] w fun e w' => e = .returned (.int .i64 (-1)) ∧ w' = w := by
  have hs := fun w => size_any 0 w
  rw [show tsize 0 = 0 by decide] at hs
  go_enter Tryz.func108, Tryz.ntmps108
  go_wp2_with (go_at_call 49; refine (hs _).mono ?_; rintro e w1 ⟨rfl, rfl⟩)
  go_ret
  exact ⟨rfl, rfl⟩
/-- The other bucket of a tag. -/
def oth (k t b : Int) : Int := bits .xor .i64 k (bits .and .i64 (t * 1540483477) (tsize b - 1))
theorem tag01_bd (x : Int) (h0 : 0 ≤ x) (h1 : x < 18446744073709551616) : 1 ≤ tag01 x ∧ tag01 x ≤ 255 := by
  unfold tag01; split <;> omega
theorem other_fn (k t b : Int) (hb : 1 ≤ b ∧ b ≤ 12) (hk : 0 ≤ k ∧ k < tsize b) (ht : 1 ≤ t ∧ t ≤ 255) (w : World) : Calls Tryz.prog 65 #[.int .i64 k, .int .i64 t, .int .i64 b] w fun e w' => e = .returned (.int .i64 (oth k t b)) ∧ w' = w := by
  have hs := fun w => size_any b w
  have hp := tsize_pos hb
  unfold oth
  generalize tsize b = S at *
  have e0 : decide (k < 0) = false := decide_eq_false (by omega)
  have e1 : decide (S ≤ k) = false := decide_eq_false (by omega)
  have e2 : decide (t < 1) = false := decide_eq_false (by omega)
  have e3 : decide (255 < t) = false := decide_eq_false (by omega)
  obtain ⟨S1, hS1⟩ : ∃ S1, S1 = S - 1 := ⟨_, rfl⟩
  have e4 : wrap64 (S - 1) = S1 := by rw [hS1]; exact IntWalk.wrap64_in _ (by omega)
  obtain ⟨t1, ht1⟩ : ∃ t1, t1 = t * 1540483477 := ⟨_, rfl⟩
  have e5 : wrap64 (t * 1540483477) = t1 := by rw [ht1]; exact IntWalk.wrap64_in _ (by omega)
  rw [← hS1, ← ht1]
  clear hS1 ht1 hp hb hk ht
  go_enter Tryz.func65, Tryz.ntmps65
  go_wp2_with (go_at_call 49; refine (hs _).mono ?_; rintro e w1 ⟨rfl, rfl⟩)
  go_ret
  exact ⟨rfl, rfl⟩
end Go.Proofs.YtmakjfeepmiggaaGreat

/-
  Places of a hash: the program's.
-/
namespace Go.Proofs.YtmakjfeepmiggaaGreat
open Go.RowKit
set_option linter.unusedVariables false

/-- Each once. -/
def dedup (l : List (Int × Int)) : List (Int × Int) := l.foldl (fun out p => if p ∈ out then out else out ++ [p]) []
theorem dedup_take {l : List (Int × Int)} {k : Nat} (h : k < l.length) : dedup (l.take (k + 1)) = if l[k] ∈ dedup (l.take k) then dedup (l.take k) else dedup (l.take k) ++ [l[k]] := by
  unfold dedup; rw [List.take_add_one, List.getElem?_eq_getElem h, List.foldl_append]; rfl
theorem dedup_len (l : List (Int × Int)) : (dedup l).length ≤ l.length := by
  have key : ∀ (l o : List (Int × Int)), (l.foldl (fun out p => if p ∈ out then out else out ++ [p]) o).length ≤ o.length + l.length := by
    intro l
    induction l with
    | nil => intro o; simp
    | cons p l ih =>
      intro o
      rw [List.foldl_cons]
      split
      · have := ih o; simp only [List.length_cons]; omega
      · have := ih (o ++ [p]); simp only [List.length_cons, List.length_append, List.length_nil] at this ⊢; omega
  have := key l []
  unfold dedup; simp only [List.length_nil, Nat.zero_add] at this; exact this
theorem info_plcf : (Tryz.prog.info? 69).map (fun i => (i.zero, i.size, i.bytes)) = some (some (.agg #[.int .i64 0, .int .i64 0]), 2, 16) := by kernel_rfl
theorem eql_place (a b x y : Int) (W : World) : (binOp .eql 69 (.agg #[.int .i64 a, .int .i64 b]) (.agg #[.int .i64 x, .int .i64 y])).run Tryz.prog W = .ok (.bool (a == x && b == y)) W := by
  cases h1 : a == x <;> cases h2 : b == y <;> go_simp
theorem neq_place (a b x y : Int) (W : World) : (binOp .neq 69 (.agg #[.int .i64 a, .int .i64 b]) (.agg #[.int .i64 x, .int .i64 y])).run Tryz.prog W = .ok (.bool (!(a == x && b == y))) W := by
  cases h1 : a == x <;> cases h2 : b == y <;> go_simp
theorem once1 (a b x y : Int) (pb : Nat) (w : World) (h : w.heap[pb]? = some (.cells #[.int .i64 x, .int .i64 y] 69 (0, 0))) : Calls Tryz.prog 190 #[.agg #[.int .i64 a, .int .i64 b], .pointer (some ⟨pb, 0, none⟩)] w fun e w' => e = .returned (.bool (a == x && b == y)) ∧ Below w.heap.size w w' := by
  have hb := below_alloc w (.cells #[.int .i64 a, .int .i64 b] 69)
  have hz := heap_alloc_new w (.cells #[.int .i64 a, .int .i64 b] 69)
  have h2 := (hb.block _ (Array.getElem?_eq_some_iff.1 h).1).trans h
  have c0 := hcell hz 0
  have c1 := hcell hz 1
  have d0 := hcell h2 0
  have d1 := hcell h2 1
  have he := fun W => eql_place a b x y W
  have HB := Lib.hid hb
  clear h h2 hz hb
  go_enter Tryz.func190, Tryz.ntmps190
  go_upto_region 1 with (fail)
  change Code.wp _ _ _ _ (w.alloc (.cells #[.int .i64 a, .int .i64 b] 69))
  generalize w.alloc (.cells #[.int .i64 a, .int .i64 b] 69) = w1 at *
  go_wp2
  go_ret
  exact ⟨rfl, HB.out⟩
set_option maxHeartbeats 1000000 in
theorem index_places (l : List (Int × Int)) (ao : Option Addr) (cap : Nat) (x y : Int) (pb : Nat) (w : World) (hl : Plc w ao cap l) (h : w.heap[pb]? = some (.cells #[.int .i64 x, .int .i64 y] 69 (0, 0))) :
    Calls Tryz.prog 223 #[.slice ao l.length cap, .func (.func 190) #[] #[.pointer (some ⟨pb, 0, none⟩)]] w fun e w' => (∃ i, e = .returned (.int .i64 i) ∧ decide (0 ≤ i) = decide ((x, y) ∈ l)) ∧ Below w.heap.size w w' := by
  have hml : l.length ≤ maxLen := Nat.le_trans hl.le hl.most
  unfold maxLen at hml
  have HL := Lib.hid hl; have HP := Lib.hid h
  clear hl h
  go_enter Tryz.func223, Tryz.ntmps223
  go_wp2
  go_loopw [8] (fun i wr => ∃ (k : Nat), k ≤ l.length ∧ i = .int .i64 k ∧ Below w.heap.size w wr ∧ (x, y) ∉ l.take k) (fun i _ => l.length - (intOf i).toNat)
  case atStart => exact ⟨0, by omega, rfl, Below.refl _ _, by simp⟩
  case round =>
    obtain ⟨k, hk, rfl, hB, hno⟩ := hrel
    by_cases hlt : k < l.length
    · have hlt' : (k : Int) < l.length := by omega
      obtain ⟨b, off, a0, b0, rfl, hlk, g0, g1⟩ := (HL.out.below hB).at k hlt
      have hlk' : l[k] = (a0, b0) := by rw [List.getElem?_eq_getElem hlt] at hlk; exact Option.some.inj hlk
      clear hlk
      have hz := (hB.block _ (Array.getElem?_eq_some_iff.1 HP.out).1).trans HP.out
      have ho := once1 a0 b0 x y pb wr hz
      have hstep : (x, y) ∈ l.take (k + 1) ↔ ((x, y) ∈ l.take k ∨ (x, y) = l[k]) := by
        rw [List.take_add_one, List.getElem?_eq_getElem hlt, List.mem_append]
        simp only [Option.toList_some, List.mem_singleton]
      obtain ⟨d, hd⟩ : ∃ d, d = (a0 == x && b0 == y) := ⟨_, rfl⟩
      have hde : d = true ↔ l[k] = (x, y) := by rw [hd, hlk', Bool.and_eq_true, beq_iff_eq, beq_iff_eq, Prod.mk.injEq]
      rw [← hd] at ho
      have hmem : l[k] ∈ l := List.getElem_mem hlt
      have HD := Lib.hid hde; have HST := Lib.hid hstep; have HNO := Lib.hid hno; have HB := Lib.hid hB; have HME := Lib.hid hmem
      clear hd hde hstep hno hB hz hmem hlk'
      cases d
      all_goals go_wp2_with (go_at_call 190; refine ho.mono ?_; intro e w2 hh; obtain ⟨hh1, b2⟩ := hh; subst hh1; have B2 := Lib.hid (HB.out.trans (b2.mono HB.out.size)); clear b2 ho)
      · go_roundw
        case rel => exact ⟨k + 1, by omega, by go_num, B2.out, fun c => by
          rcases HST.out.1 c with c | c
          · exact HNO.out c
          · have := HD.out.2 c.symm; cases this⟩
        case measure => simp [intOf]; omega
      · go_ret
        refine ⟨⟨k, rfl, ?_⟩, B2.out⟩
        have h1 := HD.out.1 (by first | rfl | trivial)
        have h2 := HME.out
        rw [h1] at h2
        rw [decide_eq_true h2]
        exact decide_eq_true (by omega)
    · obtain rfl : k = l.length := by omega
      rw [List.take_length] at hno
      have HNO := Lib.hid hno; have HB := Lib.hid hB
      clear hno hB
      go_wp2
      go_ret
      exact ⟨⟨-1, rfl, by rw [decide_eq_false HNO.out]; rfl⟩, HB.out⟩
theorem contains_places (l : List (Int × Int)) (ao : Option Addr) (cap : Nat) (x y : Int) (pb : Nat) (w : World) (hl : Plc w ao cap l) (h : w.heap[pb]? = some (.cells #[.int .i64 x, .int .i64 y] 69 (0, 0))) :
    Calls Tryz.prog 189 #[.slice ao l.length cap, .func (.func 190) #[] #[.pointer (some ⟨pb, 0, none⟩)]] w fun e w' => e = .returned (.bool (decide ((x, y) ∈ l))) ∧ Below w.heap.size w w' := by
  have hi := index_places l ao cap x y pb w hl h
  clear hl h
  go_enter Tryz.func189, Tryz.ntmps189
  go_wp2_with (go_at_call 223; refine hi.mono ?_; intro e w2 hh; obtain ⟨⟨i, hh1, hd⟩, b2⟩ := hh; subst hh1; have HB := Lib.hid b2; clear b2 hi)
  go_ret
  first
    | exact ⟨rfl, HB.out⟩
    | exact ⟨conf_b hd, HB.out⟩
/-- A list of places that the call made, without room. -/
def PlN (w : World) (base : Nat) (v : Value) (l : List (Int × Int)) : Prop :=
  (v = .slice none 0 0 ∧ l = []) ∨ ∃ g cur, v = .slice (some ⟨g, 0, none⟩) l.length l.length ∧ base ≤ g ∧ w.heap[g]? = some (.cells cur 69 (0, 0)) ∧ l.length ≤ maxLen ∧ cur.toList.take (l.length * 2) = flatP l
theorem clip_places (v : Value) (base : Nat) (l : List (Int × Int)) (w : World) (h : w.ownsRow base 69 2 v l.length (flatP l)) :
    Calls Tryz.prog 191 #[v] w fun e w' => ∃ v', e = .returned v' ∧ PlN w' base v' l ∧ w' = w := by
  obtain ⟨h1, ⟨rfl, h0⟩ | ⟨g, cap, cur, rfl, hb, hg, hn, hm, hs, ht⟩⟩ := h
  · have : l = [] := by cases l with | nil => rfl | cons x r => simp at h0
    subst this
    clear h1 h0
    go_enter Tryz.func191, Tryz.ntmps191
    go_wp2
    go_ret
    exact ⟨_, rfl, .inl ⟨rfl, rfl⟩, rfl⟩
  · have hm2 := Nat.le_trans hn hm
    unfold maxLen at hm hm2
    have HT := Lib.hid ht; have HG := Lib.hid hg
    clear ht hg hs h1
    go_enter Tryz.func191, Tryz.ntmps191
    go_wp2
    go_ret
    exact ⟨_, rfl, .inr ⟨g, cur, rfl, hb, HG.out, by unfold maxLen; omega, HT.out⟩, rfl⟩
theorem PlN.below {w w' : World} {base : Nat} {v : Value} {l : List (Int × Int)} (h : PlN w base v l) (hb : Below w.heap.size w w') : PlN w' base v l := by
  rcases h with h | ⟨g, cur, h1, h2, h3, h4⟩
  · exact .inl h
  · exact .inr ⟨g, cur, h1, h2, (hb.block _ (Array.getElem?_eq_some_iff.1 h3).1).trans h3, h4⟩
theorem PlN.plc {w : World} {base : Nat} {v : Value} {l : List (Int × Int)} (h : PlN w base v l) : ∃ ao, v = .slice ao l.length l.length ∧ Plc w ao l.length l := by
  rcases h with ⟨rfl, rfl⟩ | ⟨g, cur, rfl, h1, h2, h3, h4⟩
  · exact ⟨none, rfl, Nat.le_refl _, Nat.zero_le _, fun _ => rfl, .inl rfl⟩
  · refine ⟨_, rfl, Nat.le_refl _, h3, fun h => (by cases h), .inr ⟨g, 0, rfl, fun i hi => ?_⟩⟩
    obtain ⟨f1, f2⟩ := flatP_at l i hi
    rw [← h4, List.getElem?_take, if_pos (by omega), Array.getElem?_toList] at f1 f2
    rw [hcell h2, hcell h2, Nat.zero_add]
    exact ⟨f1, f2⟩
theorem own_plc {w : World} {base : Nat} {v : Value} {l : List (Int × Int)} (h : w.ownsRow base 69 2 v l.length (flatP l)) : ∃ ao cap, v = .slice ao l.length cap ∧ Plc w ao cap l := by
  obtain ⟨h1, ⟨rfl, h0⟩ | ⟨g, cap, cur, rfl, hb, hg, hn, hm, hs, ht⟩⟩ := h
  · have : l = [] := by cases l with | nil => rfl | cons x r => simp at h0
    subst this
    exact ⟨none, 0, rfl, Nat.le_refl _, Nat.zero_le _, fun _ => rfl, .inl rfl⟩
  · refine ⟨_, cap, rfl, hn, hm, fun h => (by cases h), .inr ⟨g, 0, rfl, fun i hi => ?_⟩⟩
    obtain ⟨f1, f2⟩ := flatP_at l i hi
    rw [← ht, List.getElem?_take, if_pos (by omega), Array.getElem?_toList] at f1 f2
    rw [hcell hg, hcell hg, Nat.zero_add]
    exact ⟨f1, f2⟩
set_option maxRecDepth 10000 in
set_option maxHeartbeats 2000000 in
theorem once_any (l : List (Int × Int)) (ao : Option Addr) (cap : Nat) (w : World) (hl : Plc w ao cap l) (hn : l.length ≤ 1000) :
    Calls Tryz.prog 148 #[.slice ao l.length cap] w fun e w' => ∃ v, e = .returned v ∧ PlN w' w.heap.size v (dedup l) ∧ Below w.heap.size w w' := by
  obtain ⟨i0, hi0, hz0, hz1, hz2⟩ := info_parts info_plcf
  have HI := Lib.hid hi0; have HZ0 := Lib.hid hz0; have HZ1 := Lib.hid hz1; have HZ2 := Lib.hid hz2
  have HL := Lib.hid hl
  clear hl hi0 hz0 hz1 hz2
  go_enter Tryz.func148, Tryz.ntmps148
  go_wp2
  go_loopw [2, 7] (fun v i wr => ∃ (k : Nat), k ≤ l.length ∧ i = .int .i64 k ∧ wr.ownsRow w.heap.size 69 2 v (dedup (l.take k)).length (flatP (dedup (l.take k))) ∧ Below w.heap.size w wr) (fun _ i _ => l.length - (intOf i).toNat)
  case atStart => exact ⟨0, by omega, rfl, World.ownsRow_nil _ _ _ _, Below.refl _ _⟩
  case round =>
    obtain ⟨k, hk, rfl, hown, hB⟩ := hrel
    by_cases hlt : k < l.length
    · have hlt' : (k : Int) < l.length := by omega
      obtain ⟨b, off, a0, b0, rfl, hlk, g0, g1⟩ := (HL.out.below hB).at k hlt
      have hlk' : l[k] = (a0, b0) := by rw [List.getElem?_eq_getElem hlt] at hlk; exact Option.some.inj hlk
      have hdt := dedup_take hlt
      rw [hlk'] at hdt
      have hdl : (dedup (l.take k)).length ≤ 1000 := by have := dedup_len (l.take k); rw [List.length_take] at this; omega
      have hba := below_alloc wr (.cells #[.int .i64 a0, .int .i64 b0] 69)
      have hza := heap_alloc_new wr (.cells #[.int .i64 a0, .int .i64 b0] 69)
      have hB2 := hB.trans (hba.mono hB.size)
      have hown2 := own_below hown hba
      generalize dedup (l.take k) = D at *
      have HPB := Lib.hid hB.size
      have HDT := Lib.hid hdt; have HB := Lib.hid hB2; have HOWN := Lib.hid hown2; have HZA := Lib.hid hza
      clear hdt hB hown hlk hlk' hba hza hB2 hown2
      go_upto_region 4 with (fail)
      change Code.wp _ _ _ _ (wr.alloc (.cells #[.int .i64 a0, .int .i64 b0] 69))
      generalize wr.alloc (.cells #[.int .i64 a0, .int .i64 b0] 69) = w3 at *
      generalize wr.heap.size = pb at *
      obtain ⟨ao2, cap2, rfl, hpl⟩ := own_plc HOWN.out
      have hc := contains_places D ao2 cap2 a0 b0 pb w3 hpl HZA.out
      clear hpl g0 g1
      obtain ⟨d, hd⟩ : ∃ d, d = decide ((a0, b0) ∈ D) := ⟨_, rfl⟩
      rw [← hd] at hc
      have HD := Lib.hid hd
      clear hd
      cases d
      · go_upto_region 5 with (go_at_call 189; refine hc.mono ?_; intro e w4 hh; obtain ⟨hh1, b4⟩ := hh; subst hh1; have B4 := Lib.hid (HB.out.trans (b4.mono HB.out.size)); have O4 := Lib.hid (own_below HOWN.out b4); have hz4 := (b4.block _ (Array.getElem?_eq_some_iff.1 HZA.out).1).trans HZA.out; have c0 := hcell hz4 0; have c1 := hcell hz4 1; clear b4 hc hz4)
        have hnot : (a0, b0) ∉ D := by have := HD.out; intro c; rw [decide_eq_true c] at this; cases this
        have hdt : dedup (l.take (k + 1)) = D ++ [(a0, b0)] := by rw [HDT.out, if_neg hnot]
        have HDT2 := Lib.hid hdt
        clear hnot hdt
        go_wp2_with (at_builtin; refine wpList_append_own _ rfl _ _ 72 rfl w.heap.size 69 i0 (.agg #[.int .i64 0, .int .i64 0]) 2 16 Tryz.underlying72 HI.out HZ0.out HZ1.out HZ2.out rfl (by decide) _ _ _ rfl (O4.out.alloc _) ⟨w4.heap.size, 0, none⟩ 1 1 [.int .i64 a0, .int .i64 b0] rfl rfl ?c1 ?c2 ?c3 ?c4 ?c5 ?_)
        case c1 => exact World.news_of_block (heap_alloc_new w4 _)
        case c2 => simp [Value.oneCell']
        case c3 => unfold maxLen; omega
        case c4 => omega
        case c5 => have := B4.out.size; simp; omega
        intro v' w5 hown' hgrow _
        have hb5 := (B4.out.alloc B4.out.size (.cells #[.int .i64 a0, .int .i64 b0] 69)).grown hgrow (by simp; have := B4.out.size; omega) (fun j hj => by have := (O4.out.lt j hj).1; omega)
        have HB5 := Lib.hid hb5; have HO5 := Lib.hid hown'
        clear hb5 hown' hgrow c0 c1
        go_wp2
        go_roundw
        case rel => exact ⟨k + 1, by omega, by go_num, by rw [HDT2.out, flatP_snoc, show (D ++ [(a0, b0)]).length = D.length + 1 by simp]; exact HO5.out, HB5.out⟩
        case measure => simp [intOf]; omega
      · have hin : (a0, b0) ∈ D := by have := HD.out; exact of_decide_eq_true this.symm
        have hdt : dedup (l.take (k + 1)) = D := by rw [HDT.out, if_pos hin]
        have HDT2 := Lib.hid hdt
        clear hin hdt
        go_wp2_with (go_at_call 189; refine hc.mono ?_; intro e w4 hh; obtain ⟨hh1, b4⟩ := hh; subst hh1; have B4 := Lib.hid (HB.out.trans (b4.mono HB.out.size)); have O4 := Lib.hid (own_below HOWN.out b4); clear b4 hc)
        go_roundw
        case rel => exact ⟨k + 1, by omega, by go_num, by rw [HDT2.out]; exact O4.out, B4.out⟩
        case measure => simp [intOf]; omega
    · obtain rfl : k = l.length := by omega
      rw [List.take_length] at hown
      have hcl := clip_places _ _ (dedup l) wr hown
      have HB := Lib.hid hB
      clear hown hB
      go_wp2_with (go_at_call 191; refine hcl.mono ?_; intro e w4 hh; obtain ⟨v', hh1, hp, hh2⟩ := hh; subst hh1; obtain rfl := hh2.symm; have HP := Lib.hid hp; clear hp hcl)
      go_ret
      exact ⟨_, rfl, HP.out, HB.out⟩
/-- The places of a hash in a table. -/
def pairOf (h b : Int) : List (Int × Int) := if b = 0 then [] else [(b, bk h b), (b, oth (bk h b) (tag01 h) b)]
theorem flat_four (a b c d : Int) : flatP [(a, b), (c, d)] = [.int .i64 a, .int .i64 b, .int .i64 c, .int .i64 d] := rfl
theorem pair_no (h : Int) (w : World) : Calls Tryz.prog 149 #[.int .u64 h, .int .i64 0] w fun e w' => e = .returned (.slice none 0 0) ∧ w' = w := by
  have hbn := fun w => bucket_no h w
  go_enter Tryz.func149, Tryz.ntmps149
  go_wp2_with (go_at_call 108; refine (hbn _).mono ?_; rintro e w1 ⟨rfl, hw⟩; obtain rfl := hw.symm)
  go_ret
  exact ⟨rfl, rfl⟩
theorem pair_in (h b : Int) (h0 : 0 ≤ h) (h1 : h < 18446744073709551616) (hb : 1 ≤ b ∧ b ≤ 12) (w : World) : Calls Tryz.prog 149 #[.int .u64 h, .int .i64 b] w fun e w' => ∃ g, e = .returned (.slice (some ⟨g, 0, none⟩) 2 2) ∧ w'.heap[g]? = some (.cells #[.int .i64 b, .int .i64 (bk h b), .int .i64 b, .int .i64 (oth (bk h b) (tag01 h) b)] 69 (0, 0)) ∧ w.heap.size ≤ g ∧ Below w.heap.size w w' := by
  have hbf := fun w => bucket_fn h b h0 h1 hb w
  have htf := fun w => tag_fn h h0 h1 w
  have hkb := bk_bd h b hb
  have hof := fun w => other_fn (bk h b) (tag01 h) b hb hkb (tag01_bd h h0 h1) w
  generalize oth (bk h b) (tag01 h) b = O at *
  generalize bk h b = K at *
  generalize tag01 h = T at *
  have e1 : decide (K < 0) = false := decide_eq_false (by omega)
  have HZ := Lib.hid (heap_alloc_new w (.cells #[.int .i64 b, .int .i64 K, .int .i64 b, .int .i64 O] 69))
  have HB := Lib.hid (below_alloc w (.cells #[.int .i64 b, .int .i64 K, .int .i64 b, .int .i64 O] 69))
  clear hkb hb
  go_enter Tryz.func149, Tryz.ntmps149
  go_wp2_with (first
    | (go_at_call 108; refine (hbf _).mono ?_; rintro e w1 ⟨rfl, hw⟩; obtain rfl := hw.symm)
    | (go_at_call 83; refine (htf _).mono ?_; rintro e w1 ⟨rfl, hw⟩; obtain rfl := hw.symm)
    | (go_at_call 65; refine (hof _).mono ?_; rintro e w1 ⟨rfl, hw⟩; obtain rfl := hw.symm))
  go_ret
  exact ⟨_, rfl, HZ.out, Nat.le_refl _, HB.out⟩
/-- The places of a hash in tables. -/
def plist (h v : Int) : List (Int × Int) := dedup (pairOf h (asOld v) ++ pairOf h (asNow v))
theorem as_in12 (v : Int) : (1 ≤ asOld v ∧ asOld v ≤ 12) ∧ (asNow v = 0 ∨ (1 ≤ asNow v ∧ asNow v ≤ 12)) := by
  have key : ∀ b : Int, ¬ tsize b = 0 → 1 ≤ b ∧ b ≤ 12 := fun b h => by
    rcases (show (b < 1 ∨ 12 < b) ∨ (1 ≤ b ∧ b ≤ 12) by omega) with h1 | h1
    · exact absurd (tsize_out h1) h
    · exact h1
  refine ⟨?_, ?_⟩
  · unfold asOld; split
    · omega
    · rename_i h; exact key _ h
  · unfold asNow; split
    · exact .inl rfl
    · rename_i h; exact .inr (key _ (fun c => h (.inr c)))
theorem pairOf_in (h b : Int) (hb : 1 ≤ b ∧ b ≤ 12) : pairOf h b = [(b, bk h b), (b, oth (bk h b) (tag01 h) b)] := by unfold pairOf; rw [if_neg (by omega)]
theorem pair_own {w : World} {base g : Nat} {a b c d : Int} (hz : w.heap[g]? = some (.cells #[.int .i64 a, .int .i64 b, .int .i64 c, .int .i64 d] 69 (0, 0))) (hlo : base ≤ g) : w.ownsRow base 69 2 (.slice (some ⟨g, 0, none⟩) 2 2) 2 (flatP [(a, b), (c, d)]) :=
  ⟨rfl, .inr ⟨g, 2, _, rfl, hlo, hz, Nat.le_refl _, by unfold maxLen; omega, rfl, rfl⟩⟩
theorem pair_plc {w : World} {base g : Nat} {a b c d : Int} (h : w.ownsRow base 69 2 (.slice (some ⟨g, 0, none⟩) 2 2) 2 (flatP [(a, b), (c, d)])) : Plc w (some ⟨g, 0, none⟩) 2 [(a, b), (c, d)] := by
  obtain ⟨ao, cap, hv, hp⟩ := own_plc (l := [(a, b), (c, d)]) h
  simp only [List.length_cons, List.length_nil, Value.slice.injEq] at hv
  obtain ⟨h1, -, h2⟩ := hv
  rw [h1, h2]; exact hp
set_option maxHeartbeats 2000000 in
theorem places_any (h v : Int) (h0 : 0 ≤ h) (h1 : h < 18446744073709551616) (hv : (Lit.int .u64 v).wf = true) (w : World) : Calls Tryz.prog 81 #[.int .u64 h, .int .u64 v] w fun e w' => ∃ pv, e = .returned pv ∧ PlN w' w.heap.size pv (plist h v) ∧ Below w.heap.size w w' := by
  have has := fun w => as_any v hv w
  obtain ⟨hin1, hin2⟩ := as_in12 v
  have hp1 := fun w => pair_in h (asOld v) h0 h1 hin1 w
  have hpo := pairOf_in h (asOld v) hin1
  obtain ⟨i0, hi0, hz0, hz1, hz2⟩ := info_parts info_plcf
  have HI := Lib.hid hi0; have HZ0 := Lib.hid hz0; have HZ1 := Lib.hid hz1; have HZ2 := Lib.hid hz2
  clear hi0 hz0 hz1 hz2
  unfold plist
  rcases hin2 with hz | hin2
  · have hpn : pairOf h (asNow v) = [] := by unfold pairOf; rw [if_pos hz]
    have hp2 := fun w => pair_no h w
    rw [hz] at has
    rw [hpn, hpo, List.append_nil]
    generalize oth (bk h (asOld v)) (tag01 h) (asOld v) = O at *
    generalize bk h (asOld v) = K at *
    generalize asOld v = b at *
    clear hpn hpo hz hin1
    go_enter Tryz.func81, Tryz.ntmps81
    go_upto_region 2 with (go_at_call 147; refine (has _).mono ?_; rintro e w1 ⟨rfl, hw⟩; obtain rfl := hw.symm; clear has)
    go_wp2_with (first
      | (go_at_call 149; with_reducible refine (hp1 _).mono ?_; intro e w2 hh; obtain ⟨g, hh1, hz2, hlo, b2⟩ := hh; subst hh1; have B2 := Lib.hid b2; have HOWN := Lib.hid (pair_own hz2 hlo); clear b2 hz2 hlo hp1)
      | (go_at_call 149; with_reducible refine (hp2 _).mono ?_; intro e w3 hh; obtain ⟨hh1, hh2⟩ := hh; subst hh1; obtain rfl := hh2.symm; clear hp2)
      | (at_builtin; refine wpList_append_own_none rfl _ _ 72 rfl w.heap.size 69 i0 2 Tryz.underlying72 HI.out _ 2 _ rfl HOWN.out rfl ?_; have hpl := pair_plc HOWN.out; have honce := once_any _ _ _ _ hpl (by simp))
      | (go_at_call 148; refine honce.mono ?_; intro e w4 hh; obtain ⟨v4, hh1, hp4, b4⟩ := hh; subst hh1; have HP4 := Lib.hid hp4; have B4 := Lib.hid b4; clear hp4 b4 honce hpl))
    go_ret
    refine ⟨_, rfl, ?_, B2.out.trans (B4.out.mono B2.out.size)⟩
    rcases HP4.out with h | ⟨g, cur, e1, e2, e3⟩
    · exact .inl h
    · exact .inr ⟨g, cur, e1, Nat.le_trans B2.out.size e2, e3⟩
  · have hp2 := fun w => pair_in h (asNow v) h0 h1 hin2 w
    have hpo2 := pairOf_in h (asNow v) hin2
    rw [hpo, hpo2]
    generalize oth (bk h (asOld v)) (tag01 h) (asOld v) = O at *
    generalize bk h (asOld v) = K at *
    generalize asOld v = b at *
    generalize oth (bk h (asNow v)) (tag01 h) (asNow v) = O2 at *
    generalize bk h (asNow v) = K2 at *
    generalize asNow v = b2 at *
    clear hpo hpo2 hin1 hin2
    go_enter Tryz.func81, Tryz.ntmps81
    go_upto_region 2 with (go_at_call 147; refine (has _).mono ?_; rintro e w1 ⟨rfl, hw⟩; obtain rfl := hw.symm; clear has)
    go_wp2_with (first
      | (go_at_call 149; with_reducible refine (hp1 _).mono ?_; intro e w2 hh; obtain ⟨g, hh1, hz2, hlo, k2⟩ := hh; subst hh1; have B2 := Lib.hid k2; have HOWN := Lib.hid (pair_own hz2 hlo); clear k2 hz2 hlo hp1)
      | (go_at_call 149; with_reducible refine (hp2 _).mono ?_; intro e w3 hh; obtain ⟨g2, hh1, hz3, hlo3, k3⟩ := hh; subst hh1; have B3 := Lib.hid (B2.out.trans (k3.mono B2.out.size)); have HOWN3 := Lib.hid (own_below HOWN.out k3); have HZ3 := Lib.hid hz3; clear k3 hz3 hlo3 hp2)
      | (at_builtin; refine wpList_append_own _ rfl _ _ 72 rfl w.heap.size 69 i0 (.agg #[.int .i64 0, .int .i64 0]) 2 16 Tryz.underlying72 HI.out HZ0.out HZ1.out HZ2.out rfl (by decide) _ 2 _ rfl HOWN3.out ⟨g2, 0, none⟩ 2 2 (flatP [(b2, K2), (b2, O2)]) rfl rfl ?c1 ?c2 ?c3 ?c4 ?c5 ?_))
    case c1 =>
      intro j u hj
      have e := hcell HZ3.out j
      rw [show (⟨g2, 0, none⟩ : Addr).add j = ⟨g2, j, none⟩ by first | (simp [Addr.add]; done) | (simp [Addr.add]; omega)]
      rw [e]
      rcases (show j = 0 ∨ j = 1 ∨ j = 2 ∨ j = 3 ∨ 4 ≤ j by omega) with rfl | rfl | rfl | rfl | h4
      · exact hj
      · exact hj
      · exact hj
      · exact hj
      · rw [List.getElem?_eq_none (by rw [flatP_len]; simp; omega)] at hj; cases hj
    case c2 => simp [flatP, Value.oneCell']
    case c3 => unfold maxLen; omega
    case c4 => omega
    case c5 => exact B3.out.size
    intro v' w5 hown' hgrow _
    have hb5 := B3.out.grown hgrow B3.out.size (fun j hj => (HOWN3.out.lt j hj).1)
    have hl4 : flatP [(b, K), (b, O)] ++ flatP [(b2, K2), (b2, O2)] = flatP ([(b, K), (b, O)] ++ [(b2, K2), (b2, O2)]) := rfl
    rw [hl4] at hown'
    obtain ⟨ao, cap, rfl, hpl⟩ := own_plc (l := [(b, K), (b, O)] ++ [(b2, K2), (b2, O2)]) hown'
    have honce := once_any _ _ _ _ hpl (by simp)
    have HB5 := Lib.hid hb5
    clear hb5 hown' hgrow hpl hl4
    go_wp2_with (go_at_call 148; refine honce.mono ?_; intro e w4 hh; obtain ⟨v4, hh1, hp4, b4⟩ := hh; subst hh1; have HP4 := Lib.hid hp4; have B4 := Lib.hid b4; clear hp4 b4 honce)
    go_ret
    refine ⟨_, rfl, ?_, HB5.out.trans (B4.out.mono HB5.out.size)⟩
    rcases HP4.out with h | ⟨g, cur, e1, e2, e3⟩
    · exact .inl h
    · exact .inr ⟨g, cur, e1, Nat.le_trans HB5.out.size e2, e3⟩
/-! ## Places of one table, and of two. -/
theorem dedup_append (l m : List (Int × Int)) (h : ∀ p ∈ l, ∀ q ∈ m, p ≠ q) : dedup (l ++ m) = dedup l ++ dedup m := by
  have mem : ∀ (l o : List (Int × Int)) (p : Int × Int), p ∈ l.foldl (fun out p => if p ∈ out then out else out ++ [p]) o → p ∈ o ∨ p ∈ l := by
    intro l
    induction l with
    | nil => intro o p hp; exact .inl hp
    | cons q l ih =>
      intro o p hp
      rw [List.foldl_cons] at hp
      split at hp
      · rcases ih _ _ hp with h | h
        · exact .inl h
        · exact .inr (by simp [h])
      · rcases ih _ _ hp with h | h
        · rcases List.mem_append.1 h with h | h
          · exact .inl h
          · exact .inr (by simp at h; simp [h])
        · exact .inr (by simp [h])
  have key : ∀ (m a o : List (Int × Int)), (∀ p ∈ a, ∀ q ∈ m, p ≠ q) → m.foldl (fun out p => if p ∈ out then out else out ++ [p]) (a ++ o) = a ++ m.foldl (fun out p => if p ∈ out then out else out ++ [p]) o := by
    intro m
    induction m with
    | nil => intro a o _; rfl
    | cons q m ih =>
      intro a o ha
      have hqa : q ∉ a := fun c => ha q c q (by simp) rfl
      have ha2 : ∀ p ∈ a, ∀ q ∈ m, p ≠ q := fun p hp r hr => ha p hp r (by simp [hr])
      rw [List.foldl_cons, List.foldl_cons]
      by_cases hqo : q ∈ o
      · rw [if_pos (List.mem_append.2 (.inr hqo)), if_pos hqo]; exact ih a o ha2
      · rw [if_neg (fun c => by rcases List.mem_append.1 c with c | c; exact hqa c; exact hqo c), if_neg hqo, List.append_assoc]
        exact ih a (o ++ [q]) ha2
  unfold dedup
  rw [List.foldl_append]
  have := key m (l.foldl (fun out p => if p ∈ out then out else out ++ [p]) []) [] (fun p hp q hq => by
    rcases mem l [] p hp with c | c
    · cases c
    · exact h p c q hq)
  rw [List.append_nil] at this
  exact this
theorem dedup_pair (a b : Int × Int) : dedup [a, b] = if b = a then [a] else [a, b] := by
  unfold dedup
  simp only [List.foldl_cons, List.foldl_nil, List.not_mem_nil, if_false, List.nil_append, List.mem_singleton]
  split <;> simp
end Go.Proofs.YtmakjfeepmiggaaGreat

/-
  The document's hash, bucket and places, told exactly: they are the program's.
-/
namespace Go.Proofs.YtmakjfeepmiggaaGreat
open Go.RowKit
set_option linter.unusedVariables false

theorem rhash_eq (key : ByteArray) (hk : key.size ≤ 1000000) (w : World) : Calls Tryz.prog 87 #[.string key] w fun e w' => e = .returned (.int .u64 (hashOf key)) ∧ w' = w := by
  go_enter Tryz.func87, Tryz.ntmps87
  go_wp2
  go_loop [3, 4] (fun h i => ∃ (k : Nat) (y : Int), k ≤ key.size ∧ i = .int .i64 k ∧ h = .int .u64 y ∧ Hid (y = hfold key k)) (fun _ i => key.size - (intOf i).toNat)
  case atStart => exact ⟨0, _, by omega, rfl, rfl, rfl⟩
  case round =>
    obtain ⟨k, y, hk2, rfl, rfl, hy⟩ := hrel
    by_cases hlt : k < key.size
    · have hlt' : (k : Int) < key.size := by omega
      have hby : hbyte key k = (key[k].toNat : Int) := by unfold hbyte; rw [dif_pos hlt]
      have hbb : 0 ≤ (key[k].toNat : Int) ∧ (key[k].toNat : Int) < 256 := by have := UInt8.toNat_lt key[k]; omega
      have k1 : IntKind.u64.wrap (key[k].toNat : Int) = (key[k].toNat : Int) := by rw [IntKind.wrap_u64]; omega
      have HB := Lib.hid hby
      clear hby hbb
      go_wp2
      go_round
      case rel => exact ⟨k + 1, _, by omega, by go_num, rfl, by show _ = hstep (hfold key k) (hbyte key k); rw [HB.out, ← hy.out]; rfl⟩
      case measure => simp [intOf]; omega
    · obtain rfl : k = key.size := by omega
      go_wp2
      go_ret
      exact ⟨by rw [hy.out]; rfl, rfl⟩
theorem rbucket_eq (x b : Int) (h0 : 0 ≤ x) (h1 : x < 18446744073709551616) (hb : 1 ≤ b ∧ b ≤ 12) (w : World) : Calls Tryz.prog 110 #[.int .u64 x, .int .i64 b] w fun e w' => e = .returned (.int .i64 (bk x b)) ∧ w' = w := by
  have hp := tsize_pos hb
  have hs := rsize_any b
  unfold bk
  generalize tsize b = t at *
  have e0 : (t == 0) = false := beq_eq_false_iff_ne.2 (by omega)
  have e00 : ¬ t = 0 := by omega
  have e1 : IntKind.u64.wrap t = t := by rw [IntKind.wrap_u64]; omega
  obtain ⟨R, hR⟩ : ∃ R, R = x % t := ⟨_, rfl⟩
  have hRb : 0 ≤ R ∧ R < t := by rw [hR]; exact ⟨Int.emod_nonneg _ (by omega), Int.emod_lt_of_pos _ (by omega)⟩
  have e2 : x.tmod t = R := by rw [hR]; exact Int.tmod_eq_emod_of_nonneg h0
  have e3 : x % t = R := hR.symm
  have e4 : wrap64 R = R := IntWalk.wrap64_in _ (by omega)
  have e5 : IntKind.u64.wrap R = R := by rw [IntKind.wrap_u64]; omega
  rw [e3]
  have ht1 : 1 ≤ t := by omega
  clear hR hRb hp hb
  go_enter Tryz.func110, Tryz.ntmps110
  go_wp2_with (go_at_call 51; refine (hs _).mono ?_; rintro e w1 ⟨rfl, rfl⟩)
  go_ret
  first | exact ⟨rfl, rfl⟩ | exact ⟨ret_i64 (by first | exact e4 | (rw [e3]; exact e4) | (rw [e2]; exact e4)), rfl⟩
theorem mask_i64 (x : Int) (m k : Nat) (hm : m = 2 ^ k - 1) (hk : k ≤ 62) (h0 : 0 ≤ x) (h1 : x < 9223372036854775808) : bits .and .i64 x (m : Int) = x % ((2 ^ k : Nat) : Int) := by
  have hp : (2 : Nat) ^ k ≤ 2 ^ 62 := Nat.pow_le_pow_right (by decide) hk
  have hp0 : 0 < (2 : Nat) ^ k := Nat.two_pow_pos k
  have hmm : (BitVec.ofInt 64 (m : Int)).toNat = 2 ^ k - 1 := by
    rw [BitVec.toNat_ofInt]; omega
  have key : (BitVec.ofInt 64 x &&& BitVec.ofInt 64 (m : Int)).toNat = (x % ((2 ^ 64 : Nat) : Int)).toNat % 2 ^ k := by
    rw [BitVec.toNat_and, BitVec.toNat_ofInt, hmm, Nat.and_two_pow_sub_one_eq_mod]
  show IntKind.i64.wrap ((BitVec.ofInt 64 x &&& BitVec.ofInt 64 (m : Int)).toNat : Nat) = _
  rw [key, IntKind.wrap_i64]
  obtain ⟨n, rfl⟩ := Int.eq_ofNat_of_zero_le h0
  have e : ((n : Int) % ((2 ^ 64 : Nat) : Int)).toNat = n := by omega
  rw [e]
  have hlt := Nat.mod_lt n hp0
  rw [← Int.natCast_emod]
  omega
theorem mask_mod (m b : Int) (hm : 0 ≤ m) (hm2 : m < 9223372036854775808) (hb : 1 ≤ b ∧ b ≤ 12) : bits .and .i64 m (tsize b - 1) = m % tsize b := by
  rw [tsize_in hb]
  rcases twelve hb with rfl | rfl | rfl | rfl | rfl | rfl | rfl | rfl | rfl | rfl | rfl | rfl
  all_goals (first
    | exact mask_i64 m 1 1 rfl (by decide) hm hm2 | exact mask_i64 m 3 2 rfl (by decide) hm hm2 | exact mask_i64 m 7 3 rfl (by decide) hm hm2 | exact mask_i64 m 15 4 rfl (by decide) hm hm2 | exact mask_i64 m 31 5 rfl (by decide) hm hm2 | exact mask_i64 m 63 6 rfl (by decide) hm hm2 | exact mask_i64 m 127 7 rfl (by decide) hm hm2 | exact mask_i64 m 255 8 rfl (by decide) hm hm2 | exact mask_i64 m 511 9 rfl (by decide) hm hm2 | exact mask_i64 m 1023 10 rfl (by decide) hm hm2 | exact mask_i64 m 2047 11 rfl (by decide) hm hm2 | exact mask_i64 m 4095 12 rfl (by decide) hm hm2)
theorem oth_eq (k t b : Int) (hb : 1 ≤ b ∧ b ≤ 12) (hk : 0 ≤ k ∧ k < tsize b) (ht : 1 ≤ t ∧ t ≤ 255) : oth01 k t b = oth k t b := by
  unfold oth01 oth
  rw [if_neg (by omega), mask_mod _ _ (by omega) (by omega) hb]
def wth (l : List (Int × Int)) (p : Int × Int) : List (Int × Int) := if p ∈ l then l else l ++ [p]
theorem dedup_snoc (l : List (Int × Int)) (p : Int × Int) : dedup (l ++ [p]) = wth (dedup l) p := by unfold dedup wth; rw [List.foldl_append]; rfl
theorem wth_le (l : List (Int × Int)) (p : Int × Int) : (wth l p).length ≤ l.length + 1 := by unfold wth; split <;> simp
def WithX (w : World) (base : Nat) (l : List (Int × Int)) (e : Ending) (w' : World) : Prop := ∃ v', e = .returned v' ∧ PlR w' base v' l ∧ Below base w w'
set_option maxHeartbeats 1000000 in
theorem rwith8x (w : World) (base : Nat) (v : Value) (l : List (Int × Int)) (hb : base ≤ w.heap.size) (h : PlR w base v l) (hl : l.length ≤ 1000) (b u : Int) : Calls Tryz.prog 154 #[v, .agg #[.int .i64 b, .int .i64 u]] w (WithX w base (wth l (b, u))) := by
  obtain ⟨a, cap, rfl, hm, hc⟩ := h.read
  obtain ⟨i0, hi0, hz0, hz1, hz2⟩ := info_parts info_plc
  have HI := Lib.hid hi0; have HZ0 := Lib.hid hz0; have HZ1 := Lib.hid hz1; have HZ2 := Lib.hid hz2
  have HC := Lib.hid hc; have HH := Lib.hid h; have HL := Lib.hid hl; have HBS := Lib.hid hb
  unfold maxLen at hm
  have hq := box2 w b u 69
  have hB0 := below_alloc w (.cells #[.int .i64 b, .int .i64 u] 69)
  have HQ := Lib.hid hq; have HB0 := Lib.hid hB0
  clear h hl hc hi0 hz0 hz1 hz2 hq hB0 hb
  go_enter Tryz.func154, Tryz.ntmps154
  go_wp2
  go_loopw [5] (fun i wr => ∃ k : Nat, k ≤ l.length ∧ i = .int .i64 k ∧ Hid ((b, u) ∉ l.take k) ∧ Below (w.heap.size + 1) (w.alloc (.cells #[.int .i64 b, .int .i64 u] 69)) wr) (fun i _ => l.length - (intOf i).toNat)
  case atStart => exact ⟨0, by omega, rfl, (by show _ ∉ _; simp), Below.refl _ _⟩
  case round =>
    obtain ⟨k, hk, rfl, HNI, hbl⟩ := hrel
    have hq0 := (hbl.cell (p := ⟨w.heap.size, 0, none⟩) (by simp)).trans (HQ.out 0)
    have hq1 := (hbl.cell (p := ⟨w.heap.size, 1, none⟩) (by simp)).trans (HQ.out 1)
    have hbw : Below w.heap.size w wr := HB0.out.trans (hbl.mono (by simp))
    by_cases hlt : k < l.length
    · obtain ⟨g, rfl, hgb, hrow⟩ := HC.out (by omega)
      obtain ⟨r0, r1⟩ := hrow k hlt
      have r0 := (hbw.cell (World.block_lt_of_cell? _ _ r0)).trans r0
      have r1 := (hbw.cell (World.block_lt_of_cell? _ _ r1)).trans r1
      obtain ⟨p, hp⟩ : ∃ p, p = l[k] := ⟨_, rfl⟩
      rw [← hp] at r0 r1
      have HP := Lib.hid hp
      clear hp
      obtain ⟨pb, pu⟩ := p
      simp only at r0 r1
      have hlt' : (k : Int) < l.length := by omega
      have HB := Lib.hid hbl; have HBW := Lib.hid hbw
      clear hrow hbl hbw
      by_cases hin : pb = b ∧ pu = u
      · obtain ⟨rfl, rfl⟩ := hin
        have x0 := fun st : ExtW wr => st.cell r0
        have x1 := fun st : ExtW wr => st.cell r1
        have x2 := fun st : ExtW wr => st.cell hq0
        have x3 := fun st : ExtW wr => st.cell hq1
        clear r0 r1 hq0 hq1
        go_wp2
        refine wp_region_ext (by kernel_rfl) (by kernel_rfl) ?_
        repeat (go_big_quiet_step (fail))
        refine wpQuiet_nil ?_
        rintro W ⟨⟨W2, hW⟩, rfl⟩
        clear x0 x1 x2 x3
        have HW2 := Lib.hid (HBW.out.trans (hW.mono HBW.out.size))
        clear hW
        have hmem : (pb, pu) ∈ l := by rw [HP.out]; exact List.getElem_mem hlt
        have he : wth l (pb, pu) = l := if_pos hmem
        have HE := Lib.hid he
        clear hmem he
        go_wp2
        go_ret
        exact ⟨_, rfl, by rw [HE.out]; exact rown_below HH.out HW2.out, HW2.out.mono HBS.out⟩
      · have hor : (pb == b) = false ∨ ((pb == b) = true ∧ (pu == u) = false) := by
          by_cases h1 : pb = b
          · exact .inr ⟨beq_iff_eq.2 h1, beq_eq_false_iff_ne.2 (fun c => hin ⟨h1, c⟩)⟩
          · exact .inl (beq_eq_false_iff_ne.2 h1)
        have hni : (b, u) ∉ l.take (k + 1) := by
          rw [List.take_succ_eq_append_getElem hlt, ← HP.out]
          simp only [List.mem_append, List.mem_singleton, Prod.mk.injEq, not_or]
          exact ⟨HNI.out, fun c => hin ⟨c.1.symm, c.2.symm⟩⟩
        have HN2 := Lib.hid hni
        have x0 := fun st : ExtW wr => st.cell r0
        have x1 := fun st : ExtW wr => st.cell r1
        have x2 := fun st : ExtW wr => st.cell hq0
        have x3 := fun st : ExtW wr => st.cell hq1
        clear r0 r1 hq0 hq1 hni hin
        rcases hor with h0 | ⟨h0, h1⟩
        all_goals go_wp2
        all_goals (refine wp_region_ext (by kernel_rfl) (by kernel_rfl) ?_)
        all_goals (repeat (go_big_quiet_step (fail)))
        all_goals (refine wpQuiet_nil ?_)
        all_goals (rintro W ⟨⟨W2, hW⟩, rfl⟩)
        all_goals (clear x0 x1 x2 x3)
        all_goals (have hs : w.heap.size + 1 ≤ wr.heap.size := by have := HB.out.size; simpa using this)
        all_goals (have HW1 := Lib.hid (HB.out.trans (hW.mono hs)))
        all_goals (clear hW hs)
        all_goals go_wp2
        all_goals go_roundw
        all_goals (first
          | exact ⟨k + 1, by omega, by go_num, HN2, HW1.out⟩
          | (simp [intOf]; omega))
    · obtain rfl : k = l.length := by omega
      have hrow := rown_below HH.out hbw
      have hni := HNI.out
      rw [List.take_length] at hni
      have he : wth l (b, u) = l ++ [(b, u)] := if_neg hni
      have HE := Lib.hid he
      have HB := Lib.hid hbw; have HR := Lib.hid hrow
      have hsz : w.heap.size ≤ wr.heap.size := hbw.size
      clear hbl hbw hrow hni he HNI
      go_wp2_with (at_builtin; refine wpList_append_own _ rfl _ _ 72 rfl base 69 i0 (.agg #[.int .i64 0, .int .i64 0]) 2 16 Tryz.underlying72 HI.out HZ0.out HZ1.out HZ2.out rfl (by decide) _ _ _ rfl (HR.out.alloc _) ⟨_, 0, none⟩ 1 1 [.int .i64 b, .int .i64 u] rfl rfl (World.news_of_block (cs := #[.int .i64 b, .int .i64 u]) (t := 69) (fr := (0, 0)) (heap_alloc_new _ _)) ?c2 ?c3 ?c4 ?c5 ?_)
      case c2 => simp [Value.oneCell']
      case c3 => have := HL.out; unfold maxLen; omega
      case c4 => have := HL.out; omega
      case c5 => have := HBS.out; first | omega | (simp; omega)
      intro v' w2 hown' hgrow _
      have hb2 : Below base w w2 := ((HB.out.mono HBS.out).alloc (Nat.le_trans HBS.out hsz) (.cells #[.int .i64 b, .int .i64 u] 69)).grown hgrow (by simp; have := HBS.out; omega) (fun j hj => (HR.out.lt j hj).1)
      have HO2 := Lib.hid hown'; have HB2 := Lib.hid hb2
      clear hown' hgrow hb2
      go_wp2
      go_ret
      exact ⟨_, rfl, by rw [HE.out]; unfold PlR; rw [flatP_snoc, show (l ++ [(b, u)]).length = l.length + 1 by simp]; exact HO2.out, HB2.out⟩
def PlacesX (w : World) (L : List (Int × Int)) (e : Ending) (w' : World) : Prop := ∃ pv, e = .returned pv ∧ PlR w' w.heap.size pv L ∧ Below w.heap.size w w'
/-- A round of the document's loop over the tables. -/
def Rnd (x : Int) (L : List (Int × Int)) (k : Nat) (b : Int) : Prop := (1 ≤ b ∧ b ≤ 12) ∧ dedup (L.take (2 * (k + 1))) = wth (wth (dedup (L.take (2 * k))) (b, bk x b)) (b, oth (bk x b) (tag01 x) b)
theorem rnd_of (x : Int) {L : List (Int × Int)} {k : Nat} {b : Int} (hb : 1 ≤ b ∧ b ≤ 12) (h0 : L[2 * k]? = some (b, bk x b)) (h1 : L[2 * k + 1]? = some (b, oth (bk x b) (tag01 x) b)) : Rnd x L k b := by
  refine ⟨hb, ?_⟩
  rw [← dedup_snoc, ← dedup_snoc, show 2 * (k + 1) = 2 * k + 1 + 1 by omega, List.take_add_one, h1, List.take_add_one, h0]
  rfl
set_option maxRecDepth 10000 in
set_option maxHeartbeats 2000000 in
theorem rplaces_onex (x v : Int) (h0 : 0 ≤ x) (h1 : x < 18446744073709551616) (v0 : 0 ≤ v) (v1 : v < 18446744073709551616) (hn : asNow v = 0) (w : World) : Calls Tryz.prog 86 #[.int .u64 x, .int .u64 v] w (PlacesX w (plist x v)) := by
  have ha := ras_any v v0 v1 w
  have h12 := as_in12 v
  have hpl : plist x v = dedup (pairOf x (asOld v)) := by unfold plist; rw [hn, show pairOf x 0 = [] from if_pos rfl, List.append_nil]
  rw [pairOf_in x _ h12.1] at hpl
  obtain ⟨PL, hPL⟩ : ∃ PL, PL = [(asOld v, bk x (asOld v)), (asOld v, oth (bk x (asOld v)) (tag01 x) (asOld v))] := ⟨_, rfl⟩
  have hrn : Rnd x PL 0 (asOld v) := rnd_of x h12.1 (by rw [hPL]; rfl) (by rw [hPL]; rfl)
  have hlen : PL.length = 2 := by rw [hPL]; rfl
  rw [hpl, ← hPL]
  have htg := tag01_bd x h0 h1
  rw [hn] at ha
  clear hn hpl hPL h12
  generalize asOld v = o at *
  have HLEN := Lib.hid hlen; have HTG := Lib.hid htg
  clear hlen htg
  obtain ⟨W, hWe⟩ : ∃ W, W = w.alloc (.cells #[.int .i64 o] 3) := ⟨_, rfl⟩
  have HW : Hid (Below w.heap.size w W) := by rw [hWe]; exact below_alloc _ _
  have HQ : Hid (∀ k, k < 1 → ∃ bv, W.cell? ⟨w.heap.size, k, none⟩ = some (.int .i64 bv) ∧ Rnd x PL k bv) := fun k hk => by
    obtain rfl : k = 0 := by omega
    have := heap_alloc_new w (.cells #[.int .i64 o] 3)
    rw [← hWe] at this
    exact ⟨o, by simp [World.cell?, this], hrn⟩
  clear hrn
  go_enter Tryz.func86, Tryz.ntmps86
  go_wp2_with (go_at_call 153; refine ha.mono ?_; rintro e w1 ⟨rfl, hw⟩; obtain rfl := hw.symm; clear ha)
  rw [← hWe]
  clear hWe
  have hWs := HW.out.size
  go_loopw [8, 9] (fun ov i wr => ∃ (k : Nat) (l : List (Int × Int)), k ≤ 1 ∧ i = .int .i64 k ∧ PlR wr W.heap.size ov l ∧ Hid (l = dedup (PL.take (2 * k))) ∧ l.length ≤ 2 * k ∧ Below W.heap.size W wr) (fun _ i _ => 1 - (intOf i).toNat)
  case atStart => exact ⟨0, [], by omega, rfl, World.ownsRow_nil _ _ _ _, (by show _ = _; simp; rfl), by simp, Below.refl _ _⟩
  case round =>
    obtain ⟨k, l, hk, rfl, hrow, HL1, hl2, hbl⟩ := hrel
    by_cases hlt : k < 1
    · obtain ⟨bv, q0, hrd⟩ := HQ.out k hlt
      have HRD := Lib.hid hrd
      have hbb := hrd.1
      clear hrd
      have hbu := bk_bd x bv hbb
      have hg : w.heap.size < W.heap.size := World.block_lt_of_cell? _ _ q0
      have hw8 := rwith8x wr W.heap.size _ l hbl.size hrow (by omega) bv (bk x bv)
      have HQ0 := Lib.hid q0
      have q0 := (hbl.cell (p := ⟨w.heap.size, k, none⟩) hg).trans q0
      have hlt' : (k : Int) < 1 := by omega
      have HB := Lib.hid hbl; have HW8 := Lib.hid hw8; have HG := Lib.hid hg
      clear hbl hrow hw8 hg
      go_wp2_with (first
        | (go_at_call 110; refine (rbucket_eq x bv h0 h1 hbb _).mono ?_; rintro e w1 ⟨rfl, hw⟩; obtain rfl := hw.symm)
        | (go_at_call 154; refine HW8.out.mono ?_; rintro e w2 ⟨v2, rfl, p2, b2⟩; clear q0))
      have n2 := wth_le l (bv, bk x bv)
      obtain ⟨l2, hl2e⟩ : ∃ l2, l2 = wth l (bv, bk x bv) := ⟨_, rfl⟩
      rw [← hl2e] at p2 n2
      have HL2E := Lib.hid hl2e
      clear hl2e
      obtain ⟨a2, cap2, rfl, hm2, -⟩ := p2.read
      unfold maxLen at hm2
      have hbl2 := HB.out.trans b2
      have q0 := (hbl2.cell (p := ⟨w.heap.size, k, none⟩) HG.out).trans HQ0.out
      have x0 := fun st : ExtW w2 => st.cell q0
      have ht : ∀ st : ExtW w2, Calls Tryz.prog 111 #[.int .u64 x] st.val fun e w' => e = .returned (.int .i64 (tag01 x)) ∧ st.val = w' := fun st => (rtag01_any x h0 h1 st.val).mono fun e w' ⟨he, hw⟩ => ⟨he, hw.symm⟩
      have ho : ∀ st : ExtW w2, Calls Tryz.prog 59 #[.int .i64 (bk x bv), .int .i64 (tag01 x), .int .i64 bv] st.val fun e w' => e = .returned (.int .i64 (oth (bk x bv) (tag01 x) bv)) ∧ st.val = w' := fun st => (rother01_any (bk x bv) (tag01 x) bv st.val).mono fun e w' ⟨he, hw⟩ => ⟨by rw [← oth_eq _ _ _ hbb hbu HTG.out]; exact he, hw.symm⟩
      have HB2 := Lib.hid hbl2; have HP2 := Lib.hid p2
      clear q0 hbl2 p2 b2
      obtain ⟨ot, hot⟩ : ∃ ot, ot = oth (bk x bv) (tag01 x) bv := ⟨_, rfl⟩
      rw [← hot] at ho
      have HOT := Lib.hid hot
      clear hot
      generalize htge : tag01 x = tg at ht ho
      generalize hbue : bk x bv = bu at ho ⊢
      have HE2 := Lib.hid (And.intro htge hbue)
      clear htge hbue
      refine wp_region_segs [14] (by kernel_rfl) (by kernel_rfl) (by kernel_rfl) ?_
      simp only [Segs, List.take_succ_cons, List.take_zero, List.drop_succ_cons, List.drop_zero]
      repeat (go_big_quiet_step (first
        | (go_at_call 111; with_reducible refine calls_ext_same (ht _))
        | (go_at_call 59; with_reducible refine calls_ext_same (ho _))))
      refine wpQuiet_nil ?_
      rintro W3 ⟨⟨W4, hW4⟩, rfl⟩
      clear x0 ht ho
      have hsz := HB2.out.size
      refine seg_call rfl (by kernel_rfl) 154 #[.slice a2 l2.length cap2, .agg #[.int .i64 bv, .int .i64 ot]] (by kernel_rfl) ?_
      refine (rwith8x W3 W.heap.size _ l2 (Nat.le_trans hsz hW4.size) (rown_below HP2.out hW4) (by omega) bv ot).mono ?_
      rintro e w5 ⟨v5, rfl, p5, b5⟩
      have n5 := wth_le l2 (bv, ot)
      obtain ⟨l5, hl5e⟩ : ∃ l5, l5 = wth l2 (bv, ot) := ⟨_, rfl⟩
      rw [← hl5e] at p5 n5
      have HL5E := Lib.hid hl5e
      clear hl5e
      refine ⟨_, rfl, ?_⟩
      simp only [List.getElem_toArray, List.getElem_cons_succ, List.getElem_cons_zero]
      go_frame
      have HB5 := Lib.hid ((HB2.out.trans (hW4.mono hsz)).trans b5); have HP5 := Lib.hid p5
      clear hW4 p5 b5
      repeat (go_big_quiet_step (fail))
      refine wpQuiet_nil ?_
      rintro W6 ⟨⟨W7, hW6⟩, rfl⟩
      have hs5 := HB5.out.size
      have HB6 := Lib.hid (HB5.out.trans (hW6.mono hs5)); have HP6 := Lib.hid (rown_below HP5.out hW6)
      clear hW6
      go_wp2
      go_roundw
      case rel => exact ⟨k + 1, l5, by omega, by go_num, HP6.out, (by show _ = _; rw [HL5E.out, HL2E.out, HOT.out, HL1.out, HRD.out.2]), by omega, HB6.out⟩
      case measure => simp [intOf]; omega
    · obtain rfl : k = 1 := by omega
      have HB := Lib.hid hbl; have HR := Lib.hid hrow
      clear hbl hrow
      go_wp2
      go_ret
      refine ⟨_, rfl, ?_, HW.out.trans (HB.out.mono hWs)⟩
      have hx := HL1.out
      rw [show 2 * 1 = PL.length by rw [HLEN.out], List.take_length] at hx
      rw [← hx]
      exact own_lower HR.out hWs

set_option maxRecDepth 10000 in
set_option maxHeartbeats 2000000 in
theorem rplaces_twox (x v : Int) (h0 : 0 ≤ x) (h1 : x < 18446744073709551616) (v0 : 0 ≤ v) (v1 : v < 18446744073709551616) (hn : asNow v ≠ 0) (w : World) : Calls Tryz.prog 86 #[.int .u64 x, .int .u64 v] w (PlacesX w (plist x v)) := by
  have ha := ras_any v v0 v1 w
  have hr := as_range v
  have h12 := as_in12 v
  have h12n : 1 ≤ asNow v ∧ asNow v ≤ 12 := h12.2.resolve_left hn
  have hn1 : 0 < asNow v := by omega
  have hpl : plist x v = dedup (pairOf x (asOld v) ++ pairOf x (asNow v)) := rfl
  rw [pairOf_in x _ h12.1, pairOf_in x _ h12n] at hpl
  obtain ⟨PL, hPL⟩ : ∃ PL, PL = [(asOld v, bk x (asOld v)), (asOld v, oth (bk x (asOld v)) (tag01 x) (asOld v))] ++ [(asNow v, bk x (asNow v)), (asNow v, oth (bk x (asNow v)) (tag01 x) (asNow v))] := ⟨_, rfl⟩
  have hrn0 : Rnd x PL 0 (asOld v) := rnd_of x h12.1 (by rw [hPL]; rfl) (by rw [hPL]; rfl)
  have hrn1 : Rnd x PL 1 (asNow v) := rnd_of x h12n (by rw [hPL]; rfl) (by rw [hPL]; rfl)
  have hlen : PL.length = 4 := by rw [hPL]; rfl
  rw [hpl, ← hPL]
  have htg := tag01_bd x h0 h1
  clear hn hr hpl hPL h12 h12n
  generalize asOld v = o at *
  generalize asNow v = n at *
  have HLEN := Lib.hid hlen; have HTG := Lib.hid htg; have HRN0 := Lib.hid hrn0; have HRN1 := Lib.hid hrn1
  clear hlen htg hrn0 hrn1
  obtain ⟨i0, hi0, hz0, hz1, hz2⟩ := info_parts info_int
  have HI := Lib.hid hi0; have HZ0 := Lib.hid hz0; have HZ1 := Lib.hid hz1; have HZ2 := Lib.hid hz2
  clear hi0 hz0 hz1 hz2
  have hrow : ((w.alloc (.cells #[.int .i64 o] 3)).alloc (.cells #[.int .i64 n] 3)).ownsRow w.heap.size 3 1 (.slice (some ⟨w.heap.size, 0, none⟩) 1 1) 1 [.int .i64 o] :=
    ⟨rfl, .inr ⟨w.heap.size, 1, #[.int .i64 o], rfl, Nat.le_refl _, heap_alloc_old (heap_alloc_new w _), Nat.le_refl _, by unfold maxLen; omega, rfl, rfl⟩⟩
  have HRW := Lib.hid hrow
  clear hrow
  go_enter Tryz.func86, Tryz.ntmps86
  go_wp2_with (first
    | (go_at_call 153; refine ha.mono ?_; rintro e w1 ⟨rfl, hw⟩; obtain rfl := hw.symm; clear ha)
    | (at_builtin; refine wpList_append_own _ rfl _ _ 132 rfl w.heap.size 3 i0 (.int .i64 0) 1 8 Tryz.underlying132 HI.out HZ0.out HZ1.out HZ2.out rfl (by decide) _ _ _ rfl HRW.out ⟨_, 0, none⟩ 1 1 [.int .i64 n] rfl rfl (World.news_of_block (cs := #[.int .i64 n]) (t := 3) (fr := (0, 0)) (heap_alloc_at _ _ (by simp))) ?c2 ?c3 ?c4 ?c5 ?_))
  case c2 => simp [Value.oneCell']
  case c3 => unfold maxLen; omega
  case c4 => omega
  case c5 => first | (simp; done) | (simp; omega)
  intro v' W hown hgrow hnil
  have HW : Hid (Below w.heap.size w W) := (((Below.refl _ w).alloc (Nat.le_refl _) (.cells #[.int .i64 o] 3)).alloc (by simp) (.cells #[.int .i64 n] 3)).grown hgrow (by simp; omega) (fun j hj => (HRW.out.lt j hj).1)
  obtain ⟨hlen, ⟨-, hbad⟩ | ⟨g, cap, cur, rfl, hgb, hg, hnc, hcm, hcs, ht⟩⟩ := hown
  · exact absurd hbad (by decide)
  have HQ : Hid (∀ k, k < 2 → ∃ bv, W.cell? ⟨g, k, none⟩ = some (.int .i64 bv) ∧ Rnd x PL k bv) := fun k hk => by
    have e : cur[k]? = ([.int .i64 o, .int .i64 n] : List Value)[k]? := by
      have : (cur.toList.take 2)[k]? = ([.int .i64 o, .int .i64 n] : List Value)[k]? := by rw [show 2 = (1 + 1) * 1 from rfl, ht]
      rw [List.getElem?_take, if_pos hk] at this
      simpa using this
    rcases (by omega : k = 0 ∨ k = 1) with rfl | rfl
    · exact ⟨o, by simp [World.cell?, hg, e], HRN0.out⟩
    · exact ⟨n, by simp [World.cell?, hg, e], HRN1.out⟩
  clear hgrow hnil hlen hg ht hcs hgb HRW
  unfold maxLen at hcm
  go_wp2_with fail
  have hWs := HW.out.size
  go_loopw [8, 9] (fun ov i wr => ∃ (k : Nat) (l : List (Int × Int)), k ≤ 2 ∧ i = .int .i64 k ∧ PlR wr W.heap.size ov l ∧ Hid (l = dedup (PL.take (2 * k))) ∧ l.length ≤ 2 * k ∧ Below W.heap.size W wr) (fun _ i _ => 2 - (intOf i).toNat)
  case atStart => exact ⟨0, [], by omega, rfl, World.ownsRow_nil _ _ _ _, (by show _ = _; simp; rfl), by simp, Below.refl _ _⟩
  case round =>
    obtain ⟨k, l, hk, rfl, hrow, HL1, hl2, hbl⟩ := hrel
    by_cases hlt : k < 2
    · obtain ⟨bv, q0, hrd⟩ := HQ.out k hlt
      have HRD := Lib.hid hrd
      have hbb := hrd.1
      clear hrd
      have hbu := bk_bd x bv hbb
      have hg : g < W.heap.size := World.block_lt_of_cell? _ _ q0
      have hw8 := rwith8x wr W.heap.size _ l hbl.size hrow (by omega) bv (bk x bv)
      have HQ0 := Lib.hid q0
      have q0 := (hbl.cell (p := ⟨g, k, none⟩) hg).trans q0
      have hlt' : (k : Int) < 2 := by omega
      have HB := Lib.hid hbl; have HW8 := Lib.hid hw8; have HG := Lib.hid hg
      clear hbl hrow hw8 hg
      go_wp2_with (first
        | (go_at_call 110; refine (rbucket_eq x bv h0 h1 hbb _).mono ?_; rintro e w1 ⟨rfl, hw⟩; obtain rfl := hw.symm)
        | (go_at_call 154; refine HW8.out.mono ?_; rintro e w2 ⟨v2, rfl, p2, b2⟩; clear q0))
      have n2 := wth_le l (bv, bk x bv)
      obtain ⟨l2, hl2e⟩ : ∃ l2, l2 = wth l (bv, bk x bv) := ⟨_, rfl⟩
      rw [← hl2e] at p2 n2
      have HL2E := Lib.hid hl2e
      clear hl2e
      obtain ⟨a2, cap2, rfl, hm2, -⟩ := p2.read
      unfold maxLen at hm2
      have hbl2 := HB.out.trans b2
      have q0 := (hbl2.cell (p := ⟨g, k, none⟩) HG.out).trans HQ0.out
      have x0 := fun st : ExtW w2 => st.cell q0
      have ht : ∀ st : ExtW w2, Calls Tryz.prog 111 #[.int .u64 x] st.val fun e w' => e = .returned (.int .i64 (tag01 x)) ∧ st.val = w' := fun st => (rtag01_any x h0 h1 st.val).mono fun e w' ⟨he, hw⟩ => ⟨he, hw.symm⟩
      have ho : ∀ st : ExtW w2, Calls Tryz.prog 59 #[.int .i64 (bk x bv), .int .i64 (tag01 x), .int .i64 bv] st.val fun e w' => e = .returned (.int .i64 (oth (bk x bv) (tag01 x) bv)) ∧ st.val = w' := fun st => (rother01_any (bk x bv) (tag01 x) bv st.val).mono fun e w' ⟨he, hw⟩ => ⟨by rw [← oth_eq _ _ _ hbb hbu HTG.out]; exact he, hw.symm⟩
      have HB2 := Lib.hid hbl2; have HP2 := Lib.hid p2
      clear q0 hbl2 p2 b2
      obtain ⟨ot, hot⟩ : ∃ ot, ot = oth (bk x bv) (tag01 x) bv := ⟨_, rfl⟩
      rw [← hot] at ho
      have HOT := Lib.hid hot
      clear hot
      generalize htge : tag01 x = tg at ht ho
      generalize hbue : bk x bv = bu at ho ⊢
      have HE2 := Lib.hid (And.intro htge hbue)
      clear htge hbue
      refine wp_region_segs [14] (by kernel_rfl) (by kernel_rfl) (by kernel_rfl) ?_
      simp only [Segs, List.take_succ_cons, List.take_zero, List.drop_succ_cons, List.drop_zero]
      repeat (go_big_quiet_step (first
        | (go_at_call 111; with_reducible refine calls_ext_same (ht _))
        | (go_at_call 59; with_reducible refine calls_ext_same (ho _))))
      refine wpQuiet_nil ?_
      rintro W3 ⟨⟨W4, hW4⟩, rfl⟩
      clear x0 ht ho
      have hsz := HB2.out.size
      refine seg_call rfl (by kernel_rfl) 154 #[.slice a2 l2.length cap2, .agg #[.int .i64 bv, .int .i64 ot]] (by kernel_rfl) ?_
      refine (rwith8x W3 W.heap.size _ l2 (Nat.le_trans hsz hW4.size) (rown_below HP2.out hW4) (by omega) bv ot).mono ?_
      rintro e w5 ⟨v5, rfl, p5, b5⟩
      have n5 := wth_le l2 (bv, ot)
      obtain ⟨l5, hl5e⟩ : ∃ l5, l5 = wth l2 (bv, ot) := ⟨_, rfl⟩
      rw [← hl5e] at p5 n5
      have HL5E := Lib.hid hl5e
      clear hl5e
      refine ⟨_, rfl, ?_⟩
      simp only [List.getElem_toArray, List.getElem_cons_succ, List.getElem_cons_zero]
      go_frame
      have HB5 := Lib.hid ((HB2.out.trans (hW4.mono hsz)).trans b5); have HP5 := Lib.hid p5
      clear hW4 p5 b5
      repeat (go_big_quiet_step (fail))
      refine wpQuiet_nil ?_
      rintro W6 ⟨⟨W7, hW6⟩, rfl⟩
      have hs5 := HB5.out.size
      have HB6 := Lib.hid (HB5.out.trans (hW6.mono hs5)); have HP6 := Lib.hid (rown_below HP5.out hW6)
      clear hW6
      go_wp2
      go_roundw
      case rel => exact ⟨k + 1, l5, by omega, by go_num, HP6.out, (by show _ = _; rw [HL5E.out, HL2E.out, HOT.out, HL1.out, HRD.out.2]), by omega, HB6.out⟩
      case measure => simp [intOf]; omega
    · obtain rfl : k = 2 := by omega
      have HB := Lib.hid hbl; have HR := Lib.hid hrow
      clear hbl hrow
      go_wp2
      go_ret
      refine ⟨_, rfl, ?_, HW.out.trans (HB.out.mono hWs)⟩
      have hx := HL1.out
      rw [show 2 * 2 = PL.length by rw [HLEN.out], List.take_length] at hx
      rw [← hx]
      exact own_lower HR.out hWs

theorem rplaces_eq (x v : Int) (h0 : 0 ≤ x) (h1 : x < 18446744073709551616) (v0 : 0 ≤ v) (v1 : v < 18446744073709551616) (w : World) : Calls Tryz.prog 86 #[.int .u64 x, .int .u64 v] w (PlacesX w (plist x v)) := by
  by_cases hn : asNow v = 0
  · exact rplaces_onex x v h0 h1 v0 v1 hn w
  · exact rplaces_twox x v h0 h1 v0 v1 hn w
end Go.Proofs.YtmakjfeepmiggaaGreat

/-
  The document's stripes of places.
-/
namespace Go.Proofs.YtmakjfeepmiggaaGreat
open Go.RowKit
set_option linter.unusedVariables false

theorem take_contains {xs : List Int} {k : Nat} {y a : Int} (h : xs[k]? = some y) : (xs.take (k + 1)).contains a = ((xs.take k).contains a || (a == y)) := by
  rw [List.take_add_one, h]
  simp only [List.contains_append, Option.toList_some, List.contains_cons, List.contains_nil, Bool.or_false]

set_option maxHeartbeats 1000000 in
theorem rof_any (l : List (Int × Int)) (ao : Option Addr) (cap : Nat) (w : World) (h : Plc w ao cap l) (hsz : l.length ≤ 1000000) : Calls Tryz.prog 103 #[.slice ao l.length cap] w fun e w' => ∃ v, e = .returned v ∧ w'.ownsRow w.heap.size 39 1 v (vof l).length (cu (vof l)) ∧ Below w.heap.size w w' := by
  have hml : l.length ≤ maxLen := Nat.le_trans h.le h.most
  obtain ⟨i0, hi0, hz0, hz1, hz2⟩ := info_parts info_addr
  have HI := Lib.hid hi0; have HZ0 := Lib.hid hz0; have HZ1 := Lib.hid hz1; have HZ2 := Lib.hid hz2; have HP := Lib.hid h; have HM := Lib.hid hsz
  unfold maxLen at hml
  clear hi0 hz0 hz1 hz2 h hsz
  go_enter Tryz.func103, Tryz.ntmps103
  go_wp2
  go_loopw [3, 4] (fun v i wr => ∃ k : Nat, k ≤ l.length ∧ i = .int .i64 k ∧ wr.ownsRow w.heap.size 39 1 v (vof (l.take k)).length (cu (vof (l.take k))) ∧ Below w.heap.size w wr) (fun _ i _ => l.length - (intOf i).toNat)
  case atStart => exact ⟨0, by omega, rfl, World.ownsRow_nil _ _ _ _, Below.refl _ _⟩
  case round =>
    obtain ⟨k, hk, rfl, hown, hbl⟩ := hrel
    by_cases hlt : k < l.length
    · obtain ⟨b, off, x, y, rfl, hx, c0, c1⟩ := (HP.out.below hbl).at k hlt
      have hl := vof_len (l.take k)
      rw [List.length_take] at hl
      have hst := vof_take hx
      have hlt' : (k : Int) < l.length := by omega
      have HO := Lib.hid hown; have HL := Lib.hid hbl; have HS := Lib.hid hst
      clear hown hbl hst hx
      generalize vof (l.take k) = out at *
      have hv : vstep out (x, y) = if ver x y = 0 then out else if out.contains (ver x y) then out else out ++ [ver x y] := rfl
      have hver := fun w => rver_any x y w
      generalize ver x y = vv at *
      have HV := Lib.hid hv
      clear hv
      go_wp2_with (go_at_call 163; refine (hver _).mono ?_; rintro e w1 ⟨rfl, b1⟩; have O1 := own_below HO.out b1; have L1 := HL.out.trans (b1.mono HL.out.size); have OO := Lib.hid O1; have LL := Lib.hid L1; clear O1 L1 b1)
      obtain ⟨ad, cap2, hu, r1, r2, r3, r4⟩ := Lst.rd (Lst.of_own OO.out)
      subst hu
      go_loopw [6, 7] (fun v i wr => ∃ j : Nat, j ≤ out.length ∧ i = .int .i64 j ∧ v = .bool ((vv == 0) || (out.take j).contains vv) ∧ wr = w1) (fun _ i _ => out.length - (intOf i).toNat)
      case atStart => exact ⟨0, by omega, rfl, by simp, rfl⟩
      case round =>
        obtain ⟨j, hj, rfl, rfl, rfl⟩ := hrel
        by_cases hlj : j < out.length
        · rcases r4 with r4 | ⟨g, o2, rfl, r5⟩
          · exfalso; have : (cu out).length = 0 := by rw [r4]; rfl
            simp [cu] at this; rw [this] at hlj; simp at hlj
          have hc := r5 j (by simpa [cu] using hlj)
          rw [show (cu out)[j]? = some (.int .u64 out[j]) by simp [cu, hlj]] at hc
          have ht := take_contains (a := vv) (List.getElem?_eq_getElem hlj)
          have hj1 : (j : Int) < out.length := by omega
          generalize out[j] = z at hc ht
          cases hy : (z == vv)
          · have HT : Hid (((vv == 0) || (out.take (j + 1)).contains vv) = ((vv == 0) || (out.take j).contains vv)) := by
              show _ = _; rw [ht, BEq.comm (a := vv) (b := z), hy, Bool.or_false]
            clear ht r5
            generalize ((vv == 0) || (out.take j).contains vv) = hd at *
            go_wp2
            go_roundw
            case rel => exact ⟨j + 1, by omega, by go_num, by rw [HT.out], trivial⟩
            case measure => simp [intOf]; omega
          · have HT : Hid (((vv == 0) || (out.take (j + 1)).contains vv) = true) := by
              show _ = _; rw [ht, BEq.comm (a := vv) (b := z), hy, Bool.or_true, Bool.or_true]
            clear ht r5
            generalize ((vv == 0) || (out.take j).contains vv) = hd at *
            go_wp2
            go_roundw
            case rel => exact ⟨j + 1, by omega, by go_num, by rw [HT.out], trivial⟩
            case measure => simp [intOf]; omega
        · obtain rfl : j = out.length := by omega
          rw [List.take_length]
          cases hd : ((vv == 0) || out.contains vv)
          · have HN : Hid (vstep out (x, y) = out ++ [vv]) := by
              show _ = _
              rw [Bool.or_eq_false_iff] at hd
              rw [HV.out, if_neg (beq_eq_false_iff_ne.1 hd.1), hd.2]; rfl
            clear hd r4
            go_wp2_with (at_builtin; refine wpList_append_own _ rfl _ _ 90 rfl w.heap.size 39 i0 (.int .u64 0) 1 8 Tryz.underlying90 HI.out HZ0.out HZ1.out HZ2.out rfl (by decide) _ _ _ rfl (OO.out.alloc _) ⟨_, 0, none⟩ 1 1 [.int .u64 vv] rfl rfl ?c1 ?c2 ?c3 ?c4 ?c5 ?_)
            case c1 => exact cell_one_new _ _ _
            case c2 => simp [Value.oneCell']
            case c3 => unfold maxLen; omega
            case c4 => have := HM.out; omega
            case c5 => simp; have := LL.out.size; omega
            intro v' w2 hown' hgrow _
            go_wp2
            go_roundw
            case rel =>
              refine ⟨k + 1, by omega, by go_num, ?_, (LL.out.alloc LL.out.size _).grown hgrow (by simp; have := LL.out.size; omega) (fun j hj => (OO.out.lt j hj).1)⟩
              rw [HS.out, HN.out]; simpa [cu] using hown'
            case measure => simp [intOf]; omega
          · have HN : Hid (vstep out (x, y) = out) := by
              show _ = _
              rw [HV.out]
              split
              · rfl
              · rename_i hne
                rw [beq_eq_false_iff_ne.2 hne, Bool.false_or] at hd
                rw [hd]; rfl
            clear hd r4
            go_wp2
            go_roundw
            case rel => exact ⟨k + 1, by omega, by go_num, by rw [HS.out, HN.out]; exact OO.out, LL.out⟩
            case measure => simp [intOf]; omega
    · obtain rfl : k = l.length := by omega
      rw [List.take_length] at hown
      have HL := Lib.hid hbl
      have HO := Lib.hid hown
      clear hown hbl
      go_wp2
      go_ret
      exact ⟨_, rfl, HO.out, HL.out⟩
end Go.Proofs.YtmakjfeepmiggaaGreat

/-
  A region that draws its order: what reads, and what makes memory, in whatever order; then operations that write, one behind the other, behind all of these. One walk serves every order.
-/
namespace Go.Proofs.YtmakjfeepmiggaaGreat
open Go.RowKit
set_option linter.unusedVariables false
section
variable {P : Program} {ops : Array Oper} {md : Region.Mode} {D : World → Prop}

/-- What is listed is closed under what it waits for, and holds what was listed at first. -/
structure ClosedS (md : Region.Mode) (ops : Array Oper) (s0 seen : Array Bool) : Prop where
  size : seen.size = ops.size
  closed : ∀ j oj, ops[j]? = some oj → seen.getD j false = true → ∀ e ∈ oj.after, Region.binds md e = true → seen.getD e.on false = true
  old : ∀ i, s0.getD i false = true → seen.getD i false = true
theorem ClosedS.set {s0 seen : Array Bool} {i : Nat} (inv : ClosedS md ops s0 seen) (hi : i ∈ Region.ready md ops seen) : ClosedS md ops s0 (seen.setIfInBounds i true) := by
  obtain ⟨_, oi, hoi, hall⟩ := mem_ready.1 hi
  refine ⟨by simp [inv.size], fun j oj hj hl e he hb => ?_, fun k hk => getD_set_true (inv.old k hk)⟩
  by_cases hij : i = j
  · subst hij
    have : oj = oi := Option.some.inj (hj.symm.trans hoi)
    subst this
    exact getD_set_true (hall e he hb)
  · rw [getD_set_ne false hij] at hl
    exact getD_set_true (inv.closed j oj hj hl e he hb)
def closedB (md : Region.Mode) (ops : Array Oper) (seen : Array Bool) : Bool := decide (seen.size = ops.size) && (List.range ops.size).all fun j => !seen.getD j false || (match ops[j]? with | some o => o.after.all fun e => !Region.binds md e || seen.getD e.on false | none => true)
theorem closedB_spec {seen : Array Bool} (h : closedB md ops seen = true) : ClosedS md ops seen seen := by
  simp only [closedB, Bool.and_eq_true, decide_eq_true_eq] at h
  refine ⟨h.1, fun j oj hj hl e he hb => ?_, fun i hi => hi⟩
  have hjs : j < ops.size := (Array.getElem?_eq_some_iff.1 hj).1
  have h1 := List.all_eq_true.1 h.2 j (List.mem_range.2 hjs)
  rw [hl, hj] at h1
  simp only [Bool.not_true, Bool.false_or] at h1
  have h2 := Array.all_eq_true_iff_forall_mem.1 h1 e he
  rw [hb] at h2
  simpa using h2
/-- Each operation ahead of n that was not listed at first is waited for by a later one, up to n. -/
def sinkS (md : Region.Mode) (ops : Array Oper) (s0 : Array Bool) (n : Nat) : Bool := (List.range n).all fun i => s0.getD i false || (List.range (n + 1)).any fun j => decide (i < j) && Region.waitsFor md ops j i
theorem sinkS_waits {n : Nat} {s0 seen : Array Bool} (hs : sinkS md ops s0 n = true) (hn : n < ops.size) (inv : ClosedS md ops s0 seen) : ∀ (d i : Nat), n - i = d → i < n → seen.getD i true = false → n ∉ Region.ready md ops seen := by
  intro d
  induction d using Nat.strongRecOn with
  | _ d ih =>
    intro i hd hi hun hr
    obtain ⟨_, ot, hot, hall⟩ := mem_ready.1 hr
    have h1 := List.all_eq_true.1 hs i (List.mem_range.2 hi)
    simp only [Bool.or_eq_true] at h1
    rcases h1 with h1 | h1
    · have := inv.old i h1
      rw [getD_both hun] at this; cases this
    obtain ⟨j, hj, hj2⟩ := List.any_eq_true.1 h1
    simp only [Bool.and_eq_true, decide_eq_true_eq] at hj2
    obtain ⟨oj, hoj, e, he, hb, hon⟩ := Region.waitsFor_spec hj2.2
    have hjle : j ≤ n := by have := List.mem_range.1 hj; omega
    by_cases hjt : j = n
    · subst hjt
      have : oj = ot := Option.some.inj (hoj.symm.trans hot)
      subst this
      have h2 := hall e he hb
      rw [hon, getD_both hun] at h2
      cases h2
    · cases hl : seen.getD j false with
      | true =>
        have h2 := inv.closed j oj hoj hl e he hb
        rw [hon, getD_both hun] at h2
        cases h2
      | false =>
        have hjs : j < seen.size := by rw [inv.size]; omega
        exact ih (n - j) (by omega) j rfl (by omega) (getD_in hjs hl) hr

/-- Whatever order, up to what is listed then. -/
def anyM (P : Program) (md : Region.Mode) (ops : Array Oper) (D : World → Prop) (L : Array Bool → Act → World → Prop) (Q : Exit → Act → World → Prop) : Nat → Array Bool → Act → World → Prop
  | 0, seen, a, w => L seen a w
  | f + 1, seen, a, w => Region.ready md ops seen ≠ [] ∧ ∀ i, i ∈ Region.ready md ops seen → Go.wpOp P ops Q i (fun a' w' => D w' ∧ anyM P md ops D L Q f (seen.setIfInBounds i true) a' w') a w
theorem any_of_M {Q : Exit → Act → World → Prop} {L : Array Bool → Act → World → Prop} {g : Nat} (hL : ∀ seen a w, L seen a w → wpAny P md ops Q g seen a w) (f : Nat) : ∀ (seen : Array Bool) (a : Act) (w : World), anyM P md ops D L Q f seen a w → wpAny P md ops Q (f + g) seen a w := by
  induction f with
  | zero => intro seen a w h; rw [Nat.zero_add]; exact hL _ _ _ h
  | succ f ih =>
    intro seen a w h
    rw [show f + 1 + g = (f + g) + 1 by omega]
    exact ⟨fun h0 => absurd h0 h.1, fun i hi => wpOp_mono (fun a' w' h' => ih _ a' w' h'.2) (h.2 i hi)⟩
theorem anyM_first {Q : Exit → Act → World → Prop} {L : Array Bool → Act → World → Prop} {s0 : Array Bool} {n i : Nat} {oi : Oper} {v : Value} (hi : ops[i]? = some oi) (hsel : ∀ (j : Nat) (o : Oper) cs b, ops[j]? = some o → o.op ≠ .select cs b) (hQ : ∀ c a w, Q (.panic c) (a.put oi.dst v) w → Q (.panic c) a w)
    (hs : sinkS md ops s0 n = true) (hn : n < ops.size) (hin : i < n) (hdone : ∀ seen a w, L seen a w → ∀ j, j ∈ Region.ready md ops seen → j = n) (f : Nat) :
    ∀ (seen : Array Bool) (a : Act) (w : World), ClosedS md ops s0 seen →
      (∀ j oj, ops[j]? = some oj → j ≠ i → seen.getD j true = false → (∀ e, e ∈ oj.after → Region.binds md e = true → e.on ≠ i) → oi.apart ops oj = true) →
      i ∈ Region.ready md ops seen → PureY P ops D oi v a → D w → anyM P md ops D L Q f (seen.setIfInBounds i true) (a.put oi.dst v) w → anyM P md ops D L Q (f + 1) seen a w := by
  induction f with
  | zero =>
    intro seen a w inv _ hr hy hD H
    refine ⟨fun h => by rw [h] at hr; simp at hr, fun j hj => ?_⟩
    by_cases hji : j = i
    · rw [hji]; exact hy.wpOp hi hD ⟨hD, H⟩
    · have hjn := hdone _ _ _ H j (ready_mono hj hji)
      rw [hjn] at hj
      exact absurd hj (sinkS_waits hs hn inv _ i rfl hin (mem_ready.1 hr).1)
  | succ f ih =>
    intro seen a w inv hfree hr hy hD H
    refine ⟨fun h => by rw [h] at hr; simp at hr, fun j hj => ?_⟩
    by_cases hji : j = i
    · rw [hji]; exact hy.wpOp hi hD ⟨hD, H⟩
    have hun : seen.getD i true = false := (mem_ready.1 hr).1
    obtain ⟨hjun, oj, hoj, hall⟩ := mem_ready.1 hj
    have hno : ∀ e, e ∈ oj.after → Region.binds md e = true → e.on ≠ i := by
      intro e he hb heq
      have := hall e he hb
      rw [heq, getD_both hun] at this
      exact absurd this (by simp)
    have st := wpOp_swap hoj (hfree j oj hoj hji hjun hno) (fun cs b => hsel i oi cs b hi) (fun cs b => hsel j oj cs b hoj) hQ hy (H.2 j (ready_mono hj hji))
    refine wpOp_mono (fun a' w' h3 => ⟨h3.2.1, ?_⟩) st
    refine ih _ a' w' (inv.set hj) (fun k ok hk hki hunk hnok => hfree k ok hk hki ?_ hnok) (ready_mono hr (Ne.symm hji)) h3.1 h3.2.1 ?_
    · by_cases hjk : j = k
      · rw [← hjk]; exact hjun
      · rwa [getD_set_ne true hjk] at hunk
    · rw [Array.setIfInBounds_comm _ _ hji]; exact h3.2.2

/-- Operations one behind the other. -/
def tailE (P : Program) (ops : Array Oper) (Q : Exit → Act → World → Prop) : List Nat → Act → World → Prop
  | [], a, w => Q .normal a w
  | i :: r, a, w => Go.wpOp P ops Q i (fun a' w' => tailE P ops Q r a' w') a w
theorem any_of_tailE {Q : Exit → Act → World → Prop} : ∀ (t : List Nat) (seen : Array Bool) (a : Act) (w : World), soloB md ops t seen = true → tailE P ops Q t a w → wpAny P md ops Q t.length seen a w
  | [], _, _, _, hB, h => ⟨by simpa [soloB] using hB, h⟩
  | i :: r, seen, a, w, hB, h => by
    simp only [soloB, Bool.and_eq_true, decide_eq_true_eq] at hB
    refine ⟨fun h1 => (by rw [hB.1] at h1; cases h1), fun j hj => ?_⟩
    rw [hB.1] at hj
    have hji : j = i := by simpa using hj
    subst hji
    exact wpOp_mono (fun a' w' h' => any_of_tailE r _ a' w' hB.2 h') h
/-- What makes memory, one behind the other; behind each the class still holds; then what writes. -/
def tailM (P : Program) (ops : Array Oper) (D : World → Prop) (Q : Exit → Act → World → Prop) (t2 : List Nat) : List Nat → Act → World → Prop
  | [], a, w => tailE P ops Q t2 a w
  | i :: r, a, w => Go.wpOp P ops Q i (fun a' w' => D w' ∧ tailM P ops D Q t2 r a' w') a w
def solo2B (md : Region.Mode) (ops : Array Oper) (t2 : List Nat) : List Nat → Array Bool → Bool
  | [], seen => soloB md ops t2 seen
  | i :: r, seen => decide (Region.ready md ops seen = [i]) && solo2B md ops t2 r (seen.setIfInBounds i true)
theorem anyM_of_tail {Q : Exit → Act → World → Prop} {t2 : List Nat} : ∀ (t : List Nat) (seen : Array Bool) (a : Act) (w : World), solo2B md ops t2 t seen = true → tailM P ops D Q t2 t a w → anyM P md ops D (fun s a w => soloB md ops t2 s = true ∧ tailE P ops Q t2 a w) Q t.length seen a w
  | [], seen, a, w, hB, h => ⟨by simpa [solo2B] using hB, h⟩
  | i :: r, seen, a, w, hB, h => by
    simp only [solo2B, Bool.and_eq_true, decide_eq_true_eq] at hB
    refine ⟨fun h1 => (by rw [hB.1] at h1; cases h1), fun j hj => ?_⟩
    rw [hB.1] at hj
    have hji : j = i := by simpa using hj
    subst hji
    exact wpOp_mono (fun a' w' h' => ⟨h'.1, anyM_of_tail r _ a' w' hB.2 h'.2⟩) h
def mixB (md : Region.Mode) (ops : Array Oper) (n : Nat) (t1 t2 : List Nat) : List Nat → Array Bool → Bool
  | [], seen => solo2B md ops t2 t1 seen
  | i :: p, seen => decide (i < n) && (Region.ready md ops seen).contains i && Region.free md ops seen i && (match ops[i]? with | some o => plainOp o.op | none => false) && mixB md ops n t1 t2 p (seen.setIfInBounds i true)
theorem anyM_of_mix {Q : Exit → Act → World → Prop} {s0 : Array Bool} {n : Nat} {t2 : List Nat} (hsel : Region.noSelect ops = true) (hQ : ∀ c (d : Option Nat) v a w, Q (.panic c) (a.put d v) w → Q (.panic c) a w) (hs : sinkS md ops s0 n = true) (hn : n < ops.size) (t1 : List Nat) (w : World) (hD : D w) :
    ∀ (p : List Nat) (seen : Array Bool) (a : Act), ClosedS md ops s0 seen → mixB md ops n t1 (n :: t2) p seen = true → wpQuiet P ops D (fun a' => tailM P ops D Q (n :: t2) t1 a' w) (pickL ops.toList p) a → anyM P md ops D (fun s a w => soloB md ops (n :: t2) s = true ∧ tailE P ops Q (n :: t2) a w) Q (p.length + t1.length) seen a w
  | [], seen, a, inv, hB, h => by simpa using anyM_of_tail t1 seen a w hB h
  | i :: p, seen, a, inv, hB, h => by
    simp only [mixB, Bool.and_eq_true, decide_eq_true_eq] at hB
    obtain ⟨⟨⟨⟨hin, hr⟩, hf⟩, hp⟩, hB'⟩ := hB
    cases ho : ops[i]? with
    | none => rw [ho] at hp; cases hp
    | some o =>
      rw [ho] at hp
      have hd : (ops.toList.drop i).take 1 = [o] := drop_one (by rw [Array.getElem?_toList]; exact ho)
      rw [pickL_cons, hd, List.singleton_append] at h
      have hq : qOp P ops D i (wpQuiet P ops D (fun a' => tailM P ops D Q (n :: t2) t1 a' w) (pickL ops.toList p)) a := by unfold qOp; simp only [ho]; exact h
      obtain ⟨v, hy, hK⟩ := yieldsIn_of_qOp ho hq
      have e : (i :: p).length + t1.length = (p.length + t1.length) + 1 := by simp only [List.length_cons]; omega
      rw [e]
      have hri : i ∈ Region.ready md ops seen := by simpa using hr
      refine anyM_first ho (Region.noSelect_spec hsel) (fun c a w => hQ c _ _ a w) hs hn hin (fun s a w hL j hj => ?_) _ seen a w inv (Region.free_spec ho hf) hri (PureY.of hp hy) hD (anyM_of_mix hsel hQ hs hn t1 w hD p _ _ (inv.set hri) hB' hK)
      have h1 := hL.1
      simp only [soloB, Bool.and_eq_true, decide_eq_true_eq] at h1
      rw [h1.1] at hj
      simpa using hj
/-- The region; what was listed (s0) by 'wpAny_take' ahead of it. p: what reads; t1: what makes memory; n :: t2: what writes. -/
theorem any_of_mix {Q : Exit → Act → World → Prop} {a : Act} {w : World} {l : List Oper} {s0 : Array Bool} {f : Nat} (p t1 : List Nat) (n : Nat) (t2 : List Nat) (hsel : Region.noSelect l.toArray = true) (hlen : p.length + t1.length + (n :: t2).length = f) (hc : closedB md l.toArray s0 = true)
    (hs : sinkS md l.toArray s0 n = true) (hn : n < l.toArray.size) (hB : mixB md l.toArray n t1 (n :: t2) p s0 = true) (hQ : ∀ c (d : Option Nat) v a w, Q (.panic c) (a.put d v) w → Q (.panic c) a w) (hD : D w)
    (h : wpQuiet P l.toArray D (fun a' => tailM P l.toArray D Q (n :: t2) t1 a' w) (pickL l p) a) : wpAny P md l.toArray Q f s0 a w := by
  have := any_of_M (P := P) (md := md) (D := D) (Q := Q) (g := (n :: t2).length) (fun seen a w hL => any_of_tailE _ _ _ _ hL.1 hL.2) _ s0 a w (anyM_of_mix hsel hQ hs hn t1 w hD p s0 a (closedB_spec hc) hB h)
  rw [hlen] at this
  exact this
theorem wp_region_mix {id : Nat} {Q : Exit → Act → World → Prop} {a : Act} {w : World} {l : List Oper} (p t1 : List Nat) (n : Nat) (t2 : List Nat) (hm : P.follows .mixedOrders = true) (hsel : Region.noSelect l.toArray = true) (hlen : p.length + t1.length + (n :: t2).length = l.toArray.size)
    (hs : sinkS .any l.toArray (Array.replicate l.toArray.size false) n = true) (hn : n < l.toArray.size) (hc : closedB .any l.toArray (Array.replicate l.toArray.size false) = true) (hB : mixB .any l.toArray n t1 (n :: t2) p (Array.replicate l.toArray.size false) = true) (hQ : ∀ c (d : Option Nat) v a w, Q (.panic c) (a.put d v) w → Q (.panic c) a w) (hD : D w.drew)
    (h : wpQuiet P l.toArray D (fun a' => tailM P l.toArray D Q (n :: t2) t1 a' w.drew) (pickL l p) a) : (Code.region id l.toArray true).wp P Q a w :=
  wp_region_any hm (any_of_mix p t1 n t2 hsel hlen hc hs hn hB hQ hD h)
/-- One operation of the tail, by its own rule. -/
theorem tailE_op {Q : Exit → Act → World → Prop} {i : Nat} {r : List Nat} {o : Oper} {a : Act} {w : World} (hi : ops[i]? = some o) (hg : o.guard = none) (h : Oper.wp P o a w (fun a' w' => tailE P ops Q r a' w') Q) : tailE P ops Q (i :: r) a w := by
  have hw : Region.wanted o (yielded ops a.tmps) = true := by simp [Region.wanted, hg]
  unfold tailE Go.wpOp
  simp only [hi]
  rw [if_pos hw]
  exact .inl h
theorem tailM_op {Q : Exit → Act → World → Prop} {i : Nat} {r t2 : List Nat} {o : Oper} {a : Act} {w : World} (hi : ops[i]? = some o) (hg : o.guard = none) (h : Oper.wp P o a w (fun a' w' => D w' ∧ tailM P ops D Q t2 r a' w') Q) : tailM P ops D Q t2 (i :: r) a w := by
  have hw : Region.wanted o (yielded ops a.tmps) = true := by simp [Region.wanted, hg]
  unfold tailM Go.wpOp
  simp only [hi]
  rw [if_pos hw]
  exact .inl h
/-- A struct that is read whole, in each world of the class. -/
theorem wpQuiet_mid {Q : Act → Prop} {rest : List Oper} {op : Oper} {a : Act} (hgd : op.guard = none) (ty : TypeId) (x : Operand) (ho : op.op = .load ty x) (b o : Nat) (hx : a.eval x = .pointer (some ⟨b, o, none⟩)) (cs : List Value) (d : TypeDesc) (hc : ∀ w, D w → w.rangeAt b o cs)
    (hu : P.underlying ty = some d) (hd : d.isRow = true) (hi : (P.info? ty).map (·.size) = some cs.length) (h : wpQuiet P ops D Q rest (a.put op.dst (.agg cs.toArray))) : wpQuiet P ops D Q (op :: rest) a := by
  refine wpQuiet_step fun K hK => ?_
  have hw : Region.wanted op (yielded ops a.tmps) = true := by simp [Region.wanted, hgd]
  rw [if_pos hw]
  refine ⟨_, fun w hw => ?_, hK _ h⟩
  unfold Oper.quietAt execOp
  simp only [ho, hx, Sem.run_bind, run_loadAt_mid w b o ty cs d (hc w hw) hu hd hi, Result.andThen_ok]
  exact ⟨rfl, rfl⟩
/-- One cell is written. -/
theorem wp_store_one {op : Oper} {a : Act} {w : World} {K : Act → World → Prop} {Q : Exit → Act → World → Prop} (ty : TypeId) (x y : Operand) (ho : op.op = .store ty x y) (b o : Nat) (hx : a.eval x = .pointer (some ⟨b, o, none⟩)) (v : Value) (hy : a.eval y = v)
    (hrun : (Instr.storeAt ty (.pointer (some ⟨b, o, none⟩)) v).run P w = .ok () (w.setCell ⟨b, o, none⟩ v)) (h : K (a.put op.dst undef) (w.setCell ⟨b, o, none⟩ v)) : op.wp P a w K Q := by
  unfold Oper.wp execOp
  simp only [ho, hx, hy, Sem.run_bind, hrun, Result.andThen_ok]
  exact h
/-- A whole struct into the block that was made last. -/
theorem wp_store_new {op : Oper} {a : Act} {K : Act → World → Prop} {Q : Exit → Act → World → Prop} (ty : TypeId) (x y : Operand) (ho : op.op = .store ty x y) (w : World) (c c' : Array Value) (hx : a.eval x = .pointer (some ⟨w.heap.size, 0, none⟩)) (hy : a.eval y = .agg c')
    (hi : (P.info? ty).map (·.size) = some c'.size) (hs : c.size = c'.size) (h1 : c'.all (·.oneCell') = true) (h : K (a.put op.dst undef) (w.alloc (.cells c' ty))) : op.wp P a (w.alloc (.cells c ty)) K Q := by
  unfold Oper.wp execOp
  simp only [ho, hx, hy, run_storeAt_new w ty c c' hi hs h1, Sem.run_bind, Sem.run_pure, Result.andThen_ok]
  exact h
end
end Go.Proofs.YtmakjfeepmiggaaGreat

/-
  The walks of package tagwords: each function computes what TagPure says.
-/
namespace Go.Proofs.YtmakjfeepmiggaaGreat
open Go.RowKit TagPure
set_option linter.unusedVariables false


theorem there_in (s : Int) (w : World) (h0 : 0 ≤ s) (h1 : s < 4) : Calls Tryz.prog 138 #[.int .i64 s] w fun e w' => e = .returned (.bool true) ∧ w = w' := by
  go_enter Tryz.func138, Tryz.ntmps138
  go_wp2
  go_ret
  exact ⟨rfl, rfl⟩
theorem there_out (s : Int) (w : World) (h : s < 0 ∨ 4 ≤ s) : Calls Tryz.prog 138 #[.int .i64 s] w fun e w' => e = .returned (.bool false) ∧ w = w' := by
  by_cases h0 : s < 0
  · go_enter Tryz.func138, Tryz.ntmps138
    go_wp2
    go_ret
    exact ⟨rfl, rfl⟩
  · have h1 : 0 ≤ s := by omega
    have hd : decide (s < 4) = false := by simp; omega
    go_enter Tryz.func138, Tryz.ntmps138
    go_wp2
    go_ret
    exact ⟨rfl, rfl⟩

/-- The four tags as an array. -/
def tags4 (x : Int) : List Value := [.int .i64 (tg x 0), .int .i64 (tg x 1), .int .i64 (tg x 2), .int .i64 (tg x 3)]

theorem part_eq (x : Int) (h0 : 0 ≤ x) (h1 : x < 18446744073709551616) (i : Nat) (d : Int) (hd : d = 256 ^ i) (hp : 1 ≤ d) : wrap64 (bits BinOp.and IntKind.u64 (x / d) 255) = tg x i := by
  subst hd
  have a : 0 ≤ x / 256 ^ i := Int.ediv_nonneg h0 (by omega)
  have b : x / 256 ^ i ≤ x := Int.ediv_le_self _ h0
  rw [and255 _ a (by omega), IntWalk.wrap64_in _ (by omega)]
  rfl

set_option maxHeartbeats 400000 in
theorem parts_any (x : Int) (w : World) (h0 : 0 ≤ x) (h1 : x < 18446744073709551616) :
    Calls Tryz.prog 136 #[.int .u64 x] w fun e w' => e = .returned (.agg (tags4 x).toArray) ∧ Below w.heap.size w w' := by
  go_enter Tryz.func136, Tryz.ntmps136
  go_wp2
  refine wp_loop_rounds 5 ?_
  rw [rounds_succ]; go_wp2
  rw [rounds_succ]; go_wp2
  rw [rounds_succ]; go_wp2
  rw [rounds_succ]; go_wp2
  rw [rounds_succ]; go_wp2
  have e0 : wrap64 (bits BinOp.and IntKind.u64 x 255) = tg x 0 := by have := part_eq x h0 h1 0 1 rfl (by omega); simpa using this
  have e1 := part_eq x h0 h1 1 256 rfl (by omega)
  have e2 := part_eq x h0 h1 2 65536 rfl (by omega)
  have e3 := part_eq x h0 h1 3 16777216 rfl (by omega)
  rw [e0, e1, e2, e3]
  refine bodyPost_ret (v := .agg (tags4 x).toArray) (by simp [results, Tryz.results136, go_sem, tags4]) rfl ⟨rfl, ?_⟩
  exact (Below.refl _ _).alloc (Nat.le_refl _) _

theorem tags_get (x : Int) (n : Nat) (hn : n < 4) (w : World) : (Instr.index 234 (.agg (tags4 x).toArray) (.int .i64 n)).run Tryz.prog w = .ok (.int .i64 (tg x n)) w := by
  rw [run_index_ints (P := Tryz.prog) Tryz.underlying234 Tryz.underlying3 (by kernel_rfl) (tags4 x) rfl .i64 n hn w]
  match n, hn with
  | 0, _ => rfl
  | 1, _ => rfl
  | 2, _ => rfl
  | 3, _ => rfl

theorem tag_in (x s : Int) (w : World) (h0 : 0 ≤ x) (h1 : x < 18446744073709551616) (hs : 0 ≤ s) (hs4 : s < 4) :
    Calls Tryz.prog 66 #[.int .u64 x, .int .i64 s] w fun e w' => e = .returned (.int .i64 (tg x s.toNat)) ∧ Below w.heap.size w w' := by
  obtain ⟨n, rfl⟩ := Int.eq_ofNat_of_zero_le hs
  have hn : n < 4 := by omega
  have hi := tags_get x n hn
  go_enter Tryz.func66, Tryz.ntmps66
  go_wp2_with (first | (go_at_call 138; refine (there_in _ _ (by omega) (by omega)).mono ?_; rintro e w' ⟨rfl, rfl⟩) | (go_at_call 136; refine (parts_any _ _ h0 h1).mono ?_; rintro e w' ⟨rfl, hb⟩))
  go_ret
  exact ⟨rfl, hb⟩
theorem tag_out (x s : Int) (w : World) (h : s < 0 ∨ 4 ≤ s) :
    Calls Tryz.prog 66 #[.int .u64 x, .int .i64 s] w fun e w' => e = .returned (.int .i64 0) ∧ w = w' := by
  go_enter Tryz.func66, Tryz.ntmps66
  go_wp2_with (first | (go_at_call 138; refine (there_out _ _ h).mono ?_; rintro e w' ⟨rfl, rfl⟩))
  go_ret
  exact ⟨rfl, rfl⟩

/-- The tag of a slot, whatever slot. -/
theorem tag_any (x s : Int) (w : World) (h0 : 0 ≤ x) (h1 : x < 18446744073709551616) :
    Calls Tryz.prog 66 #[.int .u64 x, .int .i64 s] w fun e w' => e = .returned (.int .i64 (tagOf x s)) ∧ Below w.heap.size w w' := by
  by_cases h : 0 ≤ s ∧ s < 4
  · unfold tagOf; rw [if_pos h]; exact tag_in x s w h0 h1 h.1 h.2
  · unfold tagOf; rw [if_neg h]; exact (tag_out x s w (by omega)).mono fun e w' ⟨a, b⟩ => ⟨a, b ▸ Below.refl _ _⟩

theorem with_out (x s t : Int) (w : World) (h : (s < 0 ∨ 4 ≤ s) ∨ t < 0 ∨ 255 < t) :
    Calls Tryz.prog 279 #[.int .u64 x, .int .i64 s, .int .i64 t] w fun e w' => e = .returned (.int .u64 x) ∧ w = w' := by
  by_cases hs : s < 0 ∨ 4 ≤ s
  · go_enter Tryz.func279, Tryz.ntmps279
    go_wp2_with (first | (go_at_call 138; refine (there_out _ _ hs).mono ?_; rintro e w' ⟨rfl, rfl⟩))
    go_ret
    exact ⟨rfl, rfl⟩
  · by_cases ht : t < 0
    · go_enter Tryz.func279, Tryz.ntmps279
      go_wp2_with (first | (go_at_call 138; refine (there_in _ _ (by omega) (by omega)).mono ?_; rintro e w' ⟨rfl, rfl⟩))
      go_ret
      exact ⟨rfl, rfl⟩
    · have ht' : 0 ≤ t := by omega
      have ht2 : 255 < t := by omega
      go_enter Tryz.func279, Tryz.ntmps279
      go_wp2_with (first | (go_at_call 138; refine (there_in _ _ (by omega) (by omega)).mono ?_; rintro e w' ⟨rfl, rfl⟩))
      go_ret
      exact ⟨rfl, rfl⟩
set_option maxHeartbeats 800000 in
theorem with_in (x t : Int) (n : Nat) (w : World) (h0 : 0 ≤ x) (h1 : x < 18446744073709551616) (hn : n < 4) (t0 : 0 ≤ t) (t1 : t ≤ 255) :
    Calls Tryz.prog 279 #[.int .u64 x, .int .i64 n, .int .i64 t] w fun e w' => e = .returned (.int .u64 (put x n t)) ∧ Below w.heap.size w w' := by
  match n, hn with
  | 0, _ =>
    go_enter Tryz.func279, Tryz.ntmps279
    go_wp2_with (first | (go_at_call 138; refine (there_in _ _ (by omega) (by omega)).mono ?_; rintro e w' ⟨rfl, rfl⟩))
    go_quiet (fail)
    go_wp2
    go_ret
    exact ⟨ret_u64 (put0 x t h0 h1 t0 t1), below_drewN _ _⟩
  | 1, _ =>
    go_enter Tryz.func279, Tryz.ntmps279
    go_wp2_with (first | (go_at_call 138; refine (there_in _ _ (by omega) (by omega)).mono ?_; rintro e w' ⟨rfl, rfl⟩))
    go_quiet (fail)
    go_wp2
    go_ret
    exact ⟨ret_u64 (put1 x t h0 h1 t0 t1), below_drewN _ _⟩
  | 2, _ =>
    go_enter Tryz.func279, Tryz.ntmps279
    go_wp2_with (first | (go_at_call 138; refine (there_in _ _ (by omega) (by omega)).mono ?_; rintro e w' ⟨rfl, rfl⟩))
    go_quiet (fail)
    go_wp2
    go_ret
    exact ⟨ret_u64 (put2 x t h0 h1 t0 t1), below_drewN _ _⟩
  | 3, _ =>
    go_enter Tryz.func279, Tryz.ntmps279
    go_wp2_with (first | (go_at_call 138; refine (there_in _ _ (by omega) (by omega)).mono ?_; rintro e w' ⟨rfl, rfl⟩))
    go_quiet (fail)
    go_wp2
    go_ret
    exact ⟨ret_u64 (put3 x t h0 h1 t0 t1), below_drewN _ _⟩

/-- The word with a tag at a slot, whatever slot and tag. -/
theorem with_any (x s t : Int) (w : World) (h0 : 0 ≤ x) (h1 : x < 18446744073709551616) :
    Calls Tryz.prog 279 #[.int .u64 x, .int .i64 s, .int .i64 t] w fun e w' => e = .returned (.int .u64 (withOf x s t)) ∧ Below w.heap.size w w' := by
  by_cases h : (0 ≤ s ∧ s < 4) ∧ 0 ≤ t ∧ t ≤ 255
  · unfold withOf; rw [if_pos h]
    have := with_in x t s.toNat w h0 h1 (by omega) h.2.1 h.2.2
    rwa [Int.toNat_of_nonneg h.1.1] at this
  · unfold withOf; rw [if_neg h]; exact (with_out x s t w (by omega)).mono fun e w' ⟨a, b⟩ => ⟨a, b ▸ Below.refl _ _⟩

/-- How many of the first k slots are not free. -/
def cnt (x : Int) : Nat → Nat
  | 0 => 0
  | k + 1 => cnt x k + if tg x k = 0 then 0 else 1
theorem cnt_le (x : Int) (k : Nat) : cnt x k ≤ k := by
  induction k with
  | zero => exact Nat.le_refl _
  | succ k ih => simp only [cnt]; split <;> omega

/-- The lowest free slot from k on (n more), or -1. -/
def freeFrom (x : Int) : Nat → Nat → Int
  | _, 0 => -1
  | k, n + 1 => if tg x k = 0 then k else freeFrom x (k + 1) n

theorem free_any (x : Int) (w : World) (h0 : 0 ≤ x) (h1 : x < 18446744073709551616) :
    Calls Tryz.prog 63 #[.int .u64 x] w fun e w' => e = .returned (.int .i64 (freeFrom x 0 4)) ∧ Below w.heap.size w w' := by
  go_enter Tryz.func63, Tryz.ntmps63
  go_wp2_with (go_at_call 136; refine (parts_any _ _ h0 h1).mono ?_; rintro e w' ⟨rfl, hb⟩)
  go_loop [7] (fun i => ∃ k : Nat, k ≤ 4 ∧ i = .int .i64 k ∧ freeFrom x 0 4 = freeFrom x k (4 - k)) (fun i => 4 - (intOf i).toNat)
  case atStart => exact ⟨0, by omega, rfl, rfl⟩
  case round =>
    obtain ⟨k, hk, rfl, hf⟩ := hrel
    have HF := Lib.hid hf
    clear hf
    by_cases hlt : k < 4
    · have hi := tags_get x k hlt
      obtain ⟨m, hm⟩ : ∃ m, 4 - k = m + 1 := ⟨4 - k - 1, by omega⟩
      by_cases hz : tg x k = 0
      · have hz' : (tg x k == 0) = true := by simp [hz]
        have HC : Hid (freeFrom x 0 4 = k) := by show _ = _; rw [HF.out, hm]; simp [freeFrom, hz]
        clear hz hm
        go_wp2
        go_ret
        exact ⟨ret_i64 HC.out.symm, hb⟩
      · have hz' : (tg x k == 0) = false := by simp [hz]
        have HC : Hid (freeFrom x 0 4 = freeFrom x (k + 1) (4 - (k + 1))) := by show _ = _; rw [HF.out, hm, show 4 - (k + 1) = m from by omega]; simp [freeFrom, hz]
        clear hz hm
        go_wp2
        go_round
        case rel => exact ⟨k + 1, by omega, by go_num, HC.out⟩
        case measure => simp [intOf]; omega
    · obtain rfl : k = 4 := by omega
      go_wp2
      go_ret
      exact ⟨ret_i64 (by rw [HF.out]; rfl), hb⟩

/-- The slots among the first k that have a tag. -/
def has (x t : Int) : Nat → List Nat
  | 0 => []
  | k + 1 => has x t k ++ if tg x k = t then [k] else []
theorem has_le (x t : Int) (k : Nat) : (has x t k).length ≤ k := by
  induction k with
  | zero => exact Nat.le_refl _
  | succ k ih => simp only [has, List.length_append]; split <;> simp <;> omega
/-- Numbers as cells. -/
def cells (l : List Nat) : List Value := l.map fun (n : Nat) => Value.int .i64 n

theorem clip_ints (v : Value) (n base : Nat) (xs : List Value) (w : World) (h : Lst w base v n xs) :
    Calls Tryz.prog 224 #[v] w fun e w' => ∃ v', e = .returned v' ∧ w = w' ∧ Lst w base v' n xs := by
  rcases h with ⟨rfl, rfl, rfl⟩ | ⟨g, off, cap, cur, e, rfl, h2, h3, h4, h5, h6⟩
  · go_enter Tryz.func224, Tryz.ntmps224
    go_wp2
    go_ret
    exact ⟨_, rfl, rfl, .inl ⟨rfl, rfl, rfl⟩⟩
  · unfold maxLen at h5
    go_enter Tryz.func224, Tryz.ntmps224
    go_wp2
    go_ret
    exact ⟨_, rfl, rfl, .inr ⟨g, off, n, cur, e, rfl, h2, h3, Nat.le_refl _, by unfold maxLen; omega, h6⟩⟩
end Go.Proofs.YtmakjfeepmiggaaGreat

/-
  The walk of tagwords.Has.
-/
namespace Go.Proofs.YtmakjfeepmiggaaGreat
open Go.RowKit TagPure
set_option linter.unusedVariables false

theorem has_zero (x : Int) (w : World) : Calls Tryz.prog 193 #[.int .u64 x, .int .i64 0] w fun e w' => e = .returned (.slice none 0 0) ∧ w = w' := by
  go_enter Tryz.func193, Tryz.ntmps193
  go_wp2
  go_ret
  exact ⟨rfl, rfl⟩

set_option maxRecDepth 100000 in
set_option maxHeartbeats 1600000 in
theorem has_any (x t : Int) (w : World) (h0 : 0 ≤ x) (h1 : x < 18446744073709551616) (ht : t ≠ 0) :
    Calls Tryz.prog 193 #[.int .u64 x, .int .i64 t] w fun e w' => ∃ v, e = .returned v ∧ Lst w' w.heap.size v (has x t 4).length (cells (has x t 4)) ∧ Below w.heap.size w w' := by
  have ht' : (t == 0) = false := by simp [ht]
  clear ht
  obtain ⟨i0, hi0, hz0, hz1, hz2⟩ := info_parts info_int
  have HI := Lib.hid hi0; have HZ0 := Lib.hid hz0; have HZ1 := Lib.hid hz1; have HZ2 := Lib.hid hz2
  clear hi0 hz0 hz1 hz2
  go_enter Tryz.func193, Tryz.ntmps193
  go_wp2_with (go_at_call 136; refine (parts_any _ _ h0 h1).mono ?_; rintro e w1 ⟨rfl, hb⟩)
  go_loopw [5, 12] (fun v i wr => ∃ k : Nat, k ≤ 4 ∧ i = .int .i64 k ∧ wr.ownsRow w.heap.size 3 1 v (has x t k).length (cells (has x t k)) ∧ Below w.heap.size w wr) (fun _ i _ => 4 - (intOf i).toNat)
  case atStart => exact ⟨0, by omega, rfl, World.ownsRow_nil _ _ _ _, hb⟩
  case round =>
    obtain ⟨k, hk, rfl, hown, hbl⟩ := hrel
    have hlen := has_le x t k
    by_cases hlt : k < 4
    · have hi := tags_get x k hlt
      by_cases hz : tg x k = t
      · have hz' : (tg x k == t) = true := by simp [hz]
        have HC : Hid (has x t (k + 1) = has x t k ++ [k]) := by show _ = _; simp [has, hz]
        clear hz
        go_wp2_with (at_builtin; refine wpList_append_own _ rfl _ _ 132 rfl w.heap.size 3 i0 (.int .i64 0) 1 8 Tryz.underlying132 HI.out HZ0.out HZ1.out HZ2.out rfl (by decide) _ _ _ rfl (hown.alloc _) ⟨wr.heap.size, 0, none⟩ 1 1 [.int .i64 k] rfl rfl ?c1 ?c2 ?c3 ?c4 ?c5 ?_)
        case c1 => exact cell_one_new _ _ _
        case c2 => simp [Value.oneCell']
        case c3 => unfold maxLen; omega
        case c4 => omega
        case c5 => simp; have := hbl.size; omega
        intro v' w2 hown' hgrow _
        go_wp2
        go_roundw
        case rel =>
          refine ⟨k + 1, by omega, by go_num, ?_, (hbl.alloc hbl.size _).grown hgrow (by simp; have := hbl.size; omega) (fun j hj => (hown.lt j hj).1)⟩
          rw [HC.out]; simpa [cells] using hown'
        case measure => simp [intOf]; omega
      · have hz' : (tg x k == t) = false := by simp [hz]
        have HC : Hid (has x t (k + 1) = has x t k) := by show _ = _; simp [has, hz]
        clear hz
        go_wp2
        go_roundw
        case rel => exact ⟨k + 1, by omega, by go_num, by rw [HC.out]; exact hown, hbl⟩
        case measure => simp [intOf]; omega
    · obtain rfl : k = 4 := by omega
      go_wp2_with (go_at_call 224; refine (clip_ints _ _ _ _ _ (Lst.of_own hown)).mono ?_; rintro e w2 ⟨v', rfl, rfl, hl⟩)
      go_ret
      exact ⟨_, rfl, hl, hbl⟩
end Go.Proofs.YtmakjfeepmiggaaGreat

/-
  Layer 14: the document's Look.
-/
namespace Go.Proofs.YtmakjfeepmiggaaGreat
open Go.RowKit Go.Maps TagPure
set_option linter.unusedVariables false

/-- The document's Look. -/
structure RL where
  line : Int
  fails : Bool
  ref : Int
  ep : Int
  pt : Int
  key : ByteArray
  tries : Int
  t : Int
  l : List (Int × Int)
  s : List Int
  was : List Int
  at_ : Nat
  tags : Int
  slot : Int
def RL.cells (x : RL) (vl vs vw : Value) : Array Value := #[.int .i64 x.line, .bool x.fails, .int .i64 x.ref, .int .u64 x.ep, .int .i64 x.pt, .string x.key, .int .i64 x.tries, .int .u64 x.t, vl, vs, vw, .int .i64 x.at_, .int .u64 x.tags, .int .i64 x.slot]
/-- The block of what was seen; the Look's own number, where there is none. -/
def KbOk (v : Value) (kb fb : Nat) : Prop := v.ownBlock = some kb ∨ (v.ownBlock = none ∧ kb = fb)
structure RLookAt (w : World) (lo fb kb : Nat) (x : RL) : Prop where
  low : lo ≤ fb
  ex : ∃ vl vs vw, w.heap[fb]? = some (.cells (x.cells vl vs vw) 93 (0, 0)) ∧ PlR w lo vl x.l ∧ w.ownsRow lo 39 1 vs x.s.length (cu x.s) ∧ w.ownsRow lo 38 1 vw x.was.length (cu x.was) ∧ KbOk vw kb fb
section
variable {w w' : World} {lo lo' fb kb : Nat} {x : RL}
theorem RLookAt.fr {K : TypeId → Bool} {mp : Bool} (h : RLookAt w lo fb kb x) (hf : Fr K mp w w') (h1 : K 93 = false) (h2 : K 69 = false) (h3 : K 39 = false) (h4 : K 38 = false) : RLookAt w' lo fb kb x := by
  obtain ⟨l0, vl, vs, vw, b1, b2, b3, b4, b5⟩ := h
  exact ⟨l0, vl, vs, vw, hf.cells _ _ _ _ b1 h1, own_fr b2 hf h2, own_fr b3 hf h3, own_fr b4 hf h4, b5⟩
theorem RLookAt.below (h : RLookAt w lo fb kb x) (hb : Below w.heap.size w w') : RLookAt w' lo fb kb x := h.fr (below_fr hb (fun _ => false) false) rfl rfl rfl rfl
theorem RLookAt.set (h : RLookAt w lo fb kb x) (o : Nat) (u : Value) {y : RL} (hl : y.l = x.l) (hs : y.s = x.s) (hw : y.was = x.was) (hc : ∀ vl vs vw, (x.cells vl vs vw).setIfInBounds o u = y.cells vl vs vw) : RLookAt (w.setCell ⟨fb, o, none⟩ u) lo fb kb y := by
  obtain ⟨l0, vl, vs, vw, b1, b2, b3, b4, b5⟩ := h
  have g := setCell_same b1 o u
  rw [hc] at g
  have sf := set_ty b1 o u
  refine ⟨l0, vl, vs, vw, g, ?_, ?_, ?_, b5⟩
  · rw [hl]; exact own_fr b2 sf rfl
  · rw [hs]; exact own_fr b3 sf rfl
  · rw [hw]; exact own_fr b4 sf rfl
theorem RLookAt.blk (h : RLookAt w lo fb kb x) : ∃ cs, w.heap[fb]? = some (.cells cs 93 (0, 0)) := by obtain ⟨_, _, _, _, b1, _⟩ := h; exact ⟨_, b1⟩
theorem RLookAt.lt (h : RLookAt w lo fb kb x) : fb < w.heap.size := by obtain ⟨cs, b1⟩ := h.blk; exact (Array.getElem?_eq_some_iff.1 b1).1
theorem RLookAt.f (h : RLookAt w lo fb kb x) (o : Nat) : w.frozen? ⟨fb, o, none⟩ = false := by obtain ⟨cs, b1⟩ := h.blk; exact hfrz b1 o
structure RLC (w : World) (fb : Nat) (x : RL) : Prop where
  c0 : w.cell? ⟨fb, 0, none⟩ = some (.int .i64 x.line)
  c1 : w.cell? ⟨fb, 1, none⟩ = some (.bool x.fails)
  c2 : w.cell? ⟨fb, 2, none⟩ = some (.int .i64 x.ref)
  c3 : w.cell? ⟨fb, 3, none⟩ = some (.int .u64 x.ep)
  c4 : w.cell? ⟨fb, 4, none⟩ = some (.int .i64 x.pt)
  c5 : w.cell? ⟨fb, 5, none⟩ = some (.string x.key)
  c6 : w.cell? ⟨fb, 6, none⟩ = some (.int .i64 x.tries)
  c7 : w.cell? ⟨fb, 7, none⟩ = some (.int .u64 x.t)
  c8 : ∃ a c, w.cell? ⟨fb, 8, none⟩ = some (.slice a x.l.length c)
  c9 : ∃ a c, w.cell? ⟨fb, 9, none⟩ = some (.slice a x.s.length c)
  c10 : ∃ a c, w.cell? ⟨fb, 10, none⟩ = some (.slice a x.was.length c)
  c11 : w.cell? ⟨fb, 11, none⟩ = some (.int .i64 x.at_)
  c12 : w.cell? ⟨fb, 12, none⟩ = some (.int .u64 x.tags)
  c13 : w.cell? ⟨fb, 13, none⟩ = some (.int .i64 x.slot)
theorem RLookAt.c (h : RLookAt w lo fb kb x) : RLC w fb x := by
  obtain ⟨l0, vl, vs, vw, b1, b2, b3, b4, b5⟩ := h
  obtain ⟨a, cap, rfl, -⟩ := b2.read
  obtain ⟨a3, c3, rfl⟩ := own_sl2 b3
  obtain ⟨a4, c4, rfl⟩ := own_sl2 b4
  exact ⟨hcell b1 0, hcell b1 1, hcell b1 2, hcell b1 3, hcell b1 4, hcell b1 5, hcell b1 6, hcell b1 7, ⟨a, cap, hcell b1 8⟩, ⟨a3, c3, hcell b1 9⟩, ⟨a4, c4, hcell b1 10⟩, hcell b1 11, hcell b1 12, hcell b1 13⟩
end
/-- What is told at the end. -/
def RL.got (x : RL) : Int × Int × Int := if x.line = 0 ∧ x.fails = false then (x.ref, x.ep, x.pt) else (0, 0, 0)
set_option maxRecDepth 10000 in
theorem rlgot {w : World} {lo fb kb : Nat} {x : RL} (h : RLookAt w lo fb kb x) : Calls Tryz.prog 98 #[.pointer (some ⟨fb, 0, none⟩)] w fun e w' => e = .returned (.tuple #[.int .i64 x.got.1, .int .u64 x.got.2.1, .int .i64 x.got.2.2]) ∧ Below w.heap.size w w' := by
  have hC := h.c
  have c0 := hC.c0; have c1 := hC.c1; have c2 := hC.c2; have c3 := hC.c3; have c4 := hC.c4
  have hg : x.got = if x.line = 0 ∧ x.fails = false then (x.ref, x.ep, x.pt) else (0, 0, 0) := rfl
  rw [hg]
  clear hg h hC
  by_cases h0 : x.line = 0
  · rw [h0] at c0 ⊢
    cases hb : x.fails
    · rw [hb] at c1
      rw [if_pos ⟨rfl, rfl⟩]
      go_enter Tryz.func98, Tryz.ntmps98
      go_upto_region 3 with (fail)
      have x1 := fun st : ExtW w => st.cell c2
      have x2 := fun st : ExtW w => st.cell c3
      have x3 := fun st : ExtW w => st.cell c4
      refine wp_region_ext (by kernel_rfl) (by kernel_rfl) ?_
      repeat (go_big_quiet_step (fail))
      refine wpQuiet_nil ?_
      rintro W ⟨⟨W2, hW⟩, rfl⟩
      clear x1 x2 x3
      go_wp2
      go_ret3
      exact ⟨rfl, hW⟩
    · rw [hb] at c1
      rw [if_neg (fun c => by cases c.2)]
      go_enter Tryz.func98, Tryz.ntmps98
      go_wp2
      go_ret3
      exact ⟨rfl, Below.refl _ _⟩
  · have d0 : (x.line == 0) = false := beq_eq_false_iff_ne.2 h0
    rw [if_neg (fun c => h0 c.1)]
    go_enter Tryz.func98, Tryz.ntmps98
    go_wp2
    go_ret3
    exact ⟨rfl, Below.refl _ _⟩
set_option maxRecDepth 10000 in
theorem rlnew (key : ByteArray) (n : Int) (w : World) : Calls Tryz.prog 26 #[.string key, .int .i64 n] w fun e w' => ∃ fb, e = .returned (.pointer (some ⟨fb, 0, none⟩)) ∧ RLookAt w' w.heap.size fb fb ⟨1, false, 0, 0, 0, key, n, 0, [], [], [], 0, 0, 0⟩ ∧ Below w.heap.size w w' := by
  have fin : Hid (RLookAt (w.alloc (.cells (RL.cells ⟨1, false, 0, 0, 0, key, n, 0, [], [], [], 0, 0, 0⟩ (.slice none 0 0) (.slice none 0 0) (.slice none 0 0)) 93)) w.heap.size w.heap.size w.heap.size ⟨1, false, 0, 0, 0, key, n, 0, [], [], [], 0, 0, 0⟩) := Lib.hid
    ⟨Nat.le_refl _, _, _, _, heap_alloc_new w _, World.ownsRow_nil _ _ _ _, World.ownsRow_nil _ _ _ _, World.ownsRow_nil _ _ _ _, .inr ⟨rfl, rfl⟩⟩
  go_enter Tryz.func26, Tryz.ntmps26
  go_wp2
  go_ret
  exact ⟨_, rfl, fin.out, below_alloc _ _⟩
end Go.Proofs.YtmakjfeepmiggaaGreat

/-
  Layer 14: the document's Look: next, again.
-/
namespace Go.Proofs.YtmakjfeepmiggaaGreat
open Go.RowKit Go.Maps TagPure
set_option linter.unusedVariables false

/-- The slots with a tag, from one on. -/
def hasL (tags T : Int) : Nat → Nat → List Nat
  | _, 0 => []
  | n, m + 1 => if tg tags n = T then n :: hasL tags T (n + 1) m else hasL tags T (n + 1) m
theorem has_hasL (tags T : Int) : has tags T 4 = hasL tags T 0 4 := by
  simp only [has, hasL]
  by_cases h0 : tg tags 0 = T <;> by_cases h1 : tg tags 1 = T <;> by_cases h2 : tg tags 2 = T <;> by_cases h3 : tg tags 3 = T <;> simp [h0, h1, h2, h3]
/-- The next slot that has the key's tag, from one on; else the next place, or line 5. -/
def RL.nxOf (x : RL) : List Nat → RL
  | n :: _ => { x with slot := n }
  | [] => { x with slot := 4, at_ := x.at_ + 1, line := if x.l.length ≤ x.at_ + 1 then 5 else x.line }
def RL.nx (x : RL) (frm : Nat) : RL := x.nxOf (hasL x.tags (tag01 (hashOf x.key)) frm (4 - frm))
/-- The document's world, and its Look. -/
structure RLB (w0 w W : World) (R : WB) (V : WV) (xr : RS) (fb kb : Nat) (x : RL) : Prop where
  rd : RD w0 W R V xr
  lk : RLookAt W w0.heap.size fb kb x
  fx : Fx rTy false fb w W
section
variable {w0 w W W' : World} {R : WB} {V V' : WV} {xr xr' : RS} {fb kb : Nat} {x y : RL}
theorem rd_setL {b o : Nat} {cs : Array Value} {T : TypeId} (h : RD w0 W R V xr) (hb : W.heap[b]? = some (.cells cs T (0, 0))) (hT : rTy T = false) (hlo : w0.heap.size ≤ b) (v : Value) : RD w0 (W.setCell ⟨b, o, none⟩ v) R V xr :=
  h.fr (set_ty hb o v) (fun X hX => by cases hXT : (X == T); rfl; rw [beq_iff_eq] at hXT; subst hXT; rw [hX] at hT; cases hT) (set_below h.below h.below.size hlo o v)
theorem RLB.below (h : RLB w0 w W R V xr fb kb x) (hb : Below W.heap.size W W') : RLB w0 w W' R V xr fb kb x := ⟨h.rd.keep hb, h.lk.below hb, h.fx.trans ((below_fr hb rTy false).fx fb)⟩
theorem RLB.set (h : RLB w0 w W R V xr fb kb x) (o : Nat) (u : Value) (hl : y.l = x.l) (hs : y.s = x.s) (hw : y.was = x.was) (hc : ∀ vl vs vw, (x.cells vl vs vw).setIfInBounds o u = y.cells vl vs vw) : RLB w0 w (W.setCell ⟨fb, o, none⟩ u) R V xr fb kb y := by
  obtain ⟨cs, b1⟩ := h.lk.blk
  exact ⟨rd_setL h.rd b1 rfl h.lk.low u, h.lk.set o u hl hs hw hc, h.fx.trans (set_fx rTy false W fb o u)⟩
theorem RLB.move (h : RLB w0 w W R V xr fb kb x) (h2 : RD w0 W' R V' xr') (hf : Fr rTy false W W') : RLB w0 w W' R V' xr' fb kb x := ⟨h2, h.lk.fr hf rfl rfl rfl rfl, h.fx.trans (hf.fx fb)⟩
end
set_option maxRecDepth 10000 in
set_option maxHeartbeats 4000000 in
theorem rlnext {w0 w W : World} {R : WB} {V : WV} {xr : RS} {fb kb : Nat} {x : RL} (frm : Nat) (hfr : frm ≤ 4) (h : RLB w0 w W R V xr fb kb x) (hk : x.key.size ≤ 1000000) (ht : 0 ≤ x.tags ∧ x.tags < 18446744073709551616) (hat : x.at_ ≤ 1000) :
    Calls Tryz.prog 165 #[.pointer (some ⟨fb, 0, none⟩), .int .i64 frm] W fun e w' => e = .returned (.tuple #[]) ∧ RLB w0 w w' R V xr fb kb (x.nx frm) := by
  have hhb : 0 ≤ hashOf x.key ∧ hashOf x.key < 18446744073709551616 := hfold_bd _ _
  obtain ⟨T, hT⟩ : ∃ T, T = tag01 (hashOf x.key) := ⟨_, rfl⟩
  have hnx : x.nx frm = x.nxOf (hasL x.tags T frm (4 - frm)) := by rw [hT]; rfl
  have hHS := fun W => rhash_eq x.key hk W
  have hT1 := fun W => rtag01_any (hashOf x.key) hhb.1 hhb.2 W
  rw [← hT] at hT1
  have c5 := h.lk.c.c5
  have HNX := Lib.hid hnx; have HH := Lib.hid h; have HT := Lib.hid ht; have HAT := Lib.hid hat
  clear hnx h hk ht hT hhb hat
  go_enter Tryz.func165, Tryz.ntmps165
  go_wp2_with (first
    | (go_at_call 87; refine (hHS _).mono ?_; intro e w3 hh; obtain ⟨hh1, hh2⟩ := hh; subst hh1; obtain rfl := hh2.symm; clear hHS)
    | (go_at_call 111; refine (hT1 _).mono ?_; intro e w4 hh; obtain ⟨hh1, hh2⟩ := hh; subst hh1; obtain rfl := hh2.symm; clear hT1))
  go_loopw [5] (fun v5 wr => ∃ k : Nat, k ≤ 4 ∧ v5 = .int .i64 k ∧ RLB w0 w wr R V xr fb kb x ∧ hasL x.tags T frm (4 - frm) = hasL x.tags T k (4 - k)) (fun v5 _ => 4 - (intOf v5).toNat)
  case atStart => exact ⟨frm, hfr, rfl, HH.out, rfl⟩
  case round =>
    clear HH c5
    obtain ⟨k, hk, rfl, h, hs⟩ := hrel
    have HS := Lib.hid hs; have HH := Lib.hid h
    clear h hs
    by_cases hlt : k < 4
    · obtain ⟨m, hm⟩ : ∃ m, 4 - k = m + 1 := ⟨4 - k - 1, by omega⟩
      have hlt' : (k : Int) < 4 := by omega
      have htg : tagOf x.tags k = tg x.tags k := by unfold tagOf; rw [if_pos (by omega), Int.toNat_natCast]
      have hTG := fun W => rtag_any x.tags k W HT.out.1 HT.out.2
      rw [htg] at hTG
      have c12 := HH.out.lk.c.c12
      have HM := Lib.hid hm; have HLT := Lib.hid hlt
      obtain ⟨q, hq⟩ : ∃ q, q = (tg x.tags k == T) := ⟨_, rfl⟩
      have hq' : (tg x.tags k == T) = q := hq.symm
      have HQ := Lib.hid hq
      have f13 := HH.out.lk.f 13
      have c13 := HH.out.lk.c.c13
      clear htg hm hlt hk hq
      cases q
      · go_wp2_with (go_at_call 60; refine (hTG _).mono ?_; intro e w2 hh; obtain ⟨hh1, hh2⟩ := hh; subst hh1; obtain rfl := hh2; clear hTG)
        go_roundw
        case measure => have := HLT.out; simp [intOf]; omega
        case rel =>
          refine ⟨k + 1, HLT.out, by have := HLT.out; go_num, HH.out, ?_⟩
          rw [HS.out, HM.out, show 4 - (k + 1) = m from by have := HM.out; omega]
          show (if tg x.tags k = T then k :: hasL x.tags T (k + 1) m else hasL x.tags T (k + 1) m) = _
          rw [if_neg (beq_eq_false_iff_ne.1 HQ.out.symm)]
      · have HE := Lib.hid (HH.out.set (y := { x with slot := (k : Int) }) 13 (.int .i64 k) rfl rfl rfl (fun _ _ _ => rfl))
        go_wp2_with (go_at_call 60; refine (hTG _).mono ?_; intro e w2 hh; obtain ⟨hh1, hh2⟩ := hh; subst hh1; obtain rfl := hh2; clear hTG)
        refine bodyPost_ret (v := .tuple #[]) (by simp [results, Tryz.results165, go_sem]) rfl ⟨rfl, ?_⟩
        have e : x.nx frm = { x with slot := (k : Int) } := by
          rw [HNX.out, HS.out, HM.out]
          show x.nxOf (if tg x.tags k = T then k :: hasL x.tags T (k + 1) m else hasL x.tags T (k + 1) m) = _
          rw [if_pos (beq_iff_eq.1 HQ.out.symm)]
          rfl
        rw [e]
        exact HE.out
    · obtain rfl : k = 4 := by omega
      have c13 := HH.out.lk.c.c13
      have f13 := HH.out.lk.f 13
      have HD := Lib.hid (HH.out.set (y := { x with slot := 4 }) 13 (.int .i64 4) rfl rfl rfl (fun _ _ _ => rfl))
      clear hk hlt HH
      go_upto_region 7 with (fail)
      generalize wr.setCell ⟨fb, 13, none⟩ (.int .i64 4) = w2 at *
      clear c13 f13
      obtain ⟨a1, ha1⟩ : ∃ a1 : Nat, a1 = x.at_ + 1 := ⟨_, rfl⟩
      have e9 : wrap64 ((x.at_ : Int) + 1) = (a1 : Int) := by
        have := HAT.out
        rw [IntWalk.wrap64_in _ (by omega), ha1]; push_cast; rfl
      have c11 := HD.out.lk.c.c11
      have c11 : w2.cell? ⟨fb, 11, none⟩ = some (.int .i64 x.at_) := c11
      have f11 := HD.out.lk.f 11
      have HE := Lib.hid (HD.out.set (y := { x with slot := 4, at_ := a1 }) 11 (.int .i64 a1) rfl rfl rfl (fun _ _ _ => rfl))
      have HA1 := Lib.hid ha1
      clear ha1 HD
      go_upto_region 8 with (fail)
      generalize w2.setCell ⟨fb, 11, none⟩ (.int .i64 a1) = w3 at *
      clear c11 f11 e9
      obtain ⟨al, cl, c8⟩ := HE.out.lk.c.c8
      have c8 : w3.cell? ⟨fb, 8, none⟩ = some (.slice al x.l.length cl) := c8
      have c11 := HE.out.lk.c.c11
      have c11 : w3.cell? ⟨fb, 11, none⟩ = some (.int .i64 a1) := c11
      have y7 := fun st : ExtW w3 => st.cell c8
      have y8 := fun st : ExtW w3 => st.cell c11
      obtain ⟨q, hq⟩ : ∃ q, decide ((x.l.length : Int) ≤ (a1 : Int)) = q := ⟨_, rfl⟩
      have hq2 : (x.l.length ≤ a1) ↔ q = true := by rw [← hq, decide_eq_true_eq]; omega
      have hqn : decide (x.l.length ≤ a1) = q := by
        cases q
        · exact decide_eq_false (fun c => by cases hq2.1 c)
        · exact decide_eq_true (hq2.2 rfl)
      have HQ := Lib.hid hq2
      clear hq2 c8 c11
      have hfin : Hid (x.nx frm = { x with slot := 4, at_ := a1, line := if x.l.length ≤ a1 then 5 else x.line }) := Lib.hid (by
        rw [HNX.out, HS.out, HA1.out]; rfl)
      cases q
      · refine wp_region_ext (by kernel_rfl) (by kernel_rfl) ?_
        repeat (go_big_quiet_step (fail))
        refine wpQuiet_nil ?_
        rintro w4 ⟨⟨W2, hW⟩, rfl⟩
        have HF := Lib.hid (HE.out.below hW)
        clear y7 y8 hW
        go_wp2_with (fail)
        go_end0
        refine ⟨rfl, ?_⟩
        rw [hfin.out, if_neg (fun c => by have := HQ.out.1 c; cases this)]
        exact HF.out
      · refine wp_region_ext (by kernel_rfl) (by kernel_rfl) ?_
        repeat (go_big_quiet_step (fail))
        refine wpQuiet_nil ?_
        rintro w4 ⟨⟨W2, hW⟩, rfl⟩
        have HF := Lib.hid (HE.out.below hW)
        have c0 := HF.out.lk.c.c0
        have c0 : w4.cell? ⟨fb, 0, none⟩ = some (.int .i64 x.line) := c0
        have f0 := HF.out.lk.f 0
        have HG := Lib.hid (HF.out.set (y := { x with slot := 4, at_ := a1, line := 5 }) 0 (.int .i64 5) rfl rfl rfl (fun _ _ _ => rfl))
        clear y7 y8 hW
        go_wp2_with (fail)
        go_end0
        refine ⟨rfl, ?_⟩
        rw [hfin.out, if_pos (HQ.out.2 (by first | rfl | trivial))]
        exact HG.out
end Go.Proofs.YtmakjfeepmiggaaGreat

/-
  Layer 14: the document's Look: again; lines 1 to 3, 5.
-/
namespace Go.Proofs.YtmakjfeepmiggaaGreat
open Go.RowKit Go.Maps TagPure
set_option linter.unusedVariables false

def RL.again (x : RL) : RL := if x.tries ≤ 0 then { x with line := 0, ref := 0, fails := true, ep := 0, pt := 0 } else { x with line := 1, ref := 0, tries := x.tries - 1 }
def ragV (V : WV) (c : Int) (x : RL) : WV := if x.tries ≤ 0 then V else { V with nts := nadd V.nts ⟨c, V.hd, 6, 0, 0, 0, 0, x.tries - 1⟩ }
set_option maxRecDepth 10000 in
set_option maxHeartbeats 2000000 in
theorem rlagain {w0 w W : World} {R : WB} {V : WV} {xr : RS} {fb kb : Nat} {x : RL} (h : RLB w0 w W R V xr fb kb x) (ht : -9223372036854775808 ≤ x.tries ∧ x.tries < 9223372036854775808) (hl : V.nts.length < 1048576) (hs : Nsteps V.nts xr.cnt) :
    Calls Tryz.prog 104 #[.pointer (some ⟨fb, 0, none⟩), .pointer (some ⟨R.wb, 0, none⟩)] W fun e w' => e = .returned (.tuple #[]) ∧ RLB w0 w w' R (ragV V xr.cnt x) xr fb kb x.again := by
  have hC := h.lk.c
  have c0 := hC.c0; have c1 := hC.c1; have c2 := hC.c2; have c3 := hC.c3; have c4 := hC.c4; have c6 := hC.c6
  have f := h.lk.f
  have h2 := (h.set (y := { x with line := 1 }) 0 (.int .i64 1) rfl rfl rfl (fun _ _ _ => rfl)).set (y := { x with line := 1, ref := 0 }) 2 (.int .i64 0) rfl rfl rfl (fun _ _ _ => rfl)
  by_cases hz : x.tries ≤ 0
  · have d0 : decide (x.tries ≤ 0) = true := decide_eq_true hz
    have H3 := Lib.hid ((((h2.set (y := { x with line := 0, ref := 0 }) 0 (.int .i64 0) rfl rfl rfl (fun _ _ _ => rfl)).set (y := { x with line := 0, ref := 0, fails := true }) 1 (.bool true) rfl rfl rfl (fun _ _ _ => rfl)).set (y := { x with line := 0, ref := 0, fails := true, ep := 0 }) 3 (.int .u64 0) rfl rfl rfl (fun _ _ _ => rfl)).set (y := { x with line := 0, ref := 0, fails := true, ep := 0, pt := 0 }) 4 (.int .i64 0) rfl rfl rfl (fun _ _ _ => rfl))
    have e1 : x.again = { x with line := 0, ref := 0, fails := true, ep := 0, pt := 0 } := if_pos hz
    have e2 : ragV V xr.cnt x = V := if_pos hz
    rw [e1, e2]
    clear h ht hl hs hC h2 hz e1 e2
    go_enter Tryz.func104, Tryz.ntmps104
    go_wp2_with fail
    refine bodyPost_ret (v := .tuple #[]) (by simp [results, Tryz.results104, go_sem]) rfl ⟨rfl, ?_⟩
    exact H3.out
  · have d0 : decide (x.tries ≤ 0) = false := decide_eq_false hz
    obtain ⟨t1, ht1⟩ : ∃ t1, t1 = x.tries - 1 := ⟨_, rfl⟩
    have ew : wrap64 (x.tries - 1) = t1 := by rw [ht1]; exact IntWalk.wrap64_in _ (by omega)
    have h3 := h2.set (y := { x with line := 1, ref := 0, tries := t1 }) 6 (.int .i64 t1) rfl rfl rfl (fun _ _ _ => rfl)
    have e1 : x.again = { x with line := 1, ref := 0, tries := t1 } := by rw [ht1]; exact if_neg hz
    have e2 : ragV V xr.cnt x = { V with nts := nadd V.nts ⟨xr.cnt, V.hd, 6, 0, 0, 0, 0, t1⟩ } := by rw [ht1]; exact if_neg hz
    rw [e1, e2]
    have H3 := Lib.hid h3; have HL := Lib.hid hl; have HS := Lib.hid hs
    clear h ht hl hs hC h2 h3 hz e1 e2 ht1
    go_enter Tryz.func104, Tryz.ntmps104
    go_upto_region 8 with (fail)
    generalize ((W.setCell ⟨fb, 0, none⟩ (.int .i64 1)).setCell ⟨fb, 2, none⟩ (.int .i64 0)).setCell ⟨fb, 6, none⟩ (.int .i64 t1) = w3 at *
    clear c0 c1 c2 c3 c4 c6 f d0 ew
    have c6 := H3.out.lk.c.c6
    have c6 : w3.cell? ⟨fb, 6, none⟩ = some (.int .i64 t1) := c6
    have hnt := rnote_any H3.out.rd 6 0 0 0 0 t1 HL.out HS.out
    go_wp2_with (go_at_call 164; refine hnt.mono ?_; intro e w4 hh; obtain ⟨hh1, h4, f4⟩ := hh; subst hh1; have H4 := Lib.hid (H3.out.move h4 f4); clear h4 f4 hnt c6)
    go_end0
    exact ⟨rfl, H4.out⟩
end Go.Proofs.YtmakjfeepmiggaaGreat

/-
  Layer 14: the document's Look: a step of lines 3 and 5.
-/
namespace Go.Proofs.YtmakjfeepmiggaaGreat
open Go.RowKit Go.Maps TagPure
set_option linter.unusedVariables false

/-- Behind line 3. -/
def RL.third (x : RL) (v c : Int) : RL := { x with ep := v, pt := c, at_ := 0, slot := 4, line := 4 }
set_option maxRecDepth 10000 in
set_option maxHeartbeats 4000000 in
theorem rlstep3 {w0 w : World} {R : WB} {V : WV} {xr : RS} {fb kb : Nat} {x : RL} (h : RD w0 w R V xr) (hr : xr.room) (hx : RLookAt w w0.heap.size fb kb x) (h3 : x.line = 3) (v : Int) (hv : v = rlook xr.l 8) :
    Calls Tryz.prog 30 #[.pointer (some ⟨fb, 0, none⟩), .pointer (some ⟨R.wb, 0, none⟩)] w fun e w' => e = .returned (.tuple #[]) ∧ RLB w0 w w' R V (xr.acc 1 8 v) fb kb (x.third v (xr.acc 1 8 v).cnt) := by
  have hB : RLB w0 w w R V xr fb kb x := ⟨h, hx, (below_fr (Below.refl _ _) rTy false).fx fb⟩
  have hld := rwload h hr 8 (by decide)
  rw [← hv] at hld
  have c0 := hx.c.c0
  rw [h3] at c0
  have HB := Lib.hid hB
  clear hB h hr hx h3 hv
  obtain ⟨xr2, hxr⟩ : ∃ xr2, xr2 = xr.acc 1 8 v := ⟨_, rfl⟩
  rw [← hxr] at hld ⊢
  clear hxr
  go_enter Tryz.func30, Tryz.ntmps30
  go_upto_region 16 with (go_at_call 55; refine hld.mono ?_; intro e w2 hh; obtain ⟨hh1, h2, f2⟩ := hh; subst hh1; have HB2 := Lib.hid (HB.out.move h2 f2); have c3 := HB2.out.lk.c.c3; have f3 := HB2.out.lk.f 3; clear h2 f2 hld c0)
  have HB3 := Lib.hid (HB2.out.set (y := { x with ep := v }) 3 (.int .u64 v) rfl rfl rfl (fun _ _ _ => rfl))
  clear c3 f3 HB2
  generalize w2.setCell ⟨fb, 3, none⟩ (.int .u64 v) = w3 at *
  have hst := rwsteps HB3.out.rd
  have hC := HB3.out.lk.c
  have c0 := hC.c0; have c4 := hC.c4; have c11 := hC.c11; have c13 := hC.c13
  have f := HB3.out.lk.f
  have HB4 := Lib.hid ((((HB3.out.set (y := { x with ep := v, pt := xr2.cnt }) 4 (.int .i64 xr2.cnt) rfl rfl rfl (fun _ _ _ => rfl)).set (y := { x with ep := v, pt := xr2.cnt, at_ := 0 }) 11 (.int .i64 ((0 : Nat) : Int)) rfl rfl rfl (fun _ _ _ => rfl)).set (y := { x with ep := v, pt := xr2.cnt, at_ := 0, slot := 4 }) 13 (.int .i64 4) rfl rfl rfl (fun _ _ _ => rfl)).set (y := x.third v xr2.cnt) 0 (.int .i64 4) rfl rfl rfl (fun _ _ _ => rfl))
  clear hC HB3
  go_wp2_with (go_at_call 68; refine hst.mono ?_; intro e w4 hh; obtain ⟨hh1, hh2⟩ := hh; subst hh1; obtain rfl := hh2.symm; clear hst)
  go_end0
  exact ⟨rfl, HB4.out⟩
/-- Behind line 5. -/
def RL.fifth (x : RL) (v : Int) : RL := if v = x.t then { x with line := 6, at_ := 0 } else ({ x with line := 6, at_ := 0 } : RL).again
def rfiV (V : WV) (c : Int) (x : RL) (v : Int) : WV := if v = x.t then V else ragV V c x
abbrev TR5 (fb : Nat) (t : Int) (W : World) : Prop := W.cell? ⟨fb, 7, none⟩ = some (.int .u64 t)
set_option maxRecDepth 10000 in
set_option maxHeartbeats 4000000 in
theorem rlstep5 {w0 w : World} {R : WB} {V : WV} {xr : RS} {fb kb : Nat} {x : RL} (h : RD w0 w R V xr) (hr : xr.room) (hx : RLookAt w w0.heap.size fb kb x) (h5 : x.line = 5) (ht : -9223372036854775808 ≤ x.tries ∧ x.tries < 9223372036854775808) (hl : V.nts.length < 1048576) (hs : Nsteps V.nts xr.cnt) (v : Int) (hv : v = rlook xr.l 2) :
    Calls Tryz.prog 30 #[.pointer (some ⟨fb, 0, none⟩), .pointer (some ⟨R.wb, 0, none⟩)] w fun e w' => e = .returned (.tuple #[]) ∧ RLB w0 w w' R (rfiV V (xr.acc 1 2 v).cnt x v) (xr.acc 1 2 v) fb kb (x.fifth v) := by
  have hB : RLB w0 w w R V xr fb kb x := ⟨h, hx, (below_fr (Below.refl _ _) rTy false).fx fb⟩
  have c0 := hx.c.c0; have c11 := hx.c.c11
  have f := hx.f
  rw [h5] at c0
  have hs2 : Nsteps V.nts (xr.acc 1 2 v).cnt := hs.le (by show (xr.cnt : Int) ≤ xr.cnt + 1; omega)
  have hB2 := (hB.set (y := { x with line := 6 }) 0 (.int .i64 6) rfl rfl rfl (fun _ _ _ => rfl)).set (y := { x with line := 6, at_ := 0 }) 11 (.int .i64 ((0 : Nat) : Int)) rfl rfl rfl (fun _ _ _ => rfl)
  have HB2 := Lib.hid hB2; have HR := Lib.hid hr; have HT := Lib.hid ht; have HL := Lib.hid hl; have HS := Lib.hid hs2; have HV := Lib.hid hv
  clear hB h hr hx h5 hB2 ht hl hs hs2 hv
  obtain ⟨xr2, hxr⟩ : ∃ xr2, xr2 = xr.acc 1 2 v := ⟨_, rfl⟩
  rw [← hxr] at HS ⊢
  have HXR := Lib.hid hxr
  clear hxr
  go_enter Tryz.func30, Tryz.ntmps30
  go_upto_region 25 with (fail)
  change Code.wp _ _ _ _ ((w.setCell ⟨fb, 0, none⟩ (.int .i64 6)).setCell ⟨fb, 11, none⟩ (.int .i64 0))
  have HB2 : Hid (RLB w0 w ((w.setCell ⟨fb, 0, none⟩ (.int .i64 6)).setCell ⟨fb, 11, none⟩ (.int .i64 0)) R V xr fb kb { x with line := 6, at_ := 0 }) := HB2
  generalize (w.setCell ⟨fb, 0, none⟩ (.int .i64 6)).setCell ⟨fb, 11, none⟩ (.int .i64 0) = w3 at *
  clear c0 c11 f
  have HB3 := Lib.hid (HB2.out.below (Below.refl w3.heap.size w3).drew)
  have hld := rwload HB3.out.rd HR.out 2 (by decide)
  rw [← HV.out] at hld
  have t3 : TR5 fb x.t w3.drew := HB3.out.lk.c.c7
  rw [← HXR.out] at hld
  obtain ⟨q, hq⟩ : ∃ q, (v == x.t) = q := ⟨_, rfl⟩
  have HQ := Lib.hid hq
  clear HB2
  go_region_held2 (fun W => TR5 fb x.t W) (assumption) (first
    | (go_at_call 55; refine hld.mono ?_; intro e w4 hh; obtain ⟨hh1, h4, f4⟩ := hh; subst hh1; have HB4 := Lib.hid (HB3.out.move h4 f4); have t4 : TR5 fb x.t w4 := HB4.out.lk.c.c7; clear h4 f4 hld t3))
  have hag := rlagain HB4.out HT.out HL.out HS.out
  cases q
  · go_wp2_with (go_at_call 104; refine hag.mono ?_; intro e w5 hh; obtain ⟨hh1, h5⟩ := hh; subst hh1; have HB5 := Lib.hid h5; clear h5 hag)
    go_end0
    have hne : v ≠ x.t := beq_eq_false_iff_ne.1 HQ.out
    unfold RL.fifth rfiV
    rw [if_neg hne, if_neg hne]
    exact ⟨rfl, HB5.out⟩
  · go_wp2_with fail
    go_end0
    have he : v = x.t := beq_iff_eq.1 HQ.out
    unfold RL.fifth rfiV
    rw [if_pos he, if_pos he]
    exact ⟨rfl, HB4.out⟩
end Go.Proofs.YtmakjfeepmiggaaGreat

/-
  Layer 14: the document's Look: line 4, a place's tags.
-/
namespace Go.Proofs.YtmakjfeepmiggaaGreat
open Go.RowKit Go.Maps TagPure
set_option linter.unusedVariables false

theorem RLookAt.pl {w : World} {lo fb kb : Nat} {x : RL} (h : RLookAt w lo fb kb x) (k : Nat) (hk : k < x.l.length) (p : Int × Int) (hp : x.l[k] = p) : ∃ g cap, w.cell? ⟨fb, 8, none⟩ = some (.slice (some ⟨g, 0, none⟩) x.l.length cap) ∧ w.cell? ⟨g, k * 2, none⟩ = some (.int .i64 p.1) ∧ w.cell? ⟨g, k * 2 + 1, none⟩ = some (.int .i64 p.2) := by
  subst hp
  obtain ⟨_, vl, vs, vw, b1, b2, -⟩ := h
  obtain ⟨a, cap, rfl, -, hc⟩ := b2.read
  obtain ⟨g, rfl, -, h2⟩ := hc (by omega)
  exact ⟨g, cap, hcell b1 8, h2 k hk⟩
/-- Behind the tags of a place. -/
def RL.tag (x : RL) (v : Int) : RL := ({ x with tags := v } : RL).nx 0
set_option maxRecDepth 10000 in
set_option maxHeartbeats 4000000 in
theorem rl4tag {w0 w : World} {R : WB} {V : WV} {xr : RS} {fb kb : Nat} {x : RL} (h : RD w0 w R V xr) (hr : xr.room) (hx : RLookAt w w0.heap.size fb kb x) (hk : x.key.size ≤ 1000000) (hs : x.slot = 4) (hat : x.at_ < x.l.length) (hll : x.l.length ≤ 4) (v : Int) (hv : v = rlook xr.l (tagsA (x.l[x.at_]).1 (x.l[x.at_]).2)) (hvb : 0 ≤ v ∧ v < 18446744073709551616) :
    Calls Tryz.prog 105 #[.pointer (some ⟨fb, 0, none⟩), .pointer (some ⟨R.wb, 0, none⟩)] w fun e w' => e = .returned (.tuple #[]) ∧ RLB w0 w w' R V (xr.acc 1 (tagsA (x.l[x.at_]).1 (x.l[x.at_]).2) v) fb kb (x.tag v) := by
  have hB : RLB w0 w w R V xr fb kb x := ⟨h, hx, (below_fr (Below.refl _ _) rTy false).fx fb⟩
  obtain ⟨p, hp⟩ : ∃ p, p = x.l[x.at_] := ⟨_, rfl⟩
  rw [← hp] at hv ⊢
  obtain ⟨g, cap, d7, q0, q1⟩ := hx.pl x.at_ hat p hp.symm
  have c8 := hx.c.c11
  have c10 := hx.c.c13
  rw [hs] at c10
  obtain ⟨p1, p2⟩ := p
  simp only at hv q0 q1 ⊢
  have hTG := fun W => rtags_any p1 p2 W
  obtain ⟨A, hA⟩ : ∃ A, A = tagsA p1 p2 := ⟨_, rfl⟩
  rw [← hA] at hv hTG ⊢
  have hAw : (Lit.int .u64 A).wf = true := by rw [hA]; exact tagsA_wf _ _
  have hld := fun W (hW : Below w.heap.size w W) => rwload (h.keep hW) hr A hAw
  have HLD := Lib.hid hld; have HV := Lib.hid hv
  have i0 : (0 : Int) ≤ x.at_ := by omega
  have i1 : (x.at_ : Int) < x.l.length := by omega
  have HB := Lib.hid hB; have HK := Lib.hid hk; have HVB := Lib.hid hvb; have HATL := Lib.hid (show x.at_ ≤ 1000 by omega)
  have al : ∀ (o : Obj) {q j : Nat} {u : Value}, w.cell? ⟨q, j, none⟩ = some u → (w.alloc o).cell? ⟨q, j, none⟩ = some u := fun o q j u hu => by rw [World.cell?_alloc_past _ _ _ (World.block_lt_of_cell? _ _ hu)]; exact hu
  have d7' := fun o => al o d7
  have c8' := fun o => al o c8
  have q0' := fun o => al o q0
  have q1' := fun o => al o q1
  have HC10 := Lib.hid c10
  clear hB h hr hx hk hs hat hll hv hvb hp hA hAw hld al c10
  go_enter Tryz.func105, Tryz.ntmps105
  go_upto_region 0 with (fail)
  go_region
  go_upto_region 1 with (fail)
  have n1 : (w.alloc (.cells #[.int .i64 p1, .int .i64 p2] 69)).drew.heap[w.heap.size]? = some (.cells #[.int .i64 p1, .int .i64 p2] 69 (0, 0)) := heap_alloc_new w (.cells #[.int .i64 p1, .int .i64 p2] 69)
  have k1 := (below_alloc w (.cells #[.int .i64 p1, .int .i64 p2] 69)).drew
  have HB2 := Lib.hid (HB.out.below k1); have K1 := Lib.hid k1; have N1 := Lib.hid n1
  clear d7 c8 q0 q1 d7' c8' q0' q1' i0 i1 n1 k1
  generalize (w.alloc (.cells #[.int .i64 p1, .int .i64 p2] 69)).drew = w2 at *
  obtain ⟨nb, hnb⟩ : ∃ nb, nb = w.heap.size := ⟨_, rfl⟩
  rw [← hnb] at N1
  try simp only [← hnb]
  clear hnb
  have c10 : w2.cell? ⟨fb, 13, none⟩ = some (.int .i64 4) := (K1.out.cell (World.block_lt_of_cell? _ _ HC10.out)).trans HC10.out
  have n0 := hcell N1.out 0
  have n1 := hcell N1.out 1
  go_upto_region 3 with (first
    | (go_at_call 56; refine (hTG _).mono ?_; intro e w3 hh; obtain ⟨hh1, b3⟩ := hh; subst hh1; have HB3 := Lib.hid (HB2.out.below b3); have hl3 := HLD.out w3 (K1.out.trans (b3.mono K1.out.size)); rw [← HV.out] at hl3; clear b3 hTG c10 n0 n1 HB2)
    | (go_at_call 55; refine hl3.mono ?_; intro e w4 hh; obtain ⟨hh1, h4, f4⟩ := hh; subst hh1; have HB4 := Lib.hid (HB3.out.move h4 f4); have c9 := HB4.out.lk.c.c12; have f9 := HB4.out.lk.f 12; clear h4 f4 hl3 HB3))
  have HB5 := Lib.hid (HB4.out.set (y := { x with tags := v }) 12 (.int .u64 v) rfl rfl rfl (fun _ _ _ => rfl))
  have hnx := rlnext 0 (by decide) HB5.out HK.out HVB.out HATL.out
  clear c9 f9 HB4
  generalize w4.setCell ⟨fb, 12, none⟩ (.int .u64 v) = w5 at *
  go_wp2_with (go_at_call 165; refine hnx.mono ?_; intro e w6 hh; obtain ⟨hh1, h6⟩ := hh; subst hh1; have HB6 := Lib.hid h6; clear h6 hnx)
  refine bodyPost_ret (v := .tuple #[]) (by simp [results, Tryz.results105, go_sem]) rfl ⟨rfl, HB6.out⟩
end Go.Proofs.YtmakjfeepmiggaaGreat

/-
  Small facts that Finds and Looks share.
-/
namespace Go.Proofs.YtmakjfeepmiggaaGreat
open Go.RowKit Go.Maps TagPure
set_option linter.unusedVariables false

theorem keeps_fx {w w' : World} {b : Nat} (h : Keeps (· = b) w w') (K : TypeId → Bool) (mp : Bool) : Fx K mp b w w' :=
  ⟨h.size, fun k cs T fr hk _ hb => (h.block k (Array.getElem?_eq_some_iff.1 hk).1 hb).trans hk, fun _ k es cl hk hb => (h.block k (Array.getElem?_eq_some_iff.1 hk).1 hb).trans hk⟩
theorem ws_keeps {w0 w w' : World} {B : WB} {V : WV} {s : CS} {b : Nat} {cs : Array Value} {T : TypeId} {fr : Nat × Nat} (h : WS w0 w B V s) (hk : Keeps (· = b) w w') (hb : w.heap[b]? = some (.cells cs T fr)) (hT : wTy T = false) (hlo : w0.heap.size ≤ b) : WS w0 w' B V s :=
  h.fr (keeps_fr hk (fun X => X == T) false (fun k e => ⟨_, _, _, e ▸ hb, by simp⟩)) (fun X hX => by cases hXT : (X == T); rfl; rw [beq_iff_eq] at hXT; subst hXT; rw [hX] at hT; cases hT) (keeps_below hk h.below h.below.size (fun k e => e ▸ hlo))
theorem pln_at {w : World} {base : Nat} {ao : Option Addr} {l : List (Int × Int)} (h : PlN w base (.slice ao l.length l.length) l) : Plc w ao l.length l := by
  obtain ⟨ao2, e, hp⟩ := h.plc
  simp only [Value.slice.injEq, and_true] at e
  rw [e]; exact hp
theorem pair_len (h b : Int) : (pairOf h b).length ≤ 2 := by unfold pairOf; split <;> simp
theorem plist_len (h v : Int) : (plist h v).length ≤ 4 := by
  have h1 := dedup_len (pairOf h (asOld v) ++ pairOf h (asNow v))
  have h2 := pair_len h (asOld v)
  have h3 := pair_len h (asNow v)
  rw [List.length_append] at h1
  unfold plist; omega
theorem key_ne {x y : ByteArray} (h : x ≠ y) : (x.toList == y.toList) = false := by
  rw [← Bool.not_eq_true, beq_iff_eq, ByteArray.toList_eq, ByteArray.toList_eq]
  exact fun c => h (ByteArray.ext (Array.toList_inj.mp c))
theorem has_lt (x t : Int) (k n : Nat) (h : n ∈ has x t k) : n < k := by
  induction k with
  | zero => cases h
  | succ k ih =>
    unfold has at h
    rcases List.mem_append.1 h with h | h
    · have := ih h; omega
    · split at h
      · rw [List.mem_singleton] at h; omega
      · cases h
end Go.Proofs.YtmakjfeepmiggaaGreat

/-
  Layer 14: the document's Look: line 4, a slot's item.
-/
namespace Go.Proofs.YtmakjfeepmiggaaGreat
open Go.RowKit Go.Maps TagPure
set_option linter.unusedVariables false

/-- The document's: is there an item of a number, with a key? -/
theorem rkey14 {w0 w : World} {B : WB} {V : WV} {x : RS} (h : RD w0 w B V x) (hl : V.its.length ≤ 1048576) (r : Int) (key : ByteArray) : Calls Tryz.prog 90 #[.pointer (some ⟨B.wb, 0, none⟩), .int .i64 r, .string key] w fun e w' => e = .returned (.bool ((atOf V.its r).2 && decide ((atOf V.its r).1.key = key))) ∧ Below w.heap.size w w' := by
  have c1 : w.cell? ⟨B.wb, 1, none⟩ = some (.pointer (some ⟨B.ib, 0, none⟩)) := (h.cell 1).trans (val_at B V h.tkl).2.1
  obtain ⟨S9, hS9⟩ := h.ar
  have hat := rat_any _ _ _ S9 r w hS9 hl
  obtain ⟨it, hit⟩ : ∃ it, it = (atOf V.its r).1 := ⟨_, rfl⟩
  obtain ⟨is, his⟩ : ∃ is, is = (atOf V.its r).2 := ⟨_, rfl⟩
  rw [← hit, ← his] at hat ⊢
  clear h hl hit his
  cases is
  · go_enter Tryz.func90, Tryz.ntmps90
    go_wp2_with (go_at_call 76; refine hat.mono ?_; intro e w2 hh; obtain ⟨hh1, b2⟩ := hh; subst hh1; have B2 := Lib.hid (b2.trans ((below_alloc w2 (.cells it.cells.toArray 80)).mono b2.size)); clear b2 hat c1)
    go_ret
    exact ⟨rfl, B2.out⟩
  · by_cases hk : it.key = key
    · rw [decide_eq_true hk]
      have kn : (it.key.toList == key.toList) = true := by rw [hk]; simp
      clear hk
      go_enter Tryz.func90, Tryz.ntmps90
      go_wp2_with (go_at_call 76; refine hat.mono ?_; intro e w2 hh; obtain ⟨hh1, b2⟩ := hh; subst hh1; have B2 := Lib.hid (b2.trans ((below_alloc w2 (.cells it.cells.toArray 80)).mono b2.size)); clear b2 hat c1)
      go_ret
      exact ⟨rfl, B2.out⟩
    · rw [decide_eq_false hk]
      have kn := key_ne hk
      clear hk
      go_enter Tryz.func90, Tryz.ntmps90
      go_wp2_with (go_at_call 76; refine hat.mono ?_; intro e w2 hh; obtain ⟨hh1, b2⟩ := hh; subst hh1; have B2 := Lib.hid (b2.trans ((below_alloc w2 (.cells it.cells.toArray 80)).mono b2.size)); clear b2 hat c1)
      go_ret
      exact ⟨rfl, B2.out⟩
/-- Behind the item of a slot. -/
def RL.itm (its : List Itm) (x : RL) (n : Nat) (v : Int) : RL := if ((atOf its (wrap64 v)).2 && decide ((atOf its (wrap64 v)).1.key = x.key)) = true then { x with ref := wrap64 v, line := 5 } else x.nx (n + 1)
abbrev TR4 (fb nb : Nat) (n p1 p2 : Int) (W : World) : Prop := W.cell? ⟨fb, 13, none⟩ = some (.int .i64 n) ∧ W.cell? ⟨nb, 0, none⟩ = some (.int .i64 p1) ∧ W.cell? ⟨nb, 1, none⟩ = some (.int .i64 p2)
set_option maxRecDepth 10000 in
set_option maxHeartbeats 4000000 in
theorem rl4itm {w0 w : World} {R : WB} {V : WV} {xr : RS} {fb kb : Nat} {x : RL} (h : RD w0 w R V xr) (hr : xr.room) (hl : V.its.length ≤ 1048576) (hx : RLookAt w w0.heap.size fb kb x) (hk : x.key.size ≤ 1000000) (htb : 0 ≤ x.tags ∧ x.tags < 18446744073709551616) (n : Nat) (hn : n < 4) (hs : x.slot = n) (hat : x.at_ < x.l.length) (hll : x.l.length ≤ 4) (v : Int) (hv : v = rlook xr.l (itemA (x.l[x.at_]).1 (x.l[x.at_]).2 n)) :
    Calls Tryz.prog 105 #[.pointer (some ⟨fb, 0, none⟩), .pointer (some ⟨R.wb, 0, none⟩)] w fun e w' => e = .returned (.tuple #[]) ∧ RLB w0 w w' R V (xr.acc 1 (itemA (x.l[x.at_]).1 (x.l[x.at_]).2 n) v) fb kb (RL.itm V.its x n v) := by
  have hB : RLB w0 w w R V xr fb kb x := ⟨h, hx, (below_fr (Below.refl _ _) rTy false).fx fb⟩
  obtain ⟨p, hp⟩ : ∃ p, p = x.l[x.at_] := ⟨_, rfl⟩
  rw [← hp] at hv ⊢
  obtain ⟨g, cap, d7, q0, q1⟩ := hx.pl x.at_ hat p hp.symm
  have c8 := hx.c.c11
  have c10 := hx.c.c13
  rw [hs] at c10
  obtain ⟨p1, p2⟩ := p
  simp only at hv q0 q1 ⊢
  have hnw : (Lit.int .i64 (n : Int)).wf = true := by simp [Lit.wf, IntKind.min, IntKind.max, IntKind.bits, IntKind.signed]; omega
  have hIT := fun W => ritem_any p1 p2 n hnw W
  obtain ⟨A, hA⟩ : ∃ A, A = itemA p1 p2 n := ⟨_, rfl⟩
  rw [← hA] at hv hIT ⊢
  have hAw : (Lit.int .u64 A).wf = true := by rw [hA]; exact itemA_wf _ _ _
  have hld := fun W (hW : Below w.heap.size w W) => rwload (h.keep hW) hr A hAw
  have HLD := Lib.hid hld; have HV := Lib.hid hv
  have i0 : (0 : Int) ≤ x.at_ := by omega
  have i1 : (x.at_ : Int) < x.l.length := by omega
  have n4 : ((n : Int) == 4) = false := beq_eq_false_iff_ne.2 (by omega)
  have HB := Lib.hid hB; have HK := Lib.hid hk; have HTB := Lib.hid htb; have HATL := Lib.hid (show x.at_ ≤ 1000 by omega); have HNN := Lib.hid hn; have HL := Lib.hid hl; have HSS := Lib.hid hs
  have al : ∀ (o : Obj) {q j : Nat} {u : Value}, w.cell? ⟨q, j, none⟩ = some u → (w.alloc o).cell? ⟨q, j, none⟩ = some u := fun o q j u hu => by rw [World.cell?_alloc_past _ _ _ (World.block_lt_of_cell? _ _ hu)]; exact hu
  have d7' := fun o => al o d7
  have c8' := fun o => al o c8
  have q0' := fun o => al o q0
  have q1' := fun o => al o q1
  have HC10 := Lib.hid c10
  have HN4 := Lib.hid n4
  clear hB h hr hx hk htb hs hat hll hv hp hA hAw hld al c10 hn hnw hl n4
  go_enter Tryz.func105, Tryz.ntmps105
  go_upto_region 0 with (fail)
  go_region
  go_upto_region 1 with (fail)
  have n1 : (w.alloc (.cells #[.int .i64 p1, .int .i64 p2] 69)).drew.heap[w.heap.size]? = some (.cells #[.int .i64 p1, .int .i64 p2] 69 (0, 0)) := heap_alloc_new w (.cells #[.int .i64 p1, .int .i64 p2] 69)
  have k1 := (below_alloc w (.cells #[.int .i64 p1, .int .i64 p2] 69)).drew
  have HB2 := Lib.hid (HB.out.below k1); have K1 := Lib.hid k1; have N1 := Lib.hid n1
  clear d7 c8 q0 q1 d7' c8' q0' q1' i0 i1 n1 k1
  generalize (w.alloc (.cells #[.int .i64 p1, .int .i64 p2] 69)).drew = w2 at *
  obtain ⟨nb, hnb⟩ : ∃ nb, nb = w.heap.size := ⟨_, rfl⟩
  rw [← hnb] at N1
  try simp only [← hnb]
  clear hnb
  have c10 : w2.cell? ⟨fb, 13, none⟩ = some (.int .i64 n) := (K1.out.cell (World.block_lt_of_cell? _ _ HC10.out)).trans HC10.out
  have n4 := HN4.out
  go_upto_region 4 with (fail)
  have kd : Below w2.heap.size w2 w2.drew := (Below.refl _ _).drew
  have HB3 := Lib.hid (HB2.out.below kd); have K3 := Lib.hid (K1.out.trans (kd.mono K1.out.size))
  have t3 : TR4 fb nb n p1 p2 w2.drew := ⟨(kd.cell (World.block_lt_of_cell? _ _ c10)).trans c10, hcell ((kd.block _ (Array.getElem?_eq_some_iff.1 N1.out).1).trans N1.out) 0, hcell ((kd.block _ (Array.getElem?_eq_some_iff.1 N1.out).1).trans N1.out) 1⟩
  have N3 := Lib.hid ((kd.block _ (Array.getElem?_eq_some_iff.1 N1.out).1).trans N1.out)
  clear c10 n4 kd HB2
  go_region_held2 (fun W => TR4 fb nb n p1 p2 W) (assumption) (first
    | (go_at_call 89; refine (hIT _).mono ?_; intro e w4 hh; obtain ⟨hh1, b4⟩ := hh; subst hh1; have HB4 := Lib.hid (HB3.out.below b4); have hl4 := HLD.out w4 (K3.out.trans (b4.mono K3.out.size)); rw [← HV.out] at hl4; have N4 := Lib.hid ((b4.block _ (Array.getElem?_eq_some_iff.1 N3.out).1).trans N3.out); have t4 : TR4 fb nb n p1 p2 w4 := ⟨(b4.cell (World.block_lt_of_cell? _ _ t3.1)).trans t3.1, (b4.cell (World.block_lt_of_cell? _ _ t3.2.1)).trans t3.2.1, (b4.cell (World.block_lt_of_cell? _ _ t3.2.2)).trans t3.2.2⟩; clear b4 hIT t3)
    | (go_at_call 55; refine hl4.mono ?_; intro e w5 hh; obtain ⟨hh1, h5, f5⟩ := hh; subst hh1; have HB5 := Lib.hid (HB4.out.move h5 f5); have N5 := f5.cells _ _ _ _ N4.out rfl; have c13 := HB5.out.lk.c.c13; rw [HSS.out] at c13; have t5 : TR4 fb nb n p1 p2 w5 := ⟨c13, hcell N5 0, hcell N5 1⟩; clear h5 f5 hl4 t4 N5 c13))
  have c5 := HB5.out.lk.c.c5
  have hky := rkey14 HB5.out.rd HL.out (wrap64 v) x.key
  obtain ⟨d, hd⟩ : ∃ d, d = ((atOf V.its (wrap64 v)).2 && decide ((atOf V.its (wrap64 v)).1.key = x.key)) := ⟨_, rfl⟩
  rw [← hd] at hky
  have hfin : RL.itm V.its x n v = if d = true then { x with ref := wrap64 v, line := 5 } else x.nx (n + 1) := by unfold RL.itm; rw [← hd]
  have HFIN := Lib.hid hfin
  obtain ⟨rw_, hrw⟩ : ∃ rw_, rw_ = wrap64 v := ⟨_, rfl⟩
  have HRW := Lib.hid hrw
  rw [← hrw] at hky
  have ei : IntKind.i64.wrap v = rw_ := (IntWalk.i64_left _).trans hrw.symm
  rw [ei]
  clear hd hfin hrw ei
  cases d
  · have hnx := fun W (hW : RLB w0 w W R V (xr.acc 1 A v) fb kb x) => rlnext (n + 1) HNN.out hW HK.out HTB.out HATL.out
    have hsum : wrap64 ((n : Int) + 1) = ((n + 1 : Nat) : Int) := by
      have := HNN.out
      rw [IntWalk.wrap64_in _ (by omega)]; push_cast; rfl
    have hnn : (n : Int) < 4 := by have := HNN.out; omega
    go_upto_region 8 with (go_at_call 90; refine hky.mono ?_; intro e w6 hh; obtain ⟨hh1, b6⟩ := hh; subst hh1; have HB6 := Lib.hid (HB5.out.below b6); have c10 := HB6.out.lk.c.c13; clear b6 hky c5)
    rw [HSS.out] at c10
    go_wp2_with (go_at_call 165; refine (hnx _ HB6.out).mono ?_; intro e w7 hh; obtain ⟨hh1, h7⟩ := hh; subst hh1; have HB7 := Lib.hid h7; clear h7 hnx c10)
    go_end0
    refine ⟨rfl, ?_⟩
    rw [HFIN.out, if_neg (by simp)]
    exact HB7.out
  · go_upto_region 6 with (go_at_call 90; refine hky.mono ?_; intro e w6 hh; obtain ⟨hh1, b6⟩ := hh; subst hh1; have HB6 := Lib.hid (HB5.out.below b6); clear b6 hky c5)
    have hC := HB6.out.lk.c
    have e0 := hC.c0; have e2 := hC.c2
    have ef := HB6.out.lk.f
    have HB7 := Lib.hid ((HB6.out.set (y := { x with ref := rw_ }) 2 (.int .i64 rw_) rfl rfl rfl (fun _ _ _ => rfl)).set (y := { x with ref := rw_, line := 5 }) 0 (.int .i64 5) rfl rfl rfl (fun _ _ _ => rfl))
    clear hC
    go_wp2_with (fail)
    refine bodyPost_ret (v := .tuple #[]) (by simp [results, Tryz.results105, go_sem]) rfl ⟨rfl, ?_⟩
    rw [HFIN.out, ← HRW.out]
    exact HB7.out
end Go.Proofs.YtmakjfeepmiggaaGreat

/-
  Layer 14: the document's Look: a step at line 4; one that is over.
-/
namespace Go.Proofs.YtmakjfeepmiggaaGreat
open Go.RowKit Go.Maps TagPure
set_option linter.unusedVariables false

set_option maxRecDepth 10000 in
/-- A step at line 4 is 'fourth'. -/
theorem rlstep4 {w : World} {lo fb kb : Nat} {x : RL} (hx : RLookAt w lo fb kb x) (h4 : x.line = 4) (u : Value) (Q : Ending → World → Prop) (hc : Calls Tryz.prog 105 #[.pointer (some ⟨fb, 0, none⟩), u] w fun e w' => e = .returned (.tuple #[]) ∧ Q e w') :
    Calls Tryz.prog 30 #[.pointer (some ⟨fb, 0, none⟩), u] w fun e w' => e = .returned (.tuple #[]) ∧ Q e w' := by
  have c0 := hx.c.c0
  rw [h4] at c0
  clear hx h4
  go_enter Tryz.func30, Tryz.ntmps30
  go_wp2_with (go_at_call 105; refine hc.mono ?_; intro e w2 hh; obtain ⟨hh1, h2⟩ := hh; subst hh1; have H2 := Lib.hid h2; clear h2 hc)
  go_end0
  exact ⟨rfl, H2.out⟩
set_option maxRecDepth 10000 in
theorem rlstep0 {w : World} {lo fb kb : Nat} {x : RL} (hx : RLookAt w lo fb kb x) (h0 : x.line = 0) (u : Value) : Calls Tryz.prog 30 #[.pointer (some ⟨fb, 0, none⟩), u] w fun e w' => e = .returned (.tuple #[]) ∧ w' = w := by
  have c0 := hx.c.c0
  rw [h0] at c0
  clear hx h0
  go_enter Tryz.func30, Tryz.ntmps30
  go_wp2
  go_end0
  exact ⟨rfl, rfl⟩
end Go.Proofs.YtmakjfeepmiggaaGreat

/-
  Layer 14: the document's Look: a step at line 6.
-/
namespace Go.Proofs.YtmakjfeepmiggaaGreat
open Go.RowKit Go.Maps TagPure
set_option linter.unusedVariables false

theorem cu_at (l : List Int) (i : Nat) (hi : i < l.length) : (cu l)[i]? = some (.int .u64 (l[i])) := by unfold cu; rw [List.getElem?_map, List.getElem?_eq_getElem hi]; rfl
theorem own_row1 {w : World} {base e n : Nat} {v : Value} {xs : List Value} (h : w.ownsRow base e 1 v n xs) (hn : 0 < n) : ∃ g cap cur, v = .slice (some ⟨g, 0, none⟩) n cap ∧ w.heap[g]? = some (.cells cur e (0, 0)) ∧ ∀ i, i < n → cur[i]? = xs[i]? := by
  obtain ⟨h1, ⟨rfl, h0⟩ | ⟨g, cap, cur, rfl, hb, hg, hn', hm, hs, ht⟩⟩ := h
  · omega
  · refine ⟨g, cap, cur, rfl, hg, fun i hi => ?_⟩
    rw [← ht, List.getElem?_take, if_pos (by omega)]
    simp
/-- The cells that line 6 reads. -/
def TB6 (fb g g2 k : Nat) (vs vw : Value) (a o : Int) (W : World) : Prop := ∃ cs ca cw : Array Value, (W.heap[fb]? = some (.cells cs 93 (0, 0)) ∧ cs[9]? = some vs ∧ cs[10]? = some vw ∧ cs[11]? = some (.int .i64 k)) ∧ (W.heap[g]? = some (.cells ca 39 (0, 0)) ∧ ca[k]? = some (.int .u64 a)) ∧ W.heap[g2]? = some (.cells cw 38 (0, 0)) ∧ cw[k]? = some (.int .u64 o)
abbrev TR6 (fb g g2 k : Nat) (vs vw : Value) (a o : Int) (W : World) : Prop := W.cell? ⟨fb, 9, none⟩ = some vs ∧ W.cell? ⟨fb, 10, none⟩ = some vw ∧ W.cell? ⟨fb, 11, none⟩ = some (.int .i64 k) ∧ W.cell? ⟨g, k, none⟩ = some (.int .u64 a) ∧ W.cell? ⟨g2, k, none⟩ = some (.int .u64 o)
theorem TB6.r {fb g g2 k : Nat} {vs vw : Value} {a o : Int} {W : World} (h : TB6 fb g g2 k vs vw a o W) : TR6 fb g g2 k vs vw a o W := by
  obtain ⟨cs, ca, cw, ⟨h1, h2, h3, h4⟩, ⟨h5, h6⟩, h7, h8⟩ := h
  exact ⟨(hcell h1 9).trans h2, (hcell h1 10).trans h3, (hcell h1 11).trans h4, (hcell h5 k).trans h6, (hcell h7 k).trans h8⟩
theorem TB6.fr {fb g g2 k : Nat} {vs vw : Value} {a o : Int} {W W' : World} (h : TB6 fb g g2 k vs vw a o W) (hf : Fr rTy false W W') : TB6 fb g g2 k vs vw a o W' := by
  obtain ⟨cs, ca, cw, ⟨h1, h2⟩, ⟨h5, h6⟩, h7, h8⟩ := h
  exact ⟨cs, ca, cw, ⟨hf.cells _ _ _ _ h1 rfl, h2⟩, ⟨hf.cells _ _ _ _ h5 rfl, h6⟩, hf.cells _ _ _ _ h7 rfl, h8⟩
theorem RLookAt.sw {w : World} {lo fb kb : Nat} {x : RL} (h : RLookAt w lo fb kb x) (hs : x.at_ < x.s.length) (hw : x.at_ < x.was.length) : ∃ g c g2 c2, TB6 fb g g2 x.at_ (.slice (some ⟨g, 0, none⟩) x.s.length c) (.slice (some ⟨g2, 0, none⟩) x.was.length c2) x.s[x.at_] x.was[x.at_] w := by
  obtain ⟨_, vl, vs, vw, b1, b2, b3, b4, -⟩ := h
  obtain ⟨g, c, ca, rfl, hg, hga⟩ := own_row1 b3 (by omega)
  obtain ⟨g2, c2, cw, rfl, hg2, hgw⟩ := own_row1 b4 (by omega)
  exact ⟨g, c, g2, c2, _, ca, cw, ⟨b1, rfl, rfl, rfl⟩, ⟨hg, (hga _ hs).trans (cu_at _ _ hs)⟩, hg2, (hgw _ hw).trans (cu_at _ _ hw)⟩
/-- Behind line 6. -/
def RL.sixth (x : RL) (o v : Int) : RL := if v = o then (if x.at_ + 1 = x.s.length then { x with at_ := x.at_ + 1, line := 0 } else { x with at_ := x.at_ + 1 }) else x.again
def rsxV (V : WV) (c : Int) (x : RL) (o v : Int) : WV := if v = o then V else ragV V c x
set_option maxRecDepth 10000 in
set_option maxHeartbeats 4000000 in
theorem rlstep6 {w0 w : World} {R : WB} {V : WV} {xr : RS} {fb kb : Nat} {x : RL} (h : RD w0 w R V xr) (hr : xr.room) (hx : RLookAt w w0.heap.size fb kb x) (h6 : x.line = 6) (ht : -9223372036854775808 ≤ x.tries ∧ x.tries < 9223372036854775808) (hl : V.nts.length < 1048576) (hs : Nsteps V.nts xr.cnt) (hk : x.at_ < x.s.length) (hkw : x.at_ < x.was.length) (hk4 : x.s.length ≤ 1000) (a o : Int) (ha : x.s[x.at_] = a) (hoo : x.was[x.at_] = o) (haw : (Lit.int .u64 a).wf = true) (v : Int) (hv : v = rlook xr.l a) :
    Calls Tryz.prog 30 #[.pointer (some ⟨fb, 0, none⟩), .pointer (some ⟨R.wb, 0, none⟩)] w fun e w' => e = .returned (.tuple #[]) ∧ RLB w0 w w' R (rsxV V (xr.acc 1 a v).cnt x o v) (xr.acc 1 a v) fb kb (x.sixth o v) := by
  have hB : RLB w0 w w R V xr fb kb x := ⟨h, hx, (below_fr (Below.refl _ _) rTy false).fx fb⟩
  have c0 := hx.c.c0
  rw [h6] at c0
  have hs2 : Nsteps V.nts (xr.acc 1 a v).cnt := hs.le (by show (xr.cnt : Int) ≤ xr.cnt + 1; omega)
  have hB3 := hB.below (Below.refl w.heap.size w).drew
  obtain ⟨g, c, g2, c2, tb⟩ := hB3.lk.sw hk hkw
  rw [ha, hoo] at tb
  have t3 : TR6 fb g g2 x.at_ (.slice (some ⟨g, 0, none⟩) x.s.length c) (.slice (some ⟨g2, 0, none⟩) x.was.length c2) a o w.drew := tb.r
  have hld := rwload hB3.rd hr a haw
  rw [← hv] at hld
  have i1 : (x.at_ : Int) < x.s.length := by omega
  have i2 : (x.at_ : Int) < x.was.length := by omega
  have i0 : (0 : Int) ≤ x.at_ := by omega
  obtain ⟨q, hq⟩ : ∃ q, (v == o) = q := ⟨_, rfl⟩
  have HB3 := Lib.hid hB3; have HT := Lib.hid ht; have HL := Lib.hid hl; have HS := Lib.hid hs2; have HTB := Lib.hid tb; have HQ := Lib.hid hq; have HKS := Lib.hid hk; have HK4 := Lib.hid hk4
  clear hB h hr hx h6 ht hl hs hs2 hB3 hv haw hk hkw hk4 tb ha hoo
  obtain ⟨xr2, hxr⟩ : ∃ xr2, xr2 = xr.acc 1 a v := ⟨_, rfl⟩
  rw [← hxr] at HS hld ⊢
  clear hxr
  go_enter Tryz.func30, Tryz.ntmps30
  go_upto_region 28 with (fail)
  clear c0
  go_region_held2 (fun W => TR6 fb g g2 x.at_ (.slice (some ⟨g, 0, none⟩) x.s.length c) (.slice (some ⟨g2, 0, none⟩) x.was.length c2) a o W) (assumption) (first
    | (go_at_call 55; refine hld.mono ?_; intro e w4 hh; obtain ⟨hh1, h4, f4⟩ := hh; subst hh1; have HB4 := Lib.hid (HB3.out.move h4 f4); have t4 : TR6 fb g g2 x.at_ (.slice (some ⟨g, 0, none⟩) x.s.length c) (.slice (some ⟨g2, 0, none⟩) x.was.length c2) a o w4 := (HTB.out.fr f4).r; clear h4 f4 hld t3))
  cases q
  · have hag := rlagain HB4.out HT.out HL.out HS.out
    go_wp2_with (go_at_call 104; refine hag.mono ?_; intro e w5 hh; obtain ⟨hh1, h5⟩ := hh; subst hh1; have HB5 := Lib.hid h5; clear h5 hag)
    refine bodyPost_ret (v := .tuple #[]) (by simp [results, Tryz.results30, go_sem]) rfl ⟨rfl, ?_⟩
    have hne : v ≠ o := beq_eq_false_iff_ne.1 HQ.out
    unfold RL.sixth rsxV
    rw [if_neg hne, if_neg hne]
    exact HB5.out
  · have he : Hid (v = o) := Lib.hid (beq_iff_eq.1 HQ.out)
    obtain ⟨a1, ha1⟩ : ∃ a1 : Nat, a1 = x.at_ + 1 := ⟨_, rfl⟩
    have e9 : wrap64 ((x.at_ : Int) + 1) = (a1 : Int) := by
      have := HK4.out; have := HKS.out
      rw [IntWalk.wrap64_in _ (by omega), ha1]; push_cast; rfl
    have c11 := HB4.out.lk.c.c11
    have f11 := HB4.out.lk.f 11
    have HE := Lib.hid (HB4.out.set (y := { x with at_ := a1 }) 11 (.int .i64 a1) rfl rfl rfl (fun _ _ _ => rfl))
    have HA1 := Lib.hid ha1
    clear ha1 HB4 t4 i0 i1 i2
    go_upto_region 31 with (fail)
    generalize w4.setCell ⟨fb, 11, none⟩ (.int .i64 a1) = w5 at *
    clear c11 f11 e9
    obtain ⟨al, cl, c9⟩ := HE.out.lk.c.c9
    have c9 : w5.cell? ⟨fb, 9, none⟩ = some (.slice al x.s.length cl) := c9
    have c11 := HE.out.lk.c.c11
    have c11 : w5.cell? ⟨fb, 11, none⟩ = some (.int .i64 a1) := c11
    have y9 := fun st : ExtW w5 => st.cell c9
    have y11 := fun st : ExtW w5 => st.cell c11
    obtain ⟨d, hd⟩ : ∃ d, ((a1 : Int) == (x.s.length : Int)) = d := ⟨_, rfl⟩
    have hd2 : (a1 = x.s.length) ↔ d = true := by rw [← hd, beq_iff_eq]; omega
    have HD := Lib.hid hd2
    have hfin : Hid (x.sixth o v = if a1 = x.s.length then { x with at_ := a1, line := 0 } else { x with at_ := a1 }) := Lib.hid (by
      unfold RL.sixth; rw [if_pos he.out, HA1.out])
    have hfv : Hid (rsxV V xr2.cnt x o v = V) := Lib.hid (by unfold rsxV; rw [if_pos he.out])
    clear hd2 c9 c11
    cases d
    · refine wp_region_ext (by kernel_rfl) (by kernel_rfl) ?_
      repeat (go_big_quiet_step (fail))
      refine wpQuiet_nil ?_
      rintro w6 ⟨⟨W2, hW⟩, rfl⟩
      have HF := Lib.hid (HE.out.below hW)
      clear y9 y11 hW
      go_wp2_with (fail)
      go_end0
      refine ⟨rfl, ?_⟩
      rw [hfin.out, hfv.out, if_neg (fun c => by have := HD.out.1 c; cases this)]
      exact HF.out
    · refine wp_region_ext (by kernel_rfl) (by kernel_rfl) ?_
      repeat (go_big_quiet_step (fail))
      refine wpQuiet_nil ?_
      rintro w6 ⟨⟨W2, hW⟩, rfl⟩
      have HF := Lib.hid (HE.out.below hW)
      have c0 := HF.out.lk.c.c0
      have c0 : w6.cell? ⟨fb, 0, none⟩ = some (.int .i64 x.line) := c0
      have f0 := HF.out.lk.f 0
      have HG := Lib.hid (HF.out.set (y := { x with at_ := a1, line := 0 }) 0 (.int .i64 0) rfl rfl rfl (fun _ _ _ => rfl))
      clear y9 y11 hW
      go_wp2_with (fail)
      go_end0
      refine ⟨rfl, ?_⟩
      rw [hfin.out, hfv.out, if_pos (HD.out.2 (by first | rfl | trivial))]
      exact HG.out
end Go.Proofs.YtmakjfeepmiggaaGreat
