/-
  Texts of this prover, merged: Hash, PlacesFn, RefExact, Tag, TagHas, Find, FindGen, FindTab, FindTags, FindItem, FindStep, FindRun, Mix.
-/
import Derived.Test.YtomllmlieeaaiaaGreatP1
import Derived.Test.YtomllmlieeaaiaaGreatLib
import Derived.Test.YtomllmlieeaaiaaGreatFront
import Derived.Laws.EntriesVeiled
import Derived.Laws.AppendOwnNone
import Derived.Deep.DeepCutAuto
import Derived.Deep.QuietTactic
import Derived.BigQuiet
import Derived.Deep.RegionLawGrows
import Derived.Deep.RegionHeld2
import Derived.Deep.CutBlock
import Derived.Deep.MidRow
import Derived.Great.BuildSlice
import Derived.Deep.WholeRow
/-
  Hashes, tags, buckets of the program.
-/
namespace Go.Proofs.YtomllmlieeaaiaaGreat
open Go.RowKit
set_option linter.unusedVariables false

def hstep (s c : Int) : Int := IntKind.u64.wrap (bits .xor .u64 s c * 1099511628211)
theorem hstep_bd (s c : Int) : 0 ≤ hstep s c ∧ hstep s c < 18446744073709551616 := u64_bd _
def hbyte (key : ByteArray) (k : Nat) : Int := if h : k < key.size then (key[k].toNat : Int) else 0
def hfold (key : ByteArray) : Nat → Int
  | 0 => 14695981039346656037
  | k + 1 => hstep (hfold key k) (hbyte key k)
def hashOf (key : ByteArray) : Int := hfold key key.size
theorem hfold_bd (key : ByteArray) (k : Nat) : 0 ≤ hfold key k ∧ hfold key k < 18446744073709551616 := by
  cases k with
  | zero => exact ⟨by show (0 : Int) ≤ 14695981039346656037; decide, by show (14695981039346656037 : Int) < 18446744073709551616; decide⟩
  | succ k => exact hstep_bd _ _
theorem sumadd (p : Nat) (s c : Int) (hc : 0 ≤ c ∧ c < 256) (w : World) (h : w.heap[p]? = some (.cells #[.int .u64 s] 276 (0, 0))) : Calls Tryz.prog 150 #[.pointer (some ⟨p, 0, none⟩), .int .u8 c] w fun e w' => e = .returned (.tuple #[]) ∧ w'.heap[p]? = some (.cells #[.int .u64 (hstep s c)] 276 (0, 0)) ∧ Keeps (· = p) w w' := by
  have c0 := hcell h 0
  have f0 := hfrz h 0
  have k1 : IntKind.u64.wrap c = c := by rw [IntKind.wrap_u64]; omega
  have s1 := setCell_same h 0 (.int .u64 (hstep s c))
  have s2 := setCell_keeps w p 0 (.int .u64 (hstep s c))
  clear h hc
  go_enter Tryz.func150, Tryz.ntmps150
  go_wp2
  go_end0
  exact ⟨rfl, s1, s2⟩
theorem each_any (key : ByteArray) (hk : key.size ≤ 1000000) (p : Nat) (w : World) (h : w.heap[p]? = some (.cells #[.int .u64 14695981039346656037] 276 (0, 0))) : Calls Tryz.prog 149 #[.string key, .func (.func 150) #[.pointer (some ⟨p, 0, none⟩)] #[]] w fun e w' => e = .returned (.tuple #[]) ∧ w'.heap[p]? = some (.cells #[.int .u64 (hashOf key)] 276 (0, 0)) ∧ Keeps (· = p) w w' := by
  go_enter Tryz.func149, Tryz.ntmps149
  go_wp2
  go_loopw [7] (fun i wr => ∃ (k : Nat), k ≤ key.size ∧ i = .int .i64 k ∧ wr.heap[p]? = some (.cells #[.int .u64 (hfold key k)] 276 (0, 0)) ∧ Keeps (· = p) w wr) (fun i _ => key.size - (intOf i).toNat)
  case atStart => exact ⟨0, by omega, rfl, h, below_keeps (Below.refl _ _) _⟩
  case round =>
    obtain ⟨k, hk2, rfl, hz, hK⟩ := hrel
    by_cases hlt : k < key.size
    · have hlt' : (k : Int) < key.size := by omega
      have hby : hbyte key k = (key[k].toNat : Int) := by unfold hbyte; rw [dif_pos hlt]
      have hbb : 0 ≤ (key[k].toNat : Int) ∧ (key[k].toNat : Int) < 256 := by have := UInt8.toNat_lt key[k]; omega
      have hadd := sumadd p (hfold key k) (key[k].toNat : Int) hbb wr hz
      have HB := Lib.hid hby; have HK := Lib.hid hK
      clear hby hbb hz hK h
      go_wp2_with (go_at_call 150; refine hadd.mono ?_; intro e w2 hh; obtain ⟨hh1, h2, k2⟩ := hh; subst hh1; have H2 := Lib.hid h2; have K2 := Lib.hid k2; clear h2 k2 hadd)
      go_roundw
      case rel => exact ⟨k + 1, by omega, by go_num, by show _ = some (Obj.cells #[.int .u64 (hstep (hfold key k) (hbyte key k))] _ _); rw [HB.out]; exact H2.out, HK.out.again K2.out⟩
      case measure => simp [intOf]; omega
    · obtain rfl : k = key.size := by omega
      have HZ := Lib.hid hz; have HK := Lib.hid hK
      clear hz hK h
      go_wp2
      go_end0
      exact ⟨rfl, HZ.out, HK.out⟩
theorem hash_any (key : ByteArray) (hk : key.size ≤ 1000000) (w : World) : Calls Tryz.prog 56 #[.string key] w fun e w' => e = .returned (.int .u64 (hashOf key)) ∧ Below w.heap.size w w' := by
  have hz := heap_alloc_new w (.cells #[.int .u64 14695981039346656037] 276)
  have hb := below_alloc w (.cells #[.int .u64 14695981039346656037] 276)
  have he := each_any key hk w.heap.size _ hz
  have HB := Lib.hid hb
  clear hz hb
  go_enter Tryz.func56, Tryz.ntmps56
  go_wp2_with (go_at_call 149; refine he.mono ?_; intro e w2 hh; obtain ⟨hh1, h2, k2⟩ := hh; subst hh1; have c0 := hcell h2 0; have K2 := Lib.hid k2; clear h2 k2 he)
  go_ret
  exact ⟨rfl, keeps_below K2.out HB.out HB.out.size (fun k e => by omega)⟩
theorem tag_fn (x : Int) (h0 : 0 ≤ x) (h1 : x < 18446744073709551616) (w : World) : Calls Tryz.prog 109 #[.int .u64 x] w fun e w' => e = .returned (.int .i64 (tag01 x)) ∧ w' = w := by
  obtain ⟨q, hq⟩ : ∃ q, q = x / 72057594037927936 := ⟨_, rfl⟩
  have e3 : wrap64 (x / 72057594037927936) = x / 72057594037927936 := IntWalk.wrap64_in _ (by omega)
  by_cases hz : q < 1
  · have ht : Hid (tag01 x = 1) := by show tag01 x = 1; unfold tag01; rw [← hq, if_pos (by omega)]
    have e1 : x / 72057594037927936 < 1 := by omega
    have e2 : decide (x / 72057594037927936 < 1) = true := decide_eq_true e1
    clear hz hq
    go_enter Tryz.func109, Tryz.ntmps109
    go_wp2
    all_goals go_ret
    all_goals exact ⟨ret_i64 (by first | exact ht.out.symm | (rw [ht.out]; omega)), rfl⟩
  · have ht : Hid (tag01 x = x / 72057594037927936) := by show tag01 x = _; unfold tag01; rw [if_neg (by omega)]
    have e1 : ¬ x / 72057594037927936 < 1 := by omega
    have e2 : decide (x / 72057594037927936 < 1) = false := decide_eq_false e1
    clear hq hz
    go_enter Tryz.func109, Tryz.ntmps109
    go_wp2
    all_goals go_ret
    all_goals exact ⟨ret_i64 (by first | exact ht.out.symm | (rw [ht.out]; omega)), rfl⟩
/-- A hash's bucket. -/
def bk (h b : Int) : Int := h % tsize b
theorem tsize_pos {b : Int} (hb : 1 ≤ b ∧ b ≤ 12) : 2 ≤ tsize b ∧ tsize b ≤ 4096 := by
  rcases twelve hb with rfl | rfl | rfl | rfl | rfl | rfl | rfl | rfl | rfl | rfl | rfl | rfl <;> decide
theorem bk_bd (h b : Int) (hb : 1 ≤ b ∧ b ≤ 12) : 0 ≤ bk h b ∧ bk h b < tsize b := by
  have := tsize_pos hb
  unfold bk; exact ⟨Int.emod_nonneg _ (by omega), Int.emod_lt_of_pos _ (by omega)⟩
theorem bucket_fn (x b : Int) (h0 : 0 ≤ x) (h1 : x < 18446744073709551616) (hb : 1 ≤ b ∧ b ≤ 12) (w : World) : Calls Tryz.prog 134 #[.int .u64 x, .int .i64 b] w fun e w' => e = .returned (.int .i64 (bk x b)) ∧ w' = w := by
  have hs := fun w => size_any b w
  have hp := tsize_pos hb
  have hbd := bk_bd x b hb
  have hm : bits .and .u64 x (tsize b - 1) = bk x b := by
    unfold bk; rw [tsize_in hb]
    rcases twelve hb with rfl | rfl | rfl | rfl | rfl | rfl | rfl | rfl | rfl | rfl | rfl | rfl
    all_goals (first
      | exact mask_u64 x 1 1 rfl (by decide) h0 h1 | exact mask_u64 x 3 2 rfl (by decide) h0 h1 | exact mask_u64 x 7 3 rfl (by decide) h0 h1 | exact mask_u64 x 15 4 rfl (by decide) h0 h1 | exact mask_u64 x 31 5 rfl (by decide) h0 h1 | exact mask_u64 x 63 6 rfl (by decide) h0 h1 | exact mask_u64 x 127 7 rfl (by decide) h0 h1 | exact mask_u64 x 255 8 rfl (by decide) h0 h1 | exact mask_u64 x 511 9 rfl (by decide) h0 h1 | exact mask_u64 x 1023 10 rfl (by decide) h0 h1 | exact mask_u64 x 2047 11 rfl (by decide) h0 h1 | exact mask_u64 x 4095 12 rfl (by decide) h0 h1)
  generalize bk x b = B at *
  generalize tsize b = S at *
  have e0 : decide (0 < S) = true := decide_eq_true (by omega)
  obtain ⟨S1, hS1⟩ : ∃ S1, S1 = S - 1 := ⟨_, rfl⟩
  rw [← hS1] at hm
  have e1 : wrap64 (S - 1) = S1 := by rw [hS1]; exact IntWalk.wrap64_in _ (by omega)
  have e2 : IntKind.u64.wrap S1 = S1 := by rw [IntKind.wrap_u64]; omega
  have e3 : wrap64 B = B := IntWalk.wrap64_in _ (by omega)
  clear hS1 hbd hp hb
  go_enter Tryz.func134, Tryz.ntmps134
  go_wp2_with (go_at_call 81; refine (hs _).mono ?_; rintro e w1 ⟨rfl, rfl⟩)
  go_ret
  exact ⟨ret_i64 e3, rfl⟩
theorem bucket_no (x : Int) (w : World) : Calls Tryz.prog 134 #[.int .u64 x, .int .i64 0] w fun e w' => e = .returned (.int .i64 (-1)) ∧ w' = w := by
  have hs := fun w => size_any 0 w
  rw [show tsize 0 = 0 by decide] at hs
  go_enter Tryz.func134, Tryz.ntmps134
  go_wp2_with (go_at_call 81; refine (hs _).mono ?_; rintro e w1 ⟨rfl, rfl⟩)
  go_ret
  exact ⟨rfl, rfl⟩
/-- The other bucket of a tag. -/
def oth (k t b : Int) : Int := bits .xor .i64 k (bits .and .i64 (t * 1540483477) (tsize b - 1))
theorem tag01_bd (x : Int) (h0 : 0 ≤ x) (h1 : x < 18446744073709551616) : 1 ≤ tag01 x ∧ tag01 x ≤ 255 := by
  unfold tag01; split <;> omega
theorem other_fn (k t b : Int) (hb : 1 ≤ b ∧ b ≤ 12) (hk : 0 ≤ k ∧ k < tsize b) (ht : 1 ≤ t ∧ t ≤ 255) (w : World) : Calls Tryz.prog 97 #[.int .i64 k, .int .i64 t, .int .i64 b] w fun e w' => e = .returned (.int .i64 (oth k t b)) ∧ w' = w := by
  have hs := fun w => size_any b w
  have hp := tsize_pos hb
  unfold oth
  generalize tsize b = S at *
  have e0 : decide (k < 0) = false := decide_eq_false (by omega)
  have e1 : decide (S ≤ k) = false := decide_eq_false (by omega)
  have e2 : decide (t < 1) = false := decide_eq_false (by omega)
  have e3 : decide (255 < t) = false := decide_eq_false (by omega)
  obtain ⟨S1, hS1⟩ : ∃ S1, S1 = S - 1 := ⟨_, rfl⟩
  have e4 : wrap64 (S - 1) = S1 := by rw [hS1]; exact IntWalk.wrap64_in _ (by omega)
  obtain ⟨t1, ht1⟩ : ∃ t1, t1 = t * 1540483477 := ⟨_, rfl⟩
  have e5 : wrap64 (t * 1540483477) = t1 := by rw [ht1]; exact IntWalk.wrap64_in _ (by omega)
  rw [← hS1, ← ht1]
  clear hS1 ht1 hp hb hk ht
  go_enter Tryz.func97, Tryz.ntmps97
  go_wp2_with (go_at_call 81; refine (hs _).mono ?_; rintro e w1 ⟨rfl, rfl⟩)
  go_ret
  exact ⟨rfl, rfl⟩
end Go.Proofs.YtomllmlieeaaiaaGreat

/-
  Places of a hash: the program's.
-/
namespace Go.Proofs.YtomllmlieeaaiaaGreat
open Go.RowKit
set_option linter.unusedVariables false

/-- Each once. -/
def dedup (l : List (Int × Int)) : List (Int × Int) := l.foldl (fun out p => if p ∈ out then out else out ++ [p]) []
theorem dedup_take {l : List (Int × Int)} {k : Nat} (h : k < l.length) : dedup (l.take (k + 1)) = if l[k] ∈ dedup (l.take k) then dedup (l.take k) else dedup (l.take k) ++ [l[k]] := by
  unfold dedup; rw [List.take_add_one, List.getElem?_eq_getElem h, List.foldl_append]; rfl
theorem dedup_len (l : List (Int × Int)) : (dedup l).length ≤ l.length := by
  have key : ∀ (l o : List (Int × Int)), (l.foldl (fun out p => if p ∈ out then out else out ++ [p]) o).length ≤ o.length + l.length := by
    intro l
    induction l with
    | nil => intro o; simp
    | cons p l ih =>
      intro o
      rw [List.foldl_cons]
      split
      · have := ih o; simp only [List.length_cons]; omega
      · have := ih (o ++ [p]); simp only [List.length_cons, List.length_append, List.length_nil] at this ⊢; omega
  have := key l []
  unfold dedup; simp only [List.length_nil, Nat.zero_add] at this; exact this
theorem info_plcf : (Tryz.prog.info? 69).map (fun i => (i.zero, i.size, i.bytes)) = some (some (.agg #[.int .i64 0, .int .i64 0]), 2, 16) := by kernel_rfl
theorem eql_place (a b x y : Int) (W : World) : (binOp .eql 69 (.agg #[.int .i64 a, .int .i64 b]) (.agg #[.int .i64 x, .int .i64 y])).run Tryz.prog W = .ok (.bool (a == x && b == y)) W := by
  cases h1 : a == x <;> cases h2 : b == y <;> go_simp
theorem neq_place (a b x y : Int) (W : World) : (binOp .neq 69 (.agg #[.int .i64 a, .int .i64 b]) (.agg #[.int .i64 x, .int .i64 y])).run Tryz.prog W = .ok (.bool (!(a == x && b == y))) W := by
  cases h1 : a == x <;> cases h2 : b == y <;> go_simp
theorem once1 (a b x y : Int) (pb : Nat) (w : World) (h : w.heap[pb]? = some (.cells #[.int .i64 x, .int .i64 y] 69 (0, 0))) : Calls Tryz.prog 206 #[.agg #[.int .i64 a, .int .i64 b], .pointer (some ⟨pb, 0, none⟩)] w fun e w' => e = .returned (.bool (a == x && b == y)) ∧ Below w.heap.size w w' := by
  have hb := below_alloc w (.cells #[.int .i64 a, .int .i64 b] 69)
  have hz := heap_alloc_new w (.cells #[.int .i64 a, .int .i64 b] 69)
  have h2 := (hb.block _ (Array.getElem?_eq_some_iff.1 h).1).trans h
  have c0 := hcell hz 0
  have c1 := hcell hz 1
  have d0 := hcell h2 0
  have d1 := hcell h2 1
  have he := fun W => eql_place a b x y W
  have HB := Lib.hid hb
  clear h h2 hz hb
  go_enter Tryz.func206, Tryz.ntmps206
  go_upto_region 1 with (fail)
  change Code.wp _ _ _ _ (w.alloc (.cells #[.int .i64 a, .int .i64 b] 69))
  generalize w.alloc (.cells #[.int .i64 a, .int .i64 b] 69) = w1 at *
  go_wp2
  go_ret
  exact ⟨rfl, HB.out⟩
set_option maxHeartbeats 1000000 in
theorem index_places (l : List (Int × Int)) (ao : Option Addr) (cap : Nat) (x y : Int) (pb : Nat) (w : World) (hl : Plc w ao cap l) (h : w.heap[pb]? = some (.cells #[.int .i64 x, .int .i64 y] 69 (0, 0))) :
    Calls Tryz.prog 250 #[.slice ao l.length cap, .func (.func 206) #[] #[.pointer (some ⟨pb, 0, none⟩)]] w fun e w' => (∃ i, e = .returned (.int .i64 i) ∧ decide (0 ≤ i) = decide ((x, y) ∈ l)) ∧ Below w.heap.size w w' := by
  have hml : l.length ≤ maxLen := Nat.le_trans hl.le hl.most
  unfold maxLen at hml
  have HL := Lib.hid hl; have HP := Lib.hid h
  clear hl h
  go_enter Tryz.func250, Tryz.ntmps250
  go_wp2
  go_loopw [8] (fun i wr => ∃ (k : Nat), k ≤ l.length ∧ i = .int .i64 k ∧ Below w.heap.size w wr ∧ (x, y) ∉ l.take k) (fun i _ => l.length - (intOf i).toNat)
  case atStart => exact ⟨0, by omega, rfl, Below.refl _ _, by simp⟩
  case round =>
    obtain ⟨k, hk, rfl, hB, hno⟩ := hrel
    by_cases hlt : k < l.length
    · have hlt' : (k : Int) < l.length := by omega
      obtain ⟨b, off, a0, b0, rfl, hlk, g0, g1⟩ := (HL.out.below hB).at k hlt
      have hlk' : l[k] = (a0, b0) := by rw [List.getElem?_eq_getElem hlt] at hlk; exact Option.some.inj hlk
      clear hlk
      have hz := (hB.block _ (Array.getElem?_eq_some_iff.1 HP.out).1).trans HP.out
      have ho := once1 a0 b0 x y pb wr hz
      have hstep : (x, y) ∈ l.take (k + 1) ↔ ((x, y) ∈ l.take k ∨ (x, y) = l[k]) := by
        rw [List.take_add_one, List.getElem?_eq_getElem hlt, List.mem_append]
        simp only [Option.toList_some, List.mem_singleton]
      obtain ⟨d, hd⟩ : ∃ d, d = (a0 == x && b0 == y) := ⟨_, rfl⟩
      have hde : d = true ↔ l[k] = (x, y) := by rw [hd, hlk', Bool.and_eq_true, beq_iff_eq, beq_iff_eq, Prod.mk.injEq]
      rw [← hd] at ho
      have hmem : l[k] ∈ l := List.getElem_mem hlt
      have HD := Lib.hid hde; have HST := Lib.hid hstep; have HNO := Lib.hid hno; have HB := Lib.hid hB; have HME := Lib.hid hmem
      clear hd hde hstep hno hB hz hmem hlk'
      cases d
      all_goals go_wp2_with (go_at_call 206; refine ho.mono ?_; intro e w2 hh; obtain ⟨hh1, b2⟩ := hh; subst hh1; have B2 := Lib.hid (HB.out.trans (b2.mono HB.out.size)); clear b2 ho)
      · go_roundw
        case rel => exact ⟨k + 1, by omega, by go_num, B2.out, fun c => by
          rcases HST.out.1 c with c | c
          · exact HNO.out c
          · have := HD.out.2 c.symm; cases this⟩
        case measure => simp [intOf]; omega
      · go_ret
        refine ⟨⟨k, rfl, ?_⟩, B2.out⟩
        have h1 := HD.out.1 (by first | rfl | trivial)
        have h2 := HME.out
        rw [h1] at h2
        rw [decide_eq_true h2]
        exact decide_eq_true (by omega)
    · obtain rfl : k = l.length := by omega
      rw [List.take_length] at hno
      have HNO := Lib.hid hno; have HB := Lib.hid hB
      clear hno hB
      go_wp2
      go_ret
      exact ⟨⟨-1, rfl, by rw [decide_eq_false HNO.out]; rfl⟩, HB.out⟩
theorem contains_places (l : List (Int × Int)) (ao : Option Addr) (cap : Nat) (x y : Int) (pb : Nat) (w : World) (hl : Plc w ao cap l) (h : w.heap[pb]? = some (.cells #[.int .i64 x, .int .i64 y] 69 (0, 0))) :
    Calls Tryz.prog 205 #[.slice ao l.length cap, .func (.func 206) #[] #[.pointer (some ⟨pb, 0, none⟩)]] w fun e w' => e = .returned (.bool (decide ((x, y) ∈ l))) ∧ Below w.heap.size w w' := by
  have hi := index_places l ao cap x y pb w hl h
  clear hl h
  go_enter Tryz.func205, Tryz.ntmps205
  go_wp2_with (go_at_call 250; refine hi.mono ?_; intro e w2 hh; obtain ⟨⟨i, hh1, hd⟩, b2⟩ := hh; subst hh1; have HB := Lib.hid b2; clear b2 hi)
  go_ret
  first
    | exact ⟨rfl, HB.out⟩
    | exact ⟨conf_b hd, HB.out⟩
/-- A list of places that the call made, without room. -/
def PlN (w : World) (base : Nat) (v : Value) (l : List (Int × Int)) : Prop :=
  (v = .slice none 0 0 ∧ l = []) ∨ ∃ g cur, v = .slice (some ⟨g, 0, none⟩) l.length l.length ∧ base ≤ g ∧ w.heap[g]? = some (.cells cur 69 (0, 0)) ∧ l.length ≤ maxLen ∧ cur.toList.take (l.length * 2) = flatP l
theorem clip_places (v : Value) (base : Nat) (l : List (Int × Int)) (w : World) (h : w.ownsRow base 69 2 v l.length (flatP l)) :
    Calls Tryz.prog 207 #[v] w fun e w' => ∃ v', e = .returned v' ∧ PlN w' base v' l ∧ w' = w := by
  obtain ⟨h1, ⟨rfl, h0⟩ | ⟨g, cap, cur, rfl, hb, hg, hn, hm, hs, ht⟩⟩ := h
  · have : l = [] := by cases l with | nil => rfl | cons x r => simp at h0
    subst this
    clear h1 h0
    go_enter Tryz.func207, Tryz.ntmps207
    go_wp2
    go_ret
    exact ⟨_, rfl, .inl ⟨rfl, rfl⟩, rfl⟩
  · have hm2 := Nat.le_trans hn hm
    unfold maxLen at hm hm2
    have HT := Lib.hid ht; have HG := Lib.hid hg
    clear ht hg hs h1
    go_enter Tryz.func207, Tryz.ntmps207
    go_wp2
    go_ret
    exact ⟨_, rfl, .inr ⟨g, cur, rfl, hb, HG.out, by unfold maxLen; omega, HT.out⟩, rfl⟩
theorem PlN.below {w w' : World} {base : Nat} {v : Value} {l : List (Int × Int)} (h : PlN w base v l) (hb : Below w.heap.size w w') : PlN w' base v l := by
  rcases h with h | ⟨g, cur, h1, h2, h3, h4⟩
  · exact .inl h
  · exact .inr ⟨g, cur, h1, h2, (hb.block _ (Array.getElem?_eq_some_iff.1 h3).1).trans h3, h4⟩
theorem PlN.plc {w : World} {base : Nat} {v : Value} {l : List (Int × Int)} (h : PlN w base v l) : ∃ ao, v = .slice ao l.length l.length ∧ Plc w ao l.length l := by
  rcases h with ⟨rfl, rfl⟩ | ⟨g, cur, rfl, h1, h2, h3, h4⟩
  · exact ⟨none, rfl, Nat.le_refl _, Nat.zero_le _, fun _ => rfl, .inl rfl⟩
  · refine ⟨_, rfl, Nat.le_refl _, h3, fun h => (by cases h), .inr ⟨g, 0, rfl, fun i hi => ?_⟩⟩
    obtain ⟨f1, f2⟩ := flatP_at l i hi
    rw [← h4, List.getElem?_take, if_pos (by omega), Array.getElem?_toList] at f1 f2
    rw [hcell h2, hcell h2, Nat.zero_add]
    exact ⟨f1, f2⟩
theorem own_plc {w : World} {base : Nat} {v : Value} {l : List (Int × Int)} (h : w.ownsRow base 69 2 v l.length (flatP l)) : ∃ ao cap, v = .slice ao l.length cap ∧ Plc w ao cap l := by
  obtain ⟨h1, ⟨rfl, h0⟩ | ⟨g, cap, cur, rfl, hb, hg, hn, hm, hs, ht⟩⟩ := h
  · have : l = [] := by cases l with | nil => rfl | cons x r => simp at h0
    subst this
    exact ⟨none, 0, rfl, Nat.le_refl _, Nat.zero_le _, fun _ => rfl, .inl rfl⟩
  · refine ⟨_, cap, rfl, hn, hm, fun h => (by cases h), .inr ⟨g, 0, rfl, fun i hi => ?_⟩⟩
    obtain ⟨f1, f2⟩ := flatP_at l i hi
    rw [← ht, List.getElem?_take, if_pos (by omega), Array.getElem?_toList] at f1 f2
    rw [hcell hg, hcell hg, Nat.zero_add]
    exact ⟨f1, f2⟩
set_option maxRecDepth 10000 in
set_option maxHeartbeats 2000000 in
theorem once_any (l : List (Int × Int)) (ao : Option Addr) (cap : Nat) (w : World) (hl : Plc w ao cap l) (hn : l.length ≤ 1000) :
    Calls Tryz.prog 147 #[.slice ao l.length cap] w fun e w' => ∃ v, e = .returned v ∧ PlN w' w.heap.size v (dedup l) ∧ Below w.heap.size w w' := by
  obtain ⟨i0, hi0, hz0, hz1, hz2⟩ := info_parts info_plcf
  have HI := Lib.hid hi0; have HZ0 := Lib.hid hz0; have HZ1 := Lib.hid hz1; have HZ2 := Lib.hid hz2
  have HL := Lib.hid hl
  clear hl hi0 hz0 hz1 hz2
  go_enter Tryz.func147, Tryz.ntmps147
  go_wp2
  go_loopw [2, 7] (fun v i wr => ∃ (k : Nat), k ≤ l.length ∧ i = .int .i64 k ∧ wr.ownsRow w.heap.size 69 2 v (dedup (l.take k)).length (flatP (dedup (l.take k))) ∧ Below w.heap.size w wr) (fun _ i _ => l.length - (intOf i).toNat)
  case atStart => exact ⟨0, by omega, rfl, World.ownsRow_nil _ _ _ _, Below.refl _ _⟩
  case round =>
    obtain ⟨k, hk, rfl, hown, hB⟩ := hrel
    by_cases hlt : k < l.length
    · have hlt' : (k : Int) < l.length := by omega
      obtain ⟨b, off, a0, b0, rfl, hlk, g0, g1⟩ := (HL.out.below hB).at k hlt
      have hlk' : l[k] = (a0, b0) := by rw [List.getElem?_eq_getElem hlt] at hlk; exact Option.some.inj hlk
      have hdt := dedup_take hlt
      rw [hlk'] at hdt
      have hdl : (dedup (l.take k)).length ≤ 1000 := by have := dedup_len (l.take k); rw [List.length_take] at this; omega
      have hba := below_alloc wr (.cells #[.int .i64 a0, .int .i64 b0] 69)
      have hza := heap_alloc_new wr (.cells #[.int .i64 a0, .int .i64 b0] 69)
      have hB2 := hB.trans (hba.mono hB.size)
      have hown2 := own_below hown hba
      generalize dedup (l.take k) = D at *
      have HPB := Lib.hid hB.size
      have HDT := Lib.hid hdt; have HB := Lib.hid hB2; have HOWN := Lib.hid hown2; have HZA := Lib.hid hza
      clear hdt hB hown hlk hlk' hba hza hB2 hown2
      go_upto_region 4 with (fail)
      change Code.wp _ _ _ _ (wr.alloc (.cells #[.int .i64 a0, .int .i64 b0] 69))
      generalize wr.alloc (.cells #[.int .i64 a0, .int .i64 b0] 69) = w3 at *
      generalize wr.heap.size = pb at *
      obtain ⟨ao2, cap2, rfl, hpl⟩ := own_plc HOWN.out
      have hc := contains_places D ao2 cap2 a0 b0 pb w3 hpl HZA.out
      clear hpl g0 g1
      obtain ⟨d, hd⟩ : ∃ d, d = decide ((a0, b0) ∈ D) := ⟨_, rfl⟩
      rw [← hd] at hc
      have HD := Lib.hid hd
      clear hd
      cases d
      · go_upto_region 5 with (go_at_call 205; refine hc.mono ?_; intro e w4 hh; obtain ⟨hh1, b4⟩ := hh; subst hh1; have B4 := Lib.hid (HB.out.trans (b4.mono HB.out.size)); have O4 := Lib.hid (own_below HOWN.out b4); have hz4 := (b4.block _ (Array.getElem?_eq_some_iff.1 HZA.out).1).trans HZA.out; have c0 := hcell hz4 0; have c1 := hcell hz4 1; clear b4 hc hz4)
        have hnot : (a0, b0) ∉ D := by have := HD.out; intro c; rw [decide_eq_true c] at this; cases this
        have hdt : dedup (l.take (k + 1)) = D ++ [(a0, b0)] := by rw [HDT.out, if_neg hnot]
        have HDT2 := Lib.hid hdt
        clear hnot hdt
        go_wp2_with (at_builtin; refine wpList_append_own _ rfl _ _ 72 rfl w.heap.size 69 i0 (.agg #[.int .i64 0, .int .i64 0]) 2 16 Tryz.underlying72 HI.out HZ0.out HZ1.out HZ2.out rfl (by decide) _ _ _ rfl (O4.out.alloc _) ⟨w4.heap.size, 0, none⟩ 1 1 [.int .i64 a0, .int .i64 b0] rfl rfl ?c1 ?c2 ?c3 ?c4 ?c5 ?_)
        case c1 => exact World.news_of_block (heap_alloc_new w4 _)
        case c2 => simp [Value.oneCell']
        case c3 => unfold maxLen; omega
        case c4 => omega
        case c5 => have := B4.out.size; simp; omega
        intro v' w5 hown' hgrow _
        have hb5 := (B4.out.alloc B4.out.size (.cells #[.int .i64 a0, .int .i64 b0] 69)).grown hgrow (by simp; have := B4.out.size; omega) (fun j hj => by have := (O4.out.lt j hj).1; omega)
        have HB5 := Lib.hid hb5; have HO5 := Lib.hid hown'
        clear hb5 hown' hgrow c0 c1
        go_wp2
        go_roundw
        case rel => exact ⟨k + 1, by omega, by go_num, by rw [HDT2.out, flatP_snoc, show (D ++ [(a0, b0)]).length = D.length + 1 by simp]; exact HO5.out, HB5.out⟩
        case measure => simp [intOf]; omega
      · have hin : (a0, b0) ∈ D := by have := HD.out; exact of_decide_eq_true this.symm
        have hdt : dedup (l.take (k + 1)) = D := by rw [HDT.out, if_pos hin]
        have HDT2 := Lib.hid hdt
        clear hin hdt
        go_wp2_with (go_at_call 205; refine hc.mono ?_; intro e w4 hh; obtain ⟨hh1, b4⟩ := hh; subst hh1; have B4 := Lib.hid (HB.out.trans (b4.mono HB.out.size)); have O4 := Lib.hid (own_below HOWN.out b4); clear b4 hc)
        go_roundw
        case rel => exact ⟨k + 1, by omega, by go_num, by rw [HDT2.out]; exact O4.out, B4.out⟩
        case measure => simp [intOf]; omega
    · obtain rfl : k = l.length := by omega
      rw [List.take_length] at hown
      have hcl := clip_places _ _ (dedup l) wr hown
      have HB := Lib.hid hB
      clear hown hB
      go_wp2_with (go_at_call 207; refine hcl.mono ?_; intro e w4 hh; obtain ⟨v', hh1, hp, hh2⟩ := hh; subst hh1; obtain rfl := hh2.symm; have HP := Lib.hid hp; clear hp hcl)
      go_ret
      exact ⟨_, rfl, HP.out, HB.out⟩
/-- The places of a hash in a table. -/
def pairOf (h b : Int) : List (Int × Int) := if b = 0 then [] else [(b, bk h b), (b, oth (bk h b) (tag01 h) b)]
theorem flat_four (a b c d : Int) : flatP [(a, b), (c, d)] = [.int .i64 a, .int .i64 b, .int .i64 c, .int .i64 d] := rfl
theorem pair_no (h : Int) (w : World) : Calls Tryz.prog 148 #[.int .u64 h, .int .i64 0] w fun e w' => e = .returned (.slice none 0 0) ∧ w' = w := by
  have hbn := fun w => bucket_no h w
  go_enter Tryz.func148, Tryz.ntmps148
  go_wp2_with (go_at_call 134; refine (hbn _).mono ?_; rintro e w1 ⟨rfl, hw⟩; obtain rfl := hw.symm)
  go_ret
  exact ⟨rfl, rfl⟩
theorem pair_in (h b : Int) (h0 : 0 ≤ h) (h1 : h < 18446744073709551616) (hb : 1 ≤ b ∧ b ≤ 12) (w : World) : Calls Tryz.prog 148 #[.int .u64 h, .int .i64 b] w fun e w' => ∃ g, e = .returned (.slice (some ⟨g, 0, none⟩) 2 2) ∧ w'.heap[g]? = some (.cells #[.int .i64 b, .int .i64 (bk h b), .int .i64 b, .int .i64 (oth (bk h b) (tag01 h) b)] 69 (0, 0)) ∧ w.heap.size ≤ g ∧ Below w.heap.size w w' := by
  have hbf := fun w => bucket_fn h b h0 h1 hb w
  have htf := fun w => tag_fn h h0 h1 w
  have hkb := bk_bd h b hb
  have hof := fun w => other_fn (bk h b) (tag01 h) b hb hkb (tag01_bd h h0 h1) w
  generalize oth (bk h b) (tag01 h) b = O at *
  generalize bk h b = K at *
  generalize tag01 h = T at *
  have e1 : decide (K < 0) = false := decide_eq_false (by omega)
  have HZ := Lib.hid (heap_alloc_new w (.cells #[.int .i64 b, .int .i64 K, .int .i64 b, .int .i64 O] 69))
  have HB := Lib.hid (below_alloc w (.cells #[.int .i64 b, .int .i64 K, .int .i64 b, .int .i64 O] 69))
  clear hkb hb
  go_enter Tryz.func148, Tryz.ntmps148
  go_wp2_with (first
    | (go_at_call 134; refine (hbf _).mono ?_; rintro e w1 ⟨rfl, hw⟩; obtain rfl := hw.symm)
    | (go_at_call 109; refine (htf _).mono ?_; rintro e w1 ⟨rfl, hw⟩; obtain rfl := hw.symm)
    | (go_at_call 97; refine (hof _).mono ?_; rintro e w1 ⟨rfl, hw⟩; obtain rfl := hw.symm))
  go_ret
  exact ⟨_, rfl, HZ.out, Nat.le_refl _, HB.out⟩
/-- The places of a hash in tables. -/
def plist (h v : Int) : List (Int × Int) := dedup (pairOf h (asOld v) ++ pairOf h (asNow v))
theorem as_in12 (v : Int) : (1 ≤ asOld v ∧ asOld v ≤ 12) ∧ (asNow v = 0 ∨ (1 ≤ asNow v ∧ asNow v ≤ 12)) := by
  have key : ∀ b : Int, ¬ tsize b = 0 → 1 ≤ b ∧ b ≤ 12 := fun b h => by
    rcases (show (b < 1 ∨ 12 < b) ∨ (1 ≤ b ∧ b ≤ 12) by omega) with h1 | h1
    · exact absurd (tsize_out h1) h
    · exact h1
  refine ⟨?_, ?_⟩
  · unfold asOld; split
    · omega
    · rename_i h; exact key _ h
  · unfold asNow; split
    · exact .inl rfl
    · rename_i h; exact .inr (key _ (fun c => h (.inr c)))
theorem pairOf_in (h b : Int) (hb : 1 ≤ b ∧ b ≤ 12) : pairOf h b = [(b, bk h b), (b, oth (bk h b) (tag01 h) b)] := by unfold pairOf; rw [if_neg (by omega)]
theorem pair_own {w : World} {base g : Nat} {a b c d : Int} (hz : w.heap[g]? = some (.cells #[.int .i64 a, .int .i64 b, .int .i64 c, .int .i64 d] 69 (0, 0))) (hlo : base ≤ g) : w.ownsRow base 69 2 (.slice (some ⟨g, 0, none⟩) 2 2) 2 (flatP [(a, b), (c, d)]) :=
  ⟨rfl, .inr ⟨g, 2, _, rfl, hlo, hz, Nat.le_refl _, by unfold maxLen; omega, rfl, rfl⟩⟩
theorem pair_plc {w : World} {base g : Nat} {a b c d : Int} (h : w.ownsRow base 69 2 (.slice (some ⟨g, 0, none⟩) 2 2) 2 (flatP [(a, b), (c, d)])) : Plc w (some ⟨g, 0, none⟩) 2 [(a, b), (c, d)] := by
  obtain ⟨ao, cap, hv, hp⟩ := own_plc (l := [(a, b), (c, d)]) h
  simp only [List.length_cons, List.length_nil, Value.slice.injEq] at hv
  obtain ⟨h1, -, h2⟩ := hv
  rw [h1, h2]; exact hp
set_option maxHeartbeats 2000000 in
theorem places_any (h v : Int) (h0 : 0 ≤ h) (h1 : h < 18446744073709551616) (hv : (Lit.int .u64 v).wf = true) (w : World) : Calls Tryz.prog 55 #[.int .u64 h, .int .u64 v] w fun e w' => ∃ pv, e = .returned pv ∧ PlN w' w.heap.size pv (plist h v) ∧ Below w.heap.size w w' := by
  have has := fun w => as_any v hv w
  obtain ⟨hin1, hin2⟩ := as_in12 v
  have hp1 := fun w => pair_in h (asOld v) h0 h1 hin1 w
  have hpo := pairOf_in h (asOld v) hin1
  obtain ⟨i0, hi0, hz0, hz1, hz2⟩ := info_parts info_plcf
  have HI := Lib.hid hi0; have HZ0 := Lib.hid hz0; have HZ1 := Lib.hid hz1; have HZ2 := Lib.hid hz2
  clear hi0 hz0 hz1 hz2
  unfold plist
  rcases hin2 with hz | hin2
  · have hpn : pairOf h (asNow v) = [] := by unfold pairOf; rw [if_pos hz]
    have hp2 := fun w => pair_no h w
    rw [hz] at has
    rw [hpn, hpo, List.append_nil]
    generalize oth (bk h (asOld v)) (tag01 h) (asOld v) = O at *
    generalize bk h (asOld v) = K at *
    generalize asOld v = b at *
    clear hpn hpo hz hin1
    go_enter Tryz.func55, Tryz.ntmps55
    go_upto_region 2 with (go_at_call 143; refine (has _).mono ?_; rintro e w1 ⟨rfl, hw⟩; obtain rfl := hw.symm; clear has)
    go_wp2_with (first
      | (go_at_call 148; with_reducible refine (hp1 _).mono ?_; intro e w2 hh; obtain ⟨g, hh1, hz2, hlo, b2⟩ := hh; subst hh1; have B2 := Lib.hid b2; have HOWN := Lib.hid (pair_own hz2 hlo); clear b2 hz2 hlo hp1)
      | (go_at_call 148; with_reducible refine (hp2 _).mono ?_; intro e w3 hh; obtain ⟨hh1, hh2⟩ := hh; subst hh1; obtain rfl := hh2.symm; clear hp2)
      | (at_builtin; refine wpList_append_own_none rfl _ _ 72 rfl w.heap.size 69 i0 2 Tryz.underlying72 HI.out _ 2 _ rfl HOWN.out rfl ?_; have hpl := pair_plc HOWN.out; have honce := once_any _ _ _ _ hpl (by simp))
      | (go_at_call 147; refine honce.mono ?_; intro e w4 hh; obtain ⟨v4, hh1, hp4, b4⟩ := hh; subst hh1; have HP4 := Lib.hid hp4; have B4 := Lib.hid b4; clear hp4 b4 honce hpl))
    go_ret
    refine ⟨_, rfl, ?_, B2.out.trans (B4.out.mono B2.out.size)⟩
    rcases HP4.out with h | ⟨g, cur, e1, e2, e3⟩
    · exact .inl h
    · exact .inr ⟨g, cur, e1, Nat.le_trans B2.out.size e2, e3⟩
  · have hp2 := fun w => pair_in h (asNow v) h0 h1 hin2 w
    have hpo2 := pairOf_in h (asNow v) hin2
    rw [hpo, hpo2]
    generalize oth (bk h (asOld v)) (tag01 h) (asOld v) = O at *
    generalize bk h (asOld v) = K at *
    generalize asOld v = b at *
    generalize oth (bk h (asNow v)) (tag01 h) (asNow v) = O2 at *
    generalize bk h (asNow v) = K2 at *
    generalize asNow v = b2 at *
    clear hpo hpo2 hin1 hin2
    go_enter Tryz.func55, Tryz.ntmps55
    go_upto_region 2 with (go_at_call 143; refine (has _).mono ?_; rintro e w1 ⟨rfl, hw⟩; obtain rfl := hw.symm; clear has)
    go_wp2_with (first
      | (go_at_call 148; with_reducible refine (hp1 _).mono ?_; intro e w2 hh; obtain ⟨g, hh1, hz2, hlo, k2⟩ := hh; subst hh1; have B2 := Lib.hid k2; have HOWN := Lib.hid (pair_own hz2 hlo); clear k2 hz2 hlo hp1)
      | (go_at_call 148; with_reducible refine (hp2 _).mono ?_; intro e w3 hh; obtain ⟨g2, hh1, hz3, hlo3, k3⟩ := hh; subst hh1; have B3 := Lib.hid (B2.out.trans (k3.mono B2.out.size)); have HOWN3 := Lib.hid (own_below HOWN.out k3); have HZ3 := Lib.hid hz3; clear k3 hz3 hlo3 hp2)
      | (at_builtin; refine wpList_append_own _ rfl _ _ 72 rfl w.heap.size 69 i0 (.agg #[.int .i64 0, .int .i64 0]) 2 16 Tryz.underlying72 HI.out HZ0.out HZ1.out HZ2.out rfl (by decide) _ 2 _ rfl HOWN3.out ⟨g2, 0, none⟩ 2 2 (flatP [(b2, K2), (b2, O2)]) rfl rfl ?c1 ?c2 ?c3 ?c4 ?c5 ?_))
    case c1 =>
      intro j u hj
      have e := hcell HZ3.out j
      rw [show (⟨g2, 0, none⟩ : Addr).add j = ⟨g2, j, none⟩ by first | (simp [Addr.add]; done) | (simp [Addr.add]; omega)]
      rw [e]
      rcases (show j = 0 ∨ j = 1 ∨ j = 2 ∨ j = 3 ∨ 4 ≤ j by omega) with rfl | rfl | rfl | rfl | h4
      · exact hj
      · exact hj
      · exact hj
      · exact hj
      · rw [List.getElem?_eq_none (by rw [flatP_len]; simp; omega)] at hj; cases hj
    case c2 => simp [flatP, Value.oneCell']
    case c3 => unfold maxLen; omega
    case c4 => omega
    case c5 => exact B3.out.size
    intro v' w5 hown' hgrow _
    have hb5 := B3.out.grown hgrow B3.out.size (fun j hj => (HOWN3.out.lt j hj).1)
    have hl4 : flatP [(b, K), (b, O)] ++ flatP [(b2, K2), (b2, O2)] = flatP ([(b, K), (b, O)] ++ [(b2, K2), (b2, O2)]) := rfl
    rw [hl4] at hown'
    obtain ⟨ao, cap, rfl, hpl⟩ := own_plc (l := [(b, K), (b, O)] ++ [(b2, K2), (b2, O2)]) hown'
    have honce := once_any _ _ _ _ hpl (by simp)
    have HB5 := Lib.hid hb5
    clear hb5 hown' hgrow hpl hl4
    go_wp2_with (go_at_call 147; refine honce.mono ?_; intro e w4 hh; obtain ⟨v4, hh1, hp4, b4⟩ := hh; subst hh1; have HP4 := Lib.hid hp4; have B4 := Lib.hid b4; clear hp4 b4 honce)
    go_ret
    refine ⟨_, rfl, ?_, HB5.out.trans (B4.out.mono HB5.out.size)⟩
    rcases HP4.out with h | ⟨g, cur, e1, e2, e3⟩
    · exact .inl h
    · exact .inr ⟨g, cur, e1, Nat.le_trans HB5.out.size e2, e3⟩
/-! ## Places of one table, and of two. -/
theorem dedup_append (l m : List (Int × Int)) (h : ∀ p ∈ l, ∀ q ∈ m, p ≠ q) : dedup (l ++ m) = dedup l ++ dedup m := by
  have mem : ∀ (l o : List (Int × Int)) (p : Int × Int), p ∈ l.foldl (fun out p => if p ∈ out then out else out ++ [p]) o → p ∈ o ∨ p ∈ l := by
    intro l
    induction l with
    | nil => intro o p hp; exact .inl hp
    | cons q l ih =>
      intro o p hp
      rw [List.foldl_cons] at hp
      split at hp
      · rcases ih _ _ hp with h | h
        · exact .inl h
        · exact .inr (by simp [h])
      · rcases ih _ _ hp with h | h
        · rcases List.mem_append.1 h with h | h
          · exact .inl h
          · exact .inr (by simp at h; simp [h])
        · exact .inr (by simp [h])
  have key : ∀ (m a o : List (Int × Int)), (∀ p ∈ a, ∀ q ∈ m, p ≠ q) → m.foldl (fun out p => if p ∈ out then out else out ++ [p]) (a ++ o) = a ++ m.foldl (fun out p => if p ∈ out then out else out ++ [p]) o := by
    intro m
    induction m with
    | nil => intro a o _; rfl
    | cons q m ih =>
      intro a o ha
      have hqa : q ∉ a := fun c => ha q c q (by simp) rfl
      have ha2 : ∀ p ∈ a, ∀ q ∈ m, p ≠ q := fun p hp r hr => ha p hp r (by simp [hr])
      rw [List.foldl_cons, List.foldl_cons]
      by_cases hqo : q ∈ o
      · rw [if_pos (List.mem_append.2 (.inr hqo)), if_pos hqo]; exact ih a o ha2
      · rw [if_neg (fun c => by rcases List.mem_append.1 c with c | c; exact hqa c; exact hqo c), if_neg hqo, List.append_assoc]
        exact ih a (o ++ [q]) ha2
  unfold dedup
  rw [List.foldl_append]
  have := key m (l.foldl (fun out p => if p ∈ out then out else out ++ [p]) []) [] (fun p hp q hq => by
    rcases mem l [] p hp with c | c
    · cases c
    · exact h p c q hq)
  rw [List.append_nil] at this
  exact this
theorem dedup_pair (a b : Int × Int) : dedup [a, b] = if b = a then [a] else [a, b] := by
  unfold dedup
  simp only [List.foldl_cons, List.foldl_nil, List.not_mem_nil, if_false, List.nil_append, List.mem_singleton]
  split <;> simp
end Go.Proofs.YtomllmlieeaaiaaGreat

/-
  The document's hash, bucket and places, told exactly: they are the program's.
-/
namespace Go.Proofs.YtomllmlieeaaiaaGreat
open Go.RowKit
set_option linter.unusedVariables false

theorem rhash_eq (key : ByteArray) (hk : key.size ≤ 1000000) (w : World) : Calls Tryz.prog 113 #[.string key] w fun e w' => e = .returned (.int .u64 (hashOf key)) ∧ w' = w := by
  go_enter Tryz.func113, Tryz.ntmps113
  go_wp2
  go_loop [3, 4] (fun h i => ∃ (k : Nat) (y : Int), k ≤ key.size ∧ i = .int .i64 k ∧ h = .int .u64 y ∧ Hid (y = hfold key k)) (fun _ i => key.size - (intOf i).toNat)
  case atStart => exact ⟨0, _, by omega, rfl, rfl, rfl⟩
  case round =>
    obtain ⟨k, y, hk2, rfl, rfl, hy⟩ := hrel
    by_cases hlt : k < key.size
    · have hlt' : (k : Int) < key.size := by omega
      have hby : hbyte key k = (key[k].toNat : Int) := by unfold hbyte; rw [dif_pos hlt]
      have hbb : 0 ≤ (key[k].toNat : Int) ∧ (key[k].toNat : Int) < 256 := by have := UInt8.toNat_lt key[k]; omega
      have k1 : IntKind.u64.wrap (key[k].toNat : Int) = (key[k].toNat : Int) := by rw [IntKind.wrap_u64]; omega
      have HB := Lib.hid hby
      clear hby hbb
      go_wp2
      go_round
      case rel => exact ⟨k + 1, _, by omega, by go_num, rfl, by show _ = hstep (hfold key k) (hbyte key k); rw [HB.out, ← hy.out]; rfl⟩
      case measure => simp [intOf]; omega
    · obtain rfl : k = key.size := by omega
      go_wp2
      go_ret
      exact ⟨by rw [hy.out]; rfl, rfl⟩
theorem rbucket_eq (x b : Int) (h0 : 0 ≤ x) (h1 : x < 18446744073709551616) (hb : 1 ≤ b ∧ b ≤ 12) (w : World) : Calls Tryz.prog 160 #[.int .u64 x, .int .i64 b] w fun e w' => e = .returned (.int .i64 (bk x b)) ∧ w' = w := by
  have hp := tsize_pos hb
  have hs := rsize_any b
  unfold bk
  generalize tsize b = t at *
  have e0 : (t == 0) = false := beq_eq_false_iff_ne.2 (by omega)
  have e00 : ¬ t = 0 := by omega
  have e1 : IntKind.u64.wrap t = t := by rw [IntKind.wrap_u64]; omega
  obtain ⟨R, hR⟩ : ∃ R, R = x % t := ⟨_, rfl⟩
  have hRb : 0 ≤ R ∧ R < t := by rw [hR]; exact ⟨Int.emod_nonneg _ (by omega), Int.emod_lt_of_pos _ (by omega)⟩
  have e2 : x.tmod t = R := by rw [hR]; exact Int.tmod_eq_emod_of_nonneg h0
  have e3 : x % t = R := hR.symm
  have e4 : wrap64 R = R := IntWalk.wrap64_in _ (by omega)
  have e5 : IntKind.u64.wrap R = R := by rw [IntKind.wrap_u64]; omega
  rw [e3]
  have ht1 : 1 ≤ t := by omega
  clear hR hRb hp hb
  go_enter Tryz.func160, Tryz.ntmps160
  go_wp2_with (go_at_call 83; refine (hs _).mono ?_; rintro e w1 ⟨rfl, rfl⟩)
  go_ret
  first | exact ⟨rfl, rfl⟩ | exact ⟨ret_i64 (by first | exact e4 | (rw [e3]; exact e4) | (rw [e2]; exact e4)), rfl⟩
theorem mask_i64 (x : Int) (m k : Nat) (hm : m = 2 ^ k - 1) (hk : k ≤ 62) (h0 : 0 ≤ x) (h1 : x < 9223372036854775808) : bits .and .i64 x (m : Int) = x % ((2 ^ k : Nat) : Int) := by
  have hp : (2 : Nat) ^ k ≤ 2 ^ 62 := Nat.pow_le_pow_right (by decide) hk
  have hp0 : 0 < (2 : Nat) ^ k := Nat.two_pow_pos k
  have hmm : (BitVec.ofInt 64 (m : Int)).toNat = 2 ^ k - 1 := by
    rw [BitVec.toNat_ofInt]; omega
  have key : (BitVec.ofInt 64 x &&& BitVec.ofInt 64 (m : Int)).toNat = (x % ((2 ^ 64 : Nat) : Int)).toNat % 2 ^ k := by
    rw [BitVec.toNat_and, BitVec.toNat_ofInt, hmm, Nat.and_two_pow_sub_one_eq_mod]
  show IntKind.i64.wrap ((BitVec.ofInt 64 x &&& BitVec.ofInt 64 (m : Int)).toNat : Nat) = _
  rw [key, IntKind.wrap_i64]
  obtain ⟨n, rfl⟩ := Int.eq_ofNat_of_zero_le h0
  have e : ((n : Int) % ((2 ^ 64 : Nat) : Int)).toNat = n := by omega
  rw [e]
  have hlt := Nat.mod_lt n hp0
  rw [← Int.natCast_emod]
  omega
theorem mask_mod (m b : Int) (hm : 0 ≤ m) (hm2 : m < 9223372036854775808) (hb : 1 ≤ b ∧ b ≤ 12) : bits .and .i64 m (tsize b - 1) = m % tsize b := by
  rw [tsize_in hb]
  rcases twelve hb with rfl | rfl | rfl | rfl | rfl | rfl | rfl | rfl | rfl | rfl | rfl | rfl
  all_goals (first
    | exact mask_i64 m 1 1 rfl (by decide) hm hm2 | exact mask_i64 m 3 2 rfl (by decide) hm hm2 | exact mask_i64 m 7 3 rfl (by decide) hm hm2 | exact mask_i64 m 15 4 rfl (by decide) hm hm2 | exact mask_i64 m 31 5 rfl (by decide) hm hm2 | exact mask_i64 m 63 6 rfl (by decide) hm hm2 | exact mask_i64 m 127 7 rfl (by decide) hm hm2 | exact mask_i64 m 255 8 rfl (by decide) hm hm2 | exact mask_i64 m 511 9 rfl (by decide) hm hm2 | exact mask_i64 m 1023 10 rfl (by decide) hm hm2 | exact mask_i64 m 2047 11 rfl (by decide) hm hm2 | exact mask_i64 m 4095 12 rfl (by decide) hm hm2)
theorem oth_eq (k t b : Int) (hb : 1 ≤ b ∧ b ≤ 12) (hk : 0 ≤ k ∧ k < tsize b) (ht : 1 ≤ t ∧ t ≤ 255) : oth01 k t b = oth k t b := by
  unfold oth01 oth
  rw [if_neg (by omega), mask_mod _ _ (by omega) (by omega) hb]
def wth (l : List (Int × Int)) (p : Int × Int) : List (Int × Int) := if p ∈ l then l else l ++ [p]
theorem dedup_snoc (l : List (Int × Int)) (p : Int × Int) : dedup (l ++ [p]) = wth (dedup l) p := by unfold dedup wth; rw [List.foldl_append]; rfl
theorem wth_le (l : List (Int × Int)) (p : Int × Int) : (wth l p).length ≤ l.length + 1 := by unfold wth; split <;> simp
def WithX (w : World) (base : Nat) (l : List (Int × Int)) (e : Ending) (w' : World) : Prop := ∃ v', e = .returned v' ∧ PlR w' base v' l ∧ Below base w w'
set_option maxHeartbeats 1000000 in
theorem rwith8x (w : World) (base : Nat) (v : Value) (l : List (Int × Int)) (hb : base ≤ w.heap.size) (h : PlR w base v l) (hl : l.length ≤ 1000) (b u : Int) : Calls Tryz.prog 190 #[v, .agg #[.int .i64 b, .int .i64 u]] w (WithX w base (wth l (b, u))) := by
  obtain ⟨a, cap, rfl, hm, hc⟩ := h.read
  obtain ⟨i0, hi0, hz0, hz1, hz2⟩ := info_parts info_plc
  have HI := Lib.hid hi0; have HZ0 := Lib.hid hz0; have HZ1 := Lib.hid hz1; have HZ2 := Lib.hid hz2
  have HC := Lib.hid hc; have HH := Lib.hid h; have HL := Lib.hid hl; have HBS := Lib.hid hb
  unfold maxLen at hm
  have hq := box2 w b u 69
  have hB0 := below_alloc w (.cells #[.int .i64 b, .int .i64 u] 69)
  have HQ := Lib.hid hq; have HB0 := Lib.hid hB0
  clear h hl hc hi0 hz0 hz1 hz2 hq hB0 hb
  go_enter Tryz.func190, Tryz.ntmps190
  go_wp2
  go_loopw [5] (fun i wr => ∃ k : Nat, k ≤ l.length ∧ i = .int .i64 k ∧ Hid ((b, u) ∉ l.take k) ∧ Below (w.heap.size + 1) (w.alloc (.cells #[.int .i64 b, .int .i64 u] 69)) wr) (fun i _ => l.length - (intOf i).toNat)
  case atStart => exact ⟨0, by omega, rfl, (by show _ ∉ _; simp), Below.refl _ _⟩
  case round =>
    obtain ⟨k, hk, rfl, HNI, hbl⟩ := hrel
    have hq0 := (hbl.cell (p := ⟨w.heap.size, 0, none⟩) (by simp)).trans (HQ.out 0)
    have hq1 := (hbl.cell (p := ⟨w.heap.size, 1, none⟩) (by simp)).trans (HQ.out 1)
    have hbw : Below w.heap.size w wr := HB0.out.trans (hbl.mono (by simp))
    by_cases hlt : k < l.length
    · obtain ⟨g, rfl, hgb, hrow⟩ := HC.out (by omega)
      obtain ⟨r0, r1⟩ := hrow k hlt
      have r0 := (hbw.cell (World.block_lt_of_cell? _ _ r0)).trans r0
      have r1 := (hbw.cell (World.block_lt_of_cell? _ _ r1)).trans r1
      obtain ⟨p, hp⟩ : ∃ p, p = l[k] := ⟨_, rfl⟩
      rw [← hp] at r0 r1
      have HP := Lib.hid hp
      clear hp
      obtain ⟨pb, pu⟩ := p
      simp only at r0 r1
      have hlt' : (k : Int) < l.length := by omega
      have HB := Lib.hid hbl; have HBW := Lib.hid hbw
      clear hrow hbl hbw
      by_cases hin : pb = b ∧ pu = u
      · obtain ⟨rfl, rfl⟩ := hin
        have x0 := fun st : ExtW wr => st.cell r0
        have x1 := fun st : ExtW wr => st.cell r1
        have x2 := fun st : ExtW wr => st.cell hq0
        have x3 := fun st : ExtW wr => st.cell hq1
        clear r0 r1 hq0 hq1
        go_wp2
        refine wp_region_ext (by kernel_rfl) (by kernel_rfl) ?_
        repeat (go_big_quiet_step (fail))
        refine wpQuiet_nil ?_
        rintro W ⟨⟨W2, hW⟩, rfl⟩
        clear x0 x1 x2 x3
        have HW2 := Lib.hid (HBW.out.trans (hW.mono HBW.out.size))
        clear hW
        have hmem : (pb, pu) ∈ l := by rw [HP.out]; exact List.getElem_mem hlt
        have he : wth l (pb, pu) = l := if_pos hmem
        have HE := Lib.hid he
        clear hmem he
        go_wp2
        go_ret
        exact ⟨_, rfl, by rw [HE.out]; exact rown_below HH.out HW2.out, HW2.out.mono HBS.out⟩
      · have hor : (pb == b) = false ∨ ((pb == b) = true ∧ (pu == u) = false) := by
          by_cases h1 : pb = b
          · exact .inr ⟨beq_iff_eq.2 h1, beq_eq_false_iff_ne.2 (fun c => hin ⟨h1, c⟩)⟩
          · exact .inl (beq_eq_false_iff_ne.2 h1)
        have hni : (b, u) ∉ l.take (k + 1) := by
          rw [List.take_succ_eq_append_getElem hlt, ← HP.out]
          simp only [List.mem_append, List.mem_singleton, Prod.mk.injEq, not_or]
          exact ⟨HNI.out, fun c => hin ⟨c.1.symm, c.2.symm⟩⟩
        have HN2 := Lib.hid hni
        have x0 := fun st : ExtW wr => st.cell r0
        have x1 := fun st : ExtW wr => st.cell r1
        have x2 := fun st : ExtW wr => st.cell hq0
        have x3 := fun st : ExtW wr => st.cell hq1
        clear r0 r1 hq0 hq1 hni hin
        rcases hor with h0 | ⟨h0, h1⟩
        all_goals go_wp2
        all_goals (refine wp_region_ext (by kernel_rfl) (by kernel_rfl) ?_)
        all_goals (repeat (go_big_quiet_step (fail)))
        all_goals (refine wpQuiet_nil ?_)
        all_goals (rintro W ⟨⟨W2, hW⟩, rfl⟩)
        all_goals (clear x0 x1 x2 x3)
        all_goals (have hs : w.heap.size + 1 ≤ wr.heap.size := by have := HB.out.size; simpa using this)
        all_goals (have HW1 := Lib.hid (HB.out.trans (hW.mono hs)))
        all_goals (clear hW hs)
        all_goals go_wp2
        all_goals go_roundw
        all_goals (first
          | exact ⟨k + 1, by omega, by go_num, HN2, HW1.out⟩
          | (simp [intOf]; omega))
    · obtain rfl : k = l.length := by omega
      have hrow := rown_below HH.out hbw
      have hni := HNI.out
      rw [List.take_length] at hni
      have he : wth l (b, u) = l ++ [(b, u)] := if_neg hni
      have HE := Lib.hid he
      have HB := Lib.hid hbw; have HR := Lib.hid hrow
      have hsz : w.heap.size ≤ wr.heap.size := hbw.size
      clear hbl hbw hrow hni he HNI
      go_wp2_with (at_builtin; refine wpList_append_own _ rfl _ _ 72 rfl base 69 i0 (.agg #[.int .i64 0, .int .i64 0]) 2 16 Tryz.underlying72 HI.out HZ0.out HZ1.out HZ2.out rfl (by decide) _ _ _ rfl (HR.out.alloc _) ⟨_, 0, none⟩ 1 1 [.int .i64 b, .int .i64 u] rfl rfl (World.news_of_block (cs := #[.int .i64 b, .int .i64 u]) (t := 69) (fr := (0, 0)) (heap_alloc_new _ _)) ?c2 ?c3 ?c4 ?c5 ?_)
      case c2 => simp [Value.oneCell']
      case c3 => have := HL.out; unfold maxLen; omega
      case c4 => have := HL.out; omega
      case c5 => have := HBS.out; first | omega | (simp; omega)
      intro v' w2 hown' hgrow _
      have hb2 : Below base w w2 := ((HB.out.mono HBS.out).alloc (Nat.le_trans HBS.out hsz) (.cells #[.int .i64 b, .int .i64 u] 69)).grown hgrow (by simp; have := HBS.out; omega) (fun j hj => (HR.out.lt j hj).1)
      have HO2 := Lib.hid hown'; have HB2 := Lib.hid hb2
      clear hown' hgrow hb2
      go_wp2
      go_ret
      exact ⟨_, rfl, by rw [HE.out]; unfold PlR; rw [flatP_snoc, show (l ++ [(b, u)]).length = l.length + 1 by simp]; exact HO2.out, HB2.out⟩
def PlacesX (w : World) (L : List (Int × Int)) (e : Ending) (w' : World) : Prop := ∃ pv, e = .returned pv ∧ PlR w' w.heap.size pv L ∧ Below w.heap.size w w'
/-- A round of the document's loop over the tables. -/
def Rnd (x : Int) (L : List (Int × Int)) (k : Nat) (b : Int) : Prop := (1 ≤ b ∧ b ≤ 12) ∧ dedup (L.take (2 * (k + 1))) = wth (wth (dedup (L.take (2 * k))) (b, bk x b)) (b, oth (bk x b) (tag01 x) b)
theorem rnd_of (x : Int) {L : List (Int × Int)} {k : Nat} {b : Int} (hb : 1 ≤ b ∧ b ≤ 12) (h0 : L[2 * k]? = some (b, bk x b)) (h1 : L[2 * k + 1]? = some (b, oth (bk x b) (tag01 x) b)) : Rnd x L k b := by
  refine ⟨hb, ?_⟩
  rw [← dedup_snoc, ← dedup_snoc, show 2 * (k + 1) = 2 * k + 1 + 1 by omega, List.take_add_one, h1, List.take_add_one, h0]
  rfl
set_option maxRecDepth 10000 in
set_option maxHeartbeats 2000000 in
theorem rplaces_onex (x v : Int) (h0 : 0 ≤ x) (h1 : x < 18446744073709551616) (v0 : 0 ≤ v) (v1 : v < 18446744073709551616) (hn : asNow v = 0) (w : World) : Calls Tryz.prog 112 #[.int .u64 x, .int .u64 v] w (PlacesX w (plist x v)) := by
  have ha := ras_any v v0 v1 w
  have h12 := as_in12 v
  have hpl : plist x v = dedup (pairOf x (asOld v)) := by unfold plist; rw [hn, show pairOf x 0 = [] from if_pos rfl, List.append_nil]
  rw [pairOf_in x _ h12.1] at hpl
  obtain ⟨PL, hPL⟩ : ∃ PL, PL = [(asOld v, bk x (asOld v)), (asOld v, oth (bk x (asOld v)) (tag01 x) (asOld v))] := ⟨_, rfl⟩
  have hrn : Rnd x PL 0 (asOld v) := rnd_of x h12.1 (by rw [hPL]; rfl) (by rw [hPL]; rfl)
  have hlen : PL.length = 2 := by rw [hPL]; rfl
  rw [hpl, ← hPL]
  have htg := tag01_bd x h0 h1
  rw [hn] at ha
  clear hn hpl hPL h12
  generalize asOld v = o at *
  have HLEN := Lib.hid hlen; have HTG := Lib.hid htg
  clear hlen htg
  obtain ⟨W, hWe⟩ : ∃ W, W = w.alloc (.cells #[.int .i64 o] 3) := ⟨_, rfl⟩
  have HW : Hid (Below w.heap.size w W) := by rw [hWe]; exact below_alloc _ _
  have HQ : Hid (∀ k, k < 1 → ∃ bv, W.cell? ⟨w.heap.size, k, none⟩ = some (.int .i64 bv) ∧ Rnd x PL k bv) := fun k hk => by
    obtain rfl : k = 0 := by omega
    have := heap_alloc_new w (.cells #[.int .i64 o] 3)
    rw [← hWe] at this
    exact ⟨o, by simp [World.cell?, this], hrn⟩
  clear hrn
  go_enter Tryz.func112, Tryz.ntmps112
  go_wp2_with (go_at_call 189; refine ha.mono ?_; rintro e w1 ⟨rfl, hw⟩; obtain rfl := hw.symm; clear ha)
  rw [← hWe]
  clear hWe
  have hWs := HW.out.size
  go_loopw [8, 9] (fun ov i wr => ∃ (k : Nat) (l : List (Int × Int)), k ≤ 1 ∧ i = .int .i64 k ∧ PlR wr W.heap.size ov l ∧ Hid (l = dedup (PL.take (2 * k))) ∧ l.length ≤ 2 * k ∧ Below W.heap.size W wr) (fun _ i _ => 1 - (intOf i).toNat)
  case atStart => exact ⟨0, [], by omega, rfl, World.ownsRow_nil _ _ _ _, (by show _ = _; simp; rfl), by simp, Below.refl _ _⟩
  case round =>
    obtain ⟨k, l, hk, rfl, hrow, HL1, hl2, hbl⟩ := hrel
    by_cases hlt : k < 1
    · obtain ⟨bv, q0, hrd⟩ := HQ.out k hlt
      have HRD := Lib.hid hrd
      have hbb := hrd.1
      clear hrd
      have hbu := bk_bd x bv hbb
      have hg : w.heap.size < W.heap.size := World.block_lt_of_cell? _ _ q0
      have hw8 := rwith8x wr W.heap.size _ l hbl.size hrow (by omega) bv (bk x bv)
      have HQ0 := Lib.hid q0
      have q0 := (hbl.cell (p := ⟨w.heap.size, k, none⟩) hg).trans q0
      have hlt' : (k : Int) < 1 := by omega
      have HB := Lib.hid hbl; have HW8 := Lib.hid hw8; have HG := Lib.hid hg
      clear hbl hrow hw8 hg
      go_wp2_with (first
        | (go_at_call 160; refine (rbucket_eq x bv h0 h1 hbb _).mono ?_; rintro e w1 ⟨rfl, hw⟩; obtain rfl := hw.symm)
        | (go_at_call 190; refine HW8.out.mono ?_; rintro e w2 ⟨v2, rfl, p2, b2⟩; clear q0))
      have n2 := wth_le l (bv, bk x bv)
      obtain ⟨l2, hl2e⟩ : ∃ l2, l2 = wth l (bv, bk x bv) := ⟨_, rfl⟩
      rw [← hl2e] at p2 n2
      have HL2E := Lib.hid hl2e
      clear hl2e
      obtain ⟨a2, cap2, rfl, hm2, -⟩ := p2.read
      unfold maxLen at hm2
      have hbl2 := HB.out.trans b2
      have q0 := (hbl2.cell (p := ⟨w.heap.size, k, none⟩) HG.out).trans HQ0.out
      have x0 := fun st : ExtW w2 => st.cell q0
      have ht : ∀ st : ExtW w2, Calls Tryz.prog 161 #[.int .u64 x] st.val fun e w' => e = .returned (.int .i64 (tag01 x)) ∧ st.val = w' := fun st => (rtag01_any x h0 h1 st.val).mono fun e w' ⟨he, hw⟩ => ⟨he, hw.symm⟩
      have ho : ∀ st : ExtW w2, Calls Tryz.prog 91 #[.int .i64 (bk x bv), .int .i64 (tag01 x), .int .i64 bv] st.val fun e w' => e = .returned (.int .i64 (oth (bk x bv) (tag01 x) bv)) ∧ st.val = w' := fun st => (rother01_any (bk x bv) (tag01 x) bv st.val).mono fun e w' ⟨he, hw⟩ => ⟨by rw [← oth_eq _ _ _ hbb hbu HTG.out]; exact he, hw.symm⟩
      have HB2 := Lib.hid hbl2; have HP2 := Lib.hid p2
      clear q0 hbl2 p2 b2
      obtain ⟨ot, hot⟩ : ∃ ot, ot = oth (bk x bv) (tag01 x) bv := ⟨_, rfl⟩
      rw [← hot] at ho
      have HOT := Lib.hid hot
      clear hot
      generalize htge : tag01 x = tg at ht ho
      generalize hbue : bk x bv = bu at ho ⊢
      have HE2 := Lib.hid (And.intro htge hbue)
      clear htge hbue
      refine wp_region_segs [14] (by kernel_rfl) (by kernel_rfl) (by kernel_rfl) ?_
      simp only [Segs, List.take_succ_cons, List.take_zero, List.drop_succ_cons, List.drop_zero]
      repeat (go_big_quiet_step (first
        | (go_at_call 161; with_reducible refine calls_ext_same (ht _))
        | (go_at_call 91; with_reducible refine calls_ext_same (ho _))))
      refine wpQuiet_nil ?_
      rintro W3 ⟨⟨W4, hW4⟩, rfl⟩
      clear x0 ht ho
      have hsz := HB2.out.size
      refine seg_call rfl (by kernel_rfl) 190 #[.slice a2 l2.length cap2, .agg #[.int .i64 bv, .int .i64 ot]] (by kernel_rfl) ?_
      refine (rwith8x W3 W.heap.size _ l2 (Nat.le_trans hsz hW4.size) (rown_below HP2.out hW4) (by omega) bv ot).mono ?_
      rintro e w5 ⟨v5, rfl, p5, b5⟩
      have n5 := wth_le l2 (bv, ot)
      obtain ⟨l5, hl5e⟩ : ∃ l5, l5 = wth l2 (bv, ot) := ⟨_, rfl⟩
      rw [← hl5e] at p5 n5
      have HL5E := Lib.hid hl5e
      clear hl5e
      refine ⟨_, rfl, ?_⟩
      simp only [List.getElem_toArray, List.getElem_cons_succ, List.getElem_cons_zero]
      go_frame
      have HB5 := Lib.hid ((HB2.out.trans (hW4.mono hsz)).trans b5); have HP5 := Lib.hid p5
      clear hW4 p5 b5
      repeat (go_big_quiet_step (fail))
      refine wpQuiet_nil ?_
      rintro W6 ⟨⟨W7, hW6⟩, rfl⟩
      have hs5 := HB5.out.size
      have HB6 := Lib.hid (HB5.out.trans (hW6.mono hs5)); have HP6 := Lib.hid (rown_below HP5.out hW6)
      clear hW6
      go_wp2
      go_roundw
      case rel => exact ⟨k + 1, l5, by omega, by go_num, HP6.out, (by show _ = _; rw [HL5E.out, HL2E.out, HOT.out, HL1.out, HRD.out.2]), by omega, HB6.out⟩
      case measure => simp [intOf]; omega
    · obtain rfl : k = 1 := by omega
      have HB := Lib.hid hbl; have HR := Lib.hid hrow
      clear hbl hrow
      go_wp2
      go_ret
      refine ⟨_, rfl, ?_, HW.out.trans (HB.out.mono hWs)⟩
      have hx := HL1.out
      rw [show 2 * 1 = PL.length by rw [HLEN.out], List.take_length] at hx
      rw [← hx]
      exact own_lower HR.out hWs

set_option maxRecDepth 10000 in
set_option maxHeartbeats 2000000 in
theorem rplaces_twox (x v : Int) (h0 : 0 ≤ x) (h1 : x < 18446744073709551616) (v0 : 0 ≤ v) (v1 : v < 18446744073709551616) (hn : asNow v ≠ 0) (w : World) : Calls Tryz.prog 112 #[.int .u64 x, .int .u64 v] w (PlacesX w (plist x v)) := by
  have ha := ras_any v v0 v1 w
  have hr := as_range v
  have h12 := as_in12 v
  have h12n : 1 ≤ asNow v ∧ asNow v ≤ 12 := h12.2.resolve_left hn
  have hn1 : 0 < asNow v := by omega
  have hpl : plist x v = dedup (pairOf x (asOld v) ++ pairOf x (asNow v)) := rfl
  rw [pairOf_in x _ h12.1, pairOf_in x _ h12n] at hpl
  obtain ⟨PL, hPL⟩ : ∃ PL, PL = [(asOld v, bk x (asOld v)), (asOld v, oth (bk x (asOld v)) (tag01 x) (asOld v))] ++ [(asNow v, bk x (asNow v)), (asNow v, oth (bk x (asNow v)) (tag01 x) (asNow v))] := ⟨_, rfl⟩
  have hrn0 : Rnd x PL 0 (asOld v) := rnd_of x h12.1 (by rw [hPL]; rfl) (by rw [hPL]; rfl)
  have hrn1 : Rnd x PL 1 (asNow v) := rnd_of x h12n (by rw [hPL]; rfl) (by rw [hPL]; rfl)
  have hlen : PL.length = 4 := by rw [hPL]; rfl
  rw [hpl, ← hPL]
  have htg := tag01_bd x h0 h1
  clear hn hr hpl hPL h12 h12n
  generalize asOld v = o at *
  generalize asNow v = n at *
  have HLEN := Lib.hid hlen; have HTG := Lib.hid htg; have HRN0 := Lib.hid hrn0; have HRN1 := Lib.hid hrn1
  clear hlen htg hrn0 hrn1
  obtain ⟨i0, hi0, hz0, hz1, hz2⟩ := info_parts info_int
  have HI := Lib.hid hi0; have HZ0 := Lib.hid hz0; have HZ1 := Lib.hid hz1; have HZ2 := Lib.hid hz2
  clear hi0 hz0 hz1 hz2
  have hrow : ((w.alloc (.cells #[.int .i64 o] 3)).alloc (.cells #[.int .i64 n] 3)).ownsRow w.heap.size 3 1 (.slice (some ⟨w.heap.size, 0, none⟩) 1 1) 1 [.int .i64 o] :=
    ⟨rfl, .inr ⟨w.heap.size, 1, #[.int .i64 o], rfl, Nat.le_refl _, heap_alloc_old (heap_alloc_new w _), Nat.le_refl _, by unfold maxLen; omega, rfl, rfl⟩⟩
  have HRW := Lib.hid hrow
  clear hrow
  go_enter Tryz.func112, Tryz.ntmps112
  go_wp2_with (first
    | (go_at_call 189; refine ha.mono ?_; rintro e w1 ⟨rfl, hw⟩; obtain rfl := hw.symm; clear ha)
    | (at_builtin; refine wpList_append_own _ rfl _ _ 101 rfl w.heap.size 3 i0 (.int .i64 0) 1 8 Tryz.underlying101 HI.out HZ0.out HZ1.out HZ2.out rfl (by decide) _ _ _ rfl HRW.out ⟨_, 0, none⟩ 1 1 [.int .i64 n] rfl rfl (World.news_of_block (cs := #[.int .i64 n]) (t := 3) (fr := (0, 0)) (heap_alloc_at _ _ (by simp))) ?c2 ?c3 ?c4 ?c5 ?_))
  case c2 => simp [Value.oneCell']
  case c3 => unfold maxLen; omega
  case c4 => omega
  case c5 => first | (simp; done) | (simp; omega)
  intro v' W hown hgrow hnil
  have HW : Hid (Below w.heap.size w W) := (((Below.refl _ w).alloc (Nat.le_refl _) (.cells #[.int .i64 o] 3)).alloc (by simp) (.cells #[.int .i64 n] 3)).grown hgrow (by simp; omega) (fun j hj => (HRW.out.lt j hj).1)
  obtain ⟨hlen, ⟨-, hbad⟩ | ⟨g, cap, cur, rfl, hgb, hg, hnc, hcm, hcs, ht⟩⟩ := hown
  · exact absurd hbad (by decide)
  have HQ : Hid (∀ k, k < 2 → ∃ bv, W.cell? ⟨g, k, none⟩ = some (.int .i64 bv) ∧ Rnd x PL k bv) := fun k hk => by
    have e : cur[k]? = ([.int .i64 o, .int .i64 n] : List Value)[k]? := by
      have : (cur.toList.take 2)[k]? = ([.int .i64 o, .int .i64 n] : List Value)[k]? := by rw [show 2 = (1 + 1) * 1 from rfl, ht]
      rw [List.getElem?_take, if_pos hk] at this
      simpa using this
    rcases (by omega : k = 0 ∨ k = 1) with rfl | rfl
    · exact ⟨o, by simp [World.cell?, hg, e], HRN0.out⟩
    · exact ⟨n, by simp [World.cell?, hg, e], HRN1.out⟩
  clear hgrow hnil hlen hg ht hcs hgb HRW
  unfold maxLen at hcm
  go_wp2_with fail
  have hWs := HW.out.size
  go_loopw [8, 9] (fun ov i wr => ∃ (k : Nat) (l : List (Int × Int)), k ≤ 2 ∧ i = .int .i64 k ∧ PlR wr W.heap.size ov l ∧ Hid (l = dedup (PL.take (2 * k))) ∧ l.length ≤ 2 * k ∧ Below W.heap.size W wr) (fun _ i _ => 2 - (intOf i).toNat)
  case atStart => exact ⟨0, [], by omega, rfl, World.ownsRow_nil _ _ _ _, (by show _ = _; simp; rfl), by simp, Below.refl _ _⟩
  case round =>
    obtain ⟨k, l, hk, rfl, hrow, HL1, hl2, hbl⟩ := hrel
    by_cases hlt : k < 2
    · obtain ⟨bv, q0, hrd⟩ := HQ.out k hlt
      have HRD := Lib.hid hrd
      have hbb := hrd.1
      clear hrd
      have hbu := bk_bd x bv hbb
      have hg : g < W.heap.size := World.block_lt_of_cell? _ _ q0
      have hw8 := rwith8x wr W.heap.size _ l hbl.size hrow (by omega) bv (bk x bv)
      have HQ0 := Lib.hid q0
      have q0 := (hbl.cell (p := ⟨g, k, none⟩) hg).trans q0
      have hlt' : (k : Int) < 2 := by omega
      have HB := Lib.hid hbl; have HW8 := Lib.hid hw8; have HG := Lib.hid hg
      clear hbl hrow hw8 hg
      go_wp2_with (first
        | (go_at_call 160; refine (rbucket_eq x bv h0 h1 hbb _).mono ?_; rintro e w1 ⟨rfl, hw⟩; obtain rfl := hw.symm)
        | (go_at_call 190; refine HW8.out.mono ?_; rintro e w2 ⟨v2, rfl, p2, b2⟩; clear q0))
      have n2 := wth_le l (bv, bk x bv)
      obtain ⟨l2, hl2e⟩ : ∃ l2, l2 = wth l (bv, bk x bv) := ⟨_, rfl⟩
      rw [← hl2e] at p2 n2
      have HL2E := Lib.hid hl2e
      clear hl2e
      obtain ⟨a2, cap2, rfl, hm2, -⟩ := p2.read
      unfold maxLen at hm2
      have hbl2 := HB.out.trans b2
      have q0 := (hbl2.cell (p := ⟨g, k, none⟩) HG.out).trans HQ0.out
      have x0 := fun st : ExtW w2 => st.cell q0
      have ht : ∀ st : ExtW w2, Calls Tryz.prog 161 #[.int .u64 x] st.val fun e w' => e = .returned (.int .i64 (tag01 x)) ∧ st.val = w' := fun st => (rtag01_any x h0 h1 st.val).mono fun e w' ⟨he, hw⟩ => ⟨he, hw.symm⟩
      have ho : ∀ st : ExtW w2, Calls Tryz.prog 91 #[.int .i64 (bk x bv), .int .i64 (tag01 x), .int .i64 bv] st.val fun e w' => e = .returned (.int .i64 (oth (bk x bv) (tag01 x) bv)) ∧ st.val = w' := fun st => (rother01_any (bk x bv) (tag01 x) bv st.val).mono fun e w' ⟨he, hw⟩ => ⟨by rw [← oth_eq _ _ _ hbb hbu HTG.out]; exact he, hw.symm⟩
      have HB2 := Lib.hid hbl2; have HP2 := Lib.hid p2
      clear q0 hbl2 p2 b2
      obtain ⟨ot, hot⟩ : ∃ ot, ot = oth (bk x bv) (tag01 x) bv := ⟨_, rfl⟩
      rw [← hot] at ho
      have HOT := Lib.hid hot
      clear hot
      generalize htge : tag01 x = tg at ht ho
      generalize hbue : bk x bv = bu at ho ⊢
      have HE2 := Lib.hid (And.intro htge hbue)
      clear htge hbue
      refine wp_region_segs [14] (by kernel_rfl) (by kernel_rfl) (by kernel_rfl) ?_
      simp only [Segs, List.take_succ_cons, List.take_zero, List.drop_succ_cons, List.drop_zero]
      repeat (go_big_quiet_step (first
        | (go_at_call 161; with_reducible refine calls_ext_same (ht _))
        | (go_at_call 91; with_reducible refine calls_ext_same (ho _))))
      refine wpQuiet_nil ?_
      rintro W3 ⟨⟨W4, hW4⟩, rfl⟩
      clear x0 ht ho
      have hsz := HB2.out.size
      refine seg_call rfl (by kernel_rfl) 190 #[.slice a2 l2.length cap2, .agg #[.int .i64 bv, .int .i64 ot]] (by kernel_rfl) ?_
      refine (rwith8x W3 W.heap.size _ l2 (Nat.le_trans hsz hW4.size) (rown_below HP2.out hW4) (by omega) bv ot).mono ?_
      rintro e w5 ⟨v5, rfl, p5, b5⟩
      have n5 := wth_le l2 (bv, ot)
      obtain ⟨l5, hl5e⟩ : ∃ l5, l5 = wth l2 (bv, ot) := ⟨_, rfl⟩
      rw [← hl5e] at p5 n5
      have HL5E := Lib.hid hl5e
      clear hl5e
      refine ⟨_, rfl, ?_⟩
      simp only [List.getElem_toArray, List.getElem_cons_succ, List.getElem_cons_zero]
      go_frame
      have HB5 := Lib.hid ((HB2.out.trans (hW4.mono hsz)).trans b5); have HP5 := Lib.hid p5
      clear hW4 p5 b5
      repeat (go_big_quiet_step (fail))
      refine wpQuiet_nil ?_
      rintro W6 ⟨⟨W7, hW6⟩, rfl⟩
      have hs5 := HB5.out.size
      have HB6 := Lib.hid (HB5.out.trans (hW6.mono hs5)); have HP6 := Lib.hid (rown_below HP5.out hW6)
      clear hW6
      go_wp2
      go_roundw
      case rel => exact ⟨k + 1, l5, by omega, by go_num, HP6.out, (by show _ = _; rw [HL5E.out, HL2E.out, HOT.out, HL1.out, HRD.out.2]), by omega, HB6.out⟩
      case measure => simp [intOf]; omega
    · obtain rfl : k = 2 := by omega
      have HB := Lib.hid hbl; have HR := Lib.hid hrow
      clear hbl hrow
      go_wp2
      go_ret
      refine ⟨_, rfl, ?_, HW.out.trans (HB.out.mono hWs)⟩
      have hx := HL1.out
      rw [show 2 * 2 = PL.length by rw [HLEN.out], List.take_length] at hx
      rw [← hx]
      exact own_lower HR.out hWs

theorem rplaces_eq (x v : Int) (h0 : 0 ≤ x) (h1 : x < 18446744073709551616) (v0 : 0 ≤ v) (v1 : v < 18446744073709551616) (w : World) : Calls Tryz.prog 112 #[.int .u64 x, .int .u64 v] w (PlacesX w (plist x v)) := by
  by_cases hn : asNow v = 0
  · exact rplaces_onex x v h0 h1 v0 v1 hn w
  · exact rplaces_twox x v h0 h1 v0 v1 hn w
end Go.Proofs.YtomllmlieeaaiaaGreat

/-
  The walks of package tagwords: each function computes what TagPure says.
-/
namespace Go.Proofs.YtomllmlieeaaiaaGreat
open Go.RowKit TagPure
set_option linter.unusedVariables false


theorem there_in (s : Int) (w : World) (h0 : 0 ≤ s) (h1 : s < 4) : Calls Tryz.prog 183 #[.int .i64 s] w fun e w' => e = .returned (.bool true) ∧ w = w' := by
  go_enter Tryz.func183, Tryz.ntmps183
  go_wp2
  go_ret
  exact ⟨rfl, rfl⟩
theorem there_out (s : Int) (w : World) (h : s < 0 ∨ 4 ≤ s) : Calls Tryz.prog 183 #[.int .i64 s] w fun e w' => e = .returned (.bool false) ∧ w = w' := by
  by_cases h0 : s < 0
  · go_enter Tryz.func183, Tryz.ntmps183
    go_wp2
    go_ret
    exact ⟨rfl, rfl⟩
  · have h1 : 0 ≤ s := by omega
    have hd : decide (s < 4) = false := by simp; omega
    go_enter Tryz.func183, Tryz.ntmps183
    go_wp2
    go_ret
    exact ⟨rfl, rfl⟩

/-- The four tags as an array. -/
def tags4 (x : Int) : List Value := [.int .i64 (tg x 0), .int .i64 (tg x 1), .int .i64 (tg x 2), .int .i64 (tg x 3)]

theorem part_eq (x : Int) (h0 : 0 ≤ x) (h1 : x < 18446744073709551616) (i : Nat) (d : Int) (hd : d = 256 ^ i) (hp : 1 ≤ d) : wrap64 (bits BinOp.and IntKind.u64 (x / d) 255) = tg x i := by
  subst hd
  have a : 0 ≤ x / 256 ^ i := Int.ediv_nonneg h0 (by omega)
  have b : x / 256 ^ i ≤ x := Int.ediv_le_self _ h0
  rw [and255 _ a (by omega), IntWalk.wrap64_in _ (by omega)]
  rfl

set_option maxHeartbeats 400000 in
theorem parts_any (x : Int) (w : World) (h0 : 0 ≤ x) (h1 : x < 18446744073709551616) :
    Calls Tryz.prog 181 #[.int .u64 x] w fun e w' => e = .returned (.agg (tags4 x).toArray) ∧ Below w.heap.size w w' := by
  go_enter Tryz.func181, Tryz.ntmps181
  go_wp2
  refine wp_loop_rounds 5 ?_
  rw [rounds_succ]; go_wp2
  rw [rounds_succ]; go_wp2
  rw [rounds_succ]; go_wp2
  rw [rounds_succ]; go_wp2
  rw [rounds_succ]; go_wp2
  have e0 : wrap64 (bits BinOp.and IntKind.u64 x 255) = tg x 0 := by have := part_eq x h0 h1 0 1 rfl (by omega); simpa using this
  have e1 := part_eq x h0 h1 1 256 rfl (by omega)
  have e2 := part_eq x h0 h1 2 65536 rfl (by omega)
  have e3 := part_eq x h0 h1 3 16777216 rfl (by omega)
  rw [e0, e1, e2, e3]
  refine bodyPost_ret (v := .agg (tags4 x).toArray) (by simp [results, Tryz.results181, go_sem, tags4]) rfl ⟨rfl, ?_⟩
  exact (Below.refl _ _).alloc (Nat.le_refl _) _

theorem tags_get (x : Int) (n : Nat) (hn : n < 4) (w : World) : (Instr.index 311 (.agg (tags4 x).toArray) (.int .i64 n)).run Tryz.prog w = .ok (.int .i64 (tg x n)) w := by
  rw [run_index_ints (P := Tryz.prog) Tryz.underlying311 Tryz.underlying3 (by kernel_rfl) (tags4 x) rfl .i64 n hn w]
  match n, hn with
  | 0, _ => rfl
  | 1, _ => rfl
  | 2, _ => rfl
  | 3, _ => rfl

theorem tag_in (x s : Int) (w : World) (h0 : 0 ≤ x) (h1 : x < 18446744073709551616) (hs : 0 ≤ s) (hs4 : s < 4) :
    Calls Tryz.prog 98 #[.int .u64 x, .int .i64 s] w fun e w' => e = .returned (.int .i64 (tg x s.toNat)) ∧ Below w.heap.size w w' := by
  obtain ⟨n, rfl⟩ := Int.eq_ofNat_of_zero_le hs
  have hn : n < 4 := by omega
  have hi := tags_get x n hn
  go_enter Tryz.func98, Tryz.ntmps98
  go_wp2_with (first | (go_at_call 183; refine (there_in _ _ (by omega) (by omega)).mono ?_; rintro e w' ⟨rfl, rfl⟩) | (go_at_call 181; refine (parts_any _ _ h0 h1).mono ?_; rintro e w' ⟨rfl, hb⟩))
  go_ret
  exact ⟨rfl, hb⟩
theorem tag_out (x s : Int) (w : World) (h : s < 0 ∨ 4 ≤ s) :
    Calls Tryz.prog 98 #[.int .u64 x, .int .i64 s] w fun e w' => e = .returned (.int .i64 0) ∧ w = w' := by
  go_enter Tryz.func98, Tryz.ntmps98
  go_wp2_with (first | (go_at_call 183; refine (there_out _ _ h).mono ?_; rintro e w' ⟨rfl, rfl⟩))
  go_ret
  exact ⟨rfl, rfl⟩

/-- The tag of a slot, whatever slot. -/
theorem tag_any (x s : Int) (w : World) (h0 : 0 ≤ x) (h1 : x < 18446744073709551616) :
    Calls Tryz.prog 98 #[.int .u64 x, .int .i64 s] w fun e w' => e = .returned (.int .i64 (tagOf x s)) ∧ Below w.heap.size w w' := by
  by_cases h : 0 ≤ s ∧ s < 4
  · unfold tagOf; rw [if_pos h]; exact tag_in x s w h0 h1 h.1 h.2
  · unfold tagOf; rw [if_neg h]; exact (tag_out x s w (by omega)).mono fun e w' ⟨a, b⟩ => ⟨a, b ▸ Below.refl _ _⟩

theorem with_out (x s t : Int) (w : World) (h : (s < 0 ∨ 4 ≤ s) ∨ t < 0 ∨ 255 < t) :
    Calls Tryz.prog 309 #[.int .u64 x, .int .i64 s, .int .i64 t] w fun e w' => e = .returned (.int .u64 x) ∧ w = w' := by
  by_cases hs : s < 0 ∨ 4 ≤ s
  · go_enter Tryz.func309, Tryz.ntmps309
    go_wp2_with (first | (go_at_call 183; refine (there_out _ _ hs).mono ?_; rintro e w' ⟨rfl, rfl⟩))
    go_ret
    exact ⟨rfl, rfl⟩
  · by_cases ht : t < 0
    · go_enter Tryz.func309, Tryz.ntmps309
      go_wp2_with (first | (go_at_call 183; refine (there_in _ _ (by omega) (by omega)).mono ?_; rintro e w' ⟨rfl, rfl⟩))
      go_ret
      exact ⟨rfl, rfl⟩
    · have ht' : 0 ≤ t := by omega
      have ht2 : 255 < t := by omega
      go_enter Tryz.func309, Tryz.ntmps309
      go_wp2_with (first | (go_at_call 183; refine (there_in _ _ (by omega) (by omega)).mono ?_; rintro e w' ⟨rfl, rfl⟩))
      go_ret
      exact ⟨rfl, rfl⟩
set_option maxHeartbeats 800000 in
theorem with_in (x t : Int) (n : Nat) (w : World) (h0 : 0 ≤ x) (h1 : x < 18446744073709551616) (hn : n < 4) (t0 : 0 ≤ t) (t1 : t ≤ 255) :
    Calls Tryz.prog 309 #[.int .u64 x, .int .i64 n, .int .i64 t] w fun e w' => e = .returned (.int .u64 (put x n t)) ∧ Below w.heap.size w w' := by
  match n, hn with
  | 0, _ =>
    go_enter Tryz.func309, Tryz.ntmps309
    go_wp2_with (first | (go_at_call 183; refine (there_in _ _ (by omega) (by omega)).mono ?_; rintro e w' ⟨rfl, rfl⟩))
    go_quiet (fail)
    go_wp2
    go_ret
    exact ⟨ret_u64 (put0 x t h0 h1 t0 t1), below_drewN _ _⟩
  | 1, _ =>
    go_enter Tryz.func309, Tryz.ntmps309
    go_wp2_with (first | (go_at_call 183; refine (there_in _ _ (by omega) (by omega)).mono ?_; rintro e w' ⟨rfl, rfl⟩))
    go_quiet (fail)
    go_wp2
    go_ret
    exact ⟨ret_u64 (put1 x t h0 h1 t0 t1), below_drewN _ _⟩
  | 2, _ =>
    go_enter Tryz.func309, Tryz.ntmps309
    go_wp2_with (first | (go_at_call 183; refine (there_in _ _ (by omega) (by omega)).mono ?_; rintro e w' ⟨rfl, rfl⟩))
    go_quiet (fail)
    go_wp2
    go_ret
    exact ⟨ret_u64 (put2 x t h0 h1 t0 t1), below_drewN _ _⟩
  | 3, _ =>
    go_enter Tryz.func309, Tryz.ntmps309
    go_wp2_with (first | (go_at_call 183; refine (there_in _ _ (by omega) (by omega)).mono ?_; rintro e w' ⟨rfl, rfl⟩))
    go_quiet (fail)
    go_wp2
    go_ret
    exact ⟨ret_u64 (put3 x t h0 h1 t0 t1), below_drewN _ _⟩

/-- The word with a tag at a slot, whatever slot and tag. -/
theorem with_any (x s t : Int) (w : World) (h0 : 0 ≤ x) (h1 : x < 18446744073709551616) :
    Calls Tryz.prog 309 #[.int .u64 x, .int .i64 s, .int .i64 t] w fun e w' => e = .returned (.int .u64 (withOf x s t)) ∧ Below w.heap.size w w' := by
  by_cases h : (0 ≤ s ∧ s < 4) ∧ 0 ≤ t ∧ t ≤ 255
  · unfold withOf; rw [if_pos h]
    have := with_in x t s.toNat w h0 h1 (by omega) h.2.1 h.2.2
    rwa [Int.toNat_of_nonneg h.1.1] at this
  · unfold withOf; rw [if_neg h]; exact (with_out x s t w (by omega)).mono fun e w' ⟨a, b⟩ => ⟨a, b ▸ Below.refl _ _⟩

/-- How many of the first k slots are not free. -/
def cnt (x : Int) : Nat → Nat
  | 0 => 0
  | k + 1 => cnt x k + if tg x k = 0 then 0 else 1
theorem cnt_le (x : Int) (k : Nat) : cnt x k ≤ k := by
  induction k with
  | zero => exact Nat.le_refl _
  | succ k ih => simp only [cnt]; split <;> omega

/-- The lowest free slot from k on (n more), or -1. -/
def freeFrom (x : Int) : Nat → Nat → Int
  | _, 0 => -1
  | k, n + 1 => if tg x k = 0 then k else freeFrom x (k + 1) n

theorem free_any (x : Int) (w : World) (h0 : 0 ≤ x) (h1 : x < 18446744073709551616) :
    Calls Tryz.prog 95 #[.int .u64 x] w fun e w' => e = .returned (.int .i64 (freeFrom x 0 4)) ∧ Below w.heap.size w w' := by
  go_enter Tryz.func95, Tryz.ntmps95
  go_wp2_with (go_at_call 181; refine (parts_any _ _ h0 h1).mono ?_; rintro e w' ⟨rfl, hb⟩)
  go_loop [7] (fun i => ∃ k : Nat, k ≤ 4 ∧ i = .int .i64 k ∧ freeFrom x 0 4 = freeFrom x k (4 - k)) (fun i => 4 - (intOf i).toNat)
  case atStart => exact ⟨0, by omega, rfl, rfl⟩
  case round =>
    obtain ⟨k, hk, rfl, hf⟩ := hrel
    have HF := Lib.hid hf
    clear hf
    by_cases hlt : k < 4
    · have hi := tags_get x k hlt
      obtain ⟨m, hm⟩ : ∃ m, 4 - k = m + 1 := ⟨4 - k - 1, by omega⟩
      by_cases hz : tg x k = 0
      · have hz' : (tg x k == 0) = true := by simp [hz]
        have HC : Hid (freeFrom x 0 4 = k) := by show _ = _; rw [HF.out, hm]; simp [freeFrom, hz]
        clear hz hm
        go_wp2
        go_ret
        exact ⟨ret_i64 HC.out.symm, hb⟩
      · have hz' : (tg x k == 0) = false := by simp [hz]
        have HC : Hid (freeFrom x 0 4 = freeFrom x (k + 1) (4 - (k + 1))) := by show _ = _; rw [HF.out, hm, show 4 - (k + 1) = m from by omega]; simp [freeFrom, hz]
        clear hz hm
        go_wp2
        go_round
        case rel => exact ⟨k + 1, by omega, by go_num, HC.out⟩
        case measure => simp [intOf]; omega
    · obtain rfl : k = 4 := by omega
      go_wp2
      go_ret
      exact ⟨ret_i64 (by rw [HF.out]; rfl), hb⟩

/-- The slots among the first k that have a tag. -/
def has (x t : Int) : Nat → List Nat
  | 0 => []
  | k + 1 => has x t k ++ if tg x k = t then [k] else []
theorem has_le (x t : Int) (k : Nat) : (has x t k).length ≤ k := by
  induction k with
  | zero => exact Nat.le_refl _
  | succ k ih => simp only [has, List.length_append]; split <;> simp <;> omega
/-- Numbers as cells. -/
def cells (l : List Nat) : List Value := l.map fun (n : Nat) => Value.int .i64 n

theorem clip_ints (v : Value) (n base : Nat) (xs : List Value) (w : World) (h : Lst w base v n xs) :
    Calls Tryz.prog 258 #[v] w fun e w' => ∃ v', e = .returned v' ∧ w = w' ∧ Lst w base v' n xs := by
  rcases h with ⟨rfl, rfl, rfl⟩ | ⟨g, off, cap, cur, e, rfl, h2, h3, h4, h5, h6⟩
  · go_enter Tryz.func258, Tryz.ntmps258
    go_wp2
    go_ret
    exact ⟨_, rfl, rfl, .inl ⟨rfl, rfl, rfl⟩⟩
  · unfold maxLen at h5
    go_enter Tryz.func258, Tryz.ntmps258
    go_wp2
    go_ret
    exact ⟨_, rfl, rfl, .inr ⟨g, off, n, cur, e, rfl, h2, h3, Nat.le_refl _, by unfold maxLen; omega, h6⟩⟩
end Go.Proofs.YtomllmlieeaaiaaGreat

/-
  The walk of tagwords.Has.
-/
namespace Go.Proofs.YtomllmlieeaaiaaGreat
open Go.RowKit TagPure
set_option linter.unusedVariables false

theorem has_zero (x : Int) (w : World) : Calls Tryz.prog 234 #[.int .u64 x, .int .i64 0] w fun e w' => e = .returned (.slice none 0 0) ∧ w = w' := by
  go_enter Tryz.func234, Tryz.ntmps234
  go_wp2
  go_ret
  exact ⟨rfl, rfl⟩

set_option maxRecDepth 100000 in
set_option maxHeartbeats 1600000 in
theorem has_any (x t : Int) (w : World) (h0 : 0 ≤ x) (h1 : x < 18446744073709551616) (ht : t ≠ 0) :
    Calls Tryz.prog 234 #[.int .u64 x, .int .i64 t] w fun e w' => ∃ v, e = .returned v ∧ Lst w' w.heap.size v (has x t 4).length (cells (has x t 4)) ∧ Below w.heap.size w w' := by
  have ht' : (t == 0) = false := by simp [ht]
  clear ht
  obtain ⟨i0, hi0, hz0, hz1, hz2⟩ := info_parts info_int
  have HI := Lib.hid hi0; have HZ0 := Lib.hid hz0; have HZ1 := Lib.hid hz1; have HZ2 := Lib.hid hz2
  clear hi0 hz0 hz1 hz2
  go_enter Tryz.func234, Tryz.ntmps234
  go_wp2_with (go_at_call 181; refine (parts_any _ _ h0 h1).mono ?_; rintro e w1 ⟨rfl, hb⟩)
  go_loopw [5, 12] (fun v i wr => ∃ k : Nat, k ≤ 4 ∧ i = .int .i64 k ∧ wr.ownsRow w.heap.size 3 1 v (has x t k).length (cells (has x t k)) ∧ Below w.heap.size w wr) (fun _ i _ => 4 - (intOf i).toNat)
  case atStart => exact ⟨0, by omega, rfl, World.ownsRow_nil _ _ _ _, hb⟩
  case round =>
    obtain ⟨k, hk, rfl, hown, hbl⟩ := hrel
    have hlen := has_le x t k
    by_cases hlt : k < 4
    · have hi := tags_get x k hlt
      by_cases hz : tg x k = t
      · have hz' : (tg x k == t) = true := by simp [hz]
        have HC : Hid (has x t (k + 1) = has x t k ++ [k]) := by show _ = _; simp [has, hz]
        clear hz
        go_wp2_with (at_builtin; refine wpList_append_own _ rfl _ _ 101 rfl w.heap.size 3 i0 (.int .i64 0) 1 8 Tryz.underlying101 HI.out HZ0.out HZ1.out HZ2.out rfl (by decide) _ _ _ rfl (hown.alloc _) ⟨wr.heap.size, 0, none⟩ 1 1 [.int .i64 k] rfl rfl ?c1 ?c2 ?c3 ?c4 ?c5 ?_)
        case c1 => exact cell_one_new _ _ _
        case c2 => simp [Value.oneCell']
        case c3 => unfold maxLen; omega
        case c4 => omega
        case c5 => simp; have := hbl.size; omega
        intro v' w2 hown' hgrow _
        go_wp2
        go_roundw
        case rel =>
          refine ⟨k + 1, by omega, by go_num, ?_, (hbl.alloc hbl.size _).grown hgrow (by simp; have := hbl.size; omega) (fun j hj => (hown.lt j hj).1)⟩
          rw [HC.out]; simpa [cells] using hown'
        case measure => simp [intOf]; omega
      · have hz' : (tg x k == t) = false := by simp [hz]
        have HC : Hid (has x t (k + 1) = has x t k) := by show _ = _; simp [has, hz]
        clear hz
        go_wp2
        go_roundw
        case rel => exact ⟨k + 1, by omega, by go_num, by rw [HC.out]; exact hown, hbl⟩
        case measure => simp [intOf]; omega
    · obtain rfl : k = 4 := by omega
      go_wp2_with (go_at_call 258; refine (clip_ints _ _ _ _ _ (Lst.of_own hown)).mono ?_; rintro e w2 ⟨v', rfl, rfl, hl⟩)
      go_ret
      exact ⟨_, rfl, hl, hbl⟩
end Go.Proofs.YtomllmlieeaaiaaGreat

/-
  A Find: what lies in memory; what is told of it.
-/
namespace Go.Proofs.YtomllmlieeaaiaaGreat
open Go.RowKit Go.Maps TagPure
set_option linter.unusedVariables false

/-- What is still to be loaded. -/
inductive Ld where
  | tab
  | tag (p : Int × Int)
  | itm (p : Int × Int) (n : Int)
/-- A function value that loads it. -/
def LdAt (w : World) (fb : Nat) (v : Value) : Ld → Prop
  | .tab => v = .func (.func 111) #[.pointer (some ⟨fb, 0, none⟩)] #[]
  | .tag p => ∃ xb pb, v = .func (.func 187) #[] #[.pointer (some ⟨xb, 0, none⟩), .pointer (some ⟨pb, 0, none⟩)] ∧ w.heap[xb]? = some (.cells #[.pointer (some ⟨fb, 0, none⟩)] 62 (0, 0)) ∧ w.heap[pb]? = some (.cells #[.int .i64 p.1, .int .i64 p.2] 69 (0, 0))
  | .itm p n => ∃ xb pb nb, v = .func (.func 235) #[] #[.pointer (some ⟨xb, 0, none⟩), .pointer (some ⟨pb, 0, none⟩), .pointer (some ⟨nb, 0, none⟩)] ∧ w.heap[xb]? = some (.cells #[.pointer (some ⟨fb, 0, none⟩)] 62 (0, 0)) ∧ w.heap[pb]? = some (.cells #[.int .i64 p.1, .int .i64 p.2] 69 (0, 0)) ∧ w.heap[nb]? = some (.cells #[.int .i64 n] 3 (0, 0))
/-- The list of what is left: values, and what they load. -/
def LeftRow (w : World) (fb : Nat) (v : Value) (ls : List Ld) : Prop :=
  ∃ a c, v = .slice a ls.length c ∧ ls.length ≤ c ∧ c ≤ maxLen ∧ ((ls = [.tab] ∧ c = 1) ∨ ∀ l ∈ ls, l ≠ .tab) ∧ (ls = [] ∨ ∃ g o cur, a = some ⟨g, o, none⟩ ∧ w.heap[g]? = some (.cells cur 231 (0, 0)) ∧ ∀ i, (hi : i < ls.length) → ∃ u, cur[o + i]? = some u ∧ LdAt w fb u ls[i])
/-- A Find's words. -/
structure FW where
  key : ByteArray
  word : Int
  b : Int
  u : Int
  k : Int
  ref : Int
def FW.cells (f : FW) (v : Value) : Array Value := #[.string f.key, v, .int .u64 f.word, .int .i64 f.b, .int .i64 f.u, .int .i64 f.k, .int .i64 f.ref]
def FindAt (w : World) (fb : Nat) (f : FW) (ls : List Ld) : Prop := ∃ v, w.heap[fb]? = some (.cells (f.cells v) 227 (0, 0)) ∧ LeftRow w fb v ls
def fTy (T : TypeId) : Bool := T == 231 || T == 62 || T == 69 || T == 3
section
variable {w w' : World} {fb : Nat} {v : Value} {l : Ld} {ls : List Ld} {f : FW}
theorem LdAt.fr {K : TypeId → Bool} {mp : Bool} (h : LdAt w fb v l) (hf : Fr K mp w w') (hK : ∀ T, fTy T = true → K T = false) : LdAt w' fb v l := by
  cases l with
  | tab => exact h
  | tag p =>
    obtain ⟨xb, pb, h1, h2, h3⟩ := h
    exact ⟨xb, pb, h1, hf.cells _ _ _ _ h2 (hK _ rfl), hf.cells _ _ _ _ h3 (hK _ rfl)⟩
  | itm p n =>
    obtain ⟨xb, pb, nb, h1, h2, h3, h4⟩ := h
    exact ⟨xb, pb, nb, h1, hf.cells _ _ _ _ h2 (hK _ rfl), hf.cells _ _ _ _ h3 (hK _ rfl), hf.cells _ _ _ _ h4 (hK _ rfl)⟩
theorem LeftRow.fr {K : TypeId → Bool} {mp : Bool} (h : LeftRow w fb v ls) (hf : Fr K mp w w') (hK : ∀ T, fTy T = true → K T = false) : LeftRow w' fb v ls := by
  obtain ⟨a, c, h1, h2, h3, ht, h4 | ⟨g, o, cur, h4, h5, h6⟩⟩ := h
  · exact ⟨a, c, h1, h2, h3, ht, .inl h4⟩
  · refine ⟨a, c, h1, h2, h3, ht, .inr ⟨g, o, cur, h4, hf.cells _ _ _ _ h5 (hK _ rfl), fun i hi => ?_⟩⟩
    obtain ⟨u, h7, h8⟩ := h6 i hi
    exact ⟨u, h7, h8.fr hf hK⟩
theorem FindAt.fr {K : TypeId → Bool} {mp : Bool} (h : FindAt w fb f ls) (hf : Fr K mp w w') (hK : ∀ T, fTy T = true → K T = false) (h2 : K 227 = false) : FindAt w' fb f ls := by
  obtain ⟨v, h3, h4⟩ := h
  exact ⟨v, hf.cells _ _ _ _ h3 h2, h4.fr hf hK⟩
theorem FindAt.below (h : FindAt w fb f ls) (hb : Below w.heap.size w w') : FindAt w' fb f ls := h.fr (below_fr hb (fun _ => false) false) (fun _ _ => rfl) rfl
theorem LeftRow.below (h : LeftRow w fb v ls) (hb : Below w.heap.size w w') : LeftRow w' fb v ls := h.fr (below_fr hb (fun _ => false) false) (fun _ _ => rfl)
theorem FindAt.lt (h : FindAt w fb f ls) : fb < w.heap.size := by obtain ⟨v, h3, _⟩ := h; exact (Array.getElem?_eq_some_iff.1 h3).1
theorem w_not_f (T : TypeId) (h : fTy T = true) : wTy T = false := by
  unfold fTy at h
  simp only [Bool.or_eq_true, beq_iff_eq] at h
  rcases h with ((rfl | rfl) | rfl) | rfl <;> rfl
end
theorem fw_cells {W : World} {q : Nat} {f : FW} {v : Value} (z : W.heap[q]? = some (.cells (f.cells v) 227 (0, 0))) : W.cell? ⟨q, 0, none⟩ = some (.string f.key) ∧ W.cell? ⟨q, 1, none⟩ = some v ∧ W.cell? ⟨q, 2, none⟩ = some (.int .u64 f.word) ∧ W.cell? ⟨q, 3, none⟩ = some (.int .i64 f.b) ∧ W.cell? ⟨q, 4, none⟩ = some (.int .i64 f.u) ∧ W.cell? ⟨q, 5, none⟩ = some (.int .i64 f.k) ∧ W.cell? ⟨q, 6, none⟩ = some (.int .i64 f.ref) :=
  ⟨hcell z 0, hcell z 1, hcell z 2, hcell z 3, hcell z 4, hcell z 5, hcell z 6⟩
/-- Is it over? -/
theorem fover {w : World} {fb : Nat} {f : FW} {ls : List Ld} (h : FindAt w fb f ls) : Calls Tryz.prog 117 #[.pointer (some ⟨fb, 0, none⟩)] w fun e w' => e = .returned (.bool (decide (ls = []))) ∧ w' = w := by
  obtain ⟨v, h1, a, c, rfl, h2, h3, -, -⟩ := h
  obtain ⟨-, c1, -⟩ := fw_cells h1
  have hd : ((ls.length : Int) == 0) = decide (ls = []) := by
    cases ls with
    | nil => rfl
    | cons x r => simp; omega
  have hd2 : (ls.length == 0) = decide (ls = []) := by cases ls <;> rfl
  generalize decide (ls = []) = d at *
  clear h1
  go_enter Tryz.func117, Tryz.ntmps117
  go_wp2
  go_ret
  exact ⟨rfl, rfl⟩
theorem fover_nil (w : World) : Calls Tryz.prog 117 #[.pointer none] w fun e w' => e = .returned (.bool true) ∧ w' = w := by
  go_enter Tryz.func117, Tryz.ntmps117
  go_wp2
  go_ret
  exact ⟨rfl, rfl⟩
theorem fword {w : World} {fb : Nat} {f : FW} {ls : List Ld} (h : FindAt w fb f ls) : Calls Tryz.prog 110 #[.pointer (some ⟨fb, 0, none⟩)] w fun e w' => e = .returned (.int .u64 (if ls = [] then f.word else 0)) ∧ w' = w := by
  have ho := fover h
  obtain ⟨v, h1, -⟩ := h
  obtain ⟨-, -, c2, -⟩ := fw_cells h1
  clear h1
  by_cases hl : ls = []
  · rw [decide_eq_true hl] at ho
    rw [if_pos hl]
    clear hl
    go_enter Tryz.func110, Tryz.ntmps110
    go_wp2_with (go_at_call 117; refine ho.mono ?_; intro e w2 hh; obtain ⟨hh1, hh2⟩ := hh; subst hh1; obtain rfl := hh2.symm; clear ho)
    go_ret
    exact ⟨rfl, rfl⟩
  · rw [decide_eq_false hl] at ho
    rw [if_neg hl]
    clear hl
    go_enter Tryz.func110, Tryz.ntmps110
    go_wp2_with (go_at_call 117; refine ho.mono ?_; intro e w2 hh; obtain ⟨hh1, hh2⟩ := hh; subst hh1; obtain rfl := hh2.symm; clear ho)
    go_ret
    exact ⟨rfl, rfl⟩
theorem fword_nil (w : World) : Calls Tryz.prog 110 #[.pointer none] w fun e w' => e = .returned (.int .u64 0) ∧ w' = w := by
  go_enter Tryz.func110, Tryz.ntmps110
  go_wp2
  go_ret
  exact ⟨rfl, rfl⟩
theorem fgot {w : World} {fb : Nat} {f : FW} {ls : List Ld} (h : FindAt w fb f ls) : Calls Tryz.prog 106 #[.pointer (some ⟨fb, 0, none⟩)] w fun e w' => e = .returned (.tuple #[.agg #[.int .i64 f.b, .int .i64 f.u, .int .i64 f.k], .int .i64 f.ref]) ∧ Below w.heap.size w w' := by
  obtain ⟨v, h1, -⟩ := h
  obtain ⟨-, -, -, c3, c4, c5, c6⟩ := fw_cells h1
  have hne : fb < w.heap.size := (Array.getElem?_eq_some_iff.1 h1).1
  have hb := below_alloc w (.cells #[.int .i64 0, .int .i64 0, .int .i64 0] 71)
  clear h1
  go_enter Tryz.func106, Tryz.ntmps106
  go_upto_region 3 with (fail)
  change Code.wp _ _ _ _ (w.alloc (.cells #[.int .i64 0, .int .i64 0, .int .i64 0] 71))
  have hz := heap_alloc_new w (.cells #[.int .i64 0, .int .i64 0, .int .i64 0] 71)
  have k : ∀ {j : Nat} {u : Value}, w.cell? ⟨fb, j, none⟩ = some u → (w.alloc (.cells #[.int .i64 0, .int .i64 0, .int .i64 0] 71)).cell? ⟨fb, j, none⟩ = some u := fun h => (hb.cell hne).trans h
  have hne2 : fb ≠ w.heap.size := Nat.ne_of_lt hne
  have g3 := k c3; have g4 := k c4; have g5 := k c5; have g6 := k c6
  have d0 := hcell hz 0; have d1 := hcell hz 1; have d2 := hcell hz 2
  have f0 := hfrz hz 0; have f1 := hfrz hz 1; have f2 := hfrz hz 2
  have HB := Lib.hid hb; have HZ := Lib.hid hz
  clear c3 c4 c5 c6 k hb hz hne
  generalize w.alloc (.cells #[.int .i64 0, .int .i64 0, .int .i64 0] 71) = w1 at *
  go_region
  all_goals (try go_wp2_with fail)
  have s1 := setCell_same HZ.out 0 (.int .i64 f.b)
  have s2 := setCell_same s1 1 (.int .i64 f.u)
  have s3 := setCell_same s2 2 (.int .i64 f.k)
  have h0 := hcell s3 0; have h1 := hcell s3 1; have h2 := hcell s3 2
  have b1 := set_below HB.out HB.out.size (Nat.le_refl _) 0 (.int .i64 f.b)
  have b2 := set_below b1 b1.size (Nat.le_refl _) 1 (.int .i64 f.u)
  have b3 := set_below b2 b2.size (Nat.le_refl _) 2 (.int .i64 f.k)
  clear d0 d1 d2 g3 g4 g5 g6 f0 f1 f2
  all_goals refine bodyPost_ret (v := .tuple #[.agg #[.int .i64 f.b, .int .i64 f.u, .int .i64 f.k], .int .i64 f.ref]) (by simp [results, Tryz.results106, go_sem, h0, h1, h2]) rfl ⟨rfl, ?_⟩
  all_goals exact ⟨b3.os, b3.tape, b3.output, b3.size, fun k hk => b3.block k hk⟩
theorem fgot_nil (w : World) : Calls Tryz.prog 106 #[.pointer none] w fun e w' => e = .returned (.tuple #[.agg #[.int .i64 0, .int .i64 0, .int .i64 0], .int .i64 0]) ∧ Below w.heap.size w w' := by
  have hb := below_alloc w (.cells #[.int .i64 0, .int .i64 0, .int .i64 0] 71)
  go_enter Tryz.func106, Tryz.ntmps106
  go_wp2
  refine bodyPost_ret (v := .tuple #[.agg #[.int .i64 0, .int .i64 0, .int .i64 0], .int .i64 0]) (by simp [results, Tryz.results106, go_sem]) rfl ⟨rfl, ?_⟩
  exact hb
theorem fstep_nil (u : Value) (w : World) : Calls Tryz.prog 27 #[.pointer none, u] w fun e w' => e = .returned (.bool true) ∧ w' = w := by
  go_enter Tryz.func27, Tryz.ntmps27
  go_wp2_with (go_at_call 117; refine (fover_nil _).mono ?_; intro e w2 hh; obtain ⟨hh1, hh2⟩ := hh; subst hh1; obtain rfl := hh2.symm)
  go_ret
  exact ⟨rfl, rfl⟩
theorem fstep_over {w : World} {fb : Nat} {f : FW} (h : FindAt w fb f []) (u : Value) : Calls Tryz.prog 27 #[.pointer (some ⟨fb, 0, none⟩), u] w fun e w' => e = .returned (.bool true) ∧ w' = w := by
  have ho := fover h
  rw [show decide (([] : List Ld) = []) = true from rfl] at ho
  clear h
  go_enter Tryz.func27, Tryz.ntmps27
  go_wp2_with (go_at_call 117; refine ho.mono ?_; intro e w2 hh; obtain ⟨hh1, hh2⟩ := hh; subst hh1; obtain rfl := hh2.symm)
  go_ret
  exact ⟨rfl, rfl⟩
theorem fstep_no {w : World} {fb : Nat} {f : FW} {l : Ld} {ls : List Ld} (h : FindAt w fb f (l :: ls)) : Calls Tryz.prog 27 #[.pointer (some ⟨fb, 0, none⟩), .pointer none] w fun e w' => e = .returned (.bool false) ∧ w' = w := by
  have ho := fover h
  rw [show decide (l :: ls = []) = false from rfl] at ho
  clear h
  go_enter Tryz.func27, Tryz.ntmps27
  go_wp2_with (go_at_call 117; refine ho.mono ?_; intro e w2 hh; obtain ⟨hh1, hh2⟩ := hh; subst hh1; obtain rfl := hh2.symm)
  go_ret
  exact ⟨rfl, rfl⟩
theorem newfind (key : ByteArray) (w : World) : Calls Tryz.prog 24 #[.string key] w fun e w' => ∃ fb, e = .returned (.pointer (some ⟨fb, 0, none⟩)) ∧ FindAt w' fb ⟨key, 0, 0, 0, 0, 0⟩ [.tab] ∧ w.heap.size ≤ fb ∧ Below w.heap.size w w' := by
  go_enter Tryz.func24, Tryz.ntmps24
  go_wp2
  go_ret
  have b1 := below_alloc w (.cells #[.string key, .slice (some ⟨w.heap.size + 1, 0, none⟩) 1 1, .int .u64 0, .int .i64 0, .int .i64 0, .int .i64 0, .int .i64 0] 227)
  have z1 := heap_alloc_new w (.cells #[.string key, .slice (some ⟨w.heap.size + 1, 0, none⟩) 1 1, .int .u64 0, .int .i64 0, .int .i64 0, .int .i64 0, .int .i64 0] 227)
  have hs : (w.alloc (.cells #[.string key, .slice (some ⟨w.heap.size + 1, 0, none⟩) 1 1, .int .u64 0, .int .i64 0, .int .i64 0, .int .i64 0, .int .i64 0] 227)).heap.size = w.heap.size + 1 := by simp
  have z2 := heap_alloc_new (w.alloc (.cells #[.string key, .slice (some ⟨w.heap.size + 1, 0, none⟩) 1 1, .int .u64 0, .int .i64 0, .int .i64 0, .int .i64 0, .int .i64 0] 227)) (.cells #[.func (.func 111) #[.pointer (some ⟨w.heap.size, 0, none⟩)] #[]] 231)
  rw [hs] at z2
  refine ⟨w.heap.size, rfl, ⟨_, heap_alloc_old z1, some ⟨w.heap.size + 1, 0, none⟩, 1, rfl, Nat.le_refl _, by unfold maxLen; omega, .inl ⟨rfl, rfl⟩, .inr ⟨_, 0, _, rfl, z2, fun i hi => ?_⟩⟩, Nat.le_refl _, bnext b1 (below_alloc _ _)⟩
  have : i = 0 := by simp at hi; omega
  subst this
  exact ⟨_, rfl, rfl⟩
end Go.Proofs.YtomllmlieeaaiaaGreat

/-
  Small facts that Finds and Looks share.
-/
namespace Go.Proofs.YtomllmlieeaaiaaGreat
open Go.RowKit Go.Maps TagPure
set_option linter.unusedVariables false

theorem keeps_fx {w w' : World} {b : Nat} (h : Keeps (· = b) w w') (K : TypeId → Bool) (mp : Bool) : Fx K mp b w w' :=
  ⟨h.size, fun k cs T fr hk _ hb => (h.block k (Array.getElem?_eq_some_iff.1 hk).1 hb).trans hk, fun _ k es cl hk hb => (h.block k (Array.getElem?_eq_some_iff.1 hk).1 hb).trans hk⟩
theorem ws_keeps {w0 w w' : World} {B : WB} {V : WV} {s : CS} {b : Nat} {cs : Array Value} {T : TypeId} {fr : Nat × Nat} (h : WS w0 w B V s) (hk : Keeps (· = b) w w') (hb : w.heap[b]? = some (.cells cs T fr)) (hT : wTy T = false) (hlo : w0.heap.size ≤ b) : WS w0 w' B V s :=
  h.fr (keeps_fr hk (fun X => X == T) false (fun k e => ⟨_, _, _, e ▸ hb, by simp⟩)) (fun X hX => by cases hXT : (X == T); rfl; rw [beq_iff_eq] at hXT; subst hXT; rw [hX] at hT; cases hT) (keeps_below hk h.below h.below.size (fun k e => e ▸ hlo))
theorem pln_at {w : World} {base : Nat} {ao : Option Addr} {l : List (Int × Int)} (h : PlN w base (.slice ao l.length l.length) l) : Plc w ao l.length l := by
  obtain ⟨ao2, e, hp⟩ := h.plc
  simp only [Value.slice.injEq, and_true] at e
  rw [e]; exact hp
theorem pair_len (h b : Int) : (pairOf h b).length ≤ 2 := by unfold pairOf; split <;> simp
theorem plist_len (h v : Int) : (plist h v).length ≤ 4 := by
  have h1 := dedup_len (pairOf h (asOld v) ++ pairOf h (asNow v))
  have h2 := pair_len h (asOld v)
  have h3 := pair_len h (asNow v)
  rw [List.length_append] at h1
  unfold plist; omega
theorem key_ne {x y : ByteArray} (h : x ≠ y) : (x.toList == y.toList) = false := by
  rw [← Bool.not_eq_true, beq_iff_eq, ByteArray.toList_eq, ByteArray.toList_eq]
  exact fun c => h (ByteArray.ext (Array.toList_inj.mp c))
theorem has_lt (x t : Int) (k n : Nat) (h : n ∈ has x t k) : n < k := by
  induction k with
  | zero => cases h
  | succ k ih =>
    unfold has at h
    rcases List.mem_append.1 h with h | h
    · have := ih h; omega
    · split at h
      · rw [List.mem_singleton] at h; omega
      · cases h
end Go.Proofs.YtomllmlieeaaiaaGreat

/-
  A Find: the table's load.
-/
namespace Go.Proofs.YtomllmlieeaaiaaGreat
open Go.RowKit Go.Maps TagPure
set_option linter.unusedVariables false

theorem info_ld : (Tryz.prog.info? 231).map (fun i => (i.zero, i.size, i.bytes)) = some (some .nilFunc, 1, 8) := by kernel_rfl
/-- A list of loads that is own, or empty without room. -/
def LOwn (w : World) (base : Nat) (v : Value) (xs : List Value) : Prop :=
  (xs = [] ∧ ∃ ao, v = .slice ao 0 0) ∨ w.ownsRow base 231 1 v xs.length xs
def Lds (w : World) (fb : Nat) (xs : List Value) (ls : List Ld) : Prop := xs.length = ls.length ∧ ∀ i, (hi : i < ls.length) → ∃ u, xs[i]? = some u ∧ LdAt w fb u ls[i]
theorem LOwn.sl {w : World} {base : Nat} {v : Value} {xs : List Value} (h : LOwn w base v xs) : ∃ ao c, v = .slice ao xs.length c := by
  rcases h with ⟨rfl, ao, rfl⟩ | h
  · exact ⟨ao, 0, rfl⟩
  · exact own_sl2 h
theorem Lds.fr {w w' : World} {fb : Nat} {xs : List Value} {ls : List Ld} {K : TypeId → Bool} {mp : Bool} (h : Lds w fb xs ls) (hf : Fr K mp w w') (hK : ∀ T, fTy T = true → K T = false) : Lds w' fb xs ls :=
  ⟨h.1, fun i hi => by obtain ⟨u, h1, h2⟩ := h.2 i hi; exact ⟨u, h1, h2.fr hf hK⟩⟩
theorem ldat_fr2 {w w' : World} {fb : Nat} {v : Value} {l : Ld} {K : TypeId → Bool} {mp : Bool} (h : LdAt w fb v l) (hf : Fr K mp w w') (h1 : K 62 = false) (h2 : K 69 = false) (h3 : K 3 = false) : LdAt w' fb v l := by
  cases l with
  | tab => exact h
  | tag p =>
    obtain ⟨xb, pb, g1, g2, g3⟩ := h
    exact ⟨xb, pb, g1, hf.cells _ _ _ _ g2 h1, hf.cells _ _ _ _ g3 h2⟩
  | itm p n =>
    obtain ⟨xb, pb, nb, g1, g2, g3, g4⟩ := h
    exact ⟨xb, pb, nb, g1, hf.cells _ _ _ _ g2 h1, hf.cells _ _ _ _ g3 h2, hf.cells _ _ _ _ g4 h3⟩
theorem lds_fr2 {w w' : World} {fb : Nat} {xs : List Value} {ls : List Ld} {K : TypeId → Bool} {mp : Bool} (h : Lds w fb xs ls) (hf : Fr K mp w w') (h1 : K 62 = false) (h2 : K 69 = false) (h3 : K 3 = false) : Lds w' fb xs ls :=
  ⟨h.1, fun i hi => by obtain ⟨u, g1, g2⟩ := h.2 i hi; exact ⟨u, g1, ldat_fr2 g2 hf h1 h2 h3⟩⟩
theorem Lds.snoc {w : World} {fb : Nat} {xs : List Value} {ls : List Ld} {u : Value} {l : Ld} (h : Lds w fb xs ls) (hu : LdAt w fb u l) : Lds w fb (xs ++ [u]) (ls ++ [l]) := by
  refine ⟨by simp [h.1], fun i hi => ?_⟩
  by_cases hlt : i < ls.length
  · obtain ⟨v, h1, h2⟩ := h.2 i hlt
    exact ⟨v, by rw [List.getElem?_append_left (by rw [h.1]; exact hlt)]; exact h1, by rw [List.getElem_append_left hlt]; exact h2⟩
  · have : i = ls.length := by simp at hi; omega
    subst this
    exact ⟨u, by rw [← h.1]; simp, by simpa using hu⟩
theorem row_of {w : World} {base fb : Nat} {v : Value} {xs : List Value} {ls : List Ld} (h : LOwn w base v xs) (hl : Lds w fb xs ls) (ht : ∀ l ∈ ls, l ≠ .tab) : LeftRow w fb v ls := by
  rcases h with ⟨rfl, ao, rfl⟩ | ⟨h1, ⟨rfl, h0⟩ | ⟨g, cap, cur, rfl, hb, hg, hn, hm, hs, hx⟩⟩
  · have h0 : ls = [] := by have := hl.1; exact List.eq_nil_of_length_eq_zero this.symm
    subst h0
    exact ⟨ao, 0, rfl, Nat.le_refl _, Nat.zero_le _, .inr ht, .inl rfl⟩
  · have h0 : ls = [] := by have := hl.1; rw [h0] at this; exact List.eq_nil_of_length_eq_zero this.symm
    subst h0
    exact ⟨none, 0, by simp, Nat.le_refl _, Nat.zero_le _, .inr ht, .inl rfl⟩
  · refine ⟨_, cap, by rw [hl.1], by rw [← hl.1]; exact hn, hm, .inr ht, .inr ⟨g, 0, cur, rfl, hg, fun i hi => ?_⟩⟩
    obtain ⟨u, h2, h3⟩ := hl.2 i hi
    refine ⟨u, ?_, h3⟩
    rw [← hx, List.getElem?_take, if_pos (by have := hl.1; omega), Array.getElem?_toList] at h2
    rw [Nat.zero_add]; exact h2
/-- One load more. -/
theorem step_append_left {ops : Array Oper} {o : Oper} {a : Act} {w : World} {K : Act → World → Prop} {Q : Exit → Act → World → Prop} {E : Prop} (hgd : o.guard = none) (s x : Operand)
    (ho : o.op = .call { callee := .builtin .append, args := #[s, x], argTypes := #[225, 225] })
    (base : Nat) (v : Value) (xs : List Value) (hs : a.eval s = v) (hown : LOwn w base v xs) (q T : Nat) (fr : Nat × Nat) (u : Value) (hx : a.eval x = .slice (some ⟨q, 0, none⟩) 1 1)
    (hq : w.heap[q]? = some (.cells #[u] T fr)) (hu : u.oneCell' = true) (hn : xs.length ≤ 1000) (hbase : base ≤ w.heap.size)
    (h : ∀ g cap w', w'.ownsRow base 231 1 (.slice (some ⟨g, 0, none⟩) (xs.length + 1) cap) (xs.length + 1) (xs ++ [u]) → Keeps (fun k => base ≤ k) w w' → Fr (fun X => X == 231) false w w' → K (a.put o.dst (.slice (some ⟨g, 0, none⟩) (xs.length + 1) cap)) w') :
    if Region.wanted o (yielded ops a.tmps) = true then Oper.wp Tryz.prog o a w K Q else E := by
  obtain ⟨i0, hi0, hz0, hz1, hz2⟩ := info_parts info_ld
  rcases hown with ⟨rfl, ao, rfl⟩ | hown
  · refine step_append_grows hgd s x _ ho 231 i0 _ 1 8 Tryz.underlying225 hi0 hz0 hz1 hz2 rfl (by decide) ao 0 0 [] hs (fun _ => ⟨rfl, rfl⟩) rfl (fun _ _ _ _ c => by simp at c) ⟨q, 0, none⟩ 1 1 [u] hx rfl (World.news_of_block (cs := #[u]) hq) (by simpa using hu) (by omega) (by unfold maxLen; omega) (by omega) ?_
    intro v' w' hown' hg
    obtain ⟨g, cap, y, rfl, -, -, hb⟩ := own_at hown' 0 (by omega)
    exact h g cap w' (own_lower hown' hbase) ⟨hg.os, hg.tape, hg.output, hg.size, fun k hk _ => hg.block k hk (fun c => by cases c)⟩ ⟨hg.size, fun k cs T fr hk _ => (hg.block k (Array.getElem?_eq_some_iff.1 hk).1 (fun c => by cases c)).trans hk, fun _ k es cl hk => (hg.block k (Array.getElem?_eq_some_iff.1 hk).1 (fun c => by cases c)).trans hk⟩
  · refine step_append_lies _ hgd s x _ ho base 231 i0 _ 1 8 Tryz.underlying225 hi0 hz0 hz1 hz2 rfl (by decide) v xs.length xs hs hown ⟨q, 0, none⟩ 1 1 [u] hx rfl (World.news_of_block (cs := #[u]) hq) (by simpa using hu) (by omega) (by unfold maxLen; omega) (by omega) hbase w.heap.size rfl ?_
    intro g cap w' hown' hg hat hlt
    exact h g cap w' hown' ⟨hg.os, hg.tape, hg.output, hg.size, fun k hk hn => hg.block k hk (fun c => hn (hown.lt k c.symm).1)⟩ (grown_ty hown hg)
theorem PlN.keeps {w w' : World} {base : Nat} {v : Value} {l : List (Int × Int)} {S : Nat → Prop} (h : PlN w base v l) (hk : Keeps S w w') (hS : ∀ k, S k → k < base) : PlN w' base v l := by
  rcases h with h | ⟨g, cur, h1, h2, h3, h4⟩
  · exact .inl h
  · exact .inr ⟨g, cur, h1, h2, (hk.block _ (Array.getElem?_eq_some_iff.1 h3).1 (fun c => by have := hS _ c; omega)).trans h3, h4⟩
theorem LOwn.below {w w' : World} {base : Nat} {v : Value} {xs : List Value} (h : LOwn w base v xs) (hb : Below w.heap.size w w') : LOwn w' base v xs := h.imp id (fun g => own_below g hb)
theorem take_tag (L : List (Int × Int)) (k : Nat) (h : k < L.length) : (L.take (k + 1)).map Ld.tag = (L.take k).map Ld.tag ++ [.tag L[k]] := by
  rw [List.take_add_one, List.getElem?_eq_getElem h, List.map_append]; rfl
theorem set_keeps_ty {w : World} {q T : Nat} {cs : Array Value} (h : w.heap[q]? = some (.cells cs T (0, 0))) (o : Nat) (v : Value) : Keeps (· = q) w (w.setCell ⟨q, o, none⟩ v) ∧ Fr (fun X => X == T) false w (w.setCell ⟨q, o, none⟩ v) := ⟨setCell_keeps w q o v, set_ty h o v⟩
abbrev TThree (fb xb : Nat) (k : ByteArray) (x : Int) (W : World) : Prop := W.cell? ⟨xb, 0, none⟩ = some (.pointer (some ⟨fb, 0, none⟩)) ∧ W.cell? ⟨fb, 0, none⟩ = some (.string k) ∧ W.cell? ⟨fb, 2, none⟩ = some (.int .u64 x)
theorem tthree_of {W : World} {fb xb : Nat} {f : FW} {v : Value} (h : W.heap[fb]? = some (.cells (f.cells v) 227 (0, 0))) (hx : W.heap[xb]? = some (.cells #[.pointer (some ⟨fb, 0, none⟩)] 62 (0, 0))) : TThree fb xb f.key f.word W := ⟨hcell hx 0, hcell h 0, hcell h 2⟩
set_option maxRecDepth 10000 in
set_option maxHeartbeats 2000000 in
theorem ftable {w0 w : World} {B : WB} {V : WV} {s : CS} {fb : Nat} {f : FW} (h : WS w0 w B V s) (hr : s.room) (hlo : w0.heap.size ≤ fb) (hk : f.key.size ≤ 1000000) (ao : Option Addr) (hb : w.heap[fb]? = some (.cells (f.cells (.slice ao 0 0)) 227 (0, 0))) :
    Calls Tryz.prog 111 #[.pointer (some ⟨fb, 0, none⟩), .pointer (some ⟨B.wb, 0, none⟩)] w fun e w' => e = .returned (.bool false) ∧ WS w0 w' B V (s.acc 1 2 (s.val 2)) ∧
      FindAt w' fb { f with word := s.val 2 } ((plist (hashOf f.key) (s.val 2)).map Ld.tag) ∧ Fx wTy true fb w w' := by
  have hwf := h.own.wf 2
  have hfb := (Array.getElem?_eq_some_iff.1 hb).1
  have hba := below_alloc w (.cells #[.pointer (some ⟨fb, 0, none⟩)] 62)
  have hza := heap_alloc_new w (.cells #[.pointer (some ⟨fb, 0, none⟩)] 62)
  have h1 := h.keep hba
  have hb1 := (hba.block _ hfb).trans hb
  have F1 := Lib.hid (below_fr hba wTy true)
  have hz := hba.size
  have hxb : (w.alloc (.cells #[.pointer (some ⟨fb, 0, none⟩)] 62)).heap.size = w.heap.size + 1 := by simp
  have HXB := Lib.hid hxb
  have H1 := Lib.hid h1; have HB1 := Lib.hid hb1; have HZA := Lib.hid hza; have HFB := Lib.hid hfb; have HWF := Lib.hid hwf; have HK := Lib.hid hk; have HR := Lib.hid hr
  clear hba hza h1 hb1 hz hb h hxb hfb hwf hk hr
  go_enter Tryz.func111, Tryz.ntmps111
  go_upto_region 1 with (fail)
  change Code.wp _ _ _ _ (w.alloc (.cells #[.pointer (some ⟨fb, 0, none⟩)] 62))
  generalize w.alloc (.cells #[.pointer (some ⟨fb, 0, none⟩)] 62) = w1 at *
  generalize hxb : w.heap.size = xb at *
  have HX := Lib.hid hxb
  clear hxb
  go_cut [] (fun wx => WS w0 wx B V (s.acc 1 2 (s.val 2)) ∧ wx.heap[fb]? = some (.cells (FW.cells { f with word := s.val 2 } (.slice ao 0 0)) 227 (0, 0)) ∧ wx.heap[xb]? = some (.cells #[.pointer (some ⟨fb, 0, none⟩)] 62 (0, 0)) ∧ Fx wTy true fb w wx)
  case first =>
    have hd0 := H1.out.keep (Below.refl w1.heap.size w1).drew
    have y0 : w1.drew.cell? ⟨B.wb, 0, none⟩ = some (.pointer (some ⟨B.cb, 0, none⟩)) := hd0.c0
    have y1 : w1.drew.cell? ⟨xb, 0, none⟩ = some (.pointer (some ⟨fb, 0, none⟩)) := hcell (w := w1.drew) HZA.out 0
    have hlw := hd0.load HR.out 2 (by decide)
    have F1D := Lib.hid (F1.out.trans (below_fr (Below.refl w1.heap.size w1).drew wTy true))
    clear hd0
    go_region_with (go_at_call 94; refine hlw.mono ?_; intro e w2 hh; obtain ⟨hh1, h2, f2⟩ := hh; subst hh1; have hb2 := f2.cells _ _ _ _ HB1.out rfl; have hz2 := f2.cells _ _ _ _ HZA.out rfl; have z1 : w2.cell? ⟨fb, 2, none⟩ = some (.int .u64 f.word) := hcell hb2 2; have z2 := hfrz hb2; have z3 : w2.cell? ⟨xb, 0, none⟩ = some (.pointer (some ⟨fb, 0, none⟩)) := hcell hz2 0; have H2 := Lib.hid h2; have F2 := Lib.hid (F1D.out.trans f2); have HB2 := Lib.hid hb2; have HZ2 := Lib.hid hz2; clear h2 f2 hb2 hz2 y0 y1 hlw)
    all_goals (try go_wp2_with fail)
    all_goals go_meet
    all_goals
      have s1 := setCell_same HB2.out 2 (.int .u64 (s.val 2))
      have s2 := setCell_keeps w2 fb 2 (.int .u64 (s.val 2))
      have hne : xb ≠ fb := fun c => by have := HZ2.out; rw [c] at this; have := this.symm.trans HB2.out; simp at this
      exact ⟨set_take (o := 2) H2.out HB2.out rfl hlo _, s1, (s2.block _ (Array.getElem?_eq_some_iff.1 HZ2.out).1 hne).trans HZ2.out, (F2.out.fx fb).trans (set_fx _ _ _ _ _ _)⟩
  case rest =>
    obtain ⟨h2, hb2, hz2, fx2⟩ := hcut
    obtain ⟨L, hL⟩ : ∃ L, L = plist (hashOf f.key) (s.val 2) := ⟨_, rfl⟩
    have hH := fun W => hash_any f.key HK.out W
    have hP := fun W => places_any (hashOf f.key) (s.val 2) (hfold_bd _ _).1 (hfold_bd _ _).2 HWF.out W
    have hLL := plist_len (hashOf f.key) (s.val 2)
    rw [← hL] at hLL
    rw [← hL] at hP
    have hlt2 := (Array.getElem?_eq_some_iff.1 hb2).1
    have hltx := (Array.getElem?_eq_some_iff.1 hz2).1
    have hs2 : TThree fb xb f.key (s.val 2) wc.drew := tthree_of (f := { f with word := s.val 2 }) (W := wc.drew) hb2 hz2
    have H2 := Lib.hid h2; have HB2 := Lib.hid hb2; have HZ2 := Lib.hid hz2; have FX2 := Lib.hid fx2; have HH := Lib.hid hH; have HP := Lib.hid hP; have HLL := Lib.hid hLL; have HL := Lib.hid hL
    clear h2 hb2 hz2 fx2 hH hP hLL hL H1 HB1 HZA F1
    go_upto_region 2 with (fail)
    go_region_held2 (fun W => TThree fb xb f.key (s.val 2) W) (assumption) (first
      | (go_at_call 56; refine (HH.out _).mono ?_; intro e w3 hh; obtain ⟨hh1, b3⟩ := hh; subst hh1; have s3 : TThree fb xb f.key (s.val 2) w3 := ⟨(b3.cell hltx).trans hs2.1, (b3.cell hlt2).trans hs2.2.1, (b3.cell hlt2).trans hs2.2.2⟩; have B3 := Lib.hid ((Below.refl wc.heap.size wc).drew.trans b3); clear b3)
      | (go_at_call 55; refine (HP.out _).mono ?_; intro e w4 hh; obtain ⟨pv, hh1, hp, b4⟩ := hh; subst hh1; have hb3s := b4.size; obtain ⟨ao2, hpv, hpl⟩ := hp.plc; subst hpv; have s4 : TThree fb xb f.key (s.val 2) w4 := ⟨(b4.cell (Nat.lt_of_lt_of_le hltx B3.out.size)).trans s3.1, (b4.cell (Nat.lt_of_lt_of_le hlt2 B3.out.size)).trans s3.2.1, (b4.cell (Nat.lt_of_lt_of_le hlt2 B3.out.size)).trans s3.2.2⟩; have B4 := Lib.hid (B3.out.trans (b4.mono B3.out.size)); have HPL := Lib.hid hpl; have HPN := Lib.hid (And.intro B3.out.size hp); clear b4 hp hpl))
    have hne : xb ≠ fb := fun c => by have := HZ2.out; rw [c] at this; have := this.symm.trans HB2.out; simp at this
    have hb4 := (B4.out.block _ hlt2).trans HB2.out
    have hz4 := (B4.out.block _ hltx).trans HZ2.out
    have h4 := H2.out.keep B4.out
    have fx4 := FX2.out.trans ((below_fr B4.out wTy true).fx fb)
    obtain ⟨hpz, hpn⟩ := HPN.out
    have hpb : fb < w3.heap.size := Nat.lt_of_lt_of_le hlt2 hpz
    have hp4 : w3.heap.size ≤ w4.heap.size := hb3s
    have HB4 := Lib.hid hb4; have HZ4 := Lib.hid hz4; have H4 := Lib.hid h4; have FX4 := Lib.hid fx4; have HPN4 := Lib.hid hpn; have HPB := Lib.hid hpb; have HNE := Lib.hid hne; have HLN := Lib.hid HLL.out
    clear hb4 hz4 h4 fx4 hpn hpb hne hpz HPN B4 B3 HPL H2 HB2 HZ2 FX2 HH HP hs2 s3 s4 hlt2 hltx
    all_goals (try go_wp2_with fail)
    go_loopw [26] (fun i wr => ∃ (k : Nat) (v : Value) (xs : List Value), k ≤ L.length ∧ i = .int .i64 k ∧ wr.heap[fb]? = some (.cells (FW.cells { f with word := s.val 2 } v) 227 (0, 0)) ∧ LOwn wr w4.heap.size v xs ∧ Lds wr fb xs ((L.take k).map Ld.tag) ∧ Keeps (· = fb) w4 wr) (fun i _ => L.length - (intOf i).toNat)
    case atStart => exact ⟨0, _, [], by omega, rfl, HB4.out, .inl ⟨rfl, ao, rfl⟩, ⟨rfl, fun i hi => absurd hi (by simp)⟩, below_keeps (Below.refl _ _) _⟩
    case round =>
      obtain ⟨k, v, xs, hk, rfl, hbr, hown, hlds, hK⟩ := hrel
      by_cases hlt : k < L.length
      · have hlt' : (k : Int) < L.length := by omega
        have hzr := (hK.block _ (Array.getElem?_eq_some_iff.1 HZ4.out).1 HNE.out).trans HZ4.out
        have hpr := pln_at (HPN4.out.keeps hK (fun k e => e ▸ HPB.out))
        obtain ⟨b0, off, pa, pc, rfl, hlk, g0, g1⟩ := hpr.at k hlt
        have hlk' : L[k] = (pa, pc) := by rw [List.getElem?_eq_getElem hlt] at hlk; exact Option.some.inj hlk
        have htk := take_tag L k hlt
        rw [hlk'] at htk
        obtain ⟨la, lc, rfl⟩ := hown.sl
        have hba := below_alloc wr (.cells #[.int .i64 pa, .int .i64 pc] 69)
        have hza := heap_alloc_new wr (.cells #[.int .i64 pa, .int .i64 pc] 69)
        have hb5 := (hba.block _ (Array.getElem?_eq_some_iff.1 hbr).1).trans hbr
        have hz5 := (hba.block _ (Array.getElem?_eq_some_iff.1 hzr).1).trans hzr
        have hown5 := hown.below hba
        have hlds5 := hlds.fr (below_fr hba (fun _ => false) false) (fun _ _ => rfl)
        have hK5 := hK.again (below_keeps hba _)
        have hxl : xs.length ≤ 1000 := by have h1 := hlds.1; have h2 := HLN.out; rw [List.length_map, List.length_take] at h1; omega
        have HLT := Lib.hid hlt; have HTK := Lib.hid htk; have HB5 := Lib.hid hb5; have HZ5 := Lib.hid hz5; have HOW5 := Lib.hid hown5; have HLD5 := Lib.hid hlds5; have HK5 := Lib.hid hK5; have HZA := Lib.hid hza; have HXL := Lib.hid hxl; have HWZ := Lib.hid hK.size
        clear hzr hpr hlk hlk' htk hba hza hb5 hz5 hown5 hlds5 hK5 hbr hown hlds hK hxl
        go_upto_block 1 with (fail)
        go_cut [] (fun wx => ∃ (v' : Value) (xs' : List Value), wx.heap[fb]? = some (.cells (FW.cells { f with word := s.val 2 } v') 227 (0, 0)) ∧ LOwn wx w4.heap.size v' xs' ∧ Lds wx fb xs' ((L.take (k + 1)).map Ld.tag) ∧ Keeps (· = fb) w4 wx)
        case first =>
          go_upto_region 5 with (fail)
          change Code.wp _ _ _ _ (wr.alloc (.cells #[.int .i64 pa, .int .i64 pc] 69))
          clear g0 g1
          have hsz : (wr.alloc (.cells #[.int .i64 pa, .int .i64 pc] 69)).heap.size = wr.heap.size + 1 := by simp
          generalize wr.alloc (.cells #[.int .i64 pa, .int .i64 pc] 69) = w5 at *
          generalize wr.heap.size = pb at *
          have HSZ := Lib.hid hsz
          clear hsz
          have x0 : w5.cell? ⟨xb, 0, none⟩ = some (.pointer (some ⟨fb, 0, none⟩)) := hcell HZ5.out 0
          have x1 : w5.cell? ⟨fb, 1, none⟩ = some (.slice la xs.length lc) := hcell HB5.out 1
          have hlx := (Array.getElem?_eq_some_iff.1 HZ5.out).1
          have hlb := (Array.getElem?_eq_some_iff.1 HB5.out).1
          have x0' : ∀ o, (w5.alloc o).cell? ⟨xb, 0, none⟩ = some (.pointer (some ⟨fb, 0, none⟩)) := fun o => by rw [World.cell?_alloc_past _ _ _ hlx]; exact x0
          have x1' : ∀ o, (w5.alloc o).cell? ⟨fb, 1, none⟩ = some (.slice la xs.length lc) := fun o => by rw [World.cell?_alloc_past _ _ _ hlb]; exact x1
          have HNW : Hid (((w5.drew).alloc (.cells #[.func (.func 187) #[] #[.pointer (some ⟨xb, 0, none⟩), .pointer (some ⟨pb, 0, none⟩)]] 231)).heap[w5.heap.size]? = some (.cells #[.func (.func 187) #[] #[.pointer (some ⟨xb, 0, none⟩), .pointer (some ⟨pb, 0, none⟩)]] 231 (0, 0))) := heap_alloc_new (w5.drew) _
          have HWB : Hid (Below w5.heap.size w5 ((w5.drew).alloc (.cells #[.func (.func 187) #[] #[.pointer (some ⟨xb, 0, none⟩), .pointer (some ⟨pb, 0, none⟩)]] 231))) := ((Below.refl _ _).drew).alloc (Nat.le_refl _) _
          have HBS : Hid (w4.heap.size ≤ w5.heap.size) := HK5.out.size
          clear hlx hlb
          go_region_law ((refine step_append_left (by rfl) _ _ (by rfl) w4.heap.size (.slice la xs.length lc) xs (by rfl) (HOW5.out.below HWB.out) w5.heap.size 231 (0, 0) (.func (.func 187) #[] #[.pointer (some ⟨xb, 0, none⟩), .pointer (some ⟨pb, 0, none⟩)]) (by rfl) HNW.out rfl HXL.out (Nat.le_trans HBS.out HWB.out.size) ?_); intro g cap w6 hown6 hk6 hf6; have hb6 := hf6.cells _ _ _ _ ((HWB.out.block _ (Array.getElem?_eq_some_iff.1 HB5.out).1).trans HB5.out) rfl; have hz6 := hf6.cells _ _ _ _ ((HWB.out.block _ (Array.getElem?_eq_some_iff.1 HZ5.out).1).trans HZ5.out) rfl; have t0 : w6.cell? ⟨xb, 0, none⟩ = some (.pointer (some ⟨fb, 0, none⟩)) := hcell hz6 0; have t1 : w6.cell? ⟨fb, 1, none⟩ = some (.slice la xs.length lc) := hcell hb6 1; have t2 := hfrz hb6 1; have HO6 := Lib.hid hown6; have HK6 := Lib.hid hk6; have HF6 := Lib.hid hf6; have HB6 := Lib.hid hb6; clear hown6 hk6 hf6 hb6 hz6)
          all_goals (try go_wp2_with fail)
          all_goals go_meet
          all_goals
            have s1 := setCell_same HB6.out 1 (.slice (some ⟨g, 0, none⟩) (xs.length + 1) cap)
            have s2 := setCell_keeps w6 fb 1 (.slice (some ⟨g, 0, none⟩) (xs.length + 1) cap)
            have s3 := set_ty HB6.out 1 (.slice (some ⟨g, 0, none⟩) (xs.length + 1) cap)
            have f1 := below_fr HWB.out (fun _ => false) false
            have d1 := lds_fr2 (lds_fr2 (HLD5.out.fr f1 (fun _ _ => rfl)) HF6.out rfl rfl rfl) s3 rfl rfl rfl
            have d2 : LdAt (w6.setCell ⟨fb, 1, none⟩ (.slice (some ⟨g, 0, none⟩) (xs.length + 1) cap)) fb (.func (.func 187) #[] #[.pointer (some ⟨xb, 0, none⟩), .pointer (some ⟨pb, 0, none⟩)]) (.tag (pa, pc)) :=
              ⟨xb, pb, rfl, s3.cells _ _ _ _ (HF6.out.cells _ _ _ _ (f1.cells _ _ _ _ HZ5.out rfl) rfl) rfl, s3.cells _ _ _ _ (HF6.out.cells _ _ _ _ (f1.cells _ _ _ _ HZA.out rfl) rfl) rfl⟩
            have d3 := d1.snoc d2
            rw [← HTK.out] at d3
            have o3 := own_fr HO6.out s3 rfl
            have k3 := (((HK5.out.again (below_keeps HWB.out _)).trans HK6.out).trans s2).mono (T := (· = fb)) (fun x hx hh => by
              rcases hh with (hh | hh) | hh
              · exact hh
              · omega
              · exact hh)
            exact ⟨_, _, s1, .inr (by rw [List.length_append]; exact o3), d3, k3⟩
        case rest =>
          obtain ⟨v', xs', c1, c2, c3, c4⟩ := hcut
          have P := Lib.hid (And.intro c1 (And.intro c2 (And.intro c3 c4)))
          clear c1 c2 c3 c4
          have hlt := HLT.out
          have hl4 := HLN.out
          go_wp2
          go_roundw
          case rel => exact ⟨k + 1, v', xs', HLT.out, by go_num, P.out.1, P.out.2.1, P.out.2.2.1, P.out.2.2.2⟩
          case measure => simp [intOf]; omega
      · obtain rfl : k = L.length := by omega
        rw [List.take_length] at hlds
        have hrow := row_of hown hlds (fun l hl => by rw [List.mem_map] at hl; obtain ⟨p, -, rfl⟩ := hl; intro c; cases c)
        have h6 := ws_keeps H4.out hK HB4.out rfl hlo
        have fx6 := FX4.out.trans (keeps_fx hK wTy true)
        have hfa : FindAt wr fb { f with word := s.val 2 } (L.map Ld.tag) := ⟨v, hbr, hrow⟩
        rw [HL.out] at hfa
        have P := Lib.hid (And.intro h6 (And.intro hfa fx6))
        clear hrow h6 fx6 hfa hbr hown hlds hK
        go_wp2
        go_ret
        exact ⟨rfl, P.out.1, P.out.2.1, P.out.2.2⟩
end Go.Proofs.YtomllmlieeaaiaaGreat

/-
  A Find: a place's load.
-/
namespace Go.Proofs.YtomllmlieeaaiaaGreat
open Go.RowKit Go.Maps TagPure
set_option linter.unusedVariables false

/-- Nothing more. -/
theorem step_append_zero {ops : Array Oper} {o : Oper} {a : Act} {w : World} {K : Act → World → Prop} {Q : Exit → Act → World → Prop} {E : Prop} (hgd : o.guard = none) (s x : Operand)
    (ho : o.op = .call { callee := .builtin .append, args := #[s, x], argTypes := #[225, 225] })
    (ao : Option Addr) (n cap : Nat) (hs : a.eval s = .slice ao n cap) (hc : n ≤ cap) (ad : Addr) (c : Nat) (hx : a.eval x = .slice (some ad) 0 c)
    (h : K (a.put o.dst (.slice ao n cap)) w) :
    if Region.wanted o (yielded ops a.tmps) = true then Oper.wp Tryz.prog o a w K Q else E := by
  obtain ⟨i0, hi0, hz0, hz1, hz2⟩ := info_parts info_ld
  have hw : Region.wanted o (yielded ops a.tmps) = true := by simp [Region.wanted, hgd]
  rw [if_pos hw]
  have hfc := run_firstCells_some (P := Tryz.prog) w i0.size 0 ad 0 c [] (by simp) (fun j u hj => by simp at hj)
  have hrun : (Builtin.append_ #[225, 225] o.type #[.slice ao n cap, .slice (some ad) 0 c]).run Tryz.prog w = .ok (.slice ao n cap) w := by
    cases ao with
    | none => simp [Builtin.append_, run_underlying Tryz.underlying225, sizeOf, typeInfo, hi0, Builtin.lenOf, hc, hfc]
    | some b =>
      simp [Builtin.append_, run_underlying Tryz.underlying225, sizeOf, typeInfo, hi0, Builtin.lenOf, hc, hfc]
      first | rfl | simp [storeCells] | simp [storeCells, Result.andThen]
  unfold Oper.wp
  simp [execOp, ho, resolve, invoke, builtin, hs, hx, hrun, Result.andThen]
  exact h
theorem row_vals {w : World} {fb c : Nat} {ad : Addr} {r : List Ld} (h : LeftRow w fb (.slice (some ad) r.length c) r) (hr : r ≠ []) :
    ∃ g o cur xs, ad = ⟨g, o, none⟩ ∧ w.heap[g]? = some (.cells cur 231 (0, 0)) ∧ Lds w fb xs r ∧ (∀ j u, xs[j]? = some u → cur[o + j]? = some u) ∧ ∀ u ∈ xs, u.oneCell' = true := by
  obtain ⟨a, c', e, h2, h3, -, h4 | ⟨g, o, cur, rfl, h5, h6⟩⟩ := h
  · exact absurd h4 hr
  · simp only [Value.slice.injEq, Option.some.injEq] at e
    obtain ⟨rfl, -, rfl⟩ := e
    have hx : ∀ j, j < r.length → ((cur.toList.drop o).take r.length)[j]? = cur[o + j]? := fun j hj => by rw [List.getElem?_take, if_pos hj, List.getElem?_drop, Array.getElem?_toList]
    have hl : ((cur.toList.drop o).take r.length).length = r.length := by
      have hr0 : 0 < r.length := List.length_pos_iff.2 hr
      obtain ⟨u, h7, -⟩ := h6 (r.length - 1) (by omega)
      have := (Array.getElem?_eq_some_iff.1 h7).1
      have e1 : cur.toList.length = cur.size := Array.length_toList
      rw [List.length_take, List.length_drop, e1]; omega
    refine ⟨g, o, cur, _, rfl, h5, ⟨hl, fun i hi => ?_⟩, fun j u hj => ?_, fun u hu => ?_⟩
    · obtain ⟨u, h7, h8⟩ := h6 i hi
      exact ⟨u, by rw [hx i hi]; exact h7, h8⟩
    · have hlt : j < r.length := by have := (List.getElem?_eq_some_iff.1 hj).1; omega
      rw [← hx j hlt]; exact hj
    · obtain ⟨j, hj, rfl⟩ := List.getElem_of_mem hu
      have hlt : j < r.length := by omega
      obtain ⟨u, h7, h8⟩ := h6 j hlt
      rw [← hx j hlt, List.getElem?_eq_getElem hj] at h7
      have := Option.some.inj h7
      rw [this]
      cases hq : r[j] with
      | tab => rw [hq] at h8; have h8 : u = _ := h8; subst h8; rfl
      | tag p => rw [hq] at h8; obtain ⟨xb, pb, rfl, -⟩ := h8; rfl
      | itm p n => rw [hq] at h8; obtain ⟨xb, pb, nb, rfl, -⟩ := h8; rfl
theorem lst_at {w : World} {base hc : Nat} {ha : Option Addr} {N : List Nat} (h : Lst w base (.slice ha N.length hc) N.length (cells N)) (k : Nat) (hk : k < N.length) : ∃ b off, ha = some ⟨b, off, none⟩ ∧ w.cell? ⟨b, off + k, none⟩ = some (.int .i64 ((N[k] : Nat) : Int)) := by
  obtain ⟨a, c, e, -, -, -, h0 | ⟨b, off, h1, h2⟩⟩ := h.rd
  · have : N = [] := by cases N with | nil => rfl | cons x l => simp [cells] at h0
    subst this; simp at hk
  · simp only [Value.slice.injEq] at e
    obtain ⟨rfl, -, -⟩ := e
    refine ⟨b, off, h1, ?_⟩
    rw [h2 k (by simp [cells]; exact hk)]
    simp [cells, hk]
theorem take_itm (p : Int × Int) (N : List Nat) (k : Nat) (h : k < N.length) : (N.take (k + 1)).map (fun (n : Nat) => Ld.itm p n) = (N.take k).map (fun (n : Nat) => Ld.itm p n) ++ [.itm p ((N[k] : Nat) : Int)] := by
  rw [List.take_add_one, List.getElem?_eq_getElem h, List.map_append]; rfl
theorem f_not_find (T : TypeId) (h : fTy T = true) : (T == 227) = false := by
  unfold fTy at h
  simp only [Bool.or_eq_true, beq_iff_eq] at h
  rcases h with ((rfl | rfl) | rfl) | rfl <;> rfl
theorem below_grown {w w' : World} (hg : w.grownBy w' none) : Below w.heap.size w w' := ⟨hg.os, hg.tape, hg.output, hg.size, fun k hk => hg.block k hk (fun c => by cases c)⟩
theorem Lds.app {w : World} {fb : Nat} {xs ys : List Value} {ls rs : List Ld} (h : Lds w fb xs ls) (hr : Lds w fb ys rs) : Lds w fb (xs ++ ys) (ls ++ rs) := by
  refine ⟨by simp [h.1, hr.1], fun i hi => ?_⟩
  by_cases hlt : i < ls.length
  · obtain ⟨v, h1, h2⟩ := h.2 i hlt
    exact ⟨v, by rw [List.getElem?_append_left (by rw [h.1]; exact hlt)]; exact h1, by rw [List.getElem_append_left hlt]; exact h2⟩
  · have hlt2 : i - ls.length < rs.length := by rw [List.length_append] at hi; omega
    obtain ⟨v, h1, h2⟩ := hr.2 _ hlt2
    exact ⟨v, by rw [List.getElem?_append_right (by rw [h.1]; omega), h.1]; exact h1, by rw [List.getElem_append_right (by omega)]; exact h2⟩
/-- A list of loads, clipped. -/
def Clp (w : World) (fb : Nat) (ao : Option Addr) (n : Nat) (xs : List Value) (ls : List Ld) : Prop := n = ls.length ∧ Lds w fb xs ls ∧ n ≤ maxLen ∧ ((ao = none ∧ n = 0) ∨ ∃ g cur, ao = some ⟨g, 0, none⟩ ∧ w.heap[g]? = some (.cells cur 231 (0, 0)) ∧ cur.toList.take n = xs)
theorem clp_of {w : World} {base fb n : Nat} {v : Value} {xs : List Value} {ls : List Ld} (h : w.ownsRow base 231 1 v n xs) (hl : Lds w fb xs ls) : ∃ ao cap, v = .slice ao n cap ∧ n ≤ cap ∧ cap ≤ maxLen ∧ Clp w fb ao n xs ls ∧ (ao = none → cap = 0) := by
  obtain ⟨h1, ⟨rfl, h0⟩ | ⟨g, cap, cur, rfl, hb, hg, hn, hm, hs, hx⟩⟩ := h
  · have e : n = ls.length := by have := hl.1; omega
    exact ⟨none, 0, by rw [h0], by omega, Nat.zero_le _, ⟨e, hl, by omega, .inl ⟨rfl, h0⟩⟩, fun _ => rfl⟩
  · have e : n = ls.length := by have := hl.1; omega
    exact ⟨_, cap, rfl, hn, hm, ⟨e, hl, Nat.le_trans hn hm, .inr ⟨g, cur, rfl, hg, by rw [Nat.mul_one] at hx; exact hx⟩⟩, fun c => by cases c⟩
theorem Clp.below {w w' : World} {fb n : Nat} {ao : Option Addr} {xs : List Value} {ls : List Ld} (h : Clp w fb ao n xs ls) (hb : Below w.heap.size w w') : Clp w' fb ao n xs ls := by
  obtain ⟨h1, h2, h3, h4 | ⟨g, cur, h4, h5, h6⟩⟩ := h
  · exact ⟨h1, h2.fr (below_fr hb (fun _ => false) false) (fun _ _ => rfl), h3, .inl h4⟩
  · exact ⟨h1, h2.fr (below_fr hb (fun _ => false) false) (fun _ _ => rfl), h3, .inr ⟨g, cur, h4, (hb.block _ (Array.getElem?_eq_some_iff.1 h5).1).trans h5, h6⟩⟩
theorem Clp.left {w : World} {fb n : Nat} {ao : Option Addr} {xs : List Value} {ls : List Ld} (h : Clp w fb ao n xs ls) (ht : ∀ l ∈ ls, l ≠ .tab) : LeftRow w fb (.slice ao n n) ls := by
  obtain ⟨rfl, h2, h3, ⟨h4, h0⟩ | ⟨g, cur, rfl, h5, h6⟩⟩ := h
  · exact ⟨ao, _, rfl, Nat.le_refl _, h3, .inr ht, .inl (List.eq_nil_of_length_eq_zero h0)⟩
  · refine ⟨_, _, rfl, Nat.le_refl _, h3, .inr ht, .inr ⟨g, 0, cur, rfl, h5, fun i hi => ?_⟩⟩
    obtain ⟨u, h7, h8⟩ := h2.2 i hi
    refine ⟨u, ?_, h8⟩
    rw [← h6, List.getElem?_take, if_pos hi, Array.getElem?_toList] at h7
    rw [Nat.zero_add]; exact h7
theorem Clp.olds {w : World} {fb n : Nat} {ao : Option Addr} {xs : List Value} {ls : List Ld} (h : Clp w fb ao n xs ls) : ∀ b, ao = some b → ∀ j u, xs[j]? = some u → w.cell? (b.add j) = some u := by
  obtain ⟨rfl, h2, h3, ⟨h4, h0⟩ | ⟨g, cur, rfl, h5, h6⟩⟩ := h
  · intro b c; rw [h4] at c; cases c
  · intro b c j u hj
    cases c
    have hlt : j < ls.length := by have h1 := (List.getElem?_eq_some_iff.1 hj).1; rw [h2.1] at h1; exact h1
    rw [← h6, List.getElem?_take, if_pos hlt, Array.getElem?_toList] at hj
    rw [Addr.add_lit, Nat.zero_add, hcell h5]; exact hj
abbrev TTag (fb xb pb wb cb : Nat) (k : ByteArray) (p : Int × Int) (W : World) : Prop := W.cell? ⟨xb, 0, none⟩ = some (.pointer (some ⟨fb, 0, none⟩)) ∧ W.cell? ⟨pb, 0, none⟩ = some (.int .i64 p.1) ∧ W.cell? ⟨pb, 1, none⟩ = some (.int .i64 p.2) ∧ W.cell? ⟨fb, 0, none⟩ = some (.string k) ∧ W.cell? ⟨wb, 0, none⟩ = some (.pointer (some ⟨cb, 0, none⟩))
/-- The blocks of a place's load. -/
structure TB (w0 w : World) (B : WB) (V : WV) (s : CS) (fb xb pb : Nat) (f : FW) (p : Int × Int) (v : Value) (r : List Ld) : Prop where
  ws : WS w0 w B V s
  fnd : w.heap[fb]? = some (.cells (f.cells v) 227 (0, 0))
  box : w.heap[xb]? = some (.cells #[.pointer (some ⟨fb, 0, none⟩)] 62 (0, 0))
  plc : w.heap[pb]? = some (.cells #[.int .i64 p.1, .int .i64 p.2] 69 (0, 0))
  row : LeftRow w fb v r
section
variable {w0 w w' : World} {B : WB} {V : WV} {s s' : CS} {fb xb pb : Nat} {f : FW} {p : Int × Int} {v : Value} {r : List Ld}
theorem TB.tt (h : TB w0 w B V s fb xb pb f p v r) : TTag fb xb pb B.wb B.cb f.key p w := ⟨hcell h.box 0, hcell h.plc 0, hcell h.plc 1, hcell h.fnd 0, h.ws.c0⟩
theorem TB.below (h : TB w0 w B V s fb xb pb f p v r) (hb : Below w.heap.size w w') : TB w0 w' B V s fb xb pb f p v r :=
  ⟨h.ws.keep hb, (hb.block _ (Array.getElem?_eq_some_iff.1 h.fnd).1).trans h.fnd, (hb.block _ (Array.getElem?_eq_some_iff.1 h.box).1).trans h.box, (hb.block _ (Array.getElem?_eq_some_iff.1 h.plc).1).trans h.plc, h.row.below hb⟩
theorem TB.fr (h : TB w0 w B V s fb xb pb f p v r) (h2 : WS w0 w' B V s') (hf : Fr wTy true w w') : TB w0 w' B V s' fb xb pb f p v r :=
  ⟨h2, hf.cells _ _ _ _ h.fnd rfl, hf.cells _ _ _ _ h.box rfl, hf.cells _ _ _ _ h.plc rfl, h.row.fr hf w_not_f⟩
end
theorem tags_end {w0 w : World} {B : WB} {V : WV} {s : CS} {fb xb pb : Nat} {f : FW} {p : Int × Int} {v v' : Value} {r ls : List Ld} (h : TB w0 w B V s fb xb pb f p v r) (hlo : w0.heap.size ≤ fb) (hrow : LeftRow w fb v' ls) :
    WS w0 (w.setCell ⟨fb, 1, none⟩ v') B V s ∧ FindAt (w.setCell ⟨fb, 1, none⟩ v') fb f ls ∧ Fx wTy true fb w (w.setCell ⟨fb, 1, none⟩ v') :=
  ⟨set_take (o := 1) h.ws h.fnd rfl hlo v', ⟨v', setCell_same h.fnd 1 v', hrow.fr (set_ty h.fnd 1 v') f_not_find⟩, set_fx _ _ _ _ _ _⟩
theorem tags_end2 {w0 w : World} {B : WB} {V : WV} {s : CS} {fb xb pb : Nat} {f : FW} {p : Int × Int} {v v' : Value} {r ls : List Ld} (h : TB w0 w B V s fb xb pb f p v r) (hlo : w0.heap.size ≤ fb) (hrow : LeftRow w fb v' ls) :
    WS w0 (w.setCell ⟨fb, 1, none⟩ v').drew B V s ∧ FindAt (w.setCell ⟨fb, 1, none⟩ v').drew fb f ls ∧ Fx wTy true fb w (w.setCell ⟨fb, 1, none⟩ v').drew := by
  obtain ⟨h1, h2, h3⟩ := tags_end h hlo hrow
  have hd := (Below.refl (w.setCell ⟨fb, 1, none⟩ v').heap.size (w.setCell ⟨fb, 1, none⟩ v')).drew
  exact ⟨h1.keep hd, h2.below hd, h3.trans ((below_fr hd wTy true).fx fb)⟩
theorem tags_row {wr w9 : World} {fb n base : Nat} {v : Value} {xs ys : List Value} {ls r : List Ld} (hx : Lds wr fb xs ls) (hy : Lds wr fb ys r) (hb : Below wr.heap.size wr w9) (hn : n = ls.length) (hown : w9.ownsRow base 231 1 v (n + r.length) (xs ++ ys)) (h1 : ∀ l ∈ ls, l ≠ .tab) (h2 : ∀ l ∈ r, l ≠ .tab) : LeftRow w9 fb v (ls ++ r) := by
  have hl : (xs ++ ys).length = n + r.length := by rw [List.length_append, hx.1, hy.1, hn]
  have hf := below_fr hb (fun _ => false) false
  exact row_of (.inr (by rw [hl]; exact hown)) ((hx.fr hf (fun _ _ => rfl)).app (hy.fr hf (fun _ _ => rfl))) (fun l hl => by rcases List.mem_append.1 hl with hl | hl; exact h1 l hl; exact h2 l hl)
set_option maxRecDepth 10000 in
set_option maxHeartbeats 2000000 in
theorem ftags {w0 w : World} {B : WB} {V : WV} {s : CS} {fb : Nat} {f : FW} (h : WS w0 w B V s) (hr : s.room) (hlo : w0.heap.size ≤ fb) (hk : f.key.size ≤ 1000000) (p : Int × Int) (ad : Addr) (c : Nat) (r : List Ld) (hr1 : r.length ≤ 1000) (ht : ∀ l ∈ r, l ≠ .tab)
    (hb : w.heap[fb]? = some (.cells (f.cells (.slice (some ad) r.length c)) 227 (0, 0))) (hrow : LeftRow w fb (.slice (some ad) r.length c) r) :
    Calls Tryz.prog 188 #[.pointer (some ⟨fb, 0, none⟩), .pointer (some ⟨B.wb, 0, none⟩), .agg #[.int .i64 p.1, .int .i64 p.2]] w fun e w' => e = .returned (.bool false) ∧ WS w0 w' B V (s.acc 1 (tagsA p.1 p.2) (s.val (tagsA p.1 p.2))) ∧
      FindAt w' fb f ((has (s.val (tagsA p.1 p.2)) (tag01 (hashOf f.key)) 4).map (fun (n : Nat) => Ld.itm p n) ++ r) ∧ Fx wTy true fb w w' := by
  obtain ⟨p1, p2⟩ := p
  have hba := below_alloc w (.cells #[.pointer (some ⟨fb, 0, none⟩)] 62)
  have hza := heap_alloc_new w (.cells #[.pointer (some ⟨fb, 0, none⟩)] 62)
  have hbc := below_alloc (w.alloc (.cells #[.pointer (some ⟨fb, 0, none⟩)] 62)) (.cells #[.int .i64 p1, .int .i64 p2] 69)
  have hzc := heap_alloc_new (w.alloc (.cells #[.pointer (some ⟨fb, 0, none⟩)] 62)) (.cells #[.int .i64 p1, .int .i64 p2] 69)
  have hbd := hba.trans (hbc.mono hba.size)
  have hxb : (w.alloc (.cells #[.pointer (some ⟨fb, 0, none⟩)] 62)).heap.size = w.heap.size + 1 := by simp
  rw [hxb] at hzc
  have htb : TB w0 _ B V s fb w.heap.size (w.heap.size + 1) f (p1, p2) (.slice (some ad) r.length c) r := ⟨h.keep hbd, (hbd.block _ (Array.getElem?_eq_some_iff.1 hb).1).trans hb, heap_alloc_old hza, hzc, hrow.below hbd⟩
  have TB1 := Lib.hid htb; have F1 := Lib.hid ((below_fr hbd wTy true).fx fb)
  have HWF := Lib.hid (h.own.wf (tagsA p1 p2)); have HK := Lib.hid hk; have HR := Lib.hid hr; have HR1 := Lib.hid hr1; have HT := Lib.hid ht
  have HTA := Lib.hid (tagsA_wf p1 p2)
  have HTG := Lib.hid (fun W => tags_any p1 p2 W)
  have HLN := Lib.hid (has_le (s.val (tagsA p1 p2)) (tag01 (hashOf f.key)) 4)
  clear h hr hk hr1 ht hb hrow hba hza hbc hzc hbd hxb htb
  have HH := Lib.hid (fun W => hash_any f.key HK.out W)
  have HTN := Lib.hid (fun W => tag_fn (hashOf f.key) (hfold_bd _ _).1 (hfold_bd _ _).2 W)
  have htn : tag01 (hashOf f.key) ≠ 0 := by have := tag01_bd (hashOf f.key) (hfold_bd _ _).1 (hfold_bd _ _).2; omega
  have hwb : 0 ≤ s.val (tagsA p1 p2) ∧ s.val (tagsA p1 p2) < 18446744073709551616 := wf_bd HWF.out
  have HHS := Lib.hid (fun W => has_any (s.val (tagsA p1 p2)) (tag01 (hashOf f.key)) W hwb.1 hwb.2 htn)
  clear htn hwb
  obtain ⟨N, hN⟩ : ∃ N, N = has (s.val (tagsA p1 p2)) (tag01 (hashOf f.key)) 4 := ⟨_, rfl⟩
  rw [← hN] at HHS HLN
  have HNN := Lib.hid hN
  clear hN
  show Calls _ _ #[_, _, .agg #[.int .i64 p1, .int .i64 p2]] _ _
  go_enter Tryz.func188, Tryz.ntmps188
  go_upto_region 2 with (fail)
  change Code.wp _ _ _ _ ((w.alloc (.cells #[.pointer (some ⟨fb, 0, none⟩)] 62)).alloc (.cells #[.int .i64 p1, .int .i64 p2] 69))
  generalize (w.alloc (.cells #[.pointer (some ⟨fb, 0, none⟩)] 62)).alloc (.cells #[.int .i64 p1, .int .i64 p2] 69) = w1 at *
  generalize w.heap.size = xb at *
  have hs1 : TTag fb xb (xb + 1) B.wb B.cb f.key (p1, p2) w1.drew := (TB1.out.below (Below.refl _ _).drew).tt
  go_region_held2 (fun W => TTag fb xb (xb + 1) B.wb B.cb f.key (p1, p2) W) (assumption) (first
    | (go_at_call 74; refine (HTG.out _).mono ?_; intro e w2 hh; obtain ⟨hh1, b2⟩ := hh; subst hh1; have b2' := (Below.refl w1.heap.size w1).drew.trans b2; have TB2 := Lib.hid (TB1.out.below b2'); have F2 := Lib.hid (F1.out.trans ((below_fr b2' wTy true).fx fb)); have s2 := TB2.out.tt; have hld := TB2.out.ws.load HR.out (tagsA p1 p2) HTA.out; clear b2 b2' hs1 TB1 F1)
    | (go_at_call 94; refine hld.mono ?_; intro e w3 hh; obtain ⟨hh1, h3, f3⟩ := hh; subst hh1; have TB3 := Lib.hid (TB2.out.fr h3 f3); have F3 := Lib.hid (F2.out.trans (f3.fx fb)); have s3 := TB3.out.tt; clear h3 f3 hld s2 TB2 F2)
    | (go_at_call 56; refine (HH.out _).mono ?_; intro e w4 hh; obtain ⟨hh1, b4⟩ := hh; subst hh1; have TB4 := Lib.hid (TB3.out.below b4); have F4 := Lib.hid (F3.out.trans ((below_fr b4 wTy true).fx fb)); have s4 := TB4.out.tt; clear b4 s3 TB3 F3)
    | (go_at_call 109; refine (HTN.out _).mono ?_; intro e w5 hh; obtain ⟨hh1, hh2⟩ := hh; subst hh1; obtain rfl := hh2.symm)
    | (go_at_call 234; refine (HHS.out _).mono ?_; intro e w6 hh; obtain ⟨hv, hh1, hl6, b6⟩ := hh; subst hh1; obtain ⟨ha, hc, rfl, hl7⟩ := hl6.rd; have TB6 := Lib.hid (TB4.out.below b6); have F6 := Lib.hid (F4.out.trans ((below_fr b6 wTy true).fx fb)); have s6 := TB6.out.tt; have HL6 := Lib.hid hl6; clear b6 hl6 hl7 s4 TB4 F4))
  have HF6 := Lib.hid (And.intro HLN.out HL6.out)
  clear s6 HLN HL6 HTG HH HTN HHS
  obtain ⟨i0, hi0, hz0, hz1, hz2⟩ := info_parts info_ld
  have HI := Lib.hid hi0; have HZ0 := Lib.hid hz0; have HZ1 := Lib.hid hz1; have HZ2 := Lib.hid hz2
  clear hi0 hz0 hz1 hz2
  go_wp2_with fail
  go_loopw [7, 25] (fun v i wr => ∃ (k : Nat) (xs : List Value), k ≤ N.length ∧ i = .int .i64 k ∧ wr.ownsRow w6.heap.size 231 1 v k xs ∧ Lds wr fb xs ((N.take k).map (fun (n : Nat) => Ld.itm (p1, p2) n)) ∧ Below w6.heap.size w6 wr) (fun _ i _ => N.length - (intOf i).toNat)
  case atStart => exact ⟨0, [], by omega, rfl, World.ownsRow_nil _ _ _ _, ⟨rfl, fun i hi => absurd hi (by simp)⟩, Below.refl _ _⟩
  case round =>
    obtain ⟨k, xs, hk, rfl, hown, hlds, hB⟩ := hrel
    have hN4 := HF6.out.1
    by_cases hlt : k < N.length
    · have hlt' : (k : Int) < N.length := by omega
      obtain ⟨b0, off, rfl, g0⟩ := lst_at (HF6.out.2.below hB (Nat.le_refl _)) k hlt
      have htk := take_itm (p1, p2) N k hlt
      generalize hn : ((N[k]'hlt : Nat) : Int) = n at *
      have hba := below_alloc wr (.cells #[.int .i64 n] 3)
      have hza := heap_alloc_new wr (.cells #[.int .i64 n] 3)
      have hB7 := hB.trans (hba.mono hB.size)
      have hown7 := own_below hown hba
      have hlds7 := hlds.fr (below_fr hba (fun _ => false) false) (fun _ _ => rfl)
      have HTK := Lib.hid htk; have HLT := Lib.hid hlt; have HB7 := Lib.hid hB7; have HOW := Lib.hid hown7; have HLD := Lib.hid hlds7; have HZA := Lib.hid hza; have HBZ := Lib.hid hB.size
      clear htk hba hza hB hB7 hown hown7 hlds hlds7 hn
      go_upto_region 5 with (fail)
      change Code.wp _ _ _ _ (wr.alloc (.cells #[.int .i64 n] 3))
      clear g0
      generalize wr.alloc (.cells #[.int .i64 n] 3) = w7 at *
      generalize wr.heap.size = nb at *
      have HWB : Hid (Below w7.heap.size w7 (w7.alloc (.cells #[.func (.func 235) #[] #[.pointer (some ⟨xb, 0, none⟩), .pointer (some ⟨xb + 1, 0, none⟩), .pointer (some ⟨nb, 0, none⟩)]] 231))) := below_alloc _ _
      have hsz7 := HB7.out.size
      go_wp2_with (at_builtin; refine wpList_append_own _ rfl _ _ 225 rfl w6.heap.size 231 i0 .nilFunc 1 8 Tryz.underlying225 HI.out HZ0.out HZ1.out HZ2.out rfl (by decide) _ _ _ rfl (HOW.out.alloc _) ⟨w7.heap.size, 0, none⟩ 1 1 [.func (.func 235) #[] #[.pointer (some ⟨xb, 0, none⟩), .pointer (some ⟨xb + 1, 0, none⟩), .pointer (some ⟨nb, 0, none⟩)]] rfl rfl ?c1 ?c2 ?c3 ?c4 ?c5 ?_)
      case c1 => exact cell_one_new _ _ _
      case c2 => simp [Value.oneCell']
      case c3 => unfold maxLen; omega
      case c4 => omega
      case c5 => simp; omega
      intro v' w8 hown' hgrow _
      have hb8 := HB7.out.trans (HWB.out.mono HB7.out.size)
      have hb9 := hb8.grown hgrow hb8.size (fun j hj => (HOW.out.lt j hj).1)
      have f8 := grown_ty (HOW.out.alloc _) hgrow
      have f7 := below_fr HWB.out (fun _ => false) false
      have d1 := lds_fr2 (HLD.out.fr f7 (fun _ _ => rfl)) f8 rfl rfl rfl
      have tb8 := TB6.out.below hb9
      have d2 : LdAt w8 fb (.func (.func 235) #[] #[.pointer (some ⟨xb, 0, none⟩), .pointer (some ⟨xb + 1, 0, none⟩), .pointer (some ⟨nb, 0, none⟩)]) (.itm (p1, p2) n) :=
        ⟨xb, xb + 1, nb, rfl, tb8.box, tb8.plc, f8.cells _ _ _ _ (f7.cells _ _ _ _ HZA.out rfl) rfl⟩
      have d3 := d1.snoc d2
      rw [← HTK.out] at d3
      have P := Lib.hid (And.intro hown' (And.intro d3 hb9))
      clear hown' hgrow hb8 hb9 f8 f7 d1 tb8 d2 d3
      go_wp2
      go_roundw
      case rel => exact ⟨k + 1, _, HLT.out, by go_num, P.out.1, P.out.2.1, P.out.2.2⟩
      case measure => simp [intOf]; omega
    · obtain rfl : k = N.length := by omega
      rw [List.take_length] at hlds
      obtain ⟨ao, cap, rfl, hcp1, hcp2, hclp, hcp0⟩ := clp_of hown hlds
      have htb := TB6.out.below hB
      have hf7 := F6.out.trans ((below_fr hB wTy true).fx fb)
      have htt : ∀ l ∈ N.map (fun (n : Nat) => Ld.itm (p1, p2) n), l ≠ .tab := fun l hl => by rw [List.mem_map] at hl; obtain ⟨n, -, rfl⟩ := hl; intro c; cases c
      have TBR := Lib.hid htb; have FR := Lib.hid hf7; have CLP := Lib.hid hclp; have HTT := Lib.hid htt; have HC0 := Lib.hid hcp0
      clear htb hf7 htt hown hlds hB TB6 F6 hclp hcp0
      unfold maxLen at hcp2
      go_upto_region 7 with (fail)
      go_cut [] (fun wx => WS w0 wx B V (s.acc 1 (tagsA p1 p2) (s.val (tagsA p1 p2))) ∧ FindAt wx fb f (N.map (fun (n : Nat) => Ld.itm (p1, p2) n) ++ r) ∧ Fx wTy true fb w wx)
      case first =>
        have x0 : wr.cell? ⟨xb, 0, none⟩ = some (.pointer (some ⟨fb, 0, none⟩)) := hcell TBR.out.box 0
        have x1 : wr.cell? ⟨fb, 1, none⟩ = some (.slice (some ad) r.length c) := hcell TBR.out.fnd 1
        have x2 := hfrz TBR.out.fnd 1
        by_cases hr0 : r = []
        · subst hr0
          have x1 : wr.cell? ⟨fb, 1, none⟩ = some (.slice (some ad) 0 c) := hcell TBR.out.fnd 1
          clear x2
          have x2 : wr.frozen? ⟨fb, 1, none⟩ = false := hfrz TBR.out.fnd 1
          rcases CLP.out.2.2.2 with ⟨rfl, h0⟩ | ⟨g, cur, rfl, -, -⟩
          · obtain rfl : cap = 0 := HC0.out rfl
            obtain rfl : N = [] := List.eq_nil_of_length_eq_zero h0
            clear h0
            go_region_law ((refine step_append_zero (by rfl) _ _ (by rfl) none 0 0 (by rfl) (Nat.le_refl _) ad c (by rfl) ?_))
            all_goals (try go_wp2_with fail)
            all_goals go_meet
            all_goals
              have he := tags_end2 TBR.out hlo (CLP.out.left HTT.out)
              exact ⟨he.1, by rw [List.append_nil]; exact he.2.1, FR.out.trans he.2.2⟩
          · go_region_law ((refine step_append_zero (by rfl) _ _ (by rfl) (some ⟨g, 0, none⟩) N.length N.length (by rfl) (Nat.le_refl _) ad c (by rfl) ?_))
            all_goals (try go_wp2_with fail)
            all_goals go_meet
            all_goals
              have he := tags_end2 TBR.out hlo (CLP.out.left HTT.out)
              exact ⟨he.1, by rw [List.append_nil]; exact he.2.1, FR.out.trans he.2.2⟩
        · obtain ⟨g2, o2, cur2, ys, rfl, hg2, hys, hyc, hy1⟩ := row_vals TBR.out.row hr0
          have hrp : 0 < r.length := List.length_pos_iff.2 hr0
          have hr1 := HR1.out
          have HYN : Hid (ys.length = r.length * 1) := by show _ = _; rw [Nat.mul_one]; exact hys.1
          have HNW : Hid (∀ j u, ys[j]? = some u → wr.cell? ((⟨g2, o2, none⟩ : Addr).add j) = some u) := fun j u hj => by rw [Addr.add_lit, hcell hg2]; exact hyc j u hj
          have HY1 := Lib.hid hy1; have HYS := Lib.hid hys
          clear hy1 hys hyc hg2 hr0
          have hrz : r.length ≠ 0 := by omega
          rcases CLP.out.2.2.2 with ⟨rfl, h0⟩ | ⟨g, cur, rfl, -, -⟩
          · obtain rfl : cap = 0 := HC0.out rfl
            obtain rfl : N = [] := List.eq_nil_of_length_eq_zero h0
            clear h0
            have hxs : xs = [] := by have := CLP.out.2.1.1; exact List.eq_nil_of_length_eq_zero this
            subst hxs
            have HFU : Hid (0 < 0 + r.length) := by show 0 < 0 + r.length; omega
            have HM : Hid (0 + r.length ≤ maxLen ∧ (0 + r.length) * 8 ≤ 140737488355328) := ⟨by unfold maxLen; omega, by omega⟩
            clear hrp hr1
            go_region_law ((refine step_append_grows (by rfl) _ _ _ (by rfl) 231 i0 _ 1 8 Tryz.underlying225 HI.out HZ0.out HZ1.out HZ2.out rfl (by decide) none 0 0 [] (by rfl) (fun _ => ⟨rfl, rfl⟩) rfl (fun b c => by cases c) ⟨g2, o2, none⟩ r.length c ys (by rfl) HYN.out HNW.out HY1.out HFU.out HM.out.1 HM.out.2 ?_); intro v' w9 hown9 hg9; obtain ⟨g9, cap9, y9, rfl, -, -, -⟩ := own_at hown9 0 HFU.out; have b9 := (Below.refl wr.heap.size wr).drew.trans (below_grown hg9); have tb9 := TBR.out.below b9; have t0 : w9.cell? ⟨xb, 0, none⟩ = some (.pointer (some ⟨fb, 0, none⟩)) := hcell tb9.box 0; have t1 : w9.cell? ⟨fb, 1, none⟩ = some (.slice (some ⟨g2, o2, none⟩) r.length c) := hcell tb9.fnd 1; have t2 : w9.frozen? ⟨fb, 1, none⟩ = false := hfrz tb9.fnd 1; have B9 := Lib.hid b9; have TB9 := Lib.hid tb9; have HO9 := Lib.hid hown9; clear hown9 hg9 b9 tb9)
            all_goals (try go_wp2_with fail)
            all_goals go_meet
            all_goals
              have he := tags_end TB9.out hlo (tags_row CLP.out.2.1 HYS.out B9.out CLP.out.1 HO9.out HTT.out HT.out)
              simp only [Nat.zero_add] at he
              exact ⟨he.1, he.2.1, (FR.out.trans ((below_fr B9.out wTy true).fx fb)).trans he.2.2⟩
          · have HFU : Hid (0 < N.length + r.length) := by show 0 < N.length + r.length; omega
            have HM : Hid (N.length + r.length ≤ maxLen ∧ (N.length + r.length) * 8 ≤ 140737488355328) := ⟨by unfold maxLen; omega, by omega⟩
            have HFL : Hid (N.length < N.length + r.length) := by show N.length < N.length + r.length; omega
            have HXN : Hid (xs.length = N.length * 1) := by show _ = _; rw [Nat.mul_one, CLP.out.2.1.1, List.length_map]
            have HOL := Lib.hid CLP.out.olds
            clear hrp hr1
            go_region_law ((refine step_append_grows (by rfl) _ _ _ (by rfl) 231 i0 _ 1 8 Tryz.underlying225 HI.out HZ0.out HZ1.out HZ2.out rfl (by decide) (some ⟨g, 0, none⟩) N.length N.length xs (by rfl) (fun c => by cases c) HXN.out HOL.out ⟨g2, o2, none⟩ r.length c ys (by rfl) HYN.out HNW.out HY1.out HFL.out HM.out.1 HM.out.2 ?_); intro v' w9 hown9 hg9; obtain ⟨g9, cap9, y9, rfl, -, -, -⟩ := own_at hown9 0 HFU.out; have b9 := (Below.refl wr.heap.size wr).drew.trans (below_grown hg9); have tb9 := TBR.out.below b9; have t0 : w9.cell? ⟨xb, 0, none⟩ = some (.pointer (some ⟨fb, 0, none⟩)) := hcell tb9.box 0; have t1 : w9.cell? ⟨fb, 1, none⟩ = some (.slice (some ⟨g2, o2, none⟩) r.length c) := hcell tb9.fnd 1; have t2 : w9.frozen? ⟨fb, 1, none⟩ = false := hfrz tb9.fnd 1; have B9 := Lib.hid b9; have TB9 := Lib.hid tb9; have HO9 := Lib.hid hown9; clear hown9 hg9 b9 tb9)
            all_goals (try go_wp2_with fail)
            all_goals go_meet
            all_goals
              have he := tags_end TB9.out hlo (tags_row CLP.out.2.1 HYS.out B9.out CLP.out.1 HO9.out HTT.out HT.out)
              exact ⟨he.1, he.2.1, (FR.out.trans ((below_fr B9.out wTy true).fx fb)).trans he.2.2⟩
      case rest =>
        obtain ⟨c1, c2, c3⟩ := hcut
        rw [HNN.out] at c2
        have P := Lib.hid (And.intro c1 (And.intro c2 c3))
        clear c1 c2 c3
        go_wp2
        go_ret
        exact ⟨rfl, P.out.1, P.out.2.1, P.out.2.2⟩
end Go.Proofs.YtomllmlieeaaiaaGreat

/-
  A Find: a slot's load.
-/
namespace Go.Proofs.YtomllmlieeaaiaaGreat
open Go.RowKit Go.Maps TagPure
set_option linter.unusedVariables false

abbrev TItm (sb wb cb : Nat) (p : Int × Int) (n : Int) (W : World) : Prop := W.cell? ⟨sb, 0, none⟩ = some (.int .i64 p.1) ∧ W.cell? ⟨sb, 1, none⟩ = some (.int .i64 p.2) ∧ W.cell? ⟨sb, 2, none⟩ = some (.int .i64 n) ∧ W.cell? ⟨wb, 0, none⟩ = some (.pointer (some ⟨cb, 0, none⟩))
structure IB (w0 w : World) (B : WB) (V : WV) (s : CS) (fb sb : Nat) (f : FW) (p : Int × Int) (n : Int) (v : Value) (r : List Ld) : Prop where
  ws : WS w0 w B V s
  fnd : w.heap[fb]? = some (.cells (f.cells v) 227 (0, 0))
  spt : w.heap[sb]? = some (.cells #[.int .i64 p.1, .int .i64 p.2, .int .i64 n] 71 (0, 0))
  row : LeftRow w fb v r
section
variable {w0 w w' : World} {B : WB} {V : WV} {s s' : CS} {fb sb : Nat} {f : FW} {p : Int × Int} {n : Int} {v : Value} {r : List Ld}
theorem IB.tt (h : IB w0 w B V s fb sb f p n v r) : TItm sb B.wb B.cb p n w := ⟨hcell h.spt 0, hcell h.spt 1, hcell h.spt 2, h.ws.c0⟩
theorem IB.below (h : IB w0 w B V s fb sb f p n v r) (hb : Below w.heap.size w w') : IB w0 w' B V s fb sb f p n v r :=
  ⟨h.ws.keep hb, (hb.block _ (Array.getElem?_eq_some_iff.1 h.fnd).1).trans h.fnd, (hb.block _ (Array.getElem?_eq_some_iff.1 h.spt).1).trans h.spt, h.row.below hb⟩
theorem IB.fr (h : IB w0 w B V s fb sb f p n v r) (h2 : WS w0 w' B V s') (hf : Fr wTy true w w') : IB w0 w' B V s' fb sb f p n v r :=
  ⟨h2, hf.cells _ _ _ _ h.fnd rfl, hf.cells _ _ _ _ h.spt rfl, h.row.fr hf w_not_f⟩
end
theorem find_set {w0 w : World} {B : WB} {V : WV} {s : CS} {fb : Nat} {v : Value} {cs : Array Value} {r : List Ld} (h : WS w0 w B V s) (hb : w.heap[fb]? = some (.cells cs 227 (0, 0))) (hrow : LeftRow w fb v r) (hlo : w0.heap.size ≤ fb) (o : Nat) (x : Value) :
    WS w0 (w.setCell ⟨fb, o, none⟩ x) B V s ∧ (w.setCell ⟨fb, o, none⟩ x).heap[fb]? = some (.cells (cs.setIfInBounds o x) 227 (0, 0)) ∧ LeftRow (w.setCell ⟨fb, o, none⟩ x) fb v r ∧ Fx wTy true fb w (w.setCell ⟨fb, o, none⟩ x) :=
  ⟨set_take (o := o) h hb rfl hlo x, setCell_same hb o x, hrow.fr (set_ty hb o x) f_not_find, set_fx _ _ _ _ _ _⟩
set_option maxRecDepth 10000 in
set_option maxHeartbeats 2000000 in
theorem fitem {w0 w : World} {B : WB} {V : WV} {s : CS} {fb : Nat} {f : FW} (h : WS w0 w B V s) (hr : s.room) (hlo : w0.heap.size ≤ fb) (hl : V.its.length ≤ 1048576) (p : Int × Int) (n : Int) (hn : (Lit.int .i64 n).wf = true) (r : List Ld) (hfd : FindAt w fb f r) :
    Calls Tryz.prog 236 #[.pointer (some ⟨fb, 0, none⟩), .pointer (some ⟨B.wb, 0, none⟩), .agg #[.int .i64 p.1, .int .i64 p.2, .int .i64 n]] w fun e w' => ∃ d, e = .returned (.bool d) ∧ d = ((atOf V.its (wrap64 (s.val (itemA p.1 p.2 n)))).2 && decide ((atOf V.its (wrap64 (s.val (itemA p.1 p.2 n)))).1.key = f.key)) ∧
      WS w0 w' B V (s.acc 1 (itemA p.1 p.2 n) (s.val (itemA p.1 p.2 n))) ∧ FindAt w' fb (if d = true then { f with b := p.1, u := p.2, k := n, ref := wrap64 (s.val (itemA p.1 p.2 n)) } else f) r ∧ Fx wTy true fb w w' := by
  obtain ⟨p1, p2⟩ := p
  obtain ⟨v, hb, hrow⟩ := hfd
  have hba := below_alloc w (.cells #[.int .i64 p1, .int .i64 p2, .int .i64 n] 71)
  have hza := heap_alloc_new w (.cells #[.int .i64 p1, .int .i64 p2, .int .i64 n] 71)
  have hib : IB w0 _ B V s fb w.heap.size f (p1, p2) n v r := ⟨h.keep hba, (hba.block _ (Array.getElem?_eq_some_iff.1 hb).1).trans hb, hza, hrow.below hba⟩
  have IB1 := Lib.hid hib; have F1 := Lib.hid ((below_fr hba wTy true).fx fb)
  have HR := Lib.hid hr; have HTA := Lib.hid (itemA_wf p1 p2 n); have HLL := Lib.hid hl
  have HTG := Lib.hid (fun W => item_any p1 p2 n hn W)
  clear h hr hb hrow hba hza hib hl hn
  show Calls _ _ #[_, _, .agg #[.int .i64 p1, .int .i64 p2, .int .i64 n]] _ _
  go_enter Tryz.func236, Tryz.ntmps236
  go_upto_region 1 with (fail)
  change Code.wp _ _ _ _ (w.alloc (.cells #[.int .i64 p1, .int .i64 p2, .int .i64 n] 71))
  generalize w.alloc (.cells #[.int .i64 p1, .int .i64 p2, .int .i64 n] 71) = w1 at *
  generalize w.heap.size = sb at *
  obtain ⟨ref, hrf⟩ : ∃ ref, ref = wrap64 (s.val (itemA p1 p2 n)) := ⟨_, rfl⟩
  have HRF := Lib.hid hrf
  clear hrf
  go_cut [7] (fun v7 wx => v7 = .int .i64 ref ∧ IB w0 wx B V (s.acc 1 (itemA p1 p2 n) (s.val (itemA p1 p2 n))) fb sb f (p1, p2) n v r ∧ Fx wTy true fb w wx)
  case first =>
    have hs1 : TItm sb B.wb B.cb (p1, p2) n w1.drew := (IB1.out.below (Below.refl _ _).drew).tt
    go_region_held2 (fun W => TItm sb B.wb B.cb (p1, p2) n W) (assumption) (first
      | (go_at_call 130; refine (HTG.out _).mono ?_; intro e w2 hh; obtain ⟨hh1, b2⟩ := hh; subst hh1; have b2' := (Below.refl w1.heap.size w1).drew.trans b2; have IB2 := Lib.hid (IB1.out.below b2'); have F2 := Lib.hid (F1.out.trans ((below_fr b2' wTy true).fx fb)); have s2 := IB2.out.tt; have hld := IB2.out.ws.load HR.out (itemA p1 p2 n) HTA.out; clear b2 b2' hs1 IB1 F1)
      | (go_at_call 94; refine hld.mono ?_; intro e w3 hh; obtain ⟨hh1, h3, f3⟩ := hh; subst hh1; have IB3 := Lib.hid (IB2.out.fr h3 f3); have F3 := Lib.hid (F2.out.trans (f3.fx fb)); have s3 := IB3.out.tt; clear h3 f3 hld s2 IB2 F2))
    all_goals (try go_wp2_with fail)
    all_goals go_meet
    all_goals exact ⟨congrArg (Value.int IntKind.i64) ((IntWalk.i64_left _).trans HRF.out.symm), IB3.out, F3.out⟩
  case rest =>
    obtain ⟨rfl, hib2, fx2⟩ := hcut
    clear IB1 F1 HTG
    have hat := hib2.ws.iat5 HLL.out ref
    have x1 := hib2.ws.hd5.2.1
    obtain ⟨it, hit⟩ : ∃ it, it = (atOf V.its ref).1 := ⟨_, rfl⟩
    obtain ⟨is, his⟩ : ∃ is, is = (atOf V.its ref).2 := ⟨_, rfl⟩
    rw [← hit, ← his] at hat
    have HIT := Lib.hid hit; have HIS := Lib.hid his; have IB2 := Lib.hid hib2; have F2 := Lib.hid fx2
    clear hit his hib2 fx2
    go_upto_region 3 with (go_at_call 64; refine hat.mono ?_; intro e w4 hh; obtain ⟨hh1, b4⟩ := hh; subst hh1; have IB4 := Lib.hid (IB2.out.below b4); have F4 := Lib.hid (F2.out.trans ((below_fr b4 wTy true).fx fb)); clear b4 hat x1 IB2 F2)
    change Code.wp _ _ _ _ (w4.alloc (.cells it.cells.toArray 88))
    have hb5 := below_alloc w4 (.cells it.cells.toArray 88)
    have hz5 := heap_alloc_new w4 (.cells it.cells.toArray 88)
    have IB5 := Lib.hid (IB4.out.below hb5); have F5 := Lib.hid (F4.out.trans ((below_fr hb5 wTy true).fx fb)); have HZ5 := Lib.hid hz5
    clear hb5 hz5 IB4 F4
    generalize w4.alloc (.cells it.cells.toArray 88) = w5 at *
    generalize w4.heap.size = tb at *
    obtain ⟨d, hd⟩ : ∃ d, d = (is && decide (it.key = f.key)) := ⟨_, rfl⟩
    have HD := Lib.hid hd
    clear hd
    go_cut [37] (fun v37 wx => v37 = .bool (!d) ∧ IB w0 wx B V (s.acc 1 (itemA p1 p2 n) (s.val (itemA p1 p2 n))) fb sb f (p1, p2) n v r ∧ Fx wTy true fb w wx)
    case first =>
      have c0 : w5.cell? ⟨tb, 0, none⟩ = some (.string it.key) := hcell HZ5.out 0
      have c1 : w5.cell? ⟨fb, 0, none⟩ = some (.string f.key) := hcell IB5.out.fnd 0
      have hdr : Below w5.heap.size w5 w5.drew := (Below.refl _ _).drew
      have IB6 := Lib.hid (IB5.out.below hdr); have F6 := Lib.hid (F5.out.trans ((below_fr hdr wTy true).fx fb))
      clear hdr
      cases is
      · go_region
        all_goals (try go_wp2_with fail)
        all_goals go_meet
        all_goals exact ⟨by rw [HD.out]; rfl, IB6.out, F6.out⟩
      · by_cases hke : it.key = f.key
        · rw [hke] at c0
          have HKE := Lib.hid hke
          clear hke
          go_region
          all_goals (try go_wp2_with fail)
          all_goals go_meet
          all_goals exact ⟨by rw [HD.out, decide_eq_true HKE.out]; rfl, IB6.out, F6.out⟩
        · have HKE := Lib.hid hke
          have kn := key_ne hke
          clear hke
          go_region
          all_goals (try go_wp2_with fail)
          all_goals go_meet
          all_goals exact ⟨by rw [HD.out, decide_eq_false HKE.out]; rfl, IB6.out, F6.out⟩
    case rest =>
      obtain ⟨rfl, hib6, fx6⟩ := hcut
      rw [HIS.out, HIT.out, HRF.out] at HD
      have HIB6 := Lib.hid hib6; have HF6 := Lib.hid fx6
      clear hib6 fx6 IB5 F5 HZ5
      cases d
      · go_wp2
        go_ret
        exact ⟨false, rfl, HD.out, HIB6.out.ws, ⟨v, HIB6.out.fnd, HIB6.out.row⟩, HF6.out⟩
      · have c0 := hcell HIB6.out.spt 0
        have c1 := hcell HIB6.out.spt 1
        have c2 := hcell HIB6.out.spt 2
        obtain ⟨e0, e1, e2, e3, e4, e5, e6⟩ := fw_cells HIB6.out.fnd
        have e7 := hfrz HIB6.out.fnd
        go_wp2
        obtain ⟨h1, b1, r1, f1⟩ := find_set HIB6.out.ws HIB6.out.fnd HIB6.out.row hlo 3 (.int .i64 p1)
        obtain ⟨h2, b2, r2, f2⟩ := find_set h1 b1 r1 hlo 4 (.int .i64 p2)
        obtain ⟨h3, b3, r3, f3⟩ := find_set h2 b2 r2 hlo 5 (.int .i64 n)
        obtain ⟨h4, b4, r4, f4⟩ := find_set h3 b3 r3 hlo 6 (.int .i64 ref)
        have hd := HD.out
        have hrf := HRF.out
        go_ret
        exact .inr ⟨rfl, by rw [eq_comm, Bool.and_eq_true, decide_eq_true_eq] at hd; exact hd, h4, ⟨v, by rw [← hrf]; exact b4, r4⟩, (((HF6.out.trans f1).trans f2).trans f3).trans f4⟩
end Go.Proofs.YtomllmlieeaaiaaGreat

/-
  A Find's step.
-/
namespace Go.Proofs.YtomllmlieeaaiaaGreat
open Go.RowKit Go.Maps TagPure
set_option linter.unusedVariables false

def LdOk : Ld → Prop
  | .itm _ n => (Lit.int .i64 n).wf = true
  | _ => True
def hit (its : List Itm) (s : CS) (key : ByteArray) (p : Int × Int) (n : Int) : Bool := (atOf its (wrap64 (s.val (itemA p.1 p.2 n)))).2 && decide ((atOf its (wrap64 (s.val (itemA p.1 p.2 n)))).1.key = key)
/-- A step's find, and what is left. -/
def fnext (its : List Itm) (s : CS) (f : FW) (r : List Ld) : Ld → FW × List Ld
  | .tab => ({ f with word := s.val 2 }, (plist (hashOf f.key) (s.val 2)).map Ld.tag)
  | .tag p => (f, (has (s.val (tagsA p.1 p.2)) (tag01 (hashOf f.key)) 4).map (fun (n : Nat) => Ld.itm p n) ++ r)
  | .itm p n => if hit its s f.key p n = true then ({ f with b := p.1, u := p.2, k := n, ref := wrap64 (s.val (itemA p.1 p.2 n)) }, []) else (f, r)
def ldA : Ld → Int
  | .tab => 2
  | .tag p => tagsA p.1 p.2
  | .itm p n => itemA p.1 p.2 n
set_option maxRecDepth 10000 in
set_option maxHeartbeats 1000000 in
theorem fstep_tab {w0 w : World} {B : WB} {V : WV} {s : CS} {fb : Nat} {f : FW} (h : WS w0 w B V s) (hr : s.room) (hlo : w0.heap.size ≤ fb) (hk : f.key.size ≤ 1000000) (hfd : FindAt w fb f [.tab]) :
    Calls Tryz.prog 27 #[.pointer (some ⟨fb, 0, none⟩), .pointer (some ⟨B.wb, 0, none⟩)] w fun e w' => e = .returned (.bool (decide ((fnext V.its s f [] .tab).2 = []))) ∧ WS w0 w' B V (s.acc 1 2 (s.val 2)) ∧ FindAt w' fb (fnext V.its s f [] .tab).1 (fnext V.its s f [] .tab).2 ∧ Fx wTy true fb w w' := by
  have ho := fover hfd
  rw [show decide ([Ld.tab] = []) = false from rfl] at ho
  obtain ⟨v, hb, a, c, rfl, hc1, hc2, ht, hrow⟩ := hfd
  have hc : c = 1 := by
    rcases ht with ⟨-, h⟩ | hno
    · exact h
    · exact absurd rfl (hno .tab (by simp))
  subst hc
  obtain hrow | ⟨g, o, cur, rfl, hg, hi⟩ := hrow
  · cases hrow
  obtain ⟨u, hu, rfl⟩ := hi 0 (by simp)
  rw [Nat.add_zero] at hu
  obtain ⟨h1, b1, -, f1⟩ := find_set (v := .slice none 0 0) (r := []) h hb ⟨none, 0, rfl, Nat.le_refl _, Nat.zero_le _, .inr (fun l hl => by cases hl), .inl rfl⟩ hlo 1 (.slice (some ⟨g, o, none⟩) 0 0)
  have hdo := ftable (f := f) h1 hr hlo hk (some ⟨g, o, none⟩) b1
  have c1 : w.cell? ⟨fb, 1, none⟩ = some (.slice (some ⟨g, o, none⟩) 1 1) := hcell hb 1
  have c2 := hfrz hb 1
  have c3 : w.cell? ⟨g, o, none⟩ = some (.func (.func 111) #[.pointer (some ⟨fb, 0, none⟩)] #[]) := by rw [hcell hg]; exact hu
  have F1 := Lib.hid f1
  clear h hr hk hb hg hi hu h1 b1 f1 hc1 hc2
  go_enter Tryz.func27, Tryz.ntmps27
  go_upto_region 4 with (go_at_call 117; refine ho.mono ?_; intro e w2 hh; obtain ⟨hh1, hh2⟩ := hh; subst hh1; obtain rfl := hh2.symm; clear ho)
  go_upto_region 6 with (go_at_call 111; refine hdo.mono ?_; intro e w3 hh; obtain ⟨hh1, h3, a3, f3⟩ := hh; subst hh1; have ho3 := fover a3; have P := Lib.hid (And.intro h3 (And.intro a3 (F1.out.trans f3))); clear h3 a3 f3 hdo)
  obtain ⟨d, hd⟩ : ∃ d, d = decide ((plist (hashOf f.key) (s.val 2)).map Ld.tag = []) := ⟨_, rfl⟩
  rw [← hd] at ho3
  have HD := Lib.hid hd
  clear hd
  go_wp2_with (go_at_call 117; refine ho3.mono ?_; intro e w4 hh; obtain ⟨hh1, hh2⟩ := hh; subst hh1; obtain rfl := hh2.symm; clear ho3)
  go_ret
  exact ⟨by rw [HD.out]; rfl, P.out.1, P.out.2.1, P.out.2.2⟩
/-- A closure's call: a place's load. -/
theorem ftag1 {w0 w : World} {B : WB} {V : WV} {s : CS} {fb xb pb : Nat} {f : FW} (p : Int × Int) (hx : w.heap[xb]? = some (.cells #[.pointer (some ⟨fb, 0, none⟩)] 62 (0, 0))) (hp : w.heap[pb]? = some (.cells #[.int .i64 p.1, .int .i64 p.2] 69 (0, 0))) {Q : Ending → World → Prop}
    (hdo : Calls Tryz.prog 188 #[.pointer (some ⟨fb, 0, none⟩), .pointer (some ⟨B.wb, 0, none⟩), .agg #[.int .i64 p.1, .int .i64 p.2]] w fun e w' => e = .returned (.bool false) ∧ Q e w') :
    Calls Tryz.prog 187 #[.pointer (some ⟨B.wb, 0, none⟩), .pointer (some ⟨xb, 0, none⟩), .pointer (some ⟨pb, 0, none⟩)] w fun e w' => e = .returned (.bool false) ∧ Q e w' := by
  have c0 := hcell hx 0
  have c1 := hcell hp 0
  have c2 := hcell hp 1
  go_enter Tryz.func187, Tryz.ntmps187
  go_wp2_with (go_at_call 188; refine hdo.mono ?_; intro e w4 hh; obtain ⟨hh1, hq⟩ := hh; subst hh1; have HQ := Lib.hid hq; clear hq hdo)
  go_ret
  exact ⟨rfl, HQ.out⟩
theorem fitm1 {w0 w : World} {B : WB} {V : WV} {s : CS} {fb xb pb nb : Nat} {f : FW} (p : Int × Int) (n : Int) (hx : w.heap[xb]? = some (.cells #[.pointer (some ⟨fb, 0, none⟩)] 62 (0, 0))) (hp : w.heap[pb]? = some (.cells #[.int .i64 p.1, .int .i64 p.2] 69 (0, 0))) (hn : w.heap[nb]? = some (.cells #[.int .i64 n] 3 (0, 0))) {Q : Bool → World → Prop}
    (hdo : Calls Tryz.prog 236 #[.pointer (some ⟨fb, 0, none⟩), .pointer (some ⟨B.wb, 0, none⟩), .agg #[.int .i64 p.1, .int .i64 p.2, .int .i64 n]] w fun e w' => ∃ d, e = .returned (.bool d) ∧ Q d w') :
    Calls Tryz.prog 235 #[.pointer (some ⟨B.wb, 0, none⟩), .pointer (some ⟨xb, 0, none⟩), .pointer (some ⟨pb, 0, none⟩), .pointer (some ⟨nb, 0, none⟩)] w fun e w' => ∃ d, e = .returned (.bool d) ∧ Q d w' := by
  have c0 := hcell hx 0
  have c1 := hcell hp 0
  have c2 := hcell hp 1
  have c3 := hcell hn 0
  go_enter Tryz.func235, Tryz.ntmps235
  go_wp2_with (go_at_call 236; refine hdo.mono ?_; intro e w4 hh; obtain ⟨d, hh1, hq⟩ := hh; subst hh1; have HQ := Lib.hid hq; clear hq hdo)
  go_ret
  exact ⟨d, rfl, HQ.out⟩
theorem left_pop {w : World} {fb : Nat} {v : Value} {l : Ld} {r : List Ld} (h : LeftRow w fb v (l :: r)) (hl : l ≠ .tab) :
    ∃ g o k u, v = .slice (some ⟨g, o, none⟩) (r.length + 1) (k + 1) ∧ w.cell? ⟨g, o, none⟩ = some u ∧ LdAt w fb u l ∧ r.length ≤ k ∧ k + 1 ≤ maxLen ∧ (∀ l ∈ r, l ≠ .tab) ∧ LeftRow w fb (.slice (some ⟨g, if k = 0 then o else o + 1, none⟩) r.length k) r := by
  obtain ⟨a, c, rfl, hc1, hc2, ht, h0 | ⟨g, o, cur, rfl, hg, hi⟩⟩ := h
  · cases h0
  have hno : ∀ l' ∈ r, l' ≠ .tab := by
    rcases ht with ⟨e, -⟩ | hno
    · simp only [List.cons.injEq] at e; exact absurd e.1 hl
    · exact fun l' h' => hno l' (List.mem_cons_of_mem _ h')
  obtain ⟨u, hu, hd⟩ := hi 0 (by simp)
  rw [Nat.add_zero] at hu
  rw [List.length_cons] at hc1
  obtain ⟨k, rfl⟩ : ∃ k, c = k + 1 := ⟨c - 1, by omega⟩
  refine ⟨g, o, k, u, rfl, by rw [hcell hg]; exact hu, hd, by omega, hc2, hno, ?_⟩
  refine ⟨_, k, rfl, by omega, by omega, .inr hno, ?_⟩
  by_cases hk : k = 0
  · exact .inl (List.eq_nil_of_length_eq_zero (by omega))
  · rw [if_neg hk]
    refine .inr ⟨g, o + 1, cur, rfl, hg, fun i hir => ?_⟩
    obtain ⟨u', h1, h2⟩ := hi (i + 1) (by simp; exact hir)
    exact ⟨u', by rw [show o + 1 + i = o + (i + 1) by omega]; exact h1, by simpa using h2⟩
set_option maxRecDepth 10000 in
set_option maxHeartbeats 2000000 in
theorem fstep_tag {w0 w : World} {B : WB} {V : WV} {s : CS} {fb : Nat} {f : FW} (h : WS w0 w B V s) (hr : s.room) (hlo : w0.heap.size ≤ fb) (hk : f.key.size ≤ 1000000) (p : Int × Int) (r : List Ld) (hr1 : r.length ≤ 1000) (hfd : FindAt w fb f (.tag p :: r)) :
    Calls Tryz.prog 27 #[.pointer (some ⟨fb, 0, none⟩), .pointer (some ⟨B.wb, 0, none⟩)] w fun e w' => e = .returned (.bool (decide ((fnext V.its s f r (.tag p)).2 = []))) ∧ WS w0 w' B V (s.acc 1 (tagsA p.1 p.2) (s.val (tagsA p.1 p.2))) ∧ FindAt w' fb (fnext V.its s f r (.tag p)).1 (fnext V.its s f r (.tag p)).2 ∧ Fx wTy true fb w w' := by
  have ho := fover hfd
  rw [show decide (Ld.tag p :: r = []) = false from rfl] at ho
  obtain ⟨v, hb, hrow⟩ := hfd
  obtain ⟨g, o, k, u, rfl, hu, ⟨xb, pb, rfl, hx, hp⟩, hrk, hkm, hno, hrow2⟩ := left_pop hrow (by intro c; cases c)
  obtain ⟨h1, b1, r1, f1⟩ := find_set h hb hrow2 hlo 1 (.slice (some ⟨g, if k = 0 then o else o + 1, none⟩) r.length k)
  have fs := set_ty hb 1 (.slice (some ⟨g, if k = 0 then o else o + 1, none⟩) r.length k)
  have hdo := ftag1 (B := B) (s := s) (V := V) (f := f) (w0 := w0) p (fs.cells _ _ _ _ hx rfl) (fs.cells _ _ _ _ hp rfl) (ftags (f := f) h1 hr hlo hk p _ k r hr1 hno b1 r1)
  have c1 : w.cell? ⟨fb, 1, none⟩ = some (.slice (some ⟨g, o, none⟩) (r.length + 1) (k + 1)) := hcell hb 1
  have c2 := hfrz hb 1
  have F1 := Lib.hid f1
  obtain ⟨ls, hls⟩ : ∃ ls, ls = (has (s.val (tagsA p.1 p.2)) (tag01 (hashOf f.key)) 4).map (fun (n : Nat) => Ld.itm p n) ++ r := ⟨_, rfl⟩
  rw [← hls] at hdo
  obtain ⟨d, hd⟩ : ∃ d, d = decide (ls = []) := ⟨_, rfl⟩
  have HD := Lib.hid hd; have HLS := Lib.hid hls
  clear h hr hk hb hrow hrow2 h1 b1 r1 f1 hx hp fs hls hno hr1
  unfold maxLen at hkm
  by_cases hk0 : k = 0
  · subst hk0
    have hr0 : r = [] := List.eq_nil_of_length_eq_zero (by omega)
    subst hr0
    simp only [if_pos, List.length_nil, Nat.zero_add] at hdo c1 F1
    go_enter Tryz.func27, Tryz.ntmps27
    go_upto_region 4 with (go_at_call 117; refine ho.mono ?_; intro e w2 hh; obtain ⟨hh1, hh2⟩ := hh; subst hh1; obtain rfl := hh2.symm; clear ho)
    go_upto_region 6 with (go_at_call 187; refine hdo.mono ?_; intro e w3 hh; obtain ⟨hh1, h3, a3, f3⟩ := hh; subst hh1; have ho3 := fover a3; have P := Lib.hid (And.intro h3 (And.intro a3 (F1.out.trans f3))); rw [← hd] at ho3; clear h3 a3 f3 hdo hd)
    go_wp2_with (go_at_call 117; refine ho3.mono ?_; intro e w4 hh; obtain ⟨hh1, hh2⟩ := hh; subst hh1; obtain rfl := hh2.symm; clear ho3)
    go_ret
    rw [HD.out]
    rw [HLS.out] at P ⊢
    exact ⟨rfl, P.out.1, P.out.2.1, P.out.2.2⟩
  · rw [if_neg hk0] at hdo F1
    go_enter Tryz.func27, Tryz.ntmps27
    go_upto_region 4 with (go_at_call 117; refine ho.mono ?_; intro e w2 hh; obtain ⟨hh1, hh2⟩ := hh; subst hh1; obtain rfl := hh2.symm; clear ho)
    go_upto_region 6 with (go_at_call 187; refine hdo.mono ?_; intro e w3 hh; obtain ⟨hh1, h3, a3, f3⟩ := hh; subst hh1; have ho3 := fover a3; have P := Lib.hid (And.intro h3 (And.intro a3 (F1.out.trans f3))); rw [← hd] at ho3; clear h3 a3 f3 hdo hd)
    go_wp2_with (go_at_call 117; refine ho3.mono ?_; intro e w4 hh; obtain ⟨hh1, hh2⟩ := hh; subst hh1; obtain rfl := hh2.symm; clear ho3)
    go_ret
    rw [HD.out]
    rw [HLS.out] at P ⊢
    exact ⟨rfl, P.out.1, P.out.2.1, P.out.2.2⟩
theorem find_stop {w0 w : World} {B : WB} {V : WV} {s : CS} {fb : Nat} {f : FW} {r : List Ld} (h : WS w0 w B V s) (hlo : w0.heap.size ≤ fb) (hfd : FindAt w fb f r) :
    WS w0 (w.setCell ⟨fb, 1, none⟩ (.slice none 0 0)) B V s ∧ FindAt (w.setCell ⟨fb, 1, none⟩ (.slice none 0 0)) fb f [] ∧ Fx wTy true fb w (w.setCell ⟨fb, 1, none⟩ (.slice none 0 0)) := by
  obtain ⟨v, hb, hrow⟩ := hfd
  obtain ⟨h1, b1, r1, f1⟩ := find_set h hb hrow hlo 1 (.slice none 0 0)
  exact ⟨h1, ⟨_, b1, none, 0, rfl, Nat.le_refl _, Nat.zero_le _, .inr (fun l hl => by cases hl), .inl rfl⟩, f1⟩
set_option maxRecDepth 10000 in
set_option maxHeartbeats 2000000 in
theorem fstep_itm {w0 w : World} {B : WB} {V : WV} {s : CS} {fb : Nat} {f : FW} (h : WS w0 w B V s) (hr : s.room) (hlo : w0.heap.size ≤ fb) (hl : V.its.length ≤ 1048576) (p : Int × Int) (n : Int) (hn : (Lit.int .i64 n).wf = true) (r : List Ld) (hfd : FindAt w fb f (.itm p n :: r)) :
    Calls Tryz.prog 27 #[.pointer (some ⟨fb, 0, none⟩), .pointer (some ⟨B.wb, 0, none⟩)] w fun e w' => e = .returned (.bool (decide ((fnext V.its s f r (.itm p n)).2 = []))) ∧ WS w0 w' B V (s.acc 1 (itemA p.1 p.2 n) (s.val (itemA p.1 p.2 n))) ∧ FindAt w' fb (fnext V.its s f r (.itm p n)).1 (fnext V.its s f r (.itm p n)).2 ∧ Fx wTy true fb w w' := by
  have ho := fover hfd
  rw [show decide (Ld.itm p n :: r = []) = false from rfl] at ho
  obtain ⟨v, hb, hrow⟩ := hfd
  obtain ⟨g, o, k, u, rfl, hu, ⟨xb, pb, nb, rfl, hx, hp, hnb⟩, hrk, hkm, hno, hrow2⟩ := left_pop hrow (by intro c; cases c)
  obtain ⟨h1, b1, r1, f1⟩ := find_set h hb hrow2 hlo 1 (.slice (some ⟨g, if k = 0 then o else o + 1, none⟩) r.length k)
  have fs := set_ty hb 1 (.slice (some ⟨g, if k = 0 then o else o + 1, none⟩) r.length k)
  have hdo := fitm1 (B := B) (s := s) (V := V) (f := f) (w0 := w0) p n (fs.cells _ _ _ _ hx rfl) (fs.cells _ _ _ _ hp rfl) (fs.cells _ _ _ _ hnb rfl) (fitem (f := f) h1 hr hlo hl p n hn r ⟨_, b1, r1⟩)
  have c1 : w.cell? ⟨fb, 1, none⟩ = some (.slice (some ⟨g, o, none⟩) (r.length + 1) (k + 1)) := hcell hb 1
  have c2 := hfrz hb 1
  have F1 := Lib.hid f1
  obtain ⟨f2, hf2⟩ : ∃ f2 : FW, f2 = { f with b := p.1, u := p.2, k := n, ref := wrap64 (s.val (itemA p.1 p.2 n)) } := ⟨_, rfl⟩
  rw [← hf2] at hdo
  have hfn : fnext V.its s f r (.itm p n) = if hit V.its s f.key p n = true then (f2, []) else (f, r) := by rw [hf2]; rfl
  rw [hfn]
  change Calls _ _ _ _ (fun e w' => ∃ d, e = .returned (.bool d) ∧ d = hit V.its s f.key p n ∧ _) at hdo
  generalize hit V.its s f.key p n = hh0 at *
  have HF2 := Lib.hid hf2
  obtain ⟨d5, hd5⟩ : ∃ d5, d5 = decide (r = []) := ⟨_, rfl⟩
  have HD5 := Lib.hid hd5
  clear hd5
  clear h hr hl hn hb hrow hrow2 h1 b1 r1 f1 hx hp hnb fs hf2 hno hfn
  unfold maxLen at hkm
  by_cases hk0 : k = 0
  · subst hk0
    have hr0 : r = [] := List.eq_nil_of_length_eq_zero (by omega)
    subst hr0
    simp only [if_pos, List.length_nil, Nat.zero_add] at hdo c1 F1
    cases hh0
    · go_enter Tryz.func27, Tryz.ntmps27
      go_upto_region 4 with (go_at_call 117; refine ho.mono ?_; intro e w2 hh; obtain ⟨hh1, hh2⟩ := hh; subst hh1; obtain rfl := hh2.symm; clear ho)
      go_upto_region 6 with (go_at_call 235; refine hdo.mono ?_; intro e w3 hh; obtain ⟨d, hh1, hd, h3, a3, f3⟩ := hh; subst hh1; subst hd; rw [if_neg Bool.false_ne_true] at a3; have ho5 := fover a3; rw [show decide (([] : List Ld) = []) = true from rfl] at ho5; have P := Lib.hid (And.intro h3 (And.intro a3 (F1.out.trans f3))); clear h3 a3 f3 hdo)
      go_wp2_with (go_at_call 117; refine ho5.mono ?_; intro e w4 hh; obtain ⟨hh1, hh2⟩ := hh; subst hh1; obtain rfl := hh2.symm; clear ho5)
      go_ret
      exact ⟨rfl, P.out.1, P.out.2.1, P.out.2.2⟩
    · go_enter Tryz.func27, Tryz.ntmps27
      go_upto_region 4 with (go_at_call 117; refine ho.mono ?_; intro e w2 hh; obtain ⟨hh1, hh2⟩ := hh; subst hh1; obtain rfl := hh2.symm; clear ho)
      go_upto_region 5 with (go_at_call 235; refine hdo.mono ?_; intro e w3 hh; obtain ⟨d, hh1, hd, h3, a3, f3⟩ := hh; subst hh1; subst hd; rw [if_pos rfl] at a3; have g0 := a3; obtain ⟨v3, z3, y3⟩ := g0; have e1 := hcell z3 1; have e2 := hfrz z3 1; obtain ⟨h5, a5, f5⟩ := find_stop h3 hlo a3; have ho5 := fover a5; have P := Lib.hid (And.intro h5 (And.intro a5 ((F1.out.trans f3).trans f5))); clear z3 y3 h5 a5 f5; clear h3 a3 f3 hdo)
      go_wp2_with (go_at_call 117; refine ho5.mono ?_; intro e w4 hh; obtain ⟨hh1, hh2⟩ := hh; subst hh1; obtain rfl := hh2.symm; clear ho5)
      go_ret
      exact ⟨rfl, P.out.1, P.out.2.1, P.out.2.2⟩
  · rw [if_neg hk0] at hdo F1
    cases hh0
    · go_enter Tryz.func27, Tryz.ntmps27
      go_upto_region 4 with (go_at_call 117; refine ho.mono ?_; intro e w2 hh; obtain ⟨hh1, hh2⟩ := hh; subst hh1; obtain rfl := hh2.symm; clear ho)
      go_upto_region 6 with (go_at_call 235; refine hdo.mono ?_; intro e w3 hh; obtain ⟨d, hh1, hd, h3, a3, f3⟩ := hh; subst hh1; subst hd; rw [if_neg Bool.false_ne_true] at a3; have ho5 := fover a3; rw [← HD5.out] at ho5; have P := Lib.hid (And.intro h3 (And.intro a3 (F1.out.trans f3))); clear h3 a3 f3 hdo)
      go_wp2_with (go_at_call 117; refine ho5.mono ?_; intro e w4 hh; obtain ⟨hh1, hh2⟩ := hh; subst hh1; obtain rfl := hh2.symm; clear ho5)
      go_ret
      exact ⟨by rw [HD5.out]; rfl, P.out.1, P.out.2.1, P.out.2.2⟩
    · go_enter Tryz.func27, Tryz.ntmps27
      go_upto_region 4 with (go_at_call 117; refine ho.mono ?_; intro e w2 hh; obtain ⟨hh1, hh2⟩ := hh; subst hh1; obtain rfl := hh2.symm; clear ho)
      go_upto_region 5 with (go_at_call 235; refine hdo.mono ?_; intro e w3 hh; obtain ⟨d, hh1, hd, h3, a3, f3⟩ := hh; subst hh1; subst hd; rw [if_pos rfl] at a3; have g0 := a3; obtain ⟨v3, z3, y3⟩ := g0; have e1 := hcell z3 1; have e2 := hfrz z3 1; obtain ⟨h5, a5, f5⟩ := find_stop h3 hlo a3; have ho5 := fover a5; have P := Lib.hid (And.intro h5 (And.intro a5 ((F1.out.trans f3).trans f5))); clear z3 y3 h5 a5 f5; clear h3 a3 f3 hdo)
      go_wp2_with (go_at_call 117; refine ho5.mono ?_; intro e w4 hh; obtain ⟨hh1, hh2⟩ := hh; subst hh1; obtain rfl := hh2.symm; clear ho5)
      go_ret
      exact ⟨rfl, P.out.1, P.out.2.1, P.out.2.2⟩
end Go.Proofs.YtomllmlieeaaiaaGreat

/-
  A Find runs by itself.
-/
namespace Go.Proofs.YtomllmlieeaaiaaGreat
open Go.RowKit Go.Maps TagPure
set_option linter.unusedVariables false

def POk (ls : List Ld) (j : Nat) : Prop := (ls = [.tab] ∨ ∀ l ∈ ls, l ≠ .tab ∧ LdOk l) ∧ ls.length ≤ 4 * (j + 1)
theorem POk.next {l : Ld} {r : List Ld} {j : Nat} (its : List Itm) (s : CS) (f : FW) (h : POk (l :: r) j) : POk (fnext its s f r l).2 (j + 1) := by
  obtain ⟨h1, h2⟩ := h
  rw [List.length_cons] at h2
  have hr : ∀ l' ∈ r, l' ≠ .tab ∧ LdOk l' := by
    rcases h1 with h1 | h1
    · simp only [List.cons.injEq] at h1; rw [h1.2]; intro l' h; cases h
    · exact fun l' h => h1 l' (List.mem_cons_of_mem _ h)
  cases l with
  | tab =>
    refine ⟨.inr fun l' hl' => ?_, ?_⟩
    · obtain ⟨p, -, rfl⟩ := List.mem_map.1 hl'
      exact ⟨(by intro c; cases c), trivial⟩
    · have := plist_len (hashOf f.key) (s.val 2)
      show ((plist (hashOf f.key) (s.val 2)).map Ld.tag).length ≤ _
      rw [List.length_map]; omega
  | tag p =>
    refine ⟨.inr fun l' hl' => ?_, ?_⟩
    · rcases List.mem_append.1 hl' with hl' | hl'
      · obtain ⟨n, hn, rfl⟩ := List.mem_map.1 hl'
        have := has_lt _ _ _ _ hn
        refine ⟨(by intro c; cases c), ?_⟩
        show (Lit.int .i64 (n : Int)).wf = true
        simp [Lit.wf, IntKind.min, IntKind.max, IntKind.bits, IntKind.signed]; omega
      · exact hr l' hl'
    · have := has_le (s.val (tagsA p.1 p.2)) (tag01 (hashOf f.key)) 4
      show ((has (s.val (tagsA p.1 p.2)) (tag01 (hashOf f.key)) 4).map (fun (n : Nat) => Ld.itm p n) ++ r).length ≤ _
      rw [List.length_append, List.length_map]; omega
  | itm p n =>
    show POk (if hit its s f.key p n = true then ({ f with b := p.1, u := p.2, k := n, ref := wrap64 (s.val (itemA p.1 p.2 n)) }, []) else (f, r)).2 (j + 1)
    split
    · exact ⟨.inr fun l' h => (by cases h), by simp⟩
    · exact ⟨.inr hr, by show r.length ≤ _; omega⟩
theorem fnext_key (its : List Itm) (s : CS) (f : FW) (r : List Ld) (l : Ld) : (fnext its s f r l).1.key = f.key := by
  cases l with
  | tab => rfl
  | tag p => rfl
  | itm p n =>
    show (if hit its s f.key p n = true then (({ f with b := p.1, u := p.2, k := n, ref := wrap64 (s.val (itemA p.1 p.2 n)) } : FW), ([] : List Ld)) else (f, r)).1.key = f.key
    split <;> rfl
theorem fstep_any {w0 w : World} {B : WB} {V : WV} {s : CS} {fb : Nat} {f : FW} (h : WS w0 w B V s) (hr : s.room) (hlo : w0.heap.size ≤ fb) (hk : f.key.size ≤ 1000000) (hl : V.its.length ≤ 1048576) (l : Ld) (r : List Ld) (j : Nat) (hj : j ≤ 200) (hp : POk (l :: r) j) (hfd : FindAt w fb f (l :: r)) :
    Calls Tryz.prog 27 #[.pointer (some ⟨fb, 0, none⟩), .pointer (some ⟨B.wb, 0, none⟩)] w fun e w' => e = .returned (.bool (decide ((fnext V.its s f r l).2 = []))) ∧ WS w0 w' B V (s.acc 1 (ldA l) (s.val (ldA l))) ∧ FindAt w' fb (fnext V.its s f r l).1 (fnext V.its s f r l).2 ∧ Fx wTy true fb w w' := by
  obtain ⟨h1, h2⟩ := hp
  rw [List.length_cons] at h2
  cases l with
  | tab =>
    have : r = [] := by
      rcases h1 with h1 | h1
      · simp only [List.cons.injEq, true_and] at h1; exact h1
      · exact absurd rfl (h1 .tab (by simp)).1
    subst this
    exact fstep_tab h hr hlo hk hfd
  | tag p => exact fstep_tag h hr hlo hk p r (by omega) hfd
  | itm p n =>
    have hn : (Lit.int .i64 n).wf = true := by
      rcases h1 with h1 | h1
      · simp only [List.cons.injEq] at h1; cases h1.1
      · exact (h1 (.itm p n) (by simp)).2
    exact fstep_itm h hr hlo hl p n hn r hfd
/-- A run of at most so many steps: how many it takes, and what is left. -/
def fiter (its : List Itm) : Nat → CS → FW → List Ld → Nat × CS × FW × List Ld
  | 0, s, f, ls => (0, s, f, ls)
  | m + 1, s, f, [] => (0, s, f, [])
  | m + 1, s, f, l :: r => ((fiter its m (s.acc 1 (ldA l) (s.val (ldA l))) (fnext its s f r l).1 (fnext its s f r l).2).1 + 1, (fiter its m (s.acc 1 (ldA l) (s.val (ldA l))) (fnext its s f r l).1 (fnext its s f r l).2).2)
theorem fiter_nil (its : List Itm) (m : Nat) (s : CS) (f : FW) : fiter its m s f [] = (0, s, f, []) := by cases m <;> rfl
set_option maxRecDepth 10000 in
set_option maxHeartbeats 2000000 in
theorem frun {w0 w : World} {B : WB} {V : WV} {s : CS} {fb : Nat} {f : FW} {ls : List Ld} (m : Nat) (hm : m ≤ 99) (c : Nat) (hc : s.n ≤ c ∧ s.cnt ≤ c) (hcl : c + 100 < lim) (h : WS w0 w B V s) (hlo : w0.heap.size ≤ fb) (hk : f.key.size ≤ 1000000) (hl : V.its.length ≤ 1048576) (hp : POk ls 0) (hfd : FindAt w fb f ls) :
    Calls Tryz.prog 60 #[.pointer (some ⟨B.wb, 0, none⟩), .iface 62 (.pointer (some ⟨fb, 0, none⟩)), .int .i64 m] w fun e w' => e = .returned (.int .i64 ((fiter V.its m s f ls).1 : Nat)) ∧ WS w0 w' B V (fiter V.its m s f ls).2.1 ∧ FindAt w' fb (fiter V.its m s f ls).2.2.1 (fiter V.its m s f ls).2.2.2 ∧ Fx wTy true fb w w' := by
  have H := Lib.hid h; have HFD := Lib.hid hfd; have HP := Lib.hid hp; have HC := Lib.hid hc; have HCL := Lib.hid hcl; have HK := Lib.hid hk; have HL := Lib.hid hl
  clear h hfd hp hc hcl hk hl
  obtain ⟨R, hR⟩ : ∃ R, R = fiter V.its m s f ls := ⟨_, rfl⟩
  rw [← hR]
  have HR := Lib.hid hR
  clear hR
  go_enter Tryz.func60, Tryz.ntmps60
  go_wp2
  go_loopw [7] (fun i wr => ∃ (k : Nat) (s' : CS) (f' : FW) (ls' : List Ld), k ≤ m ∧ i = .int .i64 k ∧ WS w0 wr B V s' ∧ FindAt wr fb f' ls' ∧ POk ls' k ∧ f'.key = f.key ∧ (s'.n ≤ c + k ∧ s'.cnt ≤ c + k) ∧ R = ((fiter V.its (m - k) s' f' ls').1 + k, (fiter V.its (m - k) s' f' ls').2) ∧ Fx wTy true fb w wr) (fun i _ => m - (intOf i).toNat)
  case atStart => exact ⟨0, s, f, ls, by omega, rfl, H.out, HFD.out, HP.out, rfl, HC.out, HR.out, ⟨Nat.le_refl _, fun _ _ _ _ h _ _ => h, fun _ _ _ _ h _ => h⟩⟩
  case round =>
    clear H HFD HP HC HR
    obtain ⟨k, s', f', ls', hk, rfl, h, hfd, hp, hkey, hc, hR, hfx⟩ := hrel
    have hov := fover hfd
    by_cases hlt : k < m
    · have hlt' : (k : Int) < m := by omega
      cases ls' with
      | nil =>
        rw [show decide (([] : List Ld) = []) = true from rfl] at hov
        rw [fiter_nil] at hR
        have P := Lib.hid (And.intro h (And.intro hfd hfx))
        have HR := Lib.hid hR
        clear h hfd hp hkey hc hR hfx
        go_wp2_with (go_at_call 117; refine hov.mono ?_; intro e w2 hh; obtain ⟨hh1, hh2⟩ := hh; subst hh1; obtain rfl := hh2.symm; clear hov)
        go_ret
        rw [HR.out]
        exact ⟨by simp, P.out.1, P.out.2.1, P.out.2.2⟩
      | cons l r =>
        rw [show decide (l :: r = []) = false from rfl] at hov
        have hst := fstep_any h (CS.room_of (c + k) hc (by have := HCL.out; omega)) hlo (by rw [hkey]; exact HK.out) HL.out l r k (by omega) hp hfd
        obtain ⟨q, hq⟩ : ∃ q, q = m - (k + 1) := ⟨_, rfl⟩
        rw [show m - k = q + 1 by omega] at hR
        have hR2 : R = ((fiter V.its q (s'.acc 1 (ldA l) (s'.val (ldA l))) (fnext V.its s' f' r l).1 (fnext V.its s' f' r l).2).1 + (k + 1), (fiter V.its q (s'.acc 1 (ldA l) (s'.val (ldA l))) (fnext V.its s' f' r l).1 (fnext V.its s' f' r l).2).2) := by
          rw [hR]; simp only [fiter]; rw [Prod.mk.injEq]; exact ⟨by omega, rfl⟩
        have hp2 := hp.next V.its s' f'
        have hkey2 := (fnext_key V.its s' f' r l).trans hkey
        have hc2 : (s'.acc 1 (ldA l) (s'.val (ldA l))).n ≤ c + (k + 1) ∧ (s'.acc 1 (ldA l) (s'.val (ldA l))).cnt ≤ c + (k + 1) := by simp only [CS.acc]; omega
        rw [hq] at hR2
        have Q := Lib.hid (And.intro hp2 (And.intro hkey2 (And.intro hc2 hR2)))
        have FX := Lib.hid hfx
        have HLT := Lib.hid hlt
        clear h hfd hp hkey hc hR hq hR2 hp2 hkey2 hc2 hfx
        generalize hd : decide ((fnext V.its s' f' r l).2 = []) = d at hst
        clear hd
        go_wp2_with (first
          | (go_at_call 117; refine hov.mono ?_; intro e w2 hh; obtain ⟨hh1, hh2⟩ := hh; subst hh1; obtain rfl := hh2.symm; clear hov)
          | (go_at_call 27; refine hst.mono ?_; intro e w3 hh; obtain ⟨hh1, g1, g2, g3⟩ := hh; subst hh1; have P := Lib.hid (And.intro g1 (And.intro g2 (FX.out.trans g3))); clear g1 g2 g3 hst))
        go_roundw
        case rel => exact ⟨k + 1, _, _, _, HLT.out, by go_num, P.out.1, P.out.2.1, Q.out.1, Q.out.2.1, Q.out.2.2.1, Q.out.2.2.2, P.out.2.2⟩
        case measure => have := HLT.out; simp [intOf]; omega
    · obtain rfl : k = m := by omega
      rw [Nat.sub_self] at hR
      have P := Lib.hid (And.intro h (And.intro hfd hfx))
      have HR := Lib.hid hR
      clear h hfd hp hkey hc hR hfx hov
      go_wp2
      go_ret
      rw [HR.out]
      exact ⟨by simp [fiter], P.out.1, P.out.2.1, P.out.2.2⟩
end Go.Proofs.YtomllmlieeaaiaaGreat

/-
  A region that draws its order: what reads, and what makes memory, in whatever order; then operations that write, one behind the other, behind all of these. One walk serves every order.
-/
namespace Go.Proofs.YtomllmlieeaaiaaGreat
open Go.RowKit
set_option linter.unusedVariables false
section
variable {P : Program} {ops : Array Oper} {md : Region.Mode} {D : World → Prop}

/-- What is listed is closed under what it waits for, and holds what was listed at first. -/
structure ClosedS (md : Region.Mode) (ops : Array Oper) (s0 seen : Array Bool) : Prop where
  size : seen.size = ops.size
  closed : ∀ j oj, ops[j]? = some oj → seen.getD j false = true → ∀ e ∈ oj.after, Region.binds md e = true → seen.getD e.on false = true
  old : ∀ i, s0.getD i false = true → seen.getD i false = true
theorem ClosedS.set {s0 seen : Array Bool} {i : Nat} (inv : ClosedS md ops s0 seen) (hi : i ∈ Region.ready md ops seen) : ClosedS md ops s0 (seen.setIfInBounds i true) := by
  obtain ⟨_, oi, hoi, hall⟩ := mem_ready.1 hi
  refine ⟨by simp [inv.size], fun j oj hj hl e he hb => ?_, fun k hk => getD_set_true (inv.old k hk)⟩
  by_cases hij : i = j
  · subst hij
    have : oj = oi := Option.some.inj (hj.symm.trans hoi)
    subst this
    exact getD_set_true (hall e he hb)
  · rw [getD_set_ne false hij] at hl
    exact getD_set_true (inv.closed j oj hj hl e he hb)
def closedB (md : Region.Mode) (ops : Array Oper) (seen : Array Bool) : Bool := decide (seen.size = ops.size) && (List.range ops.size).all fun j => !seen.getD j false || (match ops[j]? with | some o => o.after.all fun e => !Region.binds md e || seen.getD e.on false | none => true)
theorem closedB_spec {seen : Array Bool} (h : closedB md ops seen = true) : ClosedS md ops seen seen := by
  simp only [closedB, Bool.and_eq_true, decide_eq_true_eq] at h
  refine ⟨h.1, fun j oj hj hl e he hb => ?_, fun i hi => hi⟩
  have hjs : j < ops.size := (Array.getElem?_eq_some_iff.1 hj).1
  have h1 := List.all_eq_true.1 h.2 j (List.mem_range.2 hjs)
  rw [hl, hj] at h1
  simp only [Bool.not_true, Bool.false_or] at h1
  have h2 := Array.all_eq_true_iff_forall_mem.1 h1 e he
  rw [hb] at h2
  simpa using h2
/-- Each operation ahead of n that was not listed at first is waited for by a later one, up to n. -/
def sinkS (md : Region.Mode) (ops : Array Oper) (s0 : Array Bool) (n : Nat) : Bool := (List.range n).all fun i => s0.getD i false || (List.range (n + 1)).any fun j => decide (i < j) && Region.waitsFor md ops j i
theorem sinkS_waits {n : Nat} {s0 seen : Array Bool} (hs : sinkS md ops s0 n = true) (hn : n < ops.size) (inv : ClosedS md ops s0 seen) : ∀ (d i : Nat), n - i = d → i < n → seen.getD i true = false → n ∉ Region.ready md ops seen := by
  intro d
  induction d using Nat.strongRecOn with
  | _ d ih =>
    intro i hd hi hun hr
    obtain ⟨_, ot, hot, hall⟩ := mem_ready.1 hr
    have h1 := List.all_eq_true.1 hs i (List.mem_range.2 hi)
    simp only [Bool.or_eq_true] at h1
    rcases h1 with h1 | h1
    · have := inv.old i h1
      rw [getD_both hun] at this; cases this
    obtain ⟨j, hj, hj2⟩ := List.any_eq_true.1 h1
    simp only [Bool.and_eq_true, decide_eq_true_eq] at hj2
    obtain ⟨oj, hoj, e, he, hb, hon⟩ := Region.waitsFor_spec hj2.2
    have hjle : j ≤ n := by have := List.mem_range.1 hj; omega
    by_cases hjt : j = n
    · subst hjt
      have : oj = ot := Option.some.inj (hoj.symm.trans hot)
      subst this
      have h2 := hall e he hb
      rw [hon, getD_both hun] at h2
      cases h2
    · cases hl : seen.getD j false with
      | true =>
        have h2 := inv.closed j oj hoj hl e he hb
        rw [hon, getD_both hun] at h2
        cases h2
      | false =>
        have hjs : j < seen.size := by rw [inv.size]; omega
        exact ih (n - j) (by omega) j rfl (by omega) (getD_in hjs hl) hr

/-- Whatever order, up to what is listed then. -/
def anyM (P : Program) (md : Region.Mode) (ops : Array Oper) (D : World → Prop) (L : Array Bool → Act → World → Prop) (Q : Exit → Act → World → Prop) : Nat → Array Bool → Act → World → Prop
  | 0, seen, a, w => L seen a w
  | f + 1, seen, a, w => Region.ready md ops seen ≠ [] ∧ ∀ i, i ∈ Region.ready md ops seen → Go.wpOp P ops Q i (fun a' w' => D w' ∧ anyM P md ops D L Q f (seen.setIfInBounds i true) a' w') a w
theorem any_of_M {Q : Exit → Act → World → Prop} {L : Array Bool → Act → World → Prop} {g : Nat} (hL : ∀ seen a w, L seen a w → wpAny P md ops Q g seen a w) (f : Nat) : ∀ (seen : Array Bool) (a : Act) (w : World), anyM P md ops D L Q f seen a w → wpAny P md ops Q (f + g) seen a w := by
  induction f with
  | zero => intro seen a w h; rw [Nat.zero_add]; exact hL _ _ _ h
  | succ f ih =>
    intro seen a w h
    rw [show f + 1 + g = (f + g) + 1 by omega]
    exact ⟨fun h0 => absurd h0 h.1, fun i hi => wpOp_mono (fun a' w' h' => ih _ a' w' h'.2) (h.2 i hi)⟩
theorem anyM_first {Q : Exit → Act → World → Prop} {L : Array Bool → Act → World → Prop} {s0 : Array Bool} {n i : Nat} {oi : Oper} {v : Value} (hi : ops[i]? = some oi) (hsel : ∀ (j : Nat) (o : Oper) cs b, ops[j]? = some o → o.op ≠ .select cs b) (hQ : ∀ c a w, Q (.panic c) (a.put oi.dst v) w → Q (.panic c) a w)
    (hs : sinkS md ops s0 n = true) (hn : n < ops.size) (hin : i < n) (hdone : ∀ seen a w, L seen a w → ∀ j, j ∈ Region.ready md ops seen → j = n) (f : Nat) :
    ∀ (seen : Array Bool) (a : Act) (w : World), ClosedS md ops s0 seen →
      (∀ j oj, ops[j]? = some oj → j ≠ i → seen.getD j true = false → (∀ e, e ∈ oj.after → Region.binds md e = true → e.on ≠ i) → oi.apart ops oj = true) →
      i ∈ Region.ready md ops seen → PureY P ops D oi v a → D w → anyM P md ops D L Q f (seen.setIfInBounds i true) (a.put oi.dst v) w → anyM P md ops D L Q (f + 1) seen a w := by
  induction f with
  | zero =>
    intro seen a w inv _ hr hy hD H
    refine ⟨fun h => by rw [h] at hr; simp at hr, fun j hj => ?_⟩
    by_cases hji : j = i
    · rw [hji]; exact hy.wpOp hi hD ⟨hD, H⟩
    · have hjn := hdone _ _ _ H j (ready_mono hj hji)
      rw [hjn] at hj
      exact absurd hj (sinkS_waits hs hn inv _ i rfl hin (mem_ready.1 hr).1)
  | succ f ih =>
    intro seen a w inv hfree hr hy hD H
    refine ⟨fun h => by rw [h] at hr; simp at hr, fun j hj => ?_⟩
    by_cases hji : j = i
    · rw [hji]; exact hy.wpOp hi hD ⟨hD, H⟩
    have hun : seen.getD i true = false := (mem_ready.1 hr).1
    obtain ⟨hjun, oj, hoj, hall⟩ := mem_ready.1 hj
    have hno : ∀ e, e ∈ oj.after → Region.binds md e = true → e.on ≠ i := by
      intro e he hb heq
      have := hall e he hb
      rw [heq, getD_both hun] at this
      exact absurd this (by simp)
    have st := wpOp_swap hoj (hfree j oj hoj hji hjun hno) (fun cs b => hsel i oi cs b hi) (fun cs b => hsel j oj cs b hoj) hQ hy (H.2 j (ready_mono hj hji))
    refine wpOp_mono (fun a' w' h3 => ⟨h3.2.1, ?_⟩) st
    refine ih _ a' w' (inv.set hj) (fun k ok hk hki hunk hnok => hfree k ok hk hki ?_ hnok) (ready_mono hr (Ne.symm hji)) h3.1 h3.2.1 ?_
    · by_cases hjk : j = k
      · rw [← hjk]; exact hjun
      · rwa [getD_set_ne true hjk] at hunk
    · rw [Array.setIfInBounds_comm _ _ hji]; exact h3.2.2

/-- Operations one behind the other. -/
def tailE (P : Program) (ops : Array Oper) (Q : Exit → Act → World → Prop) : List Nat → Act → World → Prop
  | [], a, w => Q .normal a w
  | i :: r, a, w => Go.wpOp P ops Q i (fun a' w' => tailE P ops Q r a' w') a w
theorem any_of_tailE {Q : Exit → Act → World → Prop} : ∀ (t : List Nat) (seen : Array Bool) (a : Act) (w : World), soloB md ops t seen = true → tailE P ops Q t a w → wpAny P md ops Q t.length seen a w
  | [], _, _, _, hB, h => ⟨by simpa [soloB] using hB, h⟩
  | i :: r, seen, a, w, hB, h => by
    simp only [soloB, Bool.and_eq_true, decide_eq_true_eq] at hB
    refine ⟨fun h1 => (by rw [hB.1] at h1; cases h1), fun j hj => ?_⟩
    rw [hB.1] at hj
    have hji : j = i := by simpa using hj
    subst hji
    exact wpOp_mono (fun a' w' h' => any_of_tailE r _ a' w' hB.2 h') h
/-- What makes memory, one behind the other; behind each the class still holds; then what writes. -/
def tailM (P : Program) (ops : Array Oper) (D : World → Prop) (Q : Exit → Act → World → Prop) (t2 : List Nat) : List Nat → Act → World → Prop
  | [], a, w => tailE P ops Q t2 a w
  | i :: r, a, w => Go.wpOp P ops Q i (fun a' w' => D w' ∧ tailM P ops D Q t2 r a' w') a w
def solo2B (md : Region.Mode) (ops : Array Oper) (t2 : List Nat) : List Nat → Array Bool → Bool
  | [], seen => soloB md ops t2 seen
  | i :: r, seen => decide (Region.ready md ops seen = [i]) && solo2B md ops t2 r (seen.setIfInBounds i true)
theorem anyM_of_tail {Q : Exit → Act → World → Prop} {t2 : List Nat} : ∀ (t : List Nat) (seen : Array Bool) (a : Act) (w : World), solo2B md ops t2 t seen = true → tailM P ops D Q t2 t a w → anyM P md ops D (fun s a w => soloB md ops t2 s = true ∧ tailE P ops Q t2 a w) Q t.length seen a w
  | [], seen, a, w, hB, h => ⟨by simpa [solo2B] using hB, h⟩
  | i :: r, seen, a, w, hB, h => by
    simp only [solo2B, Bool.and_eq_true, decide_eq_true_eq] at hB
    refine ⟨fun h1 => (by rw [hB.1] at h1; cases h1), fun j hj => ?_⟩
    rw [hB.1] at hj
    have hji : j = i := by simpa using hj
    subst hji
    exact wpOp_mono (fun a' w' h' => ⟨h'.1, anyM_of_tail r _ a' w' hB.2 h'.2⟩) h
def mixB (md : Region.Mode) (ops : Array Oper) (n : Nat) (t1 t2 : List Nat) : List Nat → Array Bool → Bool
  | [], seen => solo2B md ops t2 t1 seen
  | i :: p, seen => decide (i < n) && (Region.ready md ops seen).contains i && Region.free md ops seen i && (match ops[i]? with | some o => plainOp o.op | none => false) && mixB md ops n t1 t2 p (seen.setIfInBounds i true)
theorem anyM_of_mix {Q : Exit → Act → World → Prop} {s0 : Array Bool} {n : Nat} {t2 : List Nat} (hsel : Region.noSelect ops = true) (hQ : ∀ c (d : Option Nat) v a w, Q (.panic c) (a.put d v) w → Q (.panic c) a w) (hs : sinkS md ops s0 n = true) (hn : n < ops.size) (t1 : List Nat) (w : World) (hD : D w) :
    ∀ (p : List Nat) (seen : Array Bool) (a : Act), ClosedS md ops s0 seen → mixB md ops n t1 (n :: t2) p seen = true → wpQuiet P ops D (fun a' => tailM P ops D Q (n :: t2) t1 a' w) (pickL ops.toList p) a → anyM P md ops D (fun s a w => soloB md ops (n :: t2) s = true ∧ tailE P ops Q (n :: t2) a w) Q (p.length + t1.length) seen a w
  | [], seen, a, inv, hB, h => by simpa using anyM_of_tail t1 seen a w hB h
  | i :: p, seen, a, inv, hB, h => by
    simp only [mixB, Bool.and_eq_true, decide_eq_true_eq] at hB
    obtain ⟨⟨⟨⟨hin, hr⟩, hf⟩, hp⟩, hB'⟩ := hB
    cases ho : ops[i]? with
    | none => rw [ho] at hp; cases hp
    | some o =>
      rw [ho] at hp
      have hd : (ops.toList.drop i).take 1 = [o] := drop_one (by rw [Array.getElem?_toList]; exact ho)
      rw [pickL_cons, hd, List.singleton_append] at h
      have hq : qOp P ops D i (wpQuiet P ops D (fun a' => tailM P ops D Q (n :: t2) t1 a' w) (pickL ops.toList p)) a := by unfold qOp; simp only [ho]; exact h
      obtain ⟨v, hy, hK⟩ := yieldsIn_of_qOp ho hq
      have e : (i :: p).length + t1.length = (p.length + t1.length) + 1 := by simp only [List.length_cons]; omega
      rw [e]
      have hri : i ∈ Region.ready md ops seen := by simpa using hr
      refine anyM_first ho (Region.noSelect_spec hsel) (fun c a w => hQ c _ _ a w) hs hn hin (fun s a w hL j hj => ?_) _ seen a w inv (Region.free_spec ho hf) hri (PureY.of hp hy) hD (anyM_of_mix hsel hQ hs hn t1 w hD p _ _ (inv.set hri) hB' hK)
      have h1 := hL.1
      simp only [soloB, Bool.and_eq_true, decide_eq_true_eq] at h1
      rw [h1.1] at hj
      simpa using hj
/-- The region; what was listed (s0) by 'wpAny_take' ahead of it. p: what reads; t1: what makes memory; n :: t2: what writes. -/
theorem any_of_mix {Q : Exit → Act → World → Prop} {a : Act} {w : World} {l : List Oper} {s0 : Array Bool} {f : Nat} (p t1 : List Nat) (n : Nat) (t2 : List Nat) (hsel : Region.noSelect l.toArray = true) (hlen : p.length + t1.length + (n :: t2).length = f) (hc : closedB md l.toArray s0 = true)
    (hs : sinkS md l.toArray s0 n = true) (hn : n < l.toArray.size) (hB : mixB md l.toArray n t1 (n :: t2) p s0 = true) (hQ : ∀ c (d : Option Nat) v a w, Q (.panic c) (a.put d v) w → Q (.panic c) a w) (hD : D w)
    (h : wpQuiet P l.toArray D (fun a' => tailM P l.toArray D Q (n :: t2) t1 a' w) (pickL l p) a) : wpAny P md l.toArray Q f s0 a w := by
  have := any_of_M (P := P) (md := md) (D := D) (Q := Q) (g := (n :: t2).length) (fun seen a w hL => any_of_tailE _ _ _ _ hL.1 hL.2) _ s0 a w (anyM_of_mix hsel hQ hs hn t1 w hD p s0 a (closedB_spec hc) hB h)
  rw [hlen] at this
  exact this
theorem wp_region_mix {id : Nat} {Q : Exit → Act → World → Prop} {a : Act} {w : World} {l : List Oper} (p t1 : List Nat) (n : Nat) (t2 : List Nat) (hm : P.follows .mixedOrders = true) (hsel : Region.noSelect l.toArray = true) (hlen : p.length + t1.length + (n :: t2).length = l.toArray.size)
    (hs : sinkS .any l.toArray (Array.replicate l.toArray.size false) n = true) (hn : n < l.toArray.size) (hc : closedB .any l.toArray (Array.replicate l.toArray.size false) = true) (hB : mixB .any l.toArray n t1 (n :: t2) p (Array.replicate l.toArray.size false) = true) (hQ : ∀ c (d : Option Nat) v a w, Q (.panic c) (a.put d v) w → Q (.panic c) a w) (hD : D w.drew)
    (h : wpQuiet P l.toArray D (fun a' => tailM P l.toArray D Q (n :: t2) t1 a' w.drew) (pickL l p) a) : (Code.region id l.toArray true).wp P Q a w :=
  wp_region_any hm (any_of_mix p t1 n t2 hsel hlen hc hs hn hB hQ hD h)
/-- One operation of the tail, by its own rule. -/
theorem tailE_op {Q : Exit → Act → World → Prop} {i : Nat} {r : List Nat} {o : Oper} {a : Act} {w : World} (hi : ops[i]? = some o) (hg : o.guard = none) (h : Oper.wp P o a w (fun a' w' => tailE P ops Q r a' w') Q) : tailE P ops Q (i :: r) a w := by
  have hw : Region.wanted o (yielded ops a.tmps) = true := by simp [Region.wanted, hg]
  unfold tailE Go.wpOp
  simp only [hi]
  rw [if_pos hw]
  exact .inl h
theorem tailM_op {Q : Exit → Act → World → Prop} {i : Nat} {r t2 : List Nat} {o : Oper} {a : Act} {w : World} (hi : ops[i]? = some o) (hg : o.guard = none) (h : Oper.wp P o a w (fun a' w' => D w' ∧ tailM P ops D Q t2 r a' w') Q) : tailM P ops D Q t2 (i :: r) a w := by
  have hw : Region.wanted o (yielded ops a.tmps) = true := by simp [Region.wanted, hg]
  unfold tailM Go.wpOp
  simp only [hi]
  rw [if_pos hw]
  exact .inl h
/-- A struct that is read whole, in each world of the class. -/
theorem wpQuiet_mid {Q : Act → Prop} {rest : List Oper} {op : Oper} {a : Act} (hgd : op.guard = none) (ty : TypeId) (x : Operand) (ho : op.op = .load ty x) (b o : Nat) (hx : a.eval x = .pointer (some ⟨b, o, none⟩)) (cs : List Value) (d : TypeDesc) (hc : ∀ w, D w → w.rangeAt b o cs)
    (hu : P.underlying ty = some d) (hd : d.isRow = true) (hi : (P.info? ty).map (·.size) = some cs.length) (h : wpQuiet P ops D Q rest (a.put op.dst (.agg cs.toArray))) : wpQuiet P ops D Q (op :: rest) a := by
  refine wpQuiet_step fun K hK => ?_
  have hw : Region.wanted op (yielded ops a.tmps) = true := by simp [Region.wanted, hgd]
  rw [if_pos hw]
  refine ⟨_, fun w hw => ?_, hK _ h⟩
  unfold Oper.quietAt execOp
  simp only [ho, hx, Sem.run_bind, run_loadAt_mid w b o ty cs d (hc w hw) hu hd hi, Result.andThen_ok]
  exact ⟨rfl, rfl⟩
/-- One cell is written. -/
theorem wp_store_one {op : Oper} {a : Act} {w : World} {K : Act → World → Prop} {Q : Exit → Act → World → Prop} (ty : TypeId) (x y : Operand) (ho : op.op = .store ty x y) (b o : Nat) (hx : a.eval x = .pointer (some ⟨b, o, none⟩)) (v : Value) (hy : a.eval y = v)
    (hrun : (Instr.storeAt ty (.pointer (some ⟨b, o, none⟩)) v).run P w = .ok () (w.setCell ⟨b, o, none⟩ v)) (h : K (a.put op.dst undef) (w.setCell ⟨b, o, none⟩ v)) : op.wp P a w K Q := by
  unfold Oper.wp execOp
  simp only [ho, hx, hy, Sem.run_bind, hrun, Result.andThen_ok]
  exact h
/-- A whole struct into the block that was made last. -/
theorem wp_store_new {op : Oper} {a : Act} {K : Act → World → Prop} {Q : Exit → Act → World → Prop} (ty : TypeId) (x y : Operand) (ho : op.op = .store ty x y) (w : World) (c c' : Array Value) (hx : a.eval x = .pointer (some ⟨w.heap.size, 0, none⟩)) (hy : a.eval y = .agg c')
    (hi : (P.info? ty).map (·.size) = some c'.size) (hs : c.size = c'.size) (h1 : c'.all (·.oneCell') = true) (h : K (a.put op.dst undef) (w.alloc (.cells c' ty))) : op.wp P a (w.alloc (.cells c ty)) K Q := by
  unfold Oper.wp execOp
  simp only [ho, hx, hy, run_storeAt_new w ty c c' hi hs h1, Sem.run_bind, Sem.run_pure, Result.andThen_ok]
  exact h
end
end Go.Proofs.YtomllmlieeaaiaaGreat
