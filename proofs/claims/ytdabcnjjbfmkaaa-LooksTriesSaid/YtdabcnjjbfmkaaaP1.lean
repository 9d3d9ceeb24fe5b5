/-
  Texts of this prover, merged: OwnRow, Grown, Tag, TagHas, Hash, PlacesFn, Tickets, NotesAll, NoteAdd, WorldNote, FindGen.
-/
import Derived.Test.YtdabcnjjbfmkaaaLib
import Derived.Test.YtdabcnjjbfmkaaaFrame
import Derived.Test.YtdabcnjjbfmkaaaTagPure
import Derived.Test.YtdabcnjjbfmkaaaRefPlaces
import Derived.Test.YtdabcnjjbfmkaaaBegin0
import Derived.Test.YtdabcnjjbfmkaaaPairDo
import Derived.Deep.AppendLies
import Derived.Deep.QuietTactic
import Derived.BigQuiet
import Derived.Laws.EntriesVeiled
import Derived.Laws.AppendOwnNone
import Derived.Deep.DeepCutAuto
/-
  Rows that the call made.
-/
namespace Go.Proofs.Ytdabcnjjbfmkaaa
open Go.RowKit
set_option linter.unusedVariables false

/-- A row of pointers that the call made. -/
theorem own_lit (w : World) (base e : Nat) (xs : List Value) (hb : base ≤ w.heap.size) (hn : xs.length ≤ maxLen) : (w.alloc (.cells xs.toArray e)).ownsRow base e 1 (.slice (some ⟨w.heap.size, 0, none⟩) xs.length xs.length) xs.length xs :=
  ⟨by simp, .inr ⟨_, _, _, rfl, hb, heap_alloc_new w _, Nat.le_refl _, hn, by simp, by simp⟩⟩
theorem own_at {w : World} {base e n : Nat} {v : Value} {xs : List Value} (h : w.ownsRow base e 1 v n xs) (i : Nat) (hi : i < n) : ∃ g cap x, v = .slice (some ⟨g, 0, none⟩) n cap ∧ xs[i]? = some x ∧ w.cell? ⟨g, i, none⟩ = some x ∧ base ≤ g := by
  obtain ⟨h1, ⟨rfl, h0⟩ | ⟨g, cap, cur, rfl, hb, hg, hn, hm, hs, ht⟩⟩ := h
  · omega
  · have hx : i < xs.length := by omega
    refine ⟨g, cap, xs[i], rfl, List.getElem?_eq_getElem hx, ?_, hb⟩
    have e1 : xs[i]? = (cur.toList.take (n * 1))[i]? := by rw [ht]
    rw [List.getElem?_take, if_pos (by omega), List.getElem?_eq_getElem hx] at e1
    unfold World.cell?; simp only; rw [hg]
    simpa using e1.symm
end Go.Proofs.Ytdabcnjjbfmkaaa

/-
  A row that has grown, in a frame by types.
-/
namespace Go.Proofs.Ytdabcnjjbfmkaaa
open Go.RowKit
set_option linter.unusedVariables false

theorem own_sl2 {w : World} {base e size n : Nat} {v : Value} {xs : List Value} (h : w.ownsRow base e size v n xs) : ∃ a cap, v = .slice a n cap := by
  obtain ⟨-, ⟨rfl, rfl⟩ | ⟨g, cap, cur, rfl, -⟩⟩ := h
  · exact ⟨none, 0, rfl⟩
  · exact ⟨_, cap, rfl⟩
theorem grown_ty {w w' : World} {base e size n : Nat} {v : Value} {xs : List Value} (h : w.ownsRow base e size v n xs) (hg : w.grownBy w' v.ownBlock) : Fr (fun T => T == e) false w w' := by
  obtain ⟨-, ⟨rfl, -⟩ | ⟨g, cap, cur, rfl, -, hb, -⟩⟩ := h
  · exact ⟨hg.size, fun k cs T fr hk _ => (hg.block k (Array.getElem?_eq_some_iff.1 hk).1 (fun c => by simp [Value.ownBlock] at c)).trans hk, fun _ k es cl hk => (hg.block k (Array.getElem?_eq_some_iff.1 hk).1 (fun c => by simp [Value.ownBlock] at c)).trans hk⟩
  · refine ⟨hg.size, fun k cs T fr hk hT => (hg.block k (Array.getElem?_eq_some_iff.1 hk).1 (fun c => ?_)).trans hk, fun _ k es cl hk => (hg.block k (Array.getElem?_eq_some_iff.1 hk).1 (fun c => ?_)).trans hk⟩
    · simp only [Value.ownBlock, Option.some.injEq] at c
      subst c
      have := hb.symm.trans hk; simp only [Option.some.injEq, Obj.cells.injEq] at this
      rw [this.2.1] at hT; simp at hT
    · simp only [Value.ownBlock, Option.some.injEq] at c
      subst c
      have := hb.symm.trans hk; cases this
theorem grown_below {w0 w w' : World} {B : Nat} {base e size n : Nat} {v : Value} {xs : List Value} (h : w.ownsRow base e size v n xs) (hg : w.grownBy w' v.ownBlock) (hB : Below B w0 w) (hs : B ≤ w.heap.size) (hb : B ≤ base) : Below B w0 w' :=
  hB.grown hg hs fun k hk => by
    obtain ⟨-, ⟨rfl, -⟩ | ⟨g, cap, cur, rfl, hb2, -⟩⟩ := h
    · simp [Value.ownBlock] at hk
    · simp only [Value.ownBlock, Option.some.injEq] at hk; omega
theorem set_ty {w : World} {q T : Nat} {cs : Array Value} (h : w.heap[q]? = some (.cells cs T (0, 0))) (o : Nat) (v : Value) : Fr (fun X => X == T) false w (w.setCell ⟨q, o, none⟩ v) :=
  keeps_fr (setCell_keeps w q o v) _ _ fun k e => ⟨_, _, _, e ▸ h, by simp⟩
theorem set_below {w0 w : World} {B q : Nat} (hB : Below B w0 w) (hs : B ≤ w.heap.size) (hq : B ≤ q) (o : Nat) (v : Value) : Below B w0 (w.setCell ⟨q, o, none⟩ v) :=
  keeps_below (setCell_keeps w q o v) hB hs fun k e => e ▸ hq
theorem ty_or {K1 K2 : TypeId → Bool} {w w' w'' : World} (h1 : Fr K1 false w w') (h2 : Fr K2 false w' w'') : Fr (fun T => K1 T || K2 T) false w w'' :=
  (h1.mono (fun T h => by simp only [Bool.or_eq_false_iff] at h; exact h.1) id).trans (h2.mono (fun T h => by simp only [Bool.or_eq_false_iff] at h; exact h.2) id)
end Go.Proofs.Ytdabcnjjbfmkaaa

/-
  The walks of package tagwords: each function computes what TagPure says.
-/
namespace Go.Proofs.Ytdabcnjjbfmkaaa
open Go.RowKit TagPure
set_option linter.unusedVariables false


theorem there_in (s : Int) (w : World) (h0 : 0 ≤ s) (h1 : s < 4) : Calls Try.prog 126 #[.int .i64 s] w fun e w' => e = .returned (.bool true) ∧ w = w' := by
  go_enter Try.func126, Try.ntmps126
  go_wp2
  go_ret
  exact ⟨rfl, rfl⟩
theorem there_out (s : Int) (w : World) (h : s < 0 ∨ 4 ≤ s) : Calls Try.prog 126 #[.int .i64 s] w fun e w' => e = .returned (.bool false) ∧ w = w' := by
  by_cases h0 : s < 0
  · go_enter Try.func126, Try.ntmps126
    go_wp2
    go_ret
    exact ⟨rfl, rfl⟩
  · have h1 : 0 ≤ s := by omega
    have hd : decide (s < 4) = false := by simp; omega
    go_enter Try.func126, Try.ntmps126
    go_wp2
    go_ret
    exact ⟨rfl, rfl⟩

/-- The four tags as an array. -/
def tags4 (x : Int) : List Value := [.int .i64 (tg x 0), .int .i64 (tg x 1), .int .i64 (tg x 2), .int .i64 (tg x 3)]

theorem part_eq (x : Int) (h0 : 0 ≤ x) (h1 : x < 18446744073709551616) (i : Nat) (d : Int) (hd : d = 256 ^ i) (hp : 1 ≤ d) : wrap64 (bits BinOp.and IntKind.u64 (x / d) 255) = tg x i := by
  subst hd
  have a : 0 ≤ x / 256 ^ i := Int.ediv_nonneg h0 (by omega)
  have b : x / 256 ^ i ≤ x := Int.ediv_le_self _ h0
  rw [and255 _ a (by omega), IntWalk.wrap64_in _ (by omega)]
  rfl

set_option maxHeartbeats 400000 in
theorem parts_any (x : Int) (w : World) (h0 : 0 ≤ x) (h1 : x < 18446744073709551616) :
    Calls Try.prog 125 #[.int .u64 x] w fun e w' => e = .returned (.agg (tags4 x).toArray) ∧ Below w.heap.size w w' := by
  go_enter Try.func125, Try.ntmps125
  go_wp2
  refine wp_loop_rounds 5 ?_
  rw [rounds_succ]; go_wp2
  rw [rounds_succ]; go_wp2
  rw [rounds_succ]; go_wp2
  rw [rounds_succ]; go_wp2
  rw [rounds_succ]; go_wp2
  have e0 : wrap64 (bits BinOp.and IntKind.u64 x 255) = tg x 0 := by have := part_eq x h0 h1 0 1 rfl (by omega); simpa using this
  have e1 := part_eq x h0 h1 1 256 rfl (by omega)
  have e2 := part_eq x h0 h1 2 65536 rfl (by omega)
  have e3 := part_eq x h0 h1 3 16777216 rfl (by omega)
  rw [e0, e1, e2, e3]
  refine bodyPost_ret (v := .agg (tags4 x).toArray) (by simp [results, Try.results125, go_sem, tags4]) rfl ⟨rfl, ?_⟩
  exact (Below.refl _ _).alloc (Nat.le_refl _) _

theorem tags_get (x : Int) (n : Nat) (hn : n < 4) (w : World) : (Instr.index 228 (.agg (tags4 x).toArray) (.int .i64 n)).run Try.prog w = .ok (.int .i64 (tg x n)) w := by
  rw [run_index_ints (P := Try.prog) Try.underlying228 Try.underlying3 (by kernel_rfl) (tags4 x) rfl .i64 n hn w]
  match n, hn with
  | 0, _ => rfl
  | 1, _ => rfl
  | 2, _ => rfl
  | 3, _ => rfl

theorem tag_in (x s : Int) (w : World) (h0 : 0 ≤ x) (h1 : x < 18446744073709551616) (hs : 0 ≤ s) (hs4 : s < 4) :
    Calls Try.prog 84 #[.int .u64 x, .int .i64 s] w fun e w' => e = .returned (.int .i64 (tg x s.toNat)) ∧ Below w.heap.size w w' := by
  obtain ⟨n, rfl⟩ := Int.eq_ofNat_of_zero_le hs
  have hn : n < 4 := by omega
  have hi := tags_get x n hn
  go_enter Try.func84, Try.ntmps84
  go_wp2_with (first | (go_at_call 126; refine (there_in _ _ (by omega) (by omega)).mono ?_; rintro e w' ⟨rfl, rfl⟩) | (go_at_call 125; refine (parts_any _ _ h0 h1).mono ?_; rintro e w' ⟨rfl, hb⟩))
  go_ret
  exact ⟨rfl, hb⟩
theorem tag_out (x s : Int) (w : World) (h : s < 0 ∨ 4 ≤ s) :
    Calls Try.prog 84 #[.int .u64 x, .int .i64 s] w fun e w' => e = .returned (.int .i64 0) ∧ w = w' := by
  go_enter Try.func84, Try.ntmps84
  go_wp2_with (first | (go_at_call 126; refine (there_out _ _ h).mono ?_; rintro e w' ⟨rfl, rfl⟩))
  go_ret
  exact ⟨rfl, rfl⟩

/-- The tag of a slot, whatever slot. -/
theorem tag_any (x s : Int) (w : World) (h0 : 0 ≤ x) (h1 : x < 18446744073709551616) :
    Calls Try.prog 84 #[.int .u64 x, .int .i64 s] w fun e w' => e = .returned (.int .i64 (tagOf x s)) ∧ Below w.heap.size w w' := by
  by_cases h : 0 ≤ s ∧ s < 4
  · unfold tagOf; rw [if_pos h]; exact tag_in x s w h0 h1 h.1 h.2
  · unfold tagOf; rw [if_neg h]; exact (tag_out x s w (by omega)).mono fun e w' ⟨a, b⟩ => ⟨a, b ▸ Below.refl _ _⟩

/-- How many of the first k slots are not free. -/
def cnt (x : Int) : Nat → Nat
  | 0 => 0
  | k + 1 => cnt x k + if tg x k = 0 then 0 else 1
theorem cnt_le (x : Int) (k : Nat) : cnt x k ≤ k := by
  induction k with
  | zero => exact Nat.le_refl _
  | succ k ih => simp only [cnt]; split <;> omega

/-- The lowest free slot from k on (n more), or -1. -/
def freeFrom (x : Int) : Nat → Nat → Int
  | _, 0 => -1
  | k, n + 1 => if tg x k = 0 then k else freeFrom x (k + 1) n

theorem free_any (x : Int) (w : World) (h0 : 0 ≤ x) (h1 : x < 18446744073709551616) :
    Calls Try.prog 82 #[.int .u64 x] w fun e w' => e = .returned (.int .i64 (freeFrom x 0 4)) ∧ Below w.heap.size w w' := by
  go_enter Try.func82, Try.ntmps82
  go_wp2_with (go_at_call 125; refine (parts_any _ _ h0 h1).mono ?_; rintro e w' ⟨rfl, hb⟩)
  go_loop [7] (fun i => ∃ k : Nat, k ≤ 4 ∧ i = .int .i64 k ∧ freeFrom x 0 4 = freeFrom x k (4 - k)) (fun i => 4 - (intOf i).toNat)
  case atStart => exact ⟨0, by omega, rfl, rfl⟩
  case round =>
    obtain ⟨k, hk, rfl, hf⟩ := hrel
    have HF := Lib.hid hf
    clear hf
    by_cases hlt : k < 4
    · have hi := tags_get x k hlt
      obtain ⟨m, hm⟩ : ∃ m, 4 - k = m + 1 := ⟨4 - k - 1, by omega⟩
      by_cases hz : tg x k = 0
      · have hz' : (tg x k == 0) = true := by simp [hz]
        have HC : Hid (freeFrom x 0 4 = k) := by show _ = _; rw [HF.out, hm]; simp [freeFrom, hz]
        clear hz hm
        go_wp2
        go_ret
        exact ⟨ret_i64 HC.out.symm, hb⟩
      · have hz' : (tg x k == 0) = false := by simp [hz]
        have HC : Hid (freeFrom x 0 4 = freeFrom x (k + 1) (4 - (k + 1))) := by show _ = _; rw [HF.out, hm, show 4 - (k + 1) = m from by omega]; simp [freeFrom, hz]
        clear hz hm
        go_wp2
        go_round
        case rel => exact ⟨k + 1, by omega, by go_num, HC.out⟩
        case measure => simp [intOf]; omega
    · obtain rfl : k = 4 := by omega
      go_wp2
      go_ret
      exact ⟨ret_i64 (by rw [HF.out]; rfl), hb⟩

/-- The slots among the first k that have a tag. -/
def has (x t : Int) : Nat → List Nat
  | 0 => []
  | k + 1 => has x t k ++ if tg x k = t then [k] else []
theorem has_le (x t : Int) (k : Nat) : (has x t k).length ≤ k := by
  induction k with
  | zero => exact Nat.le_refl _
  | succ k ih => simp only [has, List.length_append]; split <;> simp <;> omega
/-- Numbers as cells. -/
def cells (l : List Nat) : List Value := l.map fun (n : Nat) => Value.int .i64 n

theorem clip_ints (v : Value) (n base : Nat) (xs : List Value) (w : World) (h : Lst w base v n xs) :
    Calls Try.prog 179 #[v] w fun e w' => ∃ v', e = .returned v' ∧ w = w' ∧ Lst w base v' n xs := by
  rcases h with ⟨rfl, rfl, rfl⟩ | ⟨g, off, cap, cur, e, rfl, h2, h3, h4, h5, h6⟩
  · go_enter Try.func179, Try.ntmps179
    go_wp2
    go_ret
    exact ⟨_, rfl, rfl, .inl ⟨rfl, rfl, rfl⟩⟩
  · unfold maxLen at h5
    go_enter Try.func179, Try.ntmps179
    go_wp2
    go_ret
    exact ⟨_, rfl, rfl, .inr ⟨g, off, n, cur, e, rfl, h2, h3, Nat.le_refl _, by unfold maxLen; omega, h6⟩⟩
end Go.Proofs.Ytdabcnjjbfmkaaa

/-
  The walk of tagwords.Has.
-/
namespace Go.Proofs.Ytdabcnjjbfmkaaa
open Go.RowKit TagPure
set_option linter.unusedVariables false

theorem has_zero (x : Int) (w : World) : Calls Try.prog 172 #[.int .u64 x, .int .i64 0] w fun e w' => e = .returned (.slice none 0 0) ∧ w = w' := by
  go_enter Try.func172, Try.ntmps172
  go_wp2
  go_ret
  exact ⟨rfl, rfl⟩

set_option maxRecDepth 100000 in
set_option maxHeartbeats 1600000 in
theorem has_any (x t : Int) (w : World) (h0 : 0 ≤ x) (h1 : x < 18446744073709551616) (ht : t ≠ 0) :
    Calls Try.prog 172 #[.int .u64 x, .int .i64 t] w fun e w' => ∃ v, e = .returned v ∧ Lst w' w.heap.size v (has x t 4).length (cells (has x t 4)) ∧ Below w.heap.size w w' := by
  have ht' : (t == 0) = false := by simp [ht]
  clear ht
  obtain ⟨i0, hi0, hz0, hz1, hz2⟩ := info_parts info_int
  have HI := Lib.hid hi0; have HZ0 := Lib.hid hz0; have HZ1 := Lib.hid hz1; have HZ2 := Lib.hid hz2
  clear hi0 hz0 hz1 hz2
  go_enter Try.func172, Try.ntmps172
  go_wp2_with (go_at_call 125; refine (parts_any _ _ h0 h1).mono ?_; rintro e w1 ⟨rfl, hb⟩)
  go_loopw [5, 12] (fun v i wr => ∃ k : Nat, k ≤ 4 ∧ i = .int .i64 k ∧ wr.ownsRow w.heap.size 3 1 v (has x t k).length (cells (has x t k)) ∧ Below w.heap.size w wr) (fun _ i _ => 4 - (intOf i).toNat)
  case atStart => exact ⟨0, by omega, rfl, World.ownsRow_nil _ _ _ _, hb⟩
  case round =>
    obtain ⟨k, hk, rfl, hown, hbl⟩ := hrel
    have hlen := has_le x t k
    by_cases hlt : k < 4
    · have hi := tags_get x k hlt
      by_cases hz : tg x k = t
      · have hz' : (tg x k == t) = true := by simp [hz]
        have HC : Hid (has x t (k + 1) = has x t k ++ [k]) := by show _ = _; simp [has, hz]
        clear hz
        go_wp2_with (at_builtin; refine wpList_append_own _ rfl _ _ 159 rfl w.heap.size 3 i0 (.int .i64 0) 1 8 Try.underlying159 HI.out HZ0.out HZ1.out HZ2.out rfl (by decide) _ _ _ rfl (hown.alloc _) ⟨wr.heap.size, 0, none⟩ 1 1 [.int .i64 k] rfl rfl ?c1 ?c2 ?c3 ?c4 ?c5 ?_)
        case c1 => exact cell_one_new _ _ _
        case c2 => simp [Value.oneCell']
        case c3 => unfold maxLen; omega
        case c4 => omega
        case c5 => simp; have := hbl.size; omega
        intro v' w2 hown' hgrow _
        go_wp2
        go_roundw
        case rel =>
          refine ⟨k + 1, by omega, by go_num, ?_, (hbl.alloc hbl.size _).grown hgrow (by simp; have := hbl.size; omega) (fun j hj => (hown.lt j hj).1)⟩
          rw [HC.out]; simpa [cells] using hown'
        case measure => simp [intOf]; omega
      · have hz' : (tg x k == t) = false := by simp [hz]
        have HC : Hid (has x t (k + 1) = has x t k) := by show _ = _; simp [has, hz]
        clear hz
        go_wp2
        go_roundw
        case rel => exact ⟨k + 1, by omega, by go_num, by rw [HC.out]; exact hown, hbl⟩
        case measure => simp [intOf]; omega
    · obtain rfl : k = 4 := by omega
      go_wp2_with (go_at_call 179; refine (clip_ints _ _ _ _ _ (Lst.of_own hown)).mono ?_; rintro e w2 ⟨v', rfl, rfl, hl⟩)
      go_ret
      exact ⟨_, rfl, hl, hbl⟩
end Go.Proofs.Ytdabcnjjbfmkaaa

/-
  Hashes, tags, buckets of the program.
-/
namespace Go.Proofs.Ytdabcnjjbfmkaaa
open Go.RowKit
set_option linter.unusedVariables false

def hstep (s c : Int) : Int := IntKind.u64.wrap (bits .xor .u64 s c * 1099511628211)
theorem hstep_bd (s c : Int) : 0 ≤ hstep s c ∧ hstep s c < 18446744073709551616 := u64_bd _
def hbyte (key : ByteArray) (k : Nat) : Int := if h : k < key.size then (key[k].toNat : Int) else 0
def hfold (key : ByteArray) : Nat → Int
  | 0 => 14695981039346656037
  | k + 1 => hstep (hfold key k) (hbyte key k)
def hashOf (key : ByteArray) : Int := hfold key key.size
theorem hfold_bd (key : ByteArray) (k : Nat) : 0 ≤ hfold key k ∧ hfold key k < 18446744073709551616 := by
  cases k with
  | zero => exact ⟨by show (0 : Int) ≤ 14695981039346656037; decide, by show (14695981039346656037 : Int) < 18446744073709551616; decide⟩
  | succ k => exact hstep_bd _ _
theorem sumadd (p : Nat) (s c : Int) (hc : 0 ≤ c ∧ c < 256) (w : World) (h : w.heap[p]? = some (.cells #[.int .u64 s] 146 (0, 0))) : Calls Try.prog 68 #[.pointer (some ⟨p, 0, none⟩), .int .u8 c] w fun e w' => e = .returned (.tuple #[]) ∧ w'.heap[p]? = some (.cells #[.int .u64 (hstep s c)] 146 (0, 0)) ∧ Keeps (· = p) w w' := by
  have c0 := hcell h 0
  have f0 := hfrz h 0
  have k1 : IntKind.u64.wrap c = c := by rw [IntKind.wrap_u64]; omega
  have s1 := setCell_same h 0 (.int .u64 (hstep s c))
  have s2 := setCell_keeps w p 0 (.int .u64 (hstep s c))
  clear h hc
  go_enter Try.func68, Try.ntmps68
  go_wp2
  go_end0
  exact ⟨rfl, s1, s2⟩
theorem each_any (key : ByteArray) (hk : key.size ≤ 1000000) (p : Nat) (w : World) (h : w.heap[p]? = some (.cells #[.int .u64 14695981039346656037] 146 (0, 0))) : Calls Try.prog 67 #[.string key, .func (.func 68) #[.pointer (some ⟨p, 0, none⟩)] #[]] w fun e w' => e = .returned (.tuple #[]) ∧ w'.heap[p]? = some (.cells #[.int .u64 (hashOf key)] 146 (0, 0)) ∧ Keeps (· = p) w w' := by
  go_enter Try.func67, Try.ntmps67
  go_wp2
  go_loopw [7] (fun i wr => ∃ (k : Nat), k ≤ key.size ∧ i = .int .i64 k ∧ wr.heap[p]? = some (.cells #[.int .u64 (hfold key k)] 146 (0, 0)) ∧ Keeps (· = p) w wr) (fun i _ => key.size - (intOf i).toNat)
  case atStart => exact ⟨0, by omega, rfl, h, below_keeps (Below.refl _ _) _⟩
  case round =>
    obtain ⟨k, hk2, rfl, hz, hK⟩ := hrel
    by_cases hlt : k < key.size
    · have hlt' : (k : Int) < key.size := by omega
      have hby : hbyte key k = (key[k].toNat : Int) := by unfold hbyte; rw [dif_pos hlt]
      have hbb : 0 ≤ (key[k].toNat : Int) ∧ (key[k].toNat : Int) < 256 := by have := UInt8.toNat_lt key[k]; omega
      have hadd := sumadd p (hfold key k) (key[k].toNat : Int) hbb wr hz
      have HB := Lib.hid hby; have HK := Lib.hid hK
      clear hby hbb hz hK h
      go_wp2_with (go_at_call 68; refine hadd.mono ?_; intro e w2 hh; obtain ⟨hh1, h2, k2⟩ := hh; subst hh1; have H2 := Lib.hid h2; have K2 := Lib.hid k2; clear h2 k2 hadd)
      go_roundw
      case rel => exact ⟨k + 1, by omega, by go_num, by show _ = some (Obj.cells #[.int .u64 (hstep (hfold key k) (hbyte key k))] _ _); rw [HB.out]; exact H2.out, HK.out.again K2.out⟩
      case measure => simp [intOf]; omega
    · obtain rfl : k = key.size := by omega
      have HZ := Lib.hid hz; have HK := Lib.hid hK
      clear hz hK h
      go_wp2
      go_end0
      exact ⟨rfl, HZ.out, HK.out⟩
theorem hash_any (key : ByteArray) (hk : key.size ≤ 1000000) (w : World) : Calls Try.prog 26 #[.string key] w fun e w' => e = .returned (.int .u64 (hashOf key)) ∧ Below w.heap.size w w' := by
  have hz := heap_alloc_new w (.cells #[.int .u64 14695981039346656037] 146)
  have hb := below_alloc w (.cells #[.int .u64 14695981039346656037] 146)
  have he := each_any key hk w.heap.size _ hz
  have HB := Lib.hid hb
  clear hz hb
  go_enter Try.func26, Try.ntmps26
  go_wp2_with (go_at_call 67; refine he.mono ?_; intro e w2 hh; obtain ⟨hh1, h2, k2⟩ := hh; subst hh1; have c0 := hcell h2 0; have K2 := Lib.hid k2; clear h2 k2 he)
  go_ret
  exact ⟨rfl, keeps_below K2.out HB.out HB.out.size (fun k e => by omega)⟩
theorem tag_fn (x : Int) (h0 : 0 ≤ x) (h1 : x < 18446744073709551616) (w : World) : Calls Try.prog 116 #[.int .u64 x] w fun e w' => e = .returned (.int .i64 (tag01 x)) ∧ w' = w := by
  obtain ⟨q, hq⟩ : ∃ q, q = x / 72057594037927936 := ⟨_, rfl⟩
  have e3 : wrap64 (x / 72057594037927936) = x / 72057594037927936 := IntWalk.wrap64_in _ (by omega)
  by_cases hz : q < 1
  · have ht : Hid (tag01 x = 1) := by show tag01 x = 1; unfold tag01; rw [← hq, if_pos (by omega)]
    have e1 : x / 72057594037927936 < 1 := by omega
    have e2 : decide (x / 72057594037927936 < 1) = true := decide_eq_true e1
    clear hz hq
    go_enter Try.func116, Try.ntmps116
    go_wp2
    all_goals go_ret
    all_goals exact ⟨ret_i64 (by first | exact ht.out.symm | (rw [ht.out]; omega)), rfl⟩
  · have ht : Hid (tag01 x = x / 72057594037927936) := by show tag01 x = _; unfold tag01; rw [if_neg (by omega)]
    have e1 : ¬ x / 72057594037927936 < 1 := by omega
    have e2 : decide (x / 72057594037927936 < 1) = false := decide_eq_false e1
    clear hq hz
    go_enter Try.func116, Try.ntmps116
    go_wp2
    all_goals go_ret
    all_goals exact ⟨ret_i64 (by first | exact ht.out.symm | (rw [ht.out]; omega)), rfl⟩
/-- A hash's bucket. -/
def bk (h b : Int) : Int := h % tsize b
theorem tsize_pos {b : Int} (hb : 1 ≤ b ∧ b ≤ 12) : 2 ≤ tsize b ∧ tsize b ≤ 4096 := by
  rcases twelve hb with rfl | rfl | rfl | rfl | rfl | rfl | rfl | rfl | rfl | rfl | rfl | rfl <;> decide
theorem bk_bd (h b : Int) (hb : 1 ≤ b ∧ b ≤ 12) : 0 ≤ bk h b ∧ bk h b < tsize b := by
  have := tsize_pos hb
  unfold bk; exact ⟨Int.emod_nonneg _ (by omega), Int.emod_lt_of_pos _ (by omega)⟩
theorem bucket_fn (x b : Int) (h0 : 0 ≤ x) (h1 : x < 18446744073709551616) (hb : 1 ≤ b ∧ b ≤ 12) (w : World) : Calls Try.prog 115 #[.int .u64 x, .int .i64 b] w fun e w' => e = .returned (.int .i64 (bk x b)) ∧ w' = w := by
  have hs := fun w => size_any b w
  have hp := tsize_pos hb
  have hbd := bk_bd x b hb
  have hm : bits .and .u64 x (tsize b - 1) = bk x b := by
    unfold bk; rw [tsize_in hb]
    rcases twelve hb with rfl | rfl | rfl | rfl | rfl | rfl | rfl | rfl | rfl | rfl | rfl | rfl
    all_goals (first
      | exact mask_u64 x 1 1 rfl (by decide) h0 h1 | exact mask_u64 x 3 2 rfl (by decide) h0 h1 | exact mask_u64 x 7 3 rfl (by decide) h0 h1 | exact mask_u64 x 15 4 rfl (by decide) h0 h1 | exact mask_u64 x 31 5 rfl (by decide) h0 h1 | exact mask_u64 x 63 6 rfl (by decide) h0 h1 | exact mask_u64 x 127 7 rfl (by decide) h0 h1 | exact mask_u64 x 255 8 rfl (by decide) h0 h1 | exact mask_u64 x 511 9 rfl (by decide) h0 h1 | exact mask_u64 x 1023 10 rfl (by decide) h0 h1 | exact mask_u64 x 2047 11 rfl (by decide) h0 h1 | exact mask_u64 x 4095 12 rfl (by decide) h0 h1)
  generalize bk x b = B at *
  generalize tsize b = S at *
  have e0 : decide (0 < S) = true := decide_eq_true (by omega)
  obtain ⟨S1, hS1⟩ : ∃ S1, S1 = S - 1 := ⟨_, rfl⟩
  rw [← hS1] at hm
  have e1 : wrap64 (S - 1) = S1 := by rw [hS1]; exact IntWalk.wrap64_in _ (by omega)
  have e2 : IntKind.u64.wrap S1 = S1 := by rw [IntKind.wrap_u64]; omega
  have e3 : wrap64 B = B := IntWalk.wrap64_in _ (by omega)
  clear hS1 hbd hp hb
  go_enter Try.func115, Try.ntmps115
  go_wp2_with (go_at_call 72; refine (hs _).mono ?_; rintro e w1 ⟨rfl, rfl⟩)
  go_ret
  exact ⟨ret_i64 e3, rfl⟩
theorem bucket_no (x : Int) (w : World) : Calls Try.prog 115 #[.int .u64 x, .int .i64 0] w fun e w' => e = .returned (.int .i64 (-1)) ∧ w' = w := by
  have hs := fun w => size_any 0 w
  rw [show tsize 0 = 0 by decide] at hs
  go_enter Try.func115, Try.ntmps115
  go_wp2_with (go_at_call 72; refine (hs _).mono ?_; rintro e w1 ⟨rfl, rfl⟩)
  go_ret
  exact ⟨rfl, rfl⟩
/-- The other bucket of a tag. -/
def oth (k t b : Int) : Int := bits .xor .i64 k (bits .and .i64 (t * 1540483477) (tsize b - 1))
theorem tag01_bd (x : Int) (h0 : 0 ≤ x) (h1 : x < 18446744073709551616) : 1 ≤ tag01 x ∧ tag01 x ≤ 255 := by
  unfold tag01; split <;> omega
theorem other_fn (k t b : Int) (hb : 1 ≤ b ∧ b ≤ 12) (hk : 0 ≤ k ∧ k < tsize b) (ht : 1 ≤ t ∧ t ≤ 255) (w : World) : Calls Try.prog 83 #[.int .i64 k, .int .i64 t, .int .i64 b] w fun e w' => e = .returned (.int .i64 (oth k t b)) ∧ w' = w := by
  have hs := fun w => size_any b w
  have hp := tsize_pos hb
  unfold oth
  generalize tsize b = S at *
  have e0 : decide (k < 0) = false := decide_eq_false (by omega)
  have e1 : decide (S ≤ k) = false := decide_eq_false (by omega)
  have e2 : decide (t < 1) = false := decide_eq_false (by omega)
  have e3 : decide (255 < t) = false := decide_eq_false (by omega)
  obtain ⟨S1, hS1⟩ : ∃ S1, S1 = S - 1 := ⟨_, rfl⟩
  have e4 : wrap64 (S - 1) = S1 := by rw [hS1]; exact IntWalk.wrap64_in _ (by omega)
  obtain ⟨t1, ht1⟩ : ∃ t1, t1 = t * 1540483477 := ⟨_, rfl⟩
  have e5 : wrap64 (t * 1540483477) = t1 := by rw [ht1]; exact IntWalk.wrap64_in _ (by omega)
  rw [← hS1, ← ht1]
  clear hS1 ht1 hp hb hk ht
  go_enter Try.func83, Try.ntmps83
  go_wp2_with (go_at_call 72; refine (hs _).mono ?_; rintro e w1 ⟨rfl, rfl⟩)
  go_ret
  exact ⟨rfl, rfl⟩
end Go.Proofs.Ytdabcnjjbfmkaaa

/-
  Places of a hash: the program's.
-/
namespace Go.Proofs.Ytdabcnjjbfmkaaa
open Go.RowKit
set_option linter.unusedVariables false

/-- Each once. -/
def dedup (l : List (Int × Int)) : List (Int × Int) := l.foldl (fun out p => if p ∈ out then out else out ++ [p]) []
theorem dedup_take {l : List (Int × Int)} {k : Nat} (h : k < l.length) : dedup (l.take (k + 1)) = if l[k] ∈ dedup (l.take k) then dedup (l.take k) else dedup (l.take k) ++ [l[k]] := by
  unfold dedup; rw [List.take_add_one, List.getElem?_eq_getElem h, List.foldl_append]; rfl
theorem dedup_len (l : List (Int × Int)) : (dedup l).length ≤ l.length := by
  have key : ∀ (l o : List (Int × Int)), (l.foldl (fun out p => if p ∈ out then out else out ++ [p]) o).length ≤ o.length + l.length := by
    intro l
    induction l with
    | nil => intro o; simp
    | cons p l ih =>
      intro o
      rw [List.foldl_cons]
      split
      · have := ih o; simp only [List.length_cons]; omega
      · have := ih (o ++ [p]); simp only [List.length_cons, List.length_append, List.length_nil] at this ⊢; omega
  have := key l []
  unfold dedup; simp only [List.length_nil, Nat.zero_add] at this; exact this
theorem info_plcf : (Try.prog.info? 44).map (fun i => (i.zero, i.size, i.bytes)) = some (some (.agg #[.int .i64 0, .int .i64 0]), 2, 16) := by kernel_rfl
theorem eql_place (a b x y : Int) (W : World) : (binOp .eql 44 (.agg #[.int .i64 a, .int .i64 b]) (.agg #[.int .i64 x, .int .i64 y])).run Try.prog W = .ok (.bool (a == x && b == y)) W := by
  cases h1 : a == x <;> cases h2 : b == y <;> go_simp
theorem neq_place (a b x y : Int) (W : World) : (binOp .neq 44 (.agg #[.int .i64 a, .int .i64 b]) (.agg #[.int .i64 x, .int .i64 y])).run Try.prog W = .ok (.bool (!(a == x && b == y))) W := by
  cases h1 : a == x <;> cases h2 : b == y <;> go_simp
theorem once1 (a b x y : Int) (pb : Nat) (w : World) (h : w.heap[pb]? = some (.cells #[.int .i64 x, .int .i64 y] 44 (0, 0))) : Calls Try.prog 113 #[.agg #[.int .i64 a, .int .i64 b], .pointer (some ⟨pb, 0, none⟩)] w fun e w' => e = .returned (.bool (a == x && b == y)) ∧ Below w.heap.size w w' := by
  have hb := below_alloc w (.cells #[.int .i64 a, .int .i64 b] 44)
  have hz := heap_alloc_new w (.cells #[.int .i64 a, .int .i64 b] 44)
  have h2 := (hb.block _ (Array.getElem?_eq_some_iff.1 h).1).trans h
  have c0 := hcell hz 0
  have c1 := hcell hz 1
  have d0 := hcell h2 0
  have d1 := hcell h2 1
  have he := fun W => eql_place a b x y W
  have HB := Lib.hid hb
  clear h h2 hz hb
  go_enter Try.func113, Try.ntmps113
  go_upto_region 1 with (fail)
  change Code.wp _ _ _ _ (w.alloc (.cells #[.int .i64 a, .int .i64 b] 44))
  generalize w.alloc (.cells #[.int .i64 a, .int .i64 b] 44) = w1 at *
  go_wp2
  go_ret
  exact ⟨rfl, HB.out⟩
set_option maxHeartbeats 1000000 in
theorem index_places (l : List (Int × Int)) (ao : Option Addr) (cap : Nat) (x y : Int) (pb : Nat) (w : World) (hl : Plc w ao cap l) (h : w.heap[pb]? = some (.cells #[.int .i64 x, .int .i64 y] 44 (0, 0))) :
    Calls Try.prog 144 #[.slice ao l.length cap, .func (.func 113) #[] #[.pointer (some ⟨pb, 0, none⟩)]] w fun e w' => (∃ i, e = .returned (.int .i64 i) ∧ decide (0 ≤ i) = decide ((x, y) ∈ l)) ∧ Below w.heap.size w w' := by
  have hml : l.length ≤ maxLen := Nat.le_trans hl.le hl.most
  unfold maxLen at hml
  have HL := Lib.hid hl; have HP := Lib.hid h
  clear hl h
  go_enter Try.func144, Try.ntmps144
  go_wp2
  go_loopw [8] (fun i wr => ∃ (k : Nat), k ≤ l.length ∧ i = .int .i64 k ∧ Below w.heap.size w wr ∧ (x, y) ∉ l.take k) (fun i _ => l.length - (intOf i).toNat)
  case atStart => exact ⟨0, by omega, rfl, Below.refl _ _, by simp⟩
  case round =>
    obtain ⟨k, hk, rfl, hB, hno⟩ := hrel
    by_cases hlt : k < l.length
    · have hlt' : (k : Int) < l.length := by omega
      obtain ⟨b, off, a0, b0, rfl, hlk, g0, g1⟩ := (HL.out.below hB).at k hlt
      have hlk' : l[k] = (a0, b0) := by rw [List.getElem?_eq_getElem hlt] at hlk; exact Option.some.inj hlk
      clear hlk
      have hz := (hB.block _ (Array.getElem?_eq_some_iff.1 HP.out).1).trans HP.out
      have ho := once1 a0 b0 x y pb wr hz
      have hstep : (x, y) ∈ l.take (k + 1) ↔ ((x, y) ∈ l.take k ∨ (x, y) = l[k]) := by
        rw [List.take_add_one, List.getElem?_eq_getElem hlt, List.mem_append]
        simp only [Option.toList_some, List.mem_singleton]
      obtain ⟨d, hd⟩ : ∃ d, d = (a0 == x && b0 == y) := ⟨_, rfl⟩
      have hde : d = true ↔ l[k] = (x, y) := by rw [hd, hlk', Bool.and_eq_true, beq_iff_eq, beq_iff_eq, Prod.mk.injEq]
      rw [← hd] at ho
      have hmem : l[k] ∈ l := List.getElem_mem hlt
      have HD := Lib.hid hde; have HST := Lib.hid hstep; have HNO := Lib.hid hno; have HB := Lib.hid hB; have HME := Lib.hid hmem
      clear hd hde hstep hno hB hz hmem hlk'
      cases d
      all_goals go_wp2_with (go_at_call 113; refine ho.mono ?_; intro e w2 hh; obtain ⟨hh1, b2⟩ := hh; subst hh1; have B2 := Lib.hid (HB.out.trans (b2.mono HB.out.size)); clear b2 ho)
      · go_roundw
        case rel => exact ⟨k + 1, by omega, by go_num, B2.out, fun c => by
          rcases HST.out.1 c with c | c
          · exact HNO.out c
          · have := HD.out.2 c.symm; cases this⟩
        case measure => simp [intOf]; omega
      · go_ret
        refine ⟨⟨k, rfl, ?_⟩, B2.out⟩
        have h1 := HD.out.1 (by first | rfl | trivial)
        have h2 := HME.out
        rw [h1] at h2
        rw [decide_eq_true h2]
        exact decide_eq_true (by omega)
    · obtain rfl : k = l.length := by omega
      rw [List.take_length] at hno
      have HNO := Lib.hid hno; have HB := Lib.hid hB
      clear hno hB
      go_wp2
      go_ret
      exact ⟨⟨-1, rfl, by rw [decide_eq_false HNO.out]; rfl⟩, HB.out⟩
theorem contains_places (l : List (Int × Int)) (ao : Option Addr) (cap : Nat) (x y : Int) (pb : Nat) (w : World) (hl : Plc w ao cap l) (h : w.heap[pb]? = some (.cells #[.int .i64 x, .int .i64 y] 44 (0, 0))) :
    Calls Try.prog 112 #[.slice ao l.length cap, .func (.func 113) #[] #[.pointer (some ⟨pb, 0, none⟩)]] w fun e w' => e = .returned (.bool (decide ((x, y) ∈ l))) ∧ Below w.heap.size w w' := by
  have hi := index_places l ao cap x y pb w hl h
  clear hl h
  go_enter Try.func112, Try.ntmps112
  go_wp2_with (go_at_call 144; refine hi.mono ?_; intro e w2 hh; obtain ⟨⟨i, hh1, hd⟩, b2⟩ := hh; subst hh1; have HB := Lib.hid b2; clear b2 hi)
  go_ret
  first
    | exact ⟨rfl, HB.out⟩
    | exact ⟨conf_b hd, HB.out⟩
/-- A list of places that the call made, without room. -/
def PlN (w : World) (base : Nat) (v : Value) (l : List (Int × Int)) : Prop :=
  (v = .slice none 0 0 ∧ l = []) ∨ ∃ g cur, v = .slice (some ⟨g, 0, none⟩) l.length l.length ∧ base ≤ g ∧ w.heap[g]? = some (.cells cur 44 (0, 0)) ∧ l.length ≤ maxLen ∧ cur.toList.take (l.length * 2) = flatP l
theorem clip_places (v : Value) (base : Nat) (l : List (Int × Int)) (w : World) (h : w.ownsRow base 44 2 v l.length (flatP l)) :
    Calls Try.prog 114 #[v] w fun e w' => ∃ v', e = .returned v' ∧ PlN w' base v' l ∧ w' = w := by
  obtain ⟨h1, ⟨rfl, h0⟩ | ⟨g, cap, cur, rfl, hb, hg, hn, hm, hs, ht⟩⟩ := h
  · have : l = [] := by cases l with | nil => rfl | cons x r => simp at h0
    subst this
    clear h1 h0
    go_enter Try.func114, Try.ntmps114
    go_wp2
    go_ret
    exact ⟨_, rfl, .inl ⟨rfl, rfl⟩, rfl⟩
  · have hm2 := Nat.le_trans hn hm
    unfold maxLen at hm hm2
    have HT := Lib.hid ht; have HG := Lib.hid hg
    clear ht hg hs h1
    go_enter Try.func114, Try.ntmps114
    go_wp2
    go_ret
    exact ⟨_, rfl, .inr ⟨g, cur, rfl, hb, HG.out, by unfold maxLen; omega, HT.out⟩, rfl⟩
theorem PlN.below {w w' : World} {base : Nat} {v : Value} {l : List (Int × Int)} (h : PlN w base v l) (hb : Below w.heap.size w w') : PlN w' base v l := by
  rcases h with h | ⟨g, cur, h1, h2, h3, h4⟩
  · exact .inl h
  · exact .inr ⟨g, cur, h1, h2, (hb.block _ (Array.getElem?_eq_some_iff.1 h3).1).trans h3, h4⟩
theorem PlN.plc {w : World} {base : Nat} {v : Value} {l : List (Int × Int)} (h : PlN w base v l) : ∃ ao, v = .slice ao l.length l.length ∧ Plc w ao l.length l := by
  rcases h with ⟨rfl, rfl⟩ | ⟨g, cur, rfl, h1, h2, h3, h4⟩
  · exact ⟨none, rfl, Nat.le_refl _, Nat.zero_le _, fun _ => rfl, .inl rfl⟩
  · refine ⟨_, rfl, Nat.le_refl _, h3, fun h => (by cases h), .inr ⟨g, 0, rfl, fun i hi => ?_⟩⟩
    obtain ⟨f1, f2⟩ := flatP_at l i hi
    rw [← h4, List.getElem?_take, if_pos (by omega), Array.getElem?_toList] at f1 f2
    rw [hcell h2, hcell h2, Nat.zero_add]
    exact ⟨f1, f2⟩
theorem own_plc {w : World} {base : Nat} {v : Value} {l : List (Int × Int)} (h : w.ownsRow base 44 2 v l.length (flatP l)) : ∃ ao cap, v = .slice ao l.length cap ∧ Plc w ao cap l := by
  obtain ⟨h1, ⟨rfl, h0⟩ | ⟨g, cap, cur, rfl, hb, hg, hn, hm, hs, ht⟩⟩ := h
  · have : l = [] := by cases l with | nil => rfl | cons x r => simp at h0
    subst this
    exact ⟨none, 0, rfl, Nat.le_refl _, Nat.zero_le _, fun _ => rfl, .inl rfl⟩
  · refine ⟨_, cap, rfl, hn, hm, fun h => (by cases h), .inr ⟨g, 0, rfl, fun i hi => ?_⟩⟩
    obtain ⟨f1, f2⟩ := flatP_at l i hi
    rw [← ht, List.getElem?_take, if_pos (by omega), Array.getElem?_toList] at f1 f2
    rw [hcell hg, hcell hg, Nat.zero_add]
    exact ⟨f1, f2⟩
set_option maxRecDepth 10000 in
set_option maxHeartbeats 2000000 in
theorem once_any (l : List (Int × Int)) (ao : Option Addr) (cap : Nat) (w : World) (hl : Plc w ao cap l) (hn : l.length ≤ 1000) :
    Calls Try.prog 65 #[.slice ao l.length cap] w fun e w' => ∃ v, e = .returned v ∧ PlN w' w.heap.size v (dedup l) ∧ Below w.heap.size w w' := by
  obtain ⟨i0, hi0, hz0, hz1, hz2⟩ := info_parts info_plcf
  have HI := Lib.hid hi0; have HZ0 := Lib.hid hz0; have HZ1 := Lib.hid hz1; have HZ2 := Lib.hid hz2
  have HL := Lib.hid hl
  clear hl hi0 hz0 hz1 hz2
  go_enter Try.func65, Try.ntmps65
  go_wp2
  go_loopw [2, 7] (fun v i wr => ∃ (k : Nat), k ≤ l.length ∧ i = .int .i64 k ∧ wr.ownsRow w.heap.size 44 2 v (dedup (l.take k)).length (flatP (dedup (l.take k))) ∧ Below w.heap.size w wr) (fun _ i _ => l.length - (intOf i).toNat)
  case atStart => exact ⟨0, by omega, rfl, World.ownsRow_nil _ _ _ _, Below.refl _ _⟩
  case round =>
    obtain ⟨k, hk, rfl, hown, hB⟩ := hrel
    by_cases hlt : k < l.length
    · have hlt' : (k : Int) < l.length := by omega
      obtain ⟨b, off, a0, b0, rfl, hlk, g0, g1⟩ := (HL.out.below hB).at k hlt
      have hlk' : l[k] = (a0, b0) := by rw [List.getElem?_eq_getElem hlt] at hlk; exact Option.some.inj hlk
      have hdt := dedup_take hlt
      rw [hlk'] at hdt
      have hdl : (dedup (l.take k)).length ≤ 1000 := by have := dedup_len (l.take k); rw [List.length_take] at this; omega
      have hba := below_alloc wr (.cells #[.int .i64 a0, .int .i64 b0] 44)
      have hza := heap_alloc_new wr (.cells #[.int .i64 a0, .int .i64 b0] 44)
      have hB2 := hB.trans (hba.mono hB.size)
      have hown2 := own_below hown hba
      generalize dedup (l.take k) = D at *
      have HPB := Lib.hid hB.size
      have HDT := Lib.hid hdt; have HB := Lib.hid hB2; have HOWN := Lib.hid hown2; have HZA := Lib.hid hza
      clear hdt hB hown hlk hlk' hba hza hB2 hown2
      go_upto_region 4 with (fail)
      change Code.wp _ _ _ _ (wr.alloc (.cells #[.int .i64 a0, .int .i64 b0] 44))
      generalize wr.alloc (.cells #[.int .i64 a0, .int .i64 b0] 44) = w3 at *
      generalize wr.heap.size = pb at *
      obtain ⟨ao2, cap2, rfl, hpl⟩ := own_plc HOWN.out
      have hc := contains_places D ao2 cap2 a0 b0 pb w3 hpl HZA.out
      clear hpl g0 g1
      obtain ⟨d, hd⟩ : ∃ d, d = decide ((a0, b0) ∈ D) := ⟨_, rfl⟩
      rw [← hd] at hc
      have HD := Lib.hid hd
      clear hd
      cases d
      · go_upto_region 5 with (go_at_call 112; refine hc.mono ?_; intro e w4 hh; obtain ⟨hh1, b4⟩ := hh; subst hh1; have B4 := Lib.hid (HB.out.trans (b4.mono HB.out.size)); have O4 := Lib.hid (own_below HOWN.out b4); have hz4 := (b4.block _ (Array.getElem?_eq_some_iff.1 HZA.out).1).trans HZA.out; have c0 := hcell hz4 0; have c1 := hcell hz4 1; clear b4 hc hz4)
        have hnot : (a0, b0) ∉ D := by have := HD.out; intro c; rw [decide_eq_true c] at this; cases this
        have hdt : dedup (l.take (k + 1)) = D ++ [(a0, b0)] := by rw [HDT.out, if_neg hnot]
        have HDT2 := Lib.hid hdt
        clear hnot hdt
        go_wp2_with (at_builtin; refine wpList_append_own _ rfl _ _ 77 rfl w.heap.size 44 i0 (.agg #[.int .i64 0, .int .i64 0]) 2 16 Try.underlying77 HI.out HZ0.out HZ1.out HZ2.out rfl (by decide) _ _ _ rfl (O4.out.alloc _) ⟨w4.heap.size, 0, none⟩ 1 1 [.int .i64 a0, .int .i64 b0] rfl rfl ?c1 ?c2 ?c3 ?c4 ?c5 ?_)
        case c1 => exact World.news_of_block (heap_alloc_new w4 _)
        case c2 => simp [Value.oneCell']
        case c3 => unfold maxLen; omega
        case c4 => omega
        case c5 => have := B4.out.size; simp; omega
        intro v' w5 hown' hgrow _
        have hb5 := (B4.out.alloc B4.out.size (.cells #[.int .i64 a0, .int .i64 b0] 44)).grown hgrow (by simp; have := B4.out.size; omega) (fun j hj => by have := (O4.out.lt j hj).1; omega)
        have HB5 := Lib.hid hb5; have HO5 := Lib.hid hown'
        clear hb5 hown' hgrow c0 c1
        go_wp2
        go_roundw
        case rel => exact ⟨k + 1, by omega, by go_num, by rw [HDT2.out, flatP_snoc, show (D ++ [(a0, b0)]).length = D.length + 1 by simp]; exact HO5.out, HB5.out⟩
        case measure => simp [intOf]; omega
      · have hin : (a0, b0) ∈ D := by have := HD.out; exact of_decide_eq_true this.symm
        have hdt : dedup (l.take (k + 1)) = D := by rw [HDT.out, if_pos hin]
        have HDT2 := Lib.hid hdt
        clear hin hdt
        go_wp2_with (go_at_call 112; refine hc.mono ?_; intro e w4 hh; obtain ⟨hh1, b4⟩ := hh; subst hh1; have B4 := Lib.hid (HB.out.trans (b4.mono HB.out.size)); have O4 := Lib.hid (own_below HOWN.out b4); clear b4 hc)
        go_roundw
        case rel => exact ⟨k + 1, by omega, by go_num, by rw [HDT2.out]; exact O4.out, B4.out⟩
        case measure => simp [intOf]; omega
    · obtain rfl : k = l.length := by omega
      rw [List.take_length] at hown
      have hcl := clip_places _ _ (dedup l) wr hown
      have HB := Lib.hid hB
      clear hown hB
      go_wp2_with (go_at_call 114; refine hcl.mono ?_; intro e w4 hh; obtain ⟨v', hh1, hp, hh2⟩ := hh; subst hh1; obtain rfl := hh2.symm; have HP := Lib.hid hp; clear hp hcl)
      go_ret
      exact ⟨_, rfl, HP.out, HB.out⟩
/-- The places of a hash in a table. -/
def pairOf (h b : Int) : List (Int × Int) := if b = 0 then [] else [(b, bk h b), (b, oth (bk h b) (tag01 h) b)]
theorem flat_four (a b c d : Int) : flatP [(a, b), (c, d)] = [.int .i64 a, .int .i64 b, .int .i64 c, .int .i64 d] := rfl
theorem pair_no (h : Int) (w : World) : Calls Try.prog 66 #[.int .u64 h, .int .i64 0] w fun e w' => e = .returned (.slice none 0 0) ∧ w' = w := by
  have hbn := fun w => bucket_no h w
  go_enter Try.func66, Try.ntmps66
  go_wp2_with (go_at_call 115; refine (hbn _).mono ?_; rintro e w1 ⟨rfl, hw⟩; obtain rfl := hw.symm)
  go_ret
  exact ⟨rfl, rfl⟩
theorem pair_in (h b : Int) (h0 : 0 ≤ h) (h1 : h < 18446744073709551616) (hb : 1 ≤ b ∧ b ≤ 12) (w : World) : Calls Try.prog 66 #[.int .u64 h, .int .i64 b] w fun e w' => ∃ g, e = .returned (.slice (some ⟨g, 0, none⟩) 2 2) ∧ w'.heap[g]? = some (.cells #[.int .i64 b, .int .i64 (bk h b), .int .i64 b, .int .i64 (oth (bk h b) (tag01 h) b)] 44 (0, 0)) ∧ w.heap.size ≤ g ∧ Below w.heap.size w w' := by
  have hbf := fun w => bucket_fn h b h0 h1 hb w
  have htf := fun w => tag_fn h h0 h1 w
  have hkb := bk_bd h b hb
  have hof := fun w => other_fn (bk h b) (tag01 h) b hb hkb (tag01_bd h h0 h1) w
  generalize oth (bk h b) (tag01 h) b = O at *
  generalize bk h b = K at *
  generalize tag01 h = T at *
  have e1 : decide (K < 0) = false := decide_eq_false (by omega)
  have HZ := Lib.hid (heap_alloc_new w (.cells #[.int .i64 b, .int .i64 K, .int .i64 b, .int .i64 O] 44))
  have HB := Lib.hid (below_alloc w (.cells #[.int .i64 b, .int .i64 K, .int .i64 b, .int .i64 O] 44))
  clear hkb hb
  go_enter Try.func66, Try.ntmps66
  go_wp2_with (first
    | (go_at_call 115; refine (hbf _).mono ?_; rintro e w1 ⟨rfl, hw⟩; obtain rfl := hw.symm)
    | (go_at_call 116; refine (htf _).mono ?_; rintro e w1 ⟨rfl, hw⟩; obtain rfl := hw.symm)
    | (go_at_call 83; refine (hof _).mono ?_; rintro e w1 ⟨rfl, hw⟩; obtain rfl := hw.symm))
  go_ret
  exact ⟨_, rfl, HZ.out, Nat.le_refl _, HB.out⟩
/-- The places of a hash in tables. -/
def plist (h v : Int) : List (Int × Int) := dedup (pairOf h (asOld v) ++ pairOf h (asNow v))
theorem as_in12 (v : Int) : (1 ≤ asOld v ∧ asOld v ≤ 12) ∧ (asNow v = 0 ∨ (1 ≤ asNow v ∧ asNow v ≤ 12)) := by
  have key : ∀ b : Int, ¬ tsize b = 0 → 1 ≤ b ∧ b ≤ 12 := fun b h => by
    rcases (show (b < 1 ∨ 12 < b) ∨ (1 ≤ b ∧ b ≤ 12) by omega) with h1 | h1
    · exact absurd (tsize_out h1) h
    · exact h1
  refine ⟨?_, ?_⟩
  · unfold asOld; split
    · omega
    · rename_i h; exact key _ h
  · unfold asNow; split
    · exact .inl rfl
    · rename_i h; exact .inr (key _ (fun c => h (.inr c)))
theorem pairOf_in (h b : Int) (hb : 1 ≤ b ∧ b ≤ 12) : pairOf h b = [(b, bk h b), (b, oth (bk h b) (tag01 h) b)] := by unfold pairOf; rw [if_neg (by omega)]
theorem pair_own {w : World} {base g : Nat} {a b c d : Int} (hz : w.heap[g]? = some (.cells #[.int .i64 a, .int .i64 b, .int .i64 c, .int .i64 d] 44 (0, 0))) (hlo : base ≤ g) : w.ownsRow base 44 2 (.slice (some ⟨g, 0, none⟩) 2 2) 2 (flatP [(a, b), (c, d)]) :=
  ⟨rfl, .inr ⟨g, 2, _, rfl, hlo, hz, Nat.le_refl _, by unfold maxLen; omega, rfl, rfl⟩⟩
theorem pair_plc {w : World} {base g : Nat} {a b c d : Int} (h : w.ownsRow base 44 2 (.slice (some ⟨g, 0, none⟩) 2 2) 2 (flatP [(a, b), (c, d)])) : Plc w (some ⟨g, 0, none⟩) 2 [(a, b), (c, d)] := by
  obtain ⟨ao, cap, hv, hp⟩ := own_plc (l := [(a, b), (c, d)]) h
  simp only [List.length_cons, List.length_nil, Value.slice.injEq] at hv
  obtain ⟨h1, -, h2⟩ := hv
  rw [h1, h2]; exact hp
set_option maxHeartbeats 2000000 in
theorem places_any (h v : Int) (h0 : 0 ≤ h) (h1 : h < 18446744073709551616) (hv : (Lit.int .u64 v).wf = true) (w : World) : Calls Try.prog 25 #[.int .u64 h, .int .u64 v] w fun e w' => ∃ pv, e = .returned pv ∧ PlN w' w.heap.size pv (plist h v) ∧ Below w.heap.size w w' := by
  have has := fun w => as_any v hv w
  obtain ⟨hin1, hin2⟩ := as_in12 v
  have hp1 := fun w => pair_in h (asOld v) h0 h1 hin1 w
  have hpo := pairOf_in h (asOld v) hin1
  obtain ⟨i0, hi0, hz0, hz1, hz2⟩ := info_parts info_plcf
  have HI := Lib.hid hi0; have HZ0 := Lib.hid hz0; have HZ1 := Lib.hid hz1; have HZ2 := Lib.hid hz2
  clear hi0 hz0 hz1 hz2
  unfold plist
  rcases hin2 with hz | hin2
  · have hpn : pairOf h (asNow v) = [] := by unfold pairOf; rw [if_pos hz]
    have hp2 := fun w => pair_no h w
    rw [hz] at has
    rw [hpn, hpo, List.append_nil]
    generalize oth (bk h (asOld v)) (tag01 h) (asOld v) = O at *
    generalize bk h (asOld v) = K at *
    generalize asOld v = b at *
    clear hpn hpo hz hin1
    go_enter Try.func25, Try.ntmps25
    go_upto_region 2 with (go_at_call 57; refine (has _).mono ?_; rintro e w1 ⟨rfl, hw⟩; obtain rfl := hw.symm; clear has)
    go_wp2_with (first
      | (go_at_call 66; with_reducible refine (hp1 _).mono ?_; intro e w2 hh; obtain ⟨g, hh1, hz2, hlo, b2⟩ := hh; subst hh1; have B2 := Lib.hid b2; have HOWN := Lib.hid (pair_own hz2 hlo); clear b2 hz2 hlo hp1)
      | (go_at_call 66; with_reducible refine (hp2 _).mono ?_; intro e w3 hh; obtain ⟨hh1, hh2⟩ := hh; subst hh1; obtain rfl := hh2.symm; clear hp2)
      | (at_builtin; refine wpList_append_own_none rfl _ _ 77 rfl w.heap.size 44 i0 2 Try.underlying77 HI.out _ 2 _ rfl HOWN.out rfl ?_; have hpl := pair_plc HOWN.out; have honce := once_any _ _ _ _ hpl (by simp))
      | (go_at_call 65; refine honce.mono ?_; intro e w4 hh; obtain ⟨v4, hh1, hp4, b4⟩ := hh; subst hh1; have HP4 := Lib.hid hp4; have B4 := Lib.hid b4; clear hp4 b4 honce hpl))
    go_ret
    refine ⟨_, rfl, ?_, B2.out.trans (B4.out.mono B2.out.size)⟩
    rcases HP4.out with h | ⟨g, cur, e1, e2, e3⟩
    · exact .inl h
    · exact .inr ⟨g, cur, e1, Nat.le_trans B2.out.size e2, e3⟩
  · have hp2 := fun w => pair_in h (asNow v) h0 h1 hin2 w
    have hpo2 := pairOf_in h (asNow v) hin2
    rw [hpo, hpo2]
    generalize oth (bk h (asOld v)) (tag01 h) (asOld v) = O at *
    generalize bk h (asOld v) = K at *
    generalize asOld v = b at *
    generalize oth (bk h (asNow v)) (tag01 h) (asNow v) = O2 at *
    generalize bk h (asNow v) = K2 at *
    generalize asNow v = b2 at *
    clear hpo hpo2 hin1 hin2
    go_enter Try.func25, Try.ntmps25
    go_upto_region 2 with (go_at_call 57; refine (has _).mono ?_; rintro e w1 ⟨rfl, hw⟩; obtain rfl := hw.symm; clear has)
    go_wp2_with (first
      | (go_at_call 66; with_reducible refine (hp1 _).mono ?_; intro e w2 hh; obtain ⟨g, hh1, hz2, hlo, k2⟩ := hh; subst hh1; have B2 := Lib.hid k2; have HOWN := Lib.hid (pair_own hz2 hlo); clear k2 hz2 hlo hp1)
      | (go_at_call 66; with_reducible refine (hp2 _).mono ?_; intro e w3 hh; obtain ⟨g2, hh1, hz3, hlo3, k3⟩ := hh; subst hh1; have B3 := Lib.hid (B2.out.trans (k3.mono B2.out.size)); have HOWN3 := Lib.hid (own_below HOWN.out k3); have HZ3 := Lib.hid hz3; clear k3 hz3 hlo3 hp2)
      | (at_builtin; refine wpList_append_own _ rfl _ _ 77 rfl w.heap.size 44 i0 (.agg #[.int .i64 0, .int .i64 0]) 2 16 Try.underlying77 HI.out HZ0.out HZ1.out HZ2.out rfl (by decide) _ 2 _ rfl HOWN3.out ⟨g2, 0, none⟩ 2 2 (flatP [(b2, K2), (b2, O2)]) rfl rfl ?c1 ?c2 ?c3 ?c4 ?c5 ?_))
    case c1 =>
      intro j u hj
      have e := hcell HZ3.out j
      rw [show (⟨g2, 0, none⟩ : Addr).add j = ⟨g2, j, none⟩ by first | (simp [Addr.add]; done) | (simp [Addr.add]; omega)]
      rw [e]
      rcases (show j = 0 ∨ j = 1 ∨ j = 2 ∨ j = 3 ∨ 4 ≤ j by omega) with rfl | rfl | rfl | rfl | h4
      · exact hj
      · exact hj
      · exact hj
      · exact hj
      · rw [List.getElem?_eq_none (by rw [flatP_len]; simp; omega)] at hj; cases hj
    case c2 => simp [flatP, Value.oneCell']
    case c3 => unfold maxLen; omega
    case c4 => omega
    case c5 => exact B3.out.size
    intro v' w5 hown' hgrow _
    have hb5 := B3.out.grown hgrow B3.out.size (fun j hj => (HOWN3.out.lt j hj).1)
    have hl4 : flatP [(b, K), (b, O)] ++ flatP [(b2, K2), (b2, O2)] = flatP ([(b, K), (b, O)] ++ [(b2, K2), (b2, O2)]) := rfl
    rw [hl4] at hown'
    obtain ⟨ao, cap, rfl, hpl⟩ := own_plc (l := [(b, K), (b, O)] ++ [(b2, K2), (b2, O2)]) hown'
    have honce := once_any _ _ _ _ hpl (by simp)
    have HB5 := Lib.hid hb5
    clear hb5 hown' hgrow hpl hl4
    go_wp2_with (go_at_call 65; refine honce.mono ?_; intro e w4 hh; obtain ⟨v4, hh1, hp4, b4⟩ := hh; subst hh1; have HP4 := Lib.hid hp4; have B4 := Lib.hid b4; clear hp4 b4 honce)
    go_ret
    refine ⟨_, rfl, ?_, HB5.out.trans (B4.out.mono HB5.out.size)⟩
    rcases HP4.out with h | ⟨g, cur, e1, e2, e3⟩
    · exact .inl h
    · exact .inr ⟨g, cur, e1, Nat.le_trans HB5.out.size e2, e3⟩
/-! ## Places of one table, and of two. -/
theorem dedup_append (l m : List (Int × Int)) (h : ∀ p ∈ l, ∀ q ∈ m, p ≠ q) : dedup (l ++ m) = dedup l ++ dedup m := by
  have mem : ∀ (l o : List (Int × Int)) (p : Int × Int), p ∈ l.foldl (fun out p => if p ∈ out then out else out ++ [p]) o → p ∈ o ∨ p ∈ l := by
    intro l
    induction l with
    | nil => intro o p hp; exact .inl hp
    | cons q l ih =>
      intro o p hp
      rw [List.foldl_cons] at hp
      split at hp
      · rcases ih _ _ hp with h | h
        · exact .inl h
        · exact .inr (by simp [h])
      · rcases ih _ _ hp with h | h
        · rcases List.mem_append.1 h with h | h
          · exact .inl h
          · exact .inr (by simp at h; simp [h])
        · exact .inr (by simp [h])
  have key : ∀ (m a o : List (Int × Int)), (∀ p ∈ a, ∀ q ∈ m, p ≠ q) → m.foldl (fun out p => if p ∈ out then out else out ++ [p]) (a ++ o) = a ++ m.foldl (fun out p => if p ∈ out then out else out ++ [p]) o := by
    intro m
    induction m with
    | nil => intro a o _; rfl
    | cons q m ih =>
      intro a o ha
      have hqa : q ∉ a := fun c => ha q c q (by simp) rfl
      have ha2 : ∀ p ∈ a, ∀ q ∈ m, p ≠ q := fun p hp r hr => ha p hp r (by simp [hr])
      rw [List.foldl_cons, List.foldl_cons]
      by_cases hqo : q ∈ o
      · rw [if_pos (List.mem_append.2 (.inr hqo)), if_pos hqo]; exact ih a o ha2
      · rw [if_neg (fun c => by rcases List.mem_append.1 c with c | c; exact hqa c; exact hqo c), if_neg hqo, List.append_assoc]
        exact ih a (o ++ [q]) ha2
  unfold dedup
  rw [List.foldl_append]
  have := key m (l.foldl (fun out p => if p ∈ out then out else out ++ [p]) []) [] (fun p hp q hq => by
    rcases mem l [] p hp with c | c
    · cases c
    · exact h p c q hq)
  rw [List.append_nil] at this
  exact this
theorem dedup_pair (a b : Int × Int) : dedup [a, b] = if b = a then [a] else [a, b] := by
  unfold dedup
  simp only [List.foldl_cons, List.foldl_nil, List.not_mem_nil, if_false, List.nil_append, List.mem_singleton]
  split <;> simp
end Go.Proofs.Ytdabcnjjbfmkaaa

/-
  Tickets: a Take, a Give, who waits.
-/
namespace Go.Proofs.Ytdabcnjjbfmkaaa
open Go.RowKit
set_option linter.unusedVariables false

/-- Of the old blocks only b, and such of some types, have turned. -/
structure Fx (K : TypeId → Bool) (mp : Bool) (b : Nat) (w w' : World) : Prop where
  size : w.heap.size ≤ w'.heap.size
  cells : ∀ (k : Nat) (cs : Array Value) (T : TypeId) (fr : Nat × Nat), w.heap[k]? = some (.cells cs T fr) → K T = false → k ≠ b → w'.heap[k]? = some (.cells cs T fr)
  map : mp = false → ∀ (k : Nat) (es : Array MapEntry) (cl : Nat), w.heap[k]? = some (.map es cl) → k ≠ b → w'.heap[k]? = some (.map es cl)
theorem Fr.fx {K : TypeId → Bool} {mp : Bool} {w w' : World} (h : Fr K mp w w') (b : Nat) : Fx K mp b w w' := ⟨h.size, fun k cs T fr h1 h2 _ => h.cells k cs T fr h1 h2, fun hm k es cl h1 _ => h.map hm k es cl h1⟩
theorem Fx.trans {K : TypeId → Bool} {mp : Bool} {b : Nat} {a c d : World} (h : Fx K mp b a c) (k : Fx K mp b c d) : Fx K mp b a d :=
  ⟨Nat.le_trans h.size k.size, fun i cs T fr hi hT hb => k.cells i cs T fr (h.cells i cs T fr hi hT hb) hT hb, fun hm i es cl hi hb => k.map hm i es cl (h.map hm i es cl hi hb) hb⟩
theorem set_fx (K : TypeId → Bool) (mp : Bool) (w : World) (b o : Nat) (v : Value) : Fx K mp b w (w.setCell ⟨b, o, none⟩ v) :=
  ⟨by simp [World.setCell], fun k cs T fr h _ hb => (Below.heap_setCell _ _ _ _ hb).trans h, fun _ k es cl h hb => (Below.heap_setCell _ _ _ _ hb).trans h⟩
theorem Fx.fr {K : TypeId → Bool} {mp : Bool} {b : Nat} {w w' : World} (h : Fx K mp b w w') {cs : Array Value} {T : TypeId} {fr : Nat × Nat} (hb : w.heap[b]? = some (.cells cs T fr)) : Fr (fun x => K x || x == T) mp w w' := by
  refine ⟨h.size, fun k cs2 T2 fr2 h2 hT => ?_, fun hm k es cl h2 => h.map hm k es cl h2 fun c => ?_⟩
  · simp only [Bool.or_eq_false_iff] at hT
    refine h.cells k cs2 T2 fr2 h2 hT.1 fun c => ?_
    subst c
    have := hb.symm.trans h2; simp only [Option.some.injEq, Obj.cells.injEq] at this
    have h3 := hT.2; rw [this.2.1] at h3; simp at h3
  · subst c; rw [hb] at h2; cases h2

theorem mkfunc (fn : Fn) (first cap : Array Value) (w : World) : (Instr.makeFunc fn first cap).run Try.prog w = .ok (.func fn first cap) w := rfl
/-- The worlds' types, and a Take's. -/
theorem WS.cellb {w0 w : World} {B : WB} {V : WV} {s : CS} (h : WS w0 w B V s) (t : Nat) (ht : t < 64) : w.cell? ⟨B.wb, 8 + t, none⟩ = some (.int .u64 (V.tk.getD t 0)) := (h.cell (8 + t)).trans (val_tkat B V h.tkl t ht)
theorem WS.hcell' {w0 w : World} {B : WB} {V : WV} {s : CS} (h : WS w0 w B V s) : w.cell? ⟨B.wb, 72, none⟩ = some (.int .i64 V.hd) := (h.cell 72).trans (val_at B V h.tkl).2.2.2.2.2
theorem WS.frz {w0 w : World} {B : WB} {V : WV} {s : CS} (h : WS w0 w B V s) (o : Nat) : w.frozen? ⟨B.wb, o, none⟩ = false := hfrz h.blk o
theorem WS.fx {w0 w w' : World} {B : WB} {V : WV} {s : CS} {K : TypeId → Bool} {b : Nat} (h : WS w0 w B V s) (hf : Fx K false b w w') (hK : ∀ T, wTy T = true → K T = false) {cs : Array Value} {T : TypeId} {fr : Nat × Nat} (hb : w.heap[b]? = some (.cells cs T fr)) (hT : wTy T = false) (hB : Below w0.heap.size w0 w') : WS w0 w' B V s :=
  h.fr (hf.fr hb) (fun x hx => by simp only [Bool.or_eq_false_iff]; exact ⟨hK x hx, by cases hxT : (x == T); rfl; rw [beq_iff_eq] at hxT; subst hxT; rw [hx] at hT; cases hT⟩) hB
theorem set_take {w0 w : World} {B : WB} {V : WV} {s : CS} {b o : Nat} {cs : Array Value} {T : TypeId} (h : WS w0 w B V s) (hb : w.heap[b]? = some (.cells cs T (0, 0))) (hT : wTy T = false) (hlo : w0.heap.size ≤ b) (v : Value) : WS w0 (w.setCell ⟨b, o, none⟩ v) B V s :=
  h.fx (set_fx (fun _ => false) false w b o v) (fun _ _ => rfl) hb hT (keeps_below (setCell_keeps w b o v) h.below h.below.size fun k e => e ▸ hlo)

section
variable {w0 w : World} {B : WB} {V : WV} {s : CS} {b t : Nat} {d : Bool} {k : Int} (h : WS w0 w B V s) (hr : s.room) (hlo : w0.heap.size ≤ b) (ht : t < 64)
include h hr hlo ht
end
end Go.Proofs.Ytdabcnjjbfmkaaa

/-
  notes.List.All: all notes, in new memory.
-/
namespace Go.Proofs.Ytdabcnjjbfmkaaa
open Go.RowKit
set_option linter.unusedVariables false

theorem lnotes_any {w : World} {base nb TN : Nat} {l : List Nte} (h : NL w base nb 198 TN .u8 l) : ∃ a cap, w.cell? ⟨nb, 0, none⟩ = some (.slice a l.length cap) ∧ w.ownsRow base TN 8 (.slice a l.length cap) l.length (l.flatMap (nteC .u8)) ∧ Calls Try.prog 49 #[.pointer (some ⟨nb, 0, none⟩)] w fun e w' => e = .returned (.slice a l.length cap) ∧ w' = w := by
  obtain ⟨v, h1, h2, h3⟩ := h
  obtain ⟨a, cap, rfl⟩ := own_sl2 h3
  have c0 : w.cell? ⟨nb, 0, none⟩ = some (.slice a l.length cap) := hcell h1 0
  refine ⟨a, cap, c0, h3, ?_⟩
  clear h1 h2 h3
  go_enter Try.func49, Try.ntmps49
  go_wp2
  go_ret
  exact ⟨rfl, rfl⟩
theorem since_ask {w : World} {cb : Nat} {i : Nat} (n : Nte) (hc : w.cell? ⟨cb, 0, none⟩ = some (.int .i64 0)) : Calls Try.prog 105 #[.int .i64 i, .agg (nteC .u8 n).toArray, .pointer (some ⟨cb, 0, none⟩)] w fun e w' => e = .returned (.bool true) ∧ Below w.heap.size w w' := by
  have hb := below_alloc w (.cells (nteC .u8 n).toArray 67)
  have hlt := World.block_lt_of_cell? _ _ hc
  have c0 : (w.alloc (.cells (nteC .u8 n).toArray 67)).cell? ⟨cb, 0, none⟩ = some (.int .i64 0) := by rw [World.cell?_alloc_past _ _ _ hlt]; exact hc
  have d0 : decide ((0 : Int) ≤ (i : Int)) = true := decide_eq_true (by omega)
  have HB := Lib.hid hb
  clear hb hc hlt
  go_enter Try.func105, Try.ntmps105
  go_upto_region 1 with (fail)
  change Code.wp _ _ _ _ (w.alloc (.cells (nteC .u8 n).toArray 67))
  generalize w.alloc (.cells (nteC .u8 n).toArray 67) = w1 at *
  go_wp2
  go_ret
  exact ⟨rfl, HB.out⟩
theorem info_note : (Try.prog.info? 67).map (fun i => (i.zero, i.size, i.bytes)) = some (some (.agg #[.int .i64 0, .int .i64 0, .int .u8 0, .int .i64 0, .int .i64 0, .int .i64 0, .int .i64 0, .int .i64 0]), 8, 64) := by kernel_rfl
/-- A row of notes that the call made, without room behind it. -/
def NRow (w : World) (base : Nat) (v : Value) (l : List Nte) : Prop :=
  (v = .slice none 0 0 ∧ l = []) ∨ ∃ g cur, v = .slice (some ⟨g, 0, none⟩) l.length l.length ∧ base ≤ g ∧ w.heap[g]? = some (.cells cur 67 (0, 0)) ∧ l.length ≤ maxLen ∧ cur.toList.take (l.length * 8) = l.flatMap (nteC .u8)
theorem nclip_any {w : World} {base : Nat} {v : Value} {l : List Nte} (h : w.ownsRow base 67 8 v l.length (l.flatMap (nteC .u8))) : Calls Try.prog 141 #[v] w fun e w' => ∃ v', e = .returned v' ∧ NRow w base v' l ∧ w' = w := by
  obtain ⟨h1, ⟨rfl, h0⟩ | ⟨g, cap, cur, rfl, hb, hg, hn, hm, hs, ht⟩⟩ := h
  · have : l = [] := List.length_eq_zero_iff.1 h0
    subst this
    clear h1 h0
    go_enter Try.func141, Try.ntmps141
    go_wp2
    go_ret
    exact ⟨_, rfl, .inl ⟨rfl, rfl⟩, rfl⟩
  · have hm2 := Nat.le_trans hn hm
    have H : Hid (NRow w base (.slice (some ⟨g, 0, none⟩) l.length l.length) l) := .inr ⟨g, cur, rfl, hb, hg, hm2, ht⟩
    unfold maxLen at hm hm2
    clear h1 hb hg hs ht
    go_enter Try.func141, Try.ntmps141
    go_wp2
    go_ret
    exact ⟨_, rfl, H.out, rfl⟩
theorem nte_at (l : List Nte) (k : Nat) (hk : k < l.length) (j : Nat) (hj : j < 8) : (l.flatMap (nteC .u8))[k * 8 + j]? = (nteC .u8 l[k])[j]? := by
  induction l generalizing k with
  | nil => simp at hk
  | cons x r ih =>
    rw [List.flatMap_cons]
    match k with
    | 0 =>
      rw [List.getElem?_append_left (by simp [nteC]; omega)]
      simp
    | k + 1 =>
      rw [List.getElem?_append_right (by simp [nteC]; omega)]
      have := ih k (by simp at hk; omega)
      simp only [List.getElem_cons_succ]
      rw [← this]
      congr 1
      simp [nteC]; omega
theorem row8_at {w : World} {base : Nat} {a : Option Addr} {cap : Nat} {l : List Nte} (h : w.ownsRow base 67 8 (.slice a l.length cap) l.length (l.flatMap (nteC .u8))) (k : Nat) (hk : k < l.length) :
    ∃ g, a = some ⟨g, 0, none⟩ ∧ ∀ j, j < 8 → w.cell? ⟨g, k * 8 + j, none⟩ = (nteC .u8 l[k])[j]? := by
  obtain ⟨h1, ⟨h2, h0⟩ | ⟨g, cap', cur, hv, hb, hg, hn, hm, hs, ht⟩⟩ := h
  · omega
  · simp only [Value.slice.injEq] at hv
    refine ⟨g, hv.1, fun j hj => ?_⟩
    rw [hcell hg, ← nte_at l k hk j hj, ← ht, List.getElem?_take, if_pos (by omega)]
    simp
set_option maxRecDepth 10000 in
set_option maxHeartbeats 2000000 in
theorem picked_any {w : World} {base nb cb : Nat} {l : List Nte} (h : NL w base nb 198 67 .u8 l) (hl : l.length ≤ 1048576) (hc : w.cell? ⟨cb, 0, none⟩ = some (.int .i64 0)) :
    Calls Try.prog 104 #[.pointer (some ⟨nb, 0, none⟩), .func (.func 105) #[] #[.pointer (some ⟨cb, 0, none⟩)]] w fun e w' => ∃ v, e = .returned v ∧ NRow w' w.heap.size v l ∧ Below w.heap.size w w' := by
  obtain ⟨a, cap, c0, hrow, hn⟩ := lnotes_any h
  obtain ⟨i0, hi0, hz0, hz1, hz2⟩ := info_parts info_note
  have HI := Lib.hid hi0; have HZ0 := Lib.hid hz0; have HZ1 := Lib.hid hz1; have HZ2 := Lib.hid hz2
  have HROW := Lib.hid hrow; have HC := Lib.hid hc; have HL := Lib.hid hl
  clear h hrow hc hl c0 hi0 hz0 hz1 hz2
  go_enter Try.func104, Try.ntmps104
  go_wp2_with (go_at_call 49; refine hn.mono ?_; rintro e w' ⟨rfl, hw⟩; obtain rfl := hw.symm; clear hn)
  go_loopw [5, 11] (fun v i wr => ∃ k : Nat, k ≤ l.length ∧ i = .int .i64 k ∧ wr.ownsRow w.heap.size 67 8 v k ((l.take k).flatMap (nteC .u8)) ∧ Below w.heap.size w wr) (fun _ i _ => l.length - (intOf i).toNat)
  case atStart => exact ⟨0, by omega, rfl, World.ownsRow_nil _ _ _ _, Below.refl _ _⟩
  case round =>
    obtain ⟨k, hk, rfl, hown, hbl⟩ := hrel
    have hl := HL.out
    by_cases hlt : k < l.length
    · have hlt' : (k : Int) < l.length := by omega
      obtain ⟨g, rfl, hcs⟩ := row8_at HROW.out k hlt
      obtain ⟨y, hy⟩ : ∃ y, y = l[k] := ⟨_, rfl⟩
      rw [← hy] at hcs
      have hgl : g < w.heap.size := World.block_lt_of_cell? _ _ ((hcs 0 (by omega)).trans rfl)
      have x : ∀ j, j < 8 → wr.cell? ⟨g, k * 8 + j, none⟩ = (nteC .u8 y)[j]? := fun j hj => (hbl.cell (p := ⟨g, k * 8 + j, none⟩) hgl).trans (hcs j hj)
      have x0 : wr.cell? ⟨g, k * 8, none⟩ = some (.int .i64 y.step) := x 0 (by omega)
      have x1 : wr.cell? ⟨g, k * 8 + 1, none⟩ = some (.int .i64 y.thread) := x 1 (by omega)
      have x2 : wr.cell? ⟨g, k * 8 + 2, none⟩ = some (.int .u8 y.kind) := x 2 (by omega)
      have x3 : wr.cell? ⟨g, k * 8 + 3, none⟩ = some (.int .i64 y.ref) := x 3 (by omega)
      have x4 : wr.cell? ⟨g, k * 8 + 4, none⟩ = some (.int .i64 y.bits) := x 4 (by omega)
      have x5 : wr.cell? ⟨g, k * 8 + 5, none⟩ = some (.int .i64 y.bucket) := x 5 (by omega)
      have x6 : wr.cell? ⟨g, k * 8 + 6, none⟩ = some (.int .i64 y.slot) := x 6 (by omega)
      have x7 : wr.cell? ⟨g, k * 8 + 7, none⟩ = some (.int .i64 y.value) := x 7 (by omega)
      have HOWN := Lib.hid hown; have HBL := Lib.hid hbl; have HY := Lib.hid hy
      clear hown hbl hcs x hy
      go_upto_region 5 with (fail)
      clear x0 x1 x2 x3 x4 x5 x6 x7
      have hb1 := below_alloc wr (.cells #[.int .i64 y.step, .int .i64 y.thread, .int .u8 y.kind, .int .i64 y.ref, .int .i64 y.bits, .int .i64 y.bucket, .int .i64 y.slot, .int .i64 y.value] 67)
      have hz1 := heap_alloc_new wr (.cells #[.int .i64 y.step, .int .i64 y.thread, .int .u8 y.kind, .int .i64 y.ref, .int .i64 y.bits, .int .i64 y.bucket, .int .i64 y.slot, .int .i64 y.value] 67)
      change Code.wp _ _ _ _ (wr.alloc (.cells #[.int .i64 y.step, .int .i64 y.thread, .int .u8 y.kind, .int .i64 y.ref, .int .i64 y.bits, .int .i64 y.bucket, .int .i64 y.slot, .int .i64 y.value] 67))
      generalize wr.alloc (.cells #[.int .i64 y.step, .int .i64 y.thread, .int .u8 y.kind, .int .i64 y.ref, .int .i64 y.bits, .int .i64 y.bucket, .int .i64 y.slot, .int .i64 y.value] 67) = w7 at *
      have hle := HBL.out.size
      have HR0 := Lib.hid (own_fr HOWN.out (below_fr hb1 (fun _ => false) false) rfl)
      generalize wr.heap.size = nq at *
      have x0 := hcell hz1 0; have x1 := hcell hz1 1; have x2 := hcell hz1 2; have x3 := hcell hz1 3
      have x4 := hcell hz1 4; have x5 := hcell hz1 5; have x6 := hcell hz1 6; have x7 := hcell hz1 7
      have hc7 : w7.cell? ⟨cb, 0, none⟩ = some (.int .i64 0) := by
        have hB : Below w.heap.size w w7 := HBL.out.trans (hb1.mono hle)
        exact (hB.cell (p := ⟨cb, 0, none⟩) (World.block_lt_of_cell? _ _ HC.out)).trans HC.out
      have hask := since_ask (i := k) y hc7
      have HB1 : Hid (Below w.heap.size w w7) := HBL.out.trans (hb1.mono hle)
      have HZ := Lib.hid hz1
      clear hb1 hz1 hc7
      go_upto_region 6 with (go_at_call 105; refine hask.mono ?_; intro e w8 hh; obtain ⟨hh1, b8⟩ := hh; subst hh1; have HB8 : Hid (Below w.heap.size w w8) := HB1.out.trans (b8.mono HB1.out.size); have hr8 := own_fr HR0.out (below_fr b8 (fun _ => false) false) rfl; have hz8 := (b8.block _ (Array.getElem?_eq_some_iff.1 HZ.out).1).trans HZ.out; clear b8 hask)
      clear x0 x1 x2 x3 x4 x5 x6 x7
      have x0 := hcell hz8 0; have x1 := hcell hz8 1; have x2 := hcell hz8 2; have x3 := hcell hz8 3
      have x4 := hcell hz8 4; have x5 := hcell hz8 5; have x6 := hcell hz8 6; have x7 := hcell hz8 7
      have HR8 := Lib.hid hr8
      clear hz8 hr8
      go_wp2_with (at_builtin; refine wpList_append_own _ rfl _ _ 64 rfl w.heap.size 67 i0 (.agg #[.int .i64 0, .int .i64 0, .int .u8 0, .int .i64 0, .int .i64 0, .int .i64 0, .int .i64 0, .int .i64 0]) 8 64 Try.underlying64 HI.out HZ0.out HZ1.out HZ2.out rfl (by decide) _ _ _ rfl (HR8.out.alloc _) ⟨w8.heap.size, 0, none⟩ 1 1 (nteC .u8 y) rfl rfl ?c1 ?c2 ?c3 ?c4 ?c5 ?_)
      case c1 => exact World.news_of_block (heap_alloc_new w8 _)
      case c2 => simp [Value.oneCell', nteC]
      case c3 => unfold maxLen; omega
      case c4 => omega
      case c5 => have := HB8.out.size; simp; omega
      intro v' w11 hown' hgrow _
      have hb10 := below_alloc w8 (.cells #[.int .i64 y.step, .int .i64 y.thread, .int .u8 y.kind, .int .i64 y.ref, .int .i64 y.bits, .int .i64 y.bucket, .int .i64 y.slot, .int .i64 y.value] 67)
      have hB11 : Below w.heap.size w w11 := grown_below (HR8.out.alloc _) hgrow (HB8.out.trans (hb10.mono HB8.out.size)) (Nat.le_trans HB8.out.size hb10.size) (Nat.le_refl _)
      have e1 : (l.take (k + 1)).flatMap (nteC .u8) = (l.take k).flatMap (nteC .u8) ++ nteC .u8 y := by
        rw [List.take_add_one, List.getElem?_eq_getElem hlt, List.flatMap_append, ← show y = l[k] from HY.out]; simp
      rw [← e1] at hown'
      have HOW := Lib.hid hown'; have HBW := Lib.hid hB11
      clear hown' hB11 hgrow hb10 e1 x0 x1 x2 x3 x4 x5 x6 x7
      go_wp2_with fail
      go_roundw
      case rel => exact ⟨k + 1, by omega, by go_num, HOW.out, HBW.out⟩
      case measure => simp [intOf]; omega
    · obtain rfl : k = l.length := by omega
      rw [List.take_length] at hown
      have hcl := nclip_any hown
      have HBL := Lib.hid hbl
      clear hown hbl
      go_wp2_with (go_at_call 141; refine hcl.mono ?_; intro e w9 hh; obtain ⟨v', hh1, hr, hw⟩ := hh; subst hh1; obtain rfl := hw.symm; have HR := Lib.hid hr; clear hr hcl)
      go_ret
      exact ⟨_, rfl, HR.out, HBL.out⟩
theorem lsince_any {w : World} {base nb : Nat} {l : List Nte} (h : NL w base nb 198 67 .u8 l) (hl : l.length ≤ 1048576) :
    Calls Try.prog 56 #[.pointer (some ⟨nb, 0, none⟩), .int .i64 0] w fun e w' => ∃ v, e = .returned v ∧ NRow w' w.heap.size v l ∧ Below w.heap.size w w' := by
  have hb := below_alloc w (.cells #[.int .i64 0] 3)
  have hz := heap_alloc_new w (.cells #[.int .i64 0] 3)
  have hp := picked_any (cb := w.heap.size) (h.fr (below_fr hb (fun _ => false) false) rfl rfl) hl (hcell hz 0)
  have HB := Lib.hid hb
  clear h hz hb
  go_enter Try.func56, Try.ntmps56
  go_wp2_with (go_at_call 104; refine hp.mono ?_; intro e w2 hh; obtain ⟨v, hh1, hr, b2⟩ := hh; subst hh1; have HR := Lib.hid hr; have B2 := Lib.hid b2; clear hr b2 hp)
  go_ret
  refine ⟨_, rfl, ?_, HB.out.trans (B2.out.mono HB.out.size)⟩
  rcases HR.out with h | ⟨g, cur, h1, h2, h3⟩
  · exact .inl h
  · exact .inr ⟨g, cur, h1, Nat.le_trans HB.out.size h2, h3⟩
theorem lall_any {w : World} {base nb : Nat} {l : List Nte} (h : NL w base nb 198 67 .u8 l) (hl : l.length ≤ 1048576) :
    Calls Try.prog 16 #[.pointer (some ⟨nb, 0, none⟩)] w fun e w' => ∃ v, e = .returned v ∧ NRow w' w.heap.size v l ∧ Below w.heap.size w w' := by
  have hp := lsince_any h hl
  clear h
  go_enter Try.func16, Try.ntmps16
  go_wp2_with (go_at_call 56; refine hp.mono ?_; intro e w2 hh; obtain ⟨v, hh1, hr, b2⟩ := hh; subst hh1; have HR := Lib.hid hr; have B2 := Lib.hid b2; clear hr b2 hp)
  go_ret
  exact ⟨_, rfl, HR.out, B2.out⟩
theorem NRow.at {w : World} {base : Nat} {v : Value} {l : List Nte} (h : NRow w base v l) (k : Nat) (hk : k < l.length) : ∃ g, v = .slice (some ⟨g, 0, none⟩) l.length l.length ∧ ∀ j, j < 8 → w.cell? ⟨g, k * 8 + j, none⟩ = (nteC .u8 l[k])[j]? := by
  rcases h with ⟨-, h0⟩ | ⟨g, cur, hv, hb, hg, hm, ht⟩
  · subst h0; simp at hk
  · refine ⟨g, hv, fun j hj => ?_⟩
    rw [hcell hg, ← nte_at l k hk j hj, ← ht, List.getElem?_take, if_pos (by omega)]
    simp
end Go.Proofs.Ytdabcnjjbfmkaaa

/-
  notes.List.Add, and a world's note.
-/
namespace Go.Proofs.Ytdabcnjjbfmkaaa
open Go.RowKit
set_option linter.unusedVariables false

theorem lcount_any {w : World} {base nb TN : Nat} {l : List Nte} (h : NL w base nb 198 TN .u8 l) : Calls Try.prog 11 #[.pointer (some ⟨nb, 0, none⟩)] w fun e w' => e = .returned (.int .i64 l.length) ∧ w' = w := by
  obtain ⟨a, cap, -, -, hn⟩ := lnotes_any h
  clear h
  go_enter Try.func11, Try.ntmps11
  go_wp2_with (go_at_call 49; refine hn.mono ?_; rintro e w' ⟨rfl, rfl⟩)
  go_ret
  exact ⟨rfl, rfl⟩
/-- Behind an Add: a note of a kind that is one. -/
def nadd (l : List Nte) (n : Nte) : List Nte := if 1 ≤ n.kind ∧ n.kind ≤ 9 then l ++ [n] else l
def nTy (T : TypeId) : Bool := T == 198 || T == 67
theorem nTy_l (T : TypeId) (h : nTy T = false) : (T == 198) = false := by unfold nTy at h; simp only [Bool.or_eq_false_iff] at h; exact h.1
theorem nTy_n (T : TypeId) (h : nTy T = false) : (T == 67) = false := by unfold nTy at h; simp only [Bool.or_eq_false_iff] at h; exact h.2
set_option maxRecDepth 10000 in
set_option maxHeartbeats 2000000 in
theorem ladd_no {w : World} {base nb : Nat} {l : List Nte} {n : Nte} (h : NL w base nb 198 67 .u8 l) (hk : n.kind = 0 ∨ 9 < n.kind) :
    Calls Try.prog 55 #[.pointer (some ⟨nb, 0, none⟩), .agg (nteC .u8 n).toArray] w fun e w' => (∃ k, e = .returned (.int .i64 k)) ∧ Below w.heap.size w w' := by
  have hb := below_alloc w (.cells (nteC .u8 n).toArray 67)
  have hz := heap_alloc_new w (.cells (nteC .u8 n).toArray 67)
  have h1 := h.fr (below_fr hb (fun _ => false) false) rfl rfl
  have hcn := lcount_any h1
  have HB := Lib.hid hb; have HZ := Lib.hid hz; have HK := Lib.hid hk
  clear h hb hz h1 hk
  go_enter Try.func55, Try.ntmps55
  go_upto_region 1 with (fail)
  change Code.wp _ _ _ _ (w.alloc (.cells (nteC .u8 n).toArray 67))
  generalize w.alloc (.cells (nteC .u8 n).toArray 67) = w1 at *
  go_upto_region 4 with (go_at_call 11; refine hcn.mono ?_; rintro e w2 ⟨rfl, hw⟩; obtain rfl := hw.symm; clear hcn)
  have x2 : ∀ st : ExtW w1, st.val.cell? ⟨w.heap.size, 2, none⟩ = some (.int .u8 n.kind) := fun st => st.cell (hcell HZ.out 2)
  rcases HK.out with hk | hk
  · have d1 : (n.kind == 0) = true := beq_iff_eq.2 hk
    refine wp_region_ext (by kernel_rfl) (by kernel_rfl) ?_
    repeat (go_big_quiet_step (fail))
    refine wpQuiet_nil ?_
    rintro W ⟨⟨W2, hW⟩, rfl⟩
    have HW := Lib.hid hW
    clear x2 hW
    go_wp2
    go_ret
    exact ⟨⟨_, rfl⟩, HB.out.trans (HW.out.mono HB.out.size)⟩
  · have d1 : (n.kind == 0) = false := beq_eq_false_iff_ne.2 (by omega)
    have d2 : decide (9 < n.kind) = true := decide_eq_true hk
    refine wp_region_ext (by kernel_rfl) (by kernel_rfl) ?_
    repeat (go_big_quiet_step (fail))
    refine wpQuiet_nil ?_
    rintro W ⟨⟨W2, hW⟩, rfl⟩
    have HW := Lib.hid hW
    clear x2 hW
    go_wp2
    go_ret
    exact ⟨⟨_, rfl⟩, HB.out.trans (HW.out.mono HB.out.size)⟩
set_option maxRecDepth 10000 in
set_option maxHeartbeats 4000000 in
theorem ladd_ok {w0 w : World} {base nb : Nat} {l : List Nte} {n : Nte} (h : NL w base nb 198 67 .u8 l) (hB : Below base w0 w) (hsz : base ≤ w.heap.size) (hl : l.length < 1048576) (hk : 1 ≤ n.kind ∧ n.kind ≤ 9) (hs : ∀ y, l.getLast? = some y → y.step ≤ n.step) :
    Calls Try.prog 55 #[.pointer (some ⟨nb, 0, none⟩), .agg (nteC .u8 n).toArray] w fun e w' => (∃ k, e = .returned (.int .i64 k)) ∧ NL w' base nb 198 67 .u8 (l ++ [n]) ∧ Fr nTy false w w' ∧ Below base w0 w' := by
  obtain ⟨i0, hi0, hz0, hz1, hz2⟩ := info_parts info_note
  have HI := Lib.hid hi0; have HZ0 := Lib.hid hz0; have HZ1 := Lib.hid hz1; have HZ2 := Lib.hid hz2
  have hb := below_alloc w (.cells (nteC .u8 n).toArray 67)
  have hz := heap_alloc_new w (.cells (nteC .u8 n).toArray 67)
  have h1 := h.fr (below_fr hb (fun _ => false) false) rfl rfl
  have hcn := lcount_any h1
  have HBB : Hid (Below base w0 (w.alloc (.cells (nteC .u8 n).toArray 67))) := hB.trans (hb.mono hsz)
  have HSZ : Hid (base ≤ (w.alloc (.cells (nteC .u8 n).toArray 67)).heap.size) := Nat.le_trans hsz hb.size
  have HB := Lib.hid hb; have H1 := Lib.hid h1; have HZ := Lib.hid hz; have HL := Lib.hid hl; have HK := Lib.hid hk; have HS := Lib.hid hs
  clear h hb hz h1 hl hk hs hi0 hz0 hz1 hz2 hB hsz
  go_enter Try.func55, Try.ntmps55
  go_upto_region 1 with (fail)
  change Code.wp _ _ _ _ (w.alloc (.cells (nteC .u8 n).toArray 67))
  generalize w.alloc (.cells (nteC .u8 n).toArray 67) = w1 at *
  go_upto_region 4 with (go_at_call 11; refine hcn.mono ?_; rintro e w2 ⟨rfl, hw⟩; obtain rfl := hw.symm; clear hcn)
  have HFC0 : Hid (Fr nTy false w w1) := below_fr HB.out _ _
  clear HB
  generalize w.heap.size = nq at *
  go_cut [11] (fun v wx => v = .bool false ∧ Below w1.heap.size w1 wx)
  case first =>
    obtain ⟨a, cap, c0, hrow, -⟩ := lnotes_any H1.out
    have hk := HK.out
    have d1 : (n.kind == 0) = false := beq_eq_false_iff_ne.2 (by omega)
    have d2 : decide (9 < n.kind) = false := decide_eq_false (by omega)
    have hl := HL.out
    have x0 : ∀ st : ExtW w1, st.val.cell? ⟨nq, 0, none⟩ = some (.int .i64 n.step) := fun st => st.cell (hcell HZ.out 0)
    have x2 : ∀ st : ExtW w1, st.val.cell? ⟨nq, 2, none⟩ = some (.int .u8 n.kind) := fun st => st.cell (hcell HZ.out 2)
    have y0 : ∀ st : ExtW w1, st.val.cell? ⟨nb, 0, none⟩ = some (.slice a l.length cap) := fun st => st.cell c0
    by_cases h0 : l.length = 0
    · have e0 : decide ((0 : Int) < l.length) = false := decide_eq_false (by omega)
      have e0n : decide (0 < l.length) = false := decide_eq_false (by omega)
      clear hrow c0 hk hl h0
      refine wp_region_ext (by kernel_rfl) (by kernel_rfl) ?_
      repeat (go_big_quiet_step (fail))
      refine wpQuiet_nil ?_
      rintro W ⟨⟨W2, hW⟩, rfl⟩
      clear x0 x2 y0
      have HW := Lib.hid hW
      go_wp2_with fail
      go_meet
      case rel => exact ⟨rfl, HW.out⟩
    · obtain ⟨k, hk1⟩ : ∃ k, l.length = k + 1 := ⟨l.length - 1, by omega⟩
      have hkl : k < l.length := by omega
      obtain ⟨g, rfl, hcs⟩ := row8_at hrow k hkl
      have hst : (l[k]).step ≤ n.step := HS.out _ (by rw [List.getLast?_eq_getElem?, show l.length - 1 = k by omega]; exact List.getElem?_eq_getElem hkl)
      have y1 : ∀ st : ExtW w1, st.val.cell? ⟨g, k * 8, none⟩ = some (.int .i64 (l[k]).step) := fun st => st.cell (hcs 0 (by omega))
      generalize (l[k]).step = ys at *
      clear hrow c0 hk hcs hkl h0
      generalize l.length = L at *
      subst hk1
      have e0 : decide ((0 : Int) < ((k + 1 : Nat) : Int)) = true := decide_eq_true (by omega)
      have e0n : decide (0 < k + 1) = true := decide_eq_true (by omega)
      have d3 : decide (n.step < ys) = false := decide_eq_false (by omega)
      clear hst
      refine wp_region_ext (by kernel_rfl) (by kernel_rfl) ?_
      repeat (go_big_quiet_step (fail))
      refine wpQuiet_nil ?_
      rintro W ⟨⟨W2, hW⟩, rfl⟩
      clear x0 x2 y0 y1
      have HW := Lib.hid hW
      go_wp2_with fail
      go_meet
      case rel => exact ⟨rfl, HW.out⟩
  case rest =>
  obtain ⟨hcv, hbx⟩ := hcut
  subst hcv
  have hnl := H1.out.fr (below_fr hbx (fun _ => false) false) rfl rfl
  have hnq := (hbx.block _ (Array.getElem?_eq_some_iff.1 HZ.out).1).trans HZ.out
  obtain ⟨v, hl1, hl2, hl3⟩ := hnl
  obtain ⟨ao, cap, rfl⟩ := own_sl2 hl3
  have hqlt := (Array.getElem?_eq_some_iff.1 hl1).1
  have hnlt := (Array.getElem?_eq_some_iff.1 hnq).1
  have l0 := hcell hl1 0
  have lf := hfrz hl1 0
  have l0' : ∀ o, (wc.alloc o).cell? ⟨nb, 0, none⟩ = some (.slice ao l.length cap) := fun o => by rw [World.cell?_alloc_past _ _ _ hqlt]; exact l0
  have lf' : ∀ o, (wc.alloc o).frozen? ⟨nb, 0, none⟩ = false := fun o => by rw [World.frozen?_alloc_past _ _ _ hqlt]; exact lf
  have hl := HL.out
  have dm : decide ((1048576 : Int) ≤ l.length) = false := decide_eq_false (by omega)
  have k0 : wc.cell? ⟨nq, 0, none⟩ = some (.int .i64 n.step) := hcell hnq 0
  have k1 : wc.cell? ⟨nq, 1, none⟩ = some (.int .i64 n.thread) := hcell hnq 1
  have k2 : wc.cell? ⟨nq, 2, none⟩ = some (.int .u8 n.kind) := hcell hnq 2
  have k3 : wc.cell? ⟨nq, 3, none⟩ = some (.int .i64 n.ref) := hcell hnq 3
  have k4 : wc.cell? ⟨nq, 4, none⟩ = some (.int .i64 n.bits) := hcell hnq 4
  have k5 : wc.cell? ⟨nq, 5, none⟩ = some (.int .i64 n.bucket) := hcell hnq 5
  have k6 : wc.cell? ⟨nq, 6, none⟩ = some (.int .i64 n.slot) := hcell hnq 6
  have k7 : wc.cell? ⟨nq, 7, none⟩ = some (.int .i64 n.value) := hcell hnq 7
  have E2 : Hid (l.length + 1 ≤ maxLen) := by unfold maxLen; show l.length + 1 ≤ _; omega
  have E3 : Hid ((l.length + 1) * 64 ≤ 140737488355328) := by show (l.length + 1) * 64 ≤ 140737488355328; omega
  have E4 : Hid (base ≤ wc.heap.size) := Nat.le_trans HSZ.out hbx.size
  have HNW : Hid (((wc.drew).alloc (.cells #[.int .i64 n.step, .int .i64 n.thread, .int .u8 n.kind, .int .i64 n.ref, .int .i64 n.bits, .int .i64 n.bucket, .int .i64 n.slot, .int .i64 n.value] 67)).heap[wc.heap.size]? = some (.cells #[.int .i64 n.step, .int .i64 n.thread, .int .u8 n.kind, .int .i64 n.ref, .int .i64 n.bits, .int .i64 n.bucket, .int .i64 n.slot, .int .i64 n.value] 67 (0, 0))) := heap_alloc_new (wc.drew) _
  have HW0 : Hid (Below wc.heap.size wc ((wc.drew).alloc (.cells #[.int .i64 n.step, .int .i64 n.thread, .int .u8 n.kind, .int .i64 n.ref, .int .i64 n.bits, .int .i64 n.bucket, .int .i64 n.slot, .int .i64 n.value] 67))) := ((Below.refl _ _).drew).alloc (Nat.le_refl _) _
  have HBC : Hid (Below base w0 wc) := HBB.out.trans (hbx.mono HSZ.out)
  have HFC : Hid (Fr nTy false w wc) := HFC0.out.trans (below_fr hbx _ _)
  have HL1 := Lib.hid hl1; have HL3 := Lib.hid hl3; have HLO := Lib.hid hl2
  clear hl1 hl3 hl2 hnq hbx H1 HS HK
  go_upto_region 8 with (fail)
  clear dm hl
  go_region_law ((refine step_append_lies _ (by rfl) _ _ _ (by rfl) base 67 i0 _ 8 64 Try.underlying64 HI.out HZ0.out HZ1.out HZ2.out rfl (by decide) (.slice ao l.length cap) l.length (l.flatMap (nteC .u8)) (by rfl) ((HL3.out.drew).alloc _) ⟨wc.heap.size, 0, none⟩ 1 1 (nteC .u8 n) (by rfl) (by rfl) (World.news_of_block (cs := #[.int .i64 n.step, .int .i64 n.thread, .int .u8 n.kind, .int .i64 n.ref, .int .i64 n.bits, .int .i64 n.bucket, .int .i64 n.slot, .int .i64 n.value]) (t := 67) (fr := (0, 0)) HNW.out) (by simp [Value.oneCell', nteC]) (by omega) E2.out E3.out (by have := E4.out; simp; omega) (wc.heap.size + 1) (by simp) ?_; intro g cap1 w4 hown1 hgrow hat hlt; have HOW := Lib.hid hown1; have HGR := Lib.hid hgrow; have hq4 : w4.heap[nb]? = some (.cells #[.slice ao l.length cap] 198 (0, 0)) := (grown_ty ((HL3.out.drew).alloc _) hgrow).cells _ _ _ _ ((HW0.out.block _ (Array.getElem?_eq_some_iff.1 HL1.out).1).trans HL1.out) rfl; have t0 := hcell hq4 0; have t1 := hfrz hq4 0; have HQ4 := Lib.hid hq4; clear hown1 hgrow hat hlt hq4))
  all_goals
    have hB4 : Below base w0 w4 := grown_below ((HL3.out.drew).alloc _) HGR.out (HBC.out.trans (HW0.out.mono E4.out)) (Nat.le_trans E4.out HW0.out.size) (Nat.le_refl _)
    have f4 : Fr nTy false wc w4 := (below_fr HW0.out _ _).trans ((grown_ty ((HL3.out.drew).alloc _) HGR.out).mono nTy_n id)
    have f5 := set_ty HQ4.out 0 (.slice (some ⟨g, 0, none⟩) (l.length + 1) cap1)
    have hB5 := set_below hB4 (Nat.le_trans E4.out f4.size) HLO.out 0 (.slice (some ⟨g, 0, none⟩) (l.length + 1) cap1)
    have hq5 := setCell_same HQ4.out 0 (.slice (some ⟨g, 0, none⟩) (l.length + 1) cap1)
    have h1 := own_fr HOW.out f5 rfl
    have FIN : Hid (NL (w4.setCell ⟨nb, 0, none⟩ (.slice (some ⟨g, 0, none⟩) (l.length + 1) cap1)) base nb 198 67 .u8 (l ++ [n]) ∧ Fr nTy false w (w4.setCell ⟨nb, 0, none⟩ (.slice (some ⟨g, 0, none⟩) (l.length + 1) cap1)) ∧ Below base w0 (w4.setCell ⟨nb, 0, none⟩ (.slice (some ⟨g, 0, none⟩) (l.length + 1) cap1))) := by
      refine ⟨⟨_, hq5, HLO.out, ?_⟩, (HFC.out.trans f4).trans (f5.mono nTy_l id), hB5⟩
      rw [List.length_append, List.flatMap_append]
      simpa using h1
    clear hB4 f4 f5 hB5 hq5 h1 HQ4 HGR HOW t0 t1 l0 l0' lf lf' k0 k1 k2 k3 k4 k5 k6 k7
    generalize w4.setCell ⟨nb, 0, none⟩ (.slice (some ⟨g, 0, none⟩) (l.length + 1) cap1) = w5 at *
    go_wp2_with fail
    go_ret
    exact ⟨⟨_, rfl⟩, FIN.out⟩
end Go.Proofs.Ytdabcnjjbfmkaaa

/-
  A world's note.
-/
namespace Go.Proofs.Ytdabcnjjbfmkaaa
open Go.RowKit Go.Maps
set_option linter.unusedVariables false

theorem u8_nn {k : Int} (h : (Lit.int .u8 k).wf = true) : 0 ≤ k ∧ k < 256 := by
  have hmin : IntKind.u8.min = 0 := rfl
  have hmax : IntKind.u8.max = 255 := rfl
  simp only [Lit.wf, Bool.and_eq_true, decide_eq_true_eq] at h; omega
theorem nTy_w (T : TypeId) (h : wTy T = false) : nTy T = false := by
  unfold wTy at h
  simp only [Bool.or_eq_false_iff] at h
  unfold nTy
  rw [h.1.2, h.2]; rfl
section
variable {w0 w w' : World} {B : WB} {V : WV} {s : CS}
theorem WS.noted (h : WS w0 w B V s) {l : List Nte} (hn : NL w' w0.heap.size B.nb 198 67 .u8 l) (hf : Fr nTy false w w') (hB : Below w0.heap.size w0 w') : WS w0 w' B { V with nts := l } s := by
  obtain ⟨S, ha⟩ := h.ar
  exact ⟨h.own.fr hf hB rfl rfl, hf.cells _ _ _ _ h.blk rfl, h.lo, ⟨S, ha.fr hf rfl rfl rfl⟩, hn, h.tkl, h.fmk.fr h.own hf rfl⟩
theorem WS.hd5 (h : WS w0 w B V s) : w.cell? ⟨B.wb, 0, none⟩ = some (.pointer (some ⟨B.cb, 0, none⟩)) ∧ w.cell? ⟨B.wb, 1, none⟩ = some (.pointer (some ⟨B.ib, 0, none⟩)) ∧ w.cell? ⟨B.wb, 2, none⟩ = some (.pointer (some ⟨B.nb, 0, none⟩)) ∧ w.cell? ⟨B.wb, 72, none⟩ = some (.int .i64 V.hd) :=
  ⟨h.c0, (h.cell 1).trans (val_at B V h.tkl).2.1, (h.cell 2).trans (val_at B V h.tkl).2.2.1, (h.cell 72).trans (val_at B V h.tkl).2.2.2.2.2⟩
theorem WS.last5 (h : WS w0 w B V s) : Calls Try.prog 22 #[.pointer (some ⟨B.cb, 0, none⟩)] w fun e w' => e = .returned (.agg #[.int .u8 s.kind, .int .u64 s.addr, .int .u64 s.was, .int .u64 s.is]) ∧ Below w.heap.size w w' := by
  obtain ⟨⟨S, hS⟩, hB⟩ := h.own
  exact last_any w _ B.cb s S hS
theorem WS.iat5 (h : WS w0 w B V s) (hl : V.its.length ≤ 1048576) (r : Int) : Calls Try.prog 14 #[.pointer (some ⟨B.ib, 0, none⟩), .int .i64 r] w fun e w' => e = .returned (.tuple #[.agg #[.string ((atOf V.its r).1).key, .string ((atOf V.its r).1).val, .int .u32 ((atOf V.its r).1).flags, .int .u64 ((atOf V.its r).1).id, .int .i64 ((atOf V.its r).1).dies, .int .i64 ((atOf V.its r).1).gen], .bool (atOf V.its r).2]) ∧ Below w.heap.size w w' := by
  obtain ⟨S, hS⟩ := h.ar
  exact iat_any _ _ _ S r w hS hl
theorem WS.steps5 (h : WS w0 w B V s) : Calls Try.prog 10 #[.pointer (some ⟨B.wb, 0, none⟩)] w fun e w' => e = .returned (.int .i64 s.cnt) ∧ w' = w := steps_any h.wld
/-- Do the notes' steps rise up to what was done? -/
def Nsteps (l : List Nte) (c : Int) : Prop := ∀ y ∈ l, y.step ≤ c
theorem Nsteps.le {l : List Nte} {c d : Int} (h : Nsteps l c) (hc : c ≤ d) : Nsteps l d := fun y hy => Int.le_trans (h y hy) hc
theorem Nsteps.add {l : List Nte} {c : Int} {n : Nte} (h : Nsteps l c) (hn : n.step = c) : Nsteps (nadd l n) c := by
  unfold nadd
  split
  · intro y hy
    rcases List.mem_append.1 hy with h1 | h1
    · exact h y h1
    · simp only [List.mem_singleton] at h1; subst h1; rw [hn]; exact Int.le_refl _
  · exact h
theorem nadd_len (l : List Nte) (n : Nte) : (nadd l n).length ≤ l.length + 1 := by unfold nadd; split <;> simp
theorem wladd (h : WS w0 w B V s) (n : Nte) (hl : V.nts.length < 1048576) (hkb : 0 ≤ n.kind) (hs : Nsteps V.nts n.step) :
    Calls Try.prog 55 #[.pointer (some ⟨B.nb, 0, none⟩), .agg (nteC .u8 n).toArray] w fun e w' => (∃ k, e = .returned (.int .i64 k)) ∧ WS w0 w' B { V with nts := nadd V.nts n } s ∧ Fr nTy false w w' := by
  by_cases hk : 1 ≤ n.kind ∧ n.kind ≤ 9
  · refine (ladd_ok h.nt h.below h.below.size hl hk (fun y hy => hs y (List.mem_of_getLast? hy))).mono fun e w' ⟨h1, h2, h3, h4⟩ => ⟨h1, ?_, h3⟩
    have : nadd V.nts n = V.nts ++ [n] := by unfold nadd; rw [if_pos hk]
    rw [this]
    exact h.noted h2 h3 h4
  · refine (ladd_no h.nt (by omega)).mono fun e w' ⟨h1, h2⟩ => ⟨h1, ?_, below_fr h2 _ _⟩
    have : nadd V.nts n = V.nts := by unfold nadd; rw [if_neg hk]
    rw [this]
    exact h.keep h2
set_option maxRecDepth 10000 in
set_option maxHeartbeats 2000000 in
theorem wnote_any (h : WS w0 w B V s) (k r b u sl v : Int) (hl : V.nts.length < 1048576) (hkb : (Lit.int .u8 k).wf = true) (hs : Nsteps V.nts s.cnt) :
    Calls Try.prog 15 #[.pointer (some ⟨B.wb, 0, none⟩), .int .u8 k, .int .i64 r, .agg #[.int .i64 b, .int .i64 u, .int .i64 sl], .int .i64 v] w fun e w' => e = .returned (.tuple #[]) ∧ WS w0 w' B { V with nts := nadd V.nts ⟨s.cnt, V.hd, k, r, b, u, sl, v⟩ } s ∧ Fr wTy true w w' := by
  have hb := below_alloc w (.cells #[.int .i64 b, .int .i64 u, .int .i64 sl] 46)
  have hz := heap_alloc_new w (.cells #[.int .i64 b, .int .i64 u, .int .i64 sl] 46)
  have h1 := h.keep hb
  have hk0 := (u8_nn hkb).1
  have HB := Lib.hid hb; have HZ := Lib.hid hz; have H1 := Lib.hid h1; have HL := Lib.hid hl; have HS := Lib.hid hs; have HK0 := Lib.hid hk0
  clear h hb hz h1 hl hkb hs hk0
  go_enter Try.func15, Try.ntmps15
  go_upto_region 2 with (fail)
  change Code.wp _ _ _ _ (w.alloc (.cells #[.int .i64 b, .int .i64 u, .int .i64 sl] 46))
  generalize w.alloc (.cells #[.int .i64 b, .int .i64 u, .int .i64 sl] 46) = w1 at *
  have HB0 : Hid (Fr wTy true w w1) := below_fr HB.out _ _
  clear HB
  generalize w.heap.size = nq at *
  have x2 : ∀ st : ExtW w1, st.val.cell? ⟨B.wb, 2, none⟩ = some (.pointer (some ⟨B.nb, 0, none⟩)) := fun st => st.cell H1.out.hd5.2.2.1
  have x72 : ∀ st : ExtW w1, st.val.cell? ⟨B.wb, 72, none⟩ = some (.int .i64 V.hd) := fun st => st.cell H1.out.hd5.2.2.2
  have z0 : ∀ st : ExtW w1, st.val.cell? ⟨nq, 0, none⟩ = some (.int .i64 b) := fun st => st.cell (hcell HZ.out 0)
  have z1 : ∀ st : ExtW w1, st.val.cell? ⟨nq, 1, none⟩ = some (.int .i64 u) := fun st => st.cell (hcell HZ.out 1)
  have z2 : ∀ st : ExtW w1, st.val.cell? ⟨nq, 2, none⟩ = some (.int .i64 sl) := fun st => st.cell (hcell HZ.out 2)
  have m1 : ∀ st : ExtW w1, Calls Try.prog 10 #[.pointer (some ⟨B.wb, 0, none⟩)] st.val fun e w' => e = .returned (.int .i64 s.cnt) ∧ st.val = w' := fun st => (H1.out.keep st.below).steps5.mono fun e w' ⟨h1, h2⟩ => ⟨h1, h2.symm⟩
  refine wp_region_ext_tail 15 (by kernel_rfl) (by kernel_rfl) ?_
  simp only [List.take_succ_cons, List.take_zero, List.drop_succ_cons, List.drop_zero]
  repeat (go_big_quiet_step ((go_at_call 10; with_reducible refine calls_ext_same (m1 _))))
  refine wpQuiet_nil ?_
  rintro W ⟨⟨W2, hW⟩, rfl⟩
  clear x2 x72 z0 z1 z2 m1
  have hadd := wladd (H1.out.keep hW) ⟨s.cnt, V.hd, k, r, b, u, sl, v⟩ HL.out HK0.out HS.out
  have HW := Lib.hid hW
  clear hW
  go_wp2_with (go_at_call 55; refine hadd.mono ?_; intro e w3 hh; obtain ⟨⟨kk, hh1⟩, h3, f3⟩ := hh; subst hh1; have H3 := Lib.hid h3; have F3 := Lib.hid f3; clear h3 f3 hadd)
  go_end0
  exact ⟨rfl, H3.out, (HB0.out.trans (below_fr HW.out _ _)).trans (F3.out.mono nTy_w (fun h => by cases h))⟩
end
end Go.Proofs.Ytdabcnjjbfmkaaa

/-
  Small facts that Finds and Looks share.
-/
namespace Go.Proofs.Ytdabcnjjbfmkaaa
open Go.RowKit Go.Maps TagPure
set_option linter.unusedVariables false

theorem keeps_fx {w w' : World} {b : Nat} (h : Keeps (· = b) w w') (K : TypeId → Bool) (mp : Bool) : Fx K mp b w w' :=
  ⟨h.size, fun k cs T fr hk _ hb => (h.block k (Array.getElem?_eq_some_iff.1 hk).1 hb).trans hk, fun _ k es cl hk hb => (h.block k (Array.getElem?_eq_some_iff.1 hk).1 hb).trans hk⟩
theorem ws_keeps {w0 w w' : World} {B : WB} {V : WV} {s : CS} {b : Nat} {cs : Array Value} {T : TypeId} {fr : Nat × Nat} (h : WS w0 w B V s) (hk : Keeps (· = b) w w') (hb : w.heap[b]? = some (.cells cs T fr)) (hT : wTy T = false) (hlo : w0.heap.size ≤ b) : WS w0 w' B V s :=
  h.fr (keeps_fr hk (fun X => X == T) false (fun k e => ⟨_, _, _, e ▸ hb, by simp⟩)) (fun X hX => by cases hXT : (X == T); rfl; rw [beq_iff_eq] at hXT; subst hXT; rw [hX] at hT; cases hT) (keeps_below hk h.below h.below.size (fun k e => e ▸ hlo))
theorem pln_at {w : World} {base : Nat} {ao : Option Addr} {l : List (Int × Int)} (h : PlN w base (.slice ao l.length l.length) l) : Plc w ao l.length l := by
  obtain ⟨ao2, e, hp⟩ := h.plc
  simp only [Value.slice.injEq, and_true] at e
  rw [e]; exact hp
theorem pair_len (h b : Int) : (pairOf h b).length ≤ 2 := by unfold pairOf; split <;> simp
theorem plist_len (h v : Int) : (plist h v).length ≤ 4 := by
  have h1 := dedup_len (pairOf h (asOld v) ++ pairOf h (asNow v))
  have h2 := pair_len h (asOld v)
  have h3 := pair_len h (asNow v)
  rw [List.length_append] at h1
  unfold plist; omega
theorem key_ne {x y : ByteArray} (h : x ≠ y) : (x.toList == y.toList) = false := by
  rw [← Bool.not_eq_true, beq_iff_eq, ByteArray.toList_eq, ByteArray.toList_eq]
  exact fun c => h (ByteArray.ext (Array.toList_inj.mp c))
theorem has_lt (x t : Int) (k n : Nat) (h : n ∈ has x t k) : n < k := by
  induction k with
  | zero => cases h
  | succ k ih =>
    unfold has at h
    rcases List.mem_append.1 h with h | h
    · have := ih h; omega
    · split at h
      · rw [List.mem_singleton] at h; omega
      · cases h
end Go.Proofs.Ytdabcnjjbfmkaaa
