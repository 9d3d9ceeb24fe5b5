/-
  Texts of this prover, merged: Lib, Fnv, Places, Ver, Addr, Keeps, Stripes.
-/
import Derived.Test.YteofdldlmmkgbaaRows
import Derived.WalkKit
import Derived.WalkSpells
import Derived.WalkLawsBesides
import Derived.Handy
import Derived.Lib.Hide
import Derived.Deep.QuietTactic
import Derived.BigQuiet
/-
  General lemmas of this prover's own: lists in memory, arrays by value.
-/
namespace Go.Proofs.Yteofdldlmmkgbaa
open Go.RowKit
set_option linter.unusedVariables false

theorem ret_u64 {a b : Int} (h : a = b) : Ending.returned (.int .u64 a) = .returned (.int .u64 b) := by rw [h]
theorem ret_i64 {a b : Int} (h : a = b) : Ending.returned (.int .i64 a) = .returned (.int .i64 b) := by rw [h]
theorem below_drewN (w : World) (n : Nat) : Below w.heap.size w (w.drewN n) := ⟨rfl, rfl, rfl, Nat.le_refl _, fun _ _ => rfl⟩
theorem bcell {W w1 : World} (hb : Below W.heap.size W w1) : (∀ b o, b < W.heap.size → w1.cell? ⟨b, o, none⟩ = W.cell? ⟨b, o, none⟩) ∧ (∀ b o, b < W.heap.size → w1.frozen? ⟨b, o, none⟩ = W.frozen? ⟨b, o, none⟩) :=
  ⟨fun b o h => hb.cell (p := ⟨b, o, none⟩) h, fun b o h => hb.frozen (p := ⟨b, o, none⟩) h⟩

/-- A list in memory that the call itself made: nil and empty, or a piece of a block from 'base' on that nobody has frozen. Its n elements are the cells xs. -/
def Lst (w : World) (base : Nat) (v : Value) (n : Nat) (xs : List Value) : Prop :=
  (v = .slice none 0 0 ∧ n = 0 ∧ xs = []) ∨
  ∃ g off cap cur e, v = .slice (some ⟨g, off, none⟩) n cap ∧ base ≤ g ∧ w.heap[g]? = some (.cells cur e (0, 0)) ∧ n ≤ cap ∧ cap ≤ maxLen ∧ (cur.toList.drop off).take xs.length = xs

theorem Lst.of_own {w : World} {base e size : Nat} {v : Value} {n : Nat} {xs : List Value} (h : w.ownsRow base e size v n xs) : Lst w base v n xs := by
  obtain ⟨h1, ⟨rfl, rfl⟩ | ⟨g, cap, cur, rfl, hb, hg, hn, hm, hs, ht⟩⟩ := h
  · exact .inl ⟨rfl, rfl, by simpa using h1⟩
  · exact .inr ⟨g, 0, cap, cur, e, rfl, hb, hg, hn, hm, by rw [h1]; simpa using ht⟩
theorem Lst.mono {w : World} {base base' : Nat} {v : Value} {n : Nat} {xs : List Value} (h : Lst w base v n xs) (hb : base' ≤ base) : Lst w base' v n xs := by
  rcases h with h | ⟨g, off, cap, cur, e, h1, h2, h3⟩
  · exact .inl h
  · exact .inr ⟨g, off, cap, cur, e, h1, by omega, h3⟩
theorem Lst.keep {w w' : World} {base : Nat} {v : Value} {n : Nat} {xs : List Value} (h : Lst w base v n xs) (hk : ∀ k, v.ownBlock = some k → w'.heap[k]? = w.heap[k]?) : Lst w' base v n xs := by
  rcases h with h | ⟨g, off, cap, cur, e, rfl, h2, h3, h4⟩
  · exact .inl h
  · exact .inr ⟨g, off, cap, cur, e, rfl, h2, by rw [hk g (by simp [Value.ownBlock])]; exact h3, h4⟩
theorem Lst.lt {w : World} {base : Nat} {v : Value} {n : Nat} {xs : List Value} (h : Lst w base v n xs) : ∀ k, v.ownBlock = some k → base ≤ k ∧ k < w.heap.size := by
  intro k hk
  rcases h with ⟨rfl, _⟩ | ⟨g, off, cap, cur, e, rfl, h2, h3, h4⟩
  · simp [Value.ownBlock] at hk
  · simp [Value.ownBlock] at hk
    subst hk
    exact ⟨h2, (Array.getElem?_eq_some_iff.1 h3).1⟩
theorem Lst.below {w w' : World} {B base : Nat} {v : Value} {n : Nat} {xs : List Value} (h : Lst w base v n xs) (hb : Below B w w') (hB : w.heap.size ≤ B) : Lst w' base v n xs :=
  h.keep fun k hk => hb.block k (by have := (h.lt k hk).2; omega)
theorem Lst.drop {w : World} {base : Nat} {v : Value} {n : Nat} {xs : List Value} (h : Lst w base v n xs) : n ≤ maxLen := by
  rcases h with ⟨_, rfl, _⟩ | ⟨g, off, cap, cur, e, h1, h2, h3, h4, h5, h6⟩
  · exact Nat.zero_le _
  · omega

/-- What may be read of a list, whoever made it. -/
def Rd (w : World) (v : Value) (n : Nat) (xs : List Value) : Prop :=
  ∃ a cap, v = .slice a n cap ∧ n ≤ cap ∧ cap ≤ maxLen ∧ (a = none → cap = 0) ∧ (xs = [] ∨ ∃ b off, a = some ⟨b, off, none⟩ ∧ ∀ i, i < xs.length → w.cell? ⟨b, off + i, none⟩ = xs[i]?)
theorem Lst.rd {w : World} {base : Nat} {v : Value} {n : Nat} {xs : List Value} (h : Lst w base v n xs) : Rd w v n xs := by
  rcases h with ⟨rfl, rfl, rfl⟩ | ⟨g, off, cap, cur, e, rfl, h2, h3, h4, h5, h6⟩
  · exact ⟨none, 0, rfl, Nat.le_refl _, Nat.zero_le _, fun _ => rfl, .inl rfl⟩
  · refine ⟨_, cap, rfl, h4, h5, fun h => by simp at h, .inr ⟨g, off, rfl, fun i hi => ?_⟩⟩
    have : xs[i]? = ((cur.toList.drop off).take xs.length)[i]? := by rw [h6]
    rw [this, List.getElem?_take, if_pos hi, List.getElem?_drop]
    simp [World.cell?, h3]

/-- A world that has come out of w by new blocks alone. For regions that draw their order and hold calls that make memory. -/
structure ExtW (w : World) where
  val : World
  below : Below w.heap.size w val
instance instExtW (w : World) : Nonempty (ExtW w) := ⟨⟨w, Below.refl _ _⟩⟩
theorem wp_region_ext {P : Program} {id : Nat} {Q : Exit → Act → World → Prop} {a : Act} {w : World} {l : List Oper} (hm : P.follows .mixedOrders = true) (hB : Region.lexB .any l.toArray = true)
    (h : wpQuiet P l.toArray (fun W => ∃ s : ExtW w, W = s.val) (fun a' => ∀ W, (∃ s : ExtW w, W = s.val) → Q .normal a' W) l a) : (Code.region id l.toArray true).wp P Q a w :=
  wp_region_quiet (C := fun W => ∃ s : ExtW w, W = s.val) hm hB ⟨⟨_, (Below.refl _ _).drew⟩, rfl⟩ (by simpa using h)
theorem calls_ext {P : Program} {f : FuncId} {args : Array Value} {w : World} {s : ExtW w} {v : Value}
    (h : Calls P f args s.val fun e w' => e = .returned v ∧ Below s.val.heap.size s.val w') : Calls P f args s.val fun e W => e = .returned v ∧ ∃ s' : ExtW w, W = s'.val :=
  h.mono fun _ _ ⟨he, hb⟩ => ⟨he, ⟨_, s.below.trans (hb.mono s.below.size)⟩, rfl⟩
theorem calls_ext_same {P : Program} {f : FuncId} {args : Array Value} {w : World} {s : ExtW w} {v : Value}
    (h : Calls P f args s.val fun e w' => e = .returned v ∧ s.val = w') : Calls P f args s.val fun e W => e = .returned v ∧ ∃ s' : ExtW w, W = s'.val :=
  h.mono fun _ _ ⟨he, hb⟩ => ⟨he, s, hb.symm⟩
theorem ExtW.cell {w : World} (s : ExtW w) {b o : Nat} {v : Value} (h : w.cell? ⟨b, o, none⟩ = some v) : s.val.cell? ⟨b, o, none⟩ = some v :=
  (s.below.cell (World.block_lt_of_cell? _ _ h)).trans h

/-- An array by value, indexed: its elements are integers. -/
theorem run_index_ints {P : Program} {T E n : Nat} {ik : IntKind} (hT : P.underlying T = some (.array n E)) (hE : P.underlying E = some (.int ik)) (hs : (P.info? E).map (·.size) = some 1)
    (xs : List Value) (hx : xs.length = n) (k : IntKind) (i : Nat) (hi : i < n) (w : World) :
    (Instr.index T (.agg xs.toArray) (.int k i)).run P w = .ok (xs.getD i undef) w := by
  obtain ⟨inf, h1, h2⟩ : ∃ inf, P.info? E = some inf ∧ inf.size = 1 := by
    cases h : P.info? E with
    | none => simp [h] at hs
    | some inf => exact ⟨inf, rfl, by simpa [h] using hs⟩
  have hi' : i < xs.length := by omega
  have e : xs[i]? = some xs[i] := List.getElem?_eq_getElem hi'
  rw [List.getD_eq_getElem?_getD, e]
  simp [Instr.index, run_underlying hT, run_underlying hE, isAgg, sizeOf, typeInfo, h1, h2, part, hi, asIntOf, e]
end Go.Proofs.Yteofdldlmmkgbaa

/-
  Sizes of tables, stripes.
-/
namespace Go.Proofs.Yteofdldlmmkgbaa
open Go.RowKit
set_option linter.unusedVariables false

/-- How many buckets a table of so many bits has. -/
def tsize (b : Int) : Int := if b < 1 ∨ 12 < b then 0 else 2 ^ b.toNat
theorem tsize_out {b : Int} (h : b < 1 ∨ 12 < b) : tsize b = 0 := by simp [tsize, h]
theorem tsize_in {b : Int} (h : 1 ≤ b ∧ b ≤ 12) : tsize b = 2 ^ b.toNat := by unfold tsize; rw [if_neg (by omega)]
theorem twelve {b : Int} (h : 1 ≤ b ∧ b ≤ 12) : b = 1 ∨ b = 2 ∨ b = 3 ∨ b = 4 ∨ b = 5 ∨ b = 6 ∨ b = 7 ∨ b = 8 ∨ b = 9 ∨ b = 10 ∨ b = 11 ∨ b = 12 := by omega

theorem size_any (b : Int) (w : World) : Calls Try.prog 92 #[.int .i64 b] w fun e w' => e = .returned (.int .i64 (tsize b)) ∧ w' = w := by
  by_cases h1 : b < 1
  · rw [tsize_out (.inl h1)]
    go_enter Try.func92, Try.ntmps92
    go_wp2
    all_goals (go_ret; exact ⟨rfl, rfl⟩)
  by_cases h2 : 12 < b
  · rw [tsize_out (.inr h2)]
    go_enter Try.func92, Try.ntmps92
    go_wp2
    all_goals (go_ret; exact ⟨rfl, rfl⟩)
  · have h3 := twelve (b := b) ⟨by omega, by omega⟩
    clear h1 h2
    rcases h3 with rfl | rfl | rfl | rfl | rfl | rfl | rfl | rfl | rfl | rfl | rfl | rfl
    all_goals (go_enter Try.func92, Try.ntmps92; go_wp2; go_ret; exact ⟨rfl, rfl⟩)
end Go.Proofs.Yteofdldlmmkgbaa

/-
  Words of tables; how many slots there are; may tables grow?
-/
namespace Go.Proofs.Yteofdldlmmkgbaa
open Go.RowKit
set_option linter.unusedVariables false

theorem tsize_zero {b : Int} : tsize b = 0 ↔ b < 1 ∨ 12 < b := by
  unfold tsize
  split
  · simp [*]
  · rename_i h
    have : (2 : Int) ^ b.toNat ≠ 0 := by
      have := Int.pow_pos (n := (2 : Int)) (m := b.toNat) (by omega)
      omega
    simp [this, h]
theorem tsize_le (b : Int) : 0 ≤ tsize b ∧ tsize b ≤ 4096 := by
  by_cases h : 1 ≤ b ∧ b ≤ 12
  · rcases twelve h with rfl | rfl | rfl | rfl | rfl | rfl | rfl | rfl | rfl | rfl | rfl | rfl <;> decide
  · rw [tsize_out (by omega)]; decide

/-- The word of tables. -/
def tword (o n : Int) : Int := o % 256 + 256 * (n % 256)
def asOld (w : Int) : Int := if tsize (w % 256) = 0 then 1 else w % 256
def asNow (w : Int) : Int := if w / 256 % 256 ≠ asOld w + 1 ∨ tsize (w / 256 % 256) = 0 then 0 else w / 256 % 256

theorem word_any (o n : Int) (w : World) : Calls Try.prog 51 #[.int .i64 o, .int .i64 n] w fun e w' => e = .returned (.int .u64 (tword o n)) ∧ w' = w := by
  go_enter Try.func51, Try.ntmps51
  go_wp2
  go_ret
  refine ⟨ret_u64 ?_, rfl⟩
  simp only [tword]

theorem as_any (v : Int) (hv : (Lit.int .u64 v).wf = true) (w : World) : Calls Try.prog 60 #[.int .u64 v] w fun e w' => e = .returned (.tuple #[.int .i64 (asOld v), .int .i64 (asNow v)]) ∧ w' = w := by
  have h0 : 0 ≤ v := by
    have hmin : IntKind.u64.min = 0 := rfl
    simp only [Lit.wf, Bool.and_eq_true, decide_eq_true_eq] at hv; omega
  have e1 : v.tmod 256 = v % 256 := Int.tmod_eq_emod_of_nonneg h0
  have hx : v ≤ 18446744073709551615 := by
    have hmax : IntKind.u64.max = 18446744073709551615 := rfl
    simp only [Lit.wf, Bool.and_eq_true, decide_eq_true_eq] at hv; omega
  have e2 : (IntKind.u64.wrap (v.tdiv 256)).tmod 256 = v / 256 % 256 := by
    rw [Int.tdiv_eq_ediv_of_nonneg h0, IntKind.wrap_u64, Int.tmod_eq_emod_of_nonneg (by omega)]; omega
  clear hx
  unfold asOld asNow asOld
  obtain ⟨o, ho⟩ : ∃ o, o = v % 256 := ⟨_, rfl⟩
  obtain ⟨n, hn⟩ : ∃ n, n = v / 256 % 256 := ⟨_, rfl⟩
  rw [← ho] at e1
  rw [← hn] at e2
  rw [← ho, ← hn]
  have b1 : 0 ≤ o ∧ o < 256 := by omega
  have b2 : 0 ≤ n ∧ n < 256 := by omega
  clear ho hn hv h0
  have key : ∀ (o' : Int) (c : Bool), c = (tsize o == 0) → o' = (if c = true then 1 else o) → 0 ≤ o' → o' < 256 → Calls Try.prog 60 #[.int .u64 v] w fun e w' => e = .returned (.tuple #[.int .i64 o', .int .i64 (if n ≠ o' + 1 ∨ tsize n = 0 then 0 else n)]) ∧ w' = w := by
    intro o' c hc ho' q0 q1
    cases c
    · simp only [Bool.false_eq_true, if_false] at ho'
      rw [ho'] at q0 q1 ⊢
      clear ho'
      have d1 : (tsize o == 0) = false := hc.symm
      clear hc
      cases d2 : (n == o + 1)
      · rw [if_pos (.inl (by simpa using d2))]
        have d2' : (n != o + 1) = true := by simpa using d2
        go_enter Try.func60, Try.ntmps60
        go_wp2_with (go_at_call 92; refine (size_any _ _).mono ?_; rintro e w' ⟨rfl, rfl⟩)
        go_ret2
        exact ⟨rfl, rfl⟩
      · have hn : n = o + 1 := by simpa using d2
        have d2' : (n != o + 1) = false := by simp [hn]
        cases d3 : (tsize n == 0)
        · rw [if_neg (by rintro (c | c); exact c hn; simp [c] at d3)]
          clear hn
          go_enter Try.func60, Try.ntmps60
          go_wp2_with (go_at_call 92; refine (size_any _ _).mono ?_; rintro e w' ⟨rfl, rfl⟩)
          go_ret2
          exact ⟨rfl, rfl⟩
        · rw [if_pos (.inr (by simpa using d3))]
          clear hn
          go_enter Try.func60, Try.ntmps60
          go_wp2_with (go_at_call 92; refine (size_any _ _).mono ?_; rintro e w' ⟨rfl, rfl⟩)
          go_ret2
          exact ⟨rfl, rfl⟩
    · simp only [if_true] at ho'
      subst ho'
      have d1 : (tsize o == 0) = true := hc.symm
      clear hc
      cases d2 : (n == 2)
      · rw [if_pos (.inl (by simpa using d2))]
        have d2' : (n != 2) = true := by simpa using d2
        go_enter Try.func60, Try.ntmps60
        go_wp2_with (go_at_call 92; refine (size_any _ _).mono ?_; rintro e w' ⟨rfl, rfl⟩)
        go_ret2
        exact ⟨rfl, rfl⟩
      · have hn : n = 2 := by simpa using d2
        rw [hn] at e2 ⊢
        have d3 : (tsize 2 == 0) = false := by decide
        rw [if_neg (by decide)]
        clear hn d2 b2 n
        go_enter Try.func60, Try.ntmps60
        go_wp2_with (go_at_call 92; refine (size_any _ _).mono ?_; rintro e w' ⟨rfl, rfl⟩)
        go_ret2
        exact ⟨rfl, rfl⟩
  have hk := key (if tsize o = 0 then 1 else o) (tsize o == 0) rfl (by simp) (by split <;> omega) (by split <;> omega)
  exact hk
end Go.Proofs.Yteofdldlmmkgbaa

/-
  Places: is there a bucket, its stripe, its version's address; the document's, too.
-/
namespace Go.Proofs.Yteofdldlmmkgbaa
open Go.RowKit
set_option linter.unusedVariables false

def hasP (b u : Int) : Bool := decide (0 ≤ u) && decide (u < tsize b)
def stripe (b u : Int) : Int := (u + 31 * b) % 64
def ver (b u : Int) : Int := if hasP b u then 64 + stripe b u else 0
theorem hasP_bits {b u : Int} (h : hasP b u = true) : 1 ≤ b ∧ b ≤ 12 ∧ 0 ≤ u ∧ u < 4096 := by
  simp only [hasP, Bool.and_eq_true, decide_eq_true_eq] at h
  by_cases hb : b < 1 ∨ 12 < b
  · rw [tsize_out hb] at h; omega
  · have h1 := tsize_in (b := b) (by omega)
    rcases twelve (b := b) (by omega) with rfl | rfl | rfl | rfl | rfl | rfl | rfl | rfl | rfl | rfl | rfl | rfl <;> (rw [h1] at h; simp at h; omega)
theorem ver_wf (b u : Int) : (Lit.int .u64 (ver b u)).wf = true := by
  have hmin : IntKind.u64.min = 0 := rfl
  have hmax : IntKind.u64.max = 18446744073709551615 := rfl
  have h : 0 ≤ ver b u ∧ ver b u < 128 := by unfold ver stripe; split <;> omega
  generalize ver b u = t at *
  simp only [Lit.wf, Bool.and_eq_true, decide_eq_true_eq]; omega
theorem box2 (w : World) (b u : Int) (T : TypeId) : ∀ o, (w.alloc (.cells #[.int .i64 b, .int .i64 u] T)).cell? ⟨w.heap.size, o, none⟩ = (#[.int .i64 b, .int .i64 u] : Array Value)[o]? := fun o => by
  have := heap_alloc_new w (.cells #[.int .i64 b, .int .i64 u] T)
  unfold World.cell?; simp only; rw [this]; rfl
theorem below_alloc (w : World) (o : Obj) : Below w.heap.size w (w.alloc o) := (Below.refl _ _).alloc (Nat.le_refl _) _
theorem size_ext (b : Int) {w : World} (st : ExtW w) : Calls Try.prog 92 #[.int .i64 b] st.val fun e w' => e = .returned (.int .i64 (tsize b)) ∧ st.val = w' :=
  (size_any b st.val).mono fun e w' ⟨he, hw⟩ => ⟨he, hw.symm⟩

theorem there_any (b u : Int) (w : World) : Calls Try.prog 93 #[.agg #[.int .i64 b, .int .i64 u]] w fun e w' => e = .returned (.bool (hasP b u)) ∧ Below w.heap.size w w' := by
  have x0 := fun st : ExtW (w.alloc (.cells #[.int .i64 b, .int .i64 u] 53)) => st.cell (box2 w b u 53 0)
  have x1 := fun st : ExtW (w.alloc (.cells #[.int .i64 b, .int .i64 u] 53)) => st.cell (box2 w b u 53 1)
  have hB := below_alloc w (.cells #[.int .i64 b, .int .i64 u] 53)
  unfold hasP
  cases h0 : decide (0 ≤ u)
  all_goals
    go_enter Try.func93, Try.ntmps93
    go_wp2
    refine wp_region_ext (by kernel_rfl) (by kernel_rfl) ?_
    repeat (go_big_quiet_step ((go_at_call 92; with_reducible refine calls_ext_same (size_ext _ _))))
    refine wpQuiet_nil ?_
    rintro W ⟨⟨W2, hW⟩, rfl⟩
    clear x0 x1
    go_wp2
    go_ret
    exact ⟨rfl, hB.trans (hW.mono hB.size)⟩
theorem two_pow_le (k : Nat) (h : k ≤ 12) : (2 : Int) ^ k ≤ 4096 ∧ 1 ≤ (2 : Int) ^ k := by
  have : k = 0 ∨ k = 1 ∨ k = 2 ∨ k = 3 ∨ k = 4 ∨ k = 5 ∨ k = 6 ∨ k = 7 ∨ k = 8 ∨ k = 9 ∨ k = 10 ∨ k = 11 ∨ k = 12 := by omega
  rcases this with rfl | rfl | rfl | rfl | rfl | rfl | rfl | rfl | rfl | rfl | rfl | rfl | rfl <;> decide
theorem rsize_any (b : Int) (w : World) : Calls Try.prog 103 #[.int .i64 b] w fun e w' => e = .returned (.int .i64 (tsize b)) ∧ w' = w := by
  by_cases h1 : b < 1
  · rw [tsize_out (.inl h1)]
    go_enter Try.func103, Try.ntmps103
    go_wp2
    all_goals (go_ret; exact ⟨rfl, rfl⟩)
  by_cases h2 : 12 < b
  · rw [tsize_out (.inr h2)]
    go_enter Try.func103, Try.ntmps103
    go_wp2
    all_goals (go_ret; exact ⟨rfl, rfl⟩)
  · rw [tsize_in ⟨by omega, by omega⟩]
    obtain ⟨n, rfl⟩ := Int.eq_ofNat_of_zero_le (show 0 ≤ b by omega)
    simp only [Int.toNat_natCast]
    have g1 : 1 ≤ (n : Int) := by omega
    have g2 : (n : Int) ≤ 12 := by omega
    clear h1 h2
    go_enter Try.func103, Try.ntmps103
    go_wp2
    go_loop [3, 4] (fun y i => ∃ k : Nat, k ≤ n ∧ i = .int .i64 k ∧ y = .int .i64 ((2 : Int) ^ k)) (fun _ i => n - (intOf i).toNat)
    case atStart => exact ⟨0, by omega, rfl, rfl⟩
    case round =>
      obtain ⟨k, hk, rfl, rfl⟩ := hrel
      by_cases hlt : k < n
      · have hp := two_pow_le k (by omega)
        have h3 : (k : Int) < n := by omega
        have e1 : wrap64 (2 * (2 : Int) ^ k) = 2 * (2 : Int) ^ k := IntWalk.wrap64_in _ (by omega)
        go_wp2
        go_round
        case rel => exact ⟨k + 1, by omega, by go_num, by rw [Int.pow_succ, Int.mul_comm]⟩
        case measure => simp [intOf]; omega
      · obtain rfl : k = n := by omega
        go_wp2
        go_ret
        exact ⟨rfl, rfl⟩
theorem rsize_ext (b : Int) {w : World} (st : ExtW w) : Calls Try.prog 103 #[.int .i64 b] st.val fun e w' => e = .returned (.int .i64 (tsize b)) ∧ st.val = w' :=
  (rsize_any b st.val).mono fun e w' ⟨he, hw⟩ => ⟨he, hw.symm⟩

theorem rthere_any (b u : Int) (w : World) : Calls Try.prog 135 #[.agg #[.int .i64 b, .int .i64 u]] w fun e w' => e = .returned (.bool (hasP b u)) ∧ Below w.heap.size w w' := by
  have x0 := fun st : ExtW (w.alloc (.cells #[.int .i64 b, .int .i64 u] 53)) => st.cell (box2 w b u 53 0)
  have x1 := fun st : ExtW (w.alloc (.cells #[.int .i64 b, .int .i64 u] 53)) => st.cell (box2 w b u 53 1)
  have hB := below_alloc w (.cells #[.int .i64 b, .int .i64 u] 53)
  unfold hasP
  cases h0 : decide (0 ≤ u)
  all_goals
    go_enter Try.func135, Try.ntmps135
    go_wp2
    refine wp_region_ext (by kernel_rfl) (by kernel_rfl) ?_
    repeat (go_big_quiet_step ((go_at_call 103; with_reducible refine calls_ext_same (rsize_ext _ _))))
    refine wpQuiet_nil ?_
    rintro W ⟨⟨W2, hW⟩, rfl⟩
    clear x0 x1
    go_wp2
    go_ret
    exact ⟨rfl, hB.trans (hW.mono hB.size)⟩
end Go.Proofs.Yteofdldlmmkgbaa

/-
  Addresses of a bucket's tags, and of a slot's item; the document's, too.
-/
namespace Go.Proofs.Yteofdldlmmkgbaa
open Go.RowKit
set_option linter.unusedVariables false

def tagsA (b u : Int) : Int := if hasP b u then 4096 + 8 * (tsize b + u) else 0
def hasS (b u s : Int) : Bool := hasP b u && decide (0 ≤ s) && decide (s < 4)
def itemA (b u s : Int) : Int := if hasS b u s then 4096 + 8 * (tsize b + u) + 1 + s else 0
theorem tsize_bd (b : Int) : 0 ≤ tsize b ∧ tsize b ≤ 4096 := by
  by_cases hb : b < 1 ∨ 12 < b
  · rw [tsize_out hb]; omega
  · have h1 := tsize_in (b := b) (by omega)
    rcases twelve (b := b) (by omega) with rfl | rfl | rfl | rfl | rfl | rfl | rfl | rfl | rfl | rfl | rfl | rfl <;> (rw [h1]; decide)
theorem u64_small (t : Int) (h : 0 ≤ t ∧ t < 1000000) : (Lit.int .u64 t).wf = true := by
  have hmin : IntKind.u64.min = 0 := rfl
  have hmax : IntKind.u64.max = 18446744073709551615 := rfl
  simp only [Lit.wf, Bool.and_eq_true, decide_eq_true_eq]; omega
theorem tagsA_bd (b u : Int) : 0 ≤ tagsA b u ∧ tagsA b u < 1000000 := by
  unfold tagsA
  split
  · rename_i h
    have := hasP_bits h; have := tsize_bd b; omega
  · omega
theorem itemA_bd (b u s : Int) : 0 ≤ itemA b u s ∧ itemA b u s < 1000000 := by
  unfold itemA hasS
  split
  · rename_i h
    simp only [Bool.and_eq_true, decide_eq_true_eq] at h
    have := hasP_bits h.1.1; have := tsize_bd b; omega
  · omega
theorem tagsA_wf (b u : Int) : (Lit.int .u64 (tagsA b u)).wf = true := u64_small _ (tagsA_bd b u)
theorem itemA_wf (b u s : Int) : (Lit.int .u64 (itemA b u s)).wf = true := u64_small _ (itemA_bd b u s)
theorem box3 (w : World) (b u s : Int) (T : TypeId) : ∀ o, (w.alloc (.cells #[.int .i64 b, .int .i64 u, .int .i64 s] T)).cell? ⟨w.heap.size, o, none⟩ = (#[.int .i64 b, .int .i64 u, .int .i64 s] : Array Value)[o]? := fun o => by
  have := heap_alloc_new w (.cells #[.int .i64 b, .int .i64 u, .int .i64 s] T)
  unfold World.cell?; simp only; rw [this]; rfl

theorem tags_any (b u : Int) (w : World) : Calls Try.prog 45 #[.agg #[.int .i64 b, .int .i64 u]] w fun e w' => e = .returned (.int .u64 (tagsA b u)) ∧ Below w.heap.size w w' := by
  have z0 := box2 w b u 53 0
  have z1 := box2 w b u 53 1
  have hB := below_alloc w (.cells #[.int .i64 b, .int .i64 u] 53)
  have ht := fun w => there_any b u w
  cases h : hasP b u
  · have e : tagsA b u = 0 := by unfold tagsA; rw [h]; rfl
    rw [e]
    rw [h] at ht
    clear h e
    go_enter Try.func45, Try.ntmps45
    go_wp2_with (go_at_call 93; refine (ht _).mono ?_; rintro e w1 ⟨rfl, b1⟩)
    go_ret
    exact ⟨rfl, hB.trans (b1.mono hB.size)⟩
  · have e : tagsA b u = 4096 + 8 * (tsize b + u) := by unfold tagsA; rw [h]; rfl
    rw [e]
    rw [h] at ht
    have hbd := hasP_bits h
    have htb := tsize_bd b
    have hsz := fun {w : World} (st : ExtW w) => size_ext b st
    generalize tsize b = t at *
    have e1 : wrap64 (t + u) = t + u := IntWalk.wrap64_in _ (by omega)
    have e2 : IntKind.u64.wrap (t + u) = t + u := by rw [IntKind.wrap_u64]; omega
    have e3 : IntKind.u64.wrap (8 * (t + u)) = 8 * (t + u) := by rw [IntKind.wrap_u64]; omega
    have e4 : IntKind.u64.wrap (4096 + 8 * (t + u)) = 4096 + 8 * (t + u) := by rw [IntKind.wrap_u64]; omega
    clear h e
    go_enter Try.func45, Try.ntmps45
    go_wp2_with (go_at_call 93; refine (ht _).mono ?_; rintro e w1 ⟨rfl, b1⟩; have y0 := (b1.cell (p := ⟨w.heap.size, 0, none⟩) (by simp)).trans z0; have y1 := (b1.cell (p := ⟨w.heap.size, 1, none⟩) (by simp)).trans z1; have B1 := hB.trans (b1.mono hB.size); clear z0 z1 b1 ht)
    have x0 := fun st : ExtW w1 => st.cell y0
    have x1 := fun st : ExtW w1 => st.cell y1
    refine wp_region_ext (by kernel_rfl) (by kernel_rfl) ?_
    repeat (go_big_quiet_step ((go_at_call 92; with_reducible refine calls_ext_same (hsz _))))
    refine wpQuiet_nil ?_
    rintro W ⟨⟨W2, hW⟩, rfl⟩
    clear x0 x1 y0 y1
    go_wp2
    go_ret
    exact ⟨rfl, B1.trans (hW.mono B1.size)⟩
theorem rtags_any (b u : Int) (w : World) : Calls Try.prog 108 #[.agg #[.int .i64 b, .int .i64 u]] w fun e w' => e = .returned (.int .u64 (tagsA b u)) ∧ Below w.heap.size w w' := by
  have z0 := box2 w b u 53 0
  have z1 := box2 w b u 53 1
  have hB := below_alloc w (.cells #[.int .i64 b, .int .i64 u] 53)
  have ht := fun w => rthere_any b u w
  cases h : hasP b u
  · have e : tagsA b u = 0 := by unfold tagsA; rw [h]; rfl
    rw [e]
    rw [h] at ht
    clear h e
    go_enter Try.func108, Try.ntmps108
    go_wp2_with (go_at_call 135; refine (ht _).mono ?_; rintro e w1 ⟨rfl, b1⟩)
    go_ret
    exact ⟨rfl, hB.trans (b1.mono hB.size)⟩
  · have e : tagsA b u = 4096 + 8 * (tsize b + u) := by unfold tagsA; rw [h]; rfl
    rw [e]
    rw [h] at ht
    have hbd := hasP_bits h
    have htb := tsize_bd b
    have hsz := fun {w : World} (st : ExtW w) => rsize_ext b st
    generalize tsize b = t at *
    have e1 : wrap64 (8 * t) = 8 * t := IntWalk.wrap64_in _ (by omega)
    have e2 : wrap64 (4096 + 8 * t) = 4096 + 8 * t := IntWalk.wrap64_in _ (by omega)
    have e3 : wrap64 (8 * u) = 8 * u := IntWalk.wrap64_in _ (by omega)
    have e4 : wrap64 (4096 + 8 * t + 8 * u) = 4096 + 8 * (t + u) := by rw [IntWalk.wrap64_in _ (by omega)]; omega
    have e5 : IntKind.u64.wrap (4096 + 8 * (t + u)) = 4096 + 8 * (t + u) := by rw [IntKind.wrap_u64]; omega
    clear h e
    go_enter Try.func108, Try.ntmps108
    go_wp2_with (go_at_call 135; refine (ht _).mono ?_; rintro e w1 ⟨rfl, b1⟩; have y0 := (b1.cell (p := ⟨w.heap.size, 0, none⟩) (by simp)).trans z0; have y1 := (b1.cell (p := ⟨w.heap.size, 1, none⟩) (by simp)).trans z1; have B1 := hB.trans (b1.mono hB.size); clear z0 z1 b1 ht)
    have x0 := fun st : ExtW w1 => st.cell y0
    have x1 := fun st : ExtW w1 => st.cell y1
    refine wp_region_ext (by kernel_rfl) (by kernel_rfl) ?_
    repeat (go_big_quiet_step ((go_at_call 103; with_reducible refine calls_ext_same (hsz _))))
    refine wpQuiet_nil ?_
    rintro W ⟨⟨W2, hW⟩, rfl⟩
    clear x0 x1 y0 y1
    go_wp2
    go_ret
    exact ⟨ret_u64 (by omega), B1.trans (hW.mono B1.size)⟩

theorem item_any (b u s : Int) (hs : (Lit.int .i64 s).wf = true) (w : World) : Calls Try.prog 89 #[.agg #[.int .i64 b, .int .i64 u, .int .i64 s]] w fun e w' => e = .returned (.int .u64 (itemA b u s)) ∧ Below w.heap.size w w' := by
  have z0 := box3 w b u s 55 0
  have z1 := box3 w b u s 55 1
  have z2 := box3 w b u s 55 2
  have hB := below_alloc w (.cells #[.int .i64 b, .int .i64 u, .int .i64 s] 55)
  have ht := fun w => there_any b u w
  cases h : hasS b u s
  · have e : itemA b u s = 0 := by unfold itemA; rw [h]; rfl
    rw [e]
    cases hp : hasP b u
    · rw [hp] at ht
      clear h e hp
      go_enter Try.func89, Try.ntmps89
      go_wp2_with (go_at_call 93; refine (ht _).mono ?_; rintro e w1 ⟨rfl, b1⟩)
      go_ret
      exact ⟨rfl, hB.trans (b1.mono hB.size)⟩
    · rw [hp] at ht
      have hor : s < 0 ∨ 4 ≤ s := by
        unfold hasS at h; rw [hp] at h; simp only [Bool.true_and, Bool.and_eq_false_iff, decide_eq_false_iff_not] at h; omega
      clear h e hp
      rcases hor with hs0 | hs0
      · go_enter Try.func89, Try.ntmps89
        go_wp2_with (go_at_call 93; refine (ht _).mono ?_; rintro e w1 ⟨rfl, b1⟩; have y2 := (b1.cell (p := ⟨w.heap.size, 2, none⟩) (by simp)).trans z2)
        go_ret
        exact ⟨rfl, hB.trans (b1.mono hB.size)⟩
      · have hs1 : 0 ≤ s := by omega
        have hs2 : 3 < s := by omega
        go_enter Try.func89, Try.ntmps89
        go_wp2_with (go_at_call 93; refine (ht _).mono ?_; rintro e w1 ⟨rfl, b1⟩; have y2 := (b1.cell (p := ⟨w.heap.size, 2, none⟩) (by simp)).trans z2)
        go_ret
        exact ⟨rfl, hB.trans (b1.mono hB.size)⟩
  · have e : itemA b u s = 4096 + 8 * (tsize b + u) + 1 + s := by unfold itemA; rw [h]; rfl
    simp only [hasS, Bool.and_eq_true, decide_eq_true_eq] at h
    obtain ⟨⟨hp, hs0⟩, hs4⟩ := h
    have htg : tagsA b u = 4096 + 8 * (tsize b + u) := by unfold tagsA; rw [hp]; rfl
    rw [e, ← htg]
    rw [hp] at ht
    have hbd := tagsA_bd b u
    have htag := fun {w : World} (st : ExtW w) => tags_any b u st.val
    generalize tagsA b u = t at *
    have hs3 : s ≤ 3 := by omega
    have e1 : IntKind.u64.wrap (t + 1) = t + 1 := by rw [IntKind.wrap_u64]; omega
    have e2 : IntKind.u64.wrap s = s := by rw [IntKind.wrap_u64]; omega
    have e3 : IntKind.u64.wrap (t + 1 + s) = t + 1 + s := by rw [IntKind.wrap_u64]; omega
    clear e htg hp
    go_enter Try.func89, Try.ntmps89
    go_wp2_with (go_at_call 93; refine (ht _).mono ?_; rintro e w1 ⟨rfl, b1⟩; have y0 := (b1.cell (p := ⟨w.heap.size, 0, none⟩) (by simp)).trans z0; have y1 := (b1.cell (p := ⟨w.heap.size, 1, none⟩) (by simp)).trans z1; have y2 := (b1.cell (p := ⟨w.heap.size, 2, none⟩) (by simp)).trans z2; have B1 := hB.trans (b1.mono hB.size); clear z0 z1 z2 b1 ht)
    have x0 := fun st : ExtW w1 => st.cell y0
    have x1 := fun st : ExtW w1 => st.cell y1
    have x2 := fun st : ExtW w1 => st.cell y2
    refine wp_region_ext (by kernel_rfl) (by kernel_rfl) ?_
    repeat (go_big_quiet_step ((go_at_call 45; with_reducible refine calls_ext (htag _))))
    refine wpQuiet_nil ?_
    rintro W ⟨⟨W2, hW⟩, rfl⟩
    clear x0 x1 x2 y0 y1 y2
    go_wp2
    go_ret
    exact ⟨ret_u64 (by omega), B1.trans (hW.mono B1.size)⟩

theorem ritem_any (b u s : Int) (hs : (Lit.int .i64 s).wf = true) (w : World) : Calls Try.prog 111 #[.agg #[.int .i64 b, .int .i64 u, .int .i64 s]] w fun e w' => e = .returned (.int .u64 (itemA b u s)) ∧ Below w.heap.size w w' := by
  have z0 := box3 w b u s 55 0
  have z1 := box3 w b u s 55 1
  have z2 := box3 w b u s 55 2
  have hB := below_alloc w (.cells #[.int .i64 b, .int .i64 u, .int .i64 s] 55)
  have ht := fun w => rthere_any b u w
  cases h : hasS b u s
  · have e : itemA b u s = 0 := by unfold itemA; rw [h]; rfl
    rw [e]
    cases hp : hasP b u
    · rw [hp] at ht
      clear h e hp
      go_enter Try.func111, Try.ntmps111
      go_wp2_with (go_at_call 135; refine (ht _).mono ?_; rintro e w1 ⟨rfl, b1⟩)
      go_ret
      exact ⟨rfl, hB.trans (b1.mono hB.size)⟩
    · rw [hp] at ht
      have hor : s < 0 ∨ 4 ≤ s := by
        unfold hasS at h; rw [hp] at h; simp only [Bool.true_and, Bool.and_eq_false_iff, decide_eq_false_iff_not] at h; omega
      clear h e hp
      rcases hor with hs0 | hs0
      · go_enter Try.func111, Try.ntmps111
        go_wp2_with (go_at_call 135; refine (ht _).mono ?_; rintro e w1 ⟨rfl, b1⟩; have y2 := (b1.cell (p := ⟨w.heap.size, 2, none⟩) (by simp)).trans z2)
        go_ret
        exact ⟨rfl, hB.trans (b1.mono hB.size)⟩
      · have hs1 : 0 ≤ s := by omega
        have hs2 : 3 < s := by omega
        go_enter Try.func111, Try.ntmps111
        go_wp2_with (go_at_call 135; refine (ht _).mono ?_; rintro e w1 ⟨rfl, b1⟩; have y2 := (b1.cell (p := ⟨w.heap.size, 2, none⟩) (by simp)).trans z2)
        go_ret
        exact ⟨rfl, hB.trans (b1.mono hB.size)⟩
  · have e : itemA b u s = 4096 + 8 * (tsize b + u) + 1 + s := by unfold itemA; rw [h]; rfl
    simp only [hasS, Bool.and_eq_true, decide_eq_true_eq] at h
    obtain ⟨⟨hp, hs0⟩, hs4⟩ := h
    have htg : tagsA b u = 4096 + 8 * (tsize b + u) := by unfold tagsA; rw [hp]; rfl
    rw [e, ← htg]
    rw [hp] at ht
    have hbd := tagsA_bd b u
    have htag := fun {w : World} (st : ExtW w) => rtags_any b u st.val
    generalize tagsA b u = t at *
    have hs3 : s ≤ 3 := by omega
    have e1 : wrap64 (1 + s) = 1 + s := IntWalk.wrap64_in _ (by omega)
    have e2 : IntKind.u64.wrap (1 + s) = 1 + s := by rw [IntKind.wrap_u64]; omega
    have e3 : IntKind.u64.wrap (t + (1 + s)) = t + (1 + s) := by rw [IntKind.wrap_u64]; omega
    clear e htg hp
    go_enter Try.func111, Try.ntmps111
    go_wp2_with (go_at_call 135; refine (ht _).mono ?_; rintro e w1 ⟨rfl, b1⟩; have y0 := (b1.cell (p := ⟨w.heap.size, 0, none⟩) (by simp)).trans z0; have y1 := (b1.cell (p := ⟨w.heap.size, 1, none⟩) (by simp)).trans z1; have y2 := (b1.cell (p := ⟨w.heap.size, 2, none⟩) (by simp)).trans z2; have B1 := hB.trans (b1.mono hB.size); clear z0 z1 z2 b1 ht)
    have x0 := fun st : ExtW w1 => st.cell y0
    have x1 := fun st : ExtW w1 => st.cell y1
    have x2 := fun st : ExtW w1 => st.cell y2
    refine wp_region_ext (by kernel_rfl) (by kernel_rfl) ?_
    repeat (go_big_quiet_step ((go_at_call 108; with_reducible refine calls_ext (htag _))))
    refine wpQuiet_nil ?_
    rintro W ⟨⟨W2, hW⟩, rfl⟩
    clear x0 x1 x2 y0 y1 y2
    go_wp2
    go_ret
    exact ⟨ret_u64 (by omega), B1.trans (hW.mono B1.size)⟩
end Go.Proofs.Yteofdldlmmkgbaa

/-
  Of the old blocks only those of a set have turned.
-/
namespace Go.Proofs.Yteofdldlmmkgbaa
open Go.RowKit
set_option linter.unusedVariables false
/-- Of the old blocks only those of S have turned. -/
structure Keeps (S : Nat → Prop) (w w' : World) : Prop where
  os : w'.os = w.os
  tape : w'.tape = w.tape
  output : w'.output = w.output
  size : w.heap.size ≤ w'.heap.size
  block : ∀ k, k < w.heap.size → ¬ S k → w'.heap[k]? = w.heap[k]?

theorem Keeps.trans {S T : Nat → Prop} {a b c : World} (h : Keeps S a b) (k : Keeps T b c) : Keeps (fun x => S x ∨ T x) a c :=
  ⟨k.os.trans h.os, k.tape.trans h.tape, k.output.trans h.output, Nat.le_trans h.size k.size, fun i hi hn => (k.block i (Nat.lt_of_lt_of_le hi h.size) (fun c => hn (.inr c))).trans (h.block i hi (fun c => hn (.inl c)))⟩
theorem Keeps.mono {S T : Nat → Prop} {a b : World} (h : Keeps S a b) (hs : ∀ k, k < a.heap.size → S k → T k) : Keeps T a b :=
  ⟨h.os, h.tape, h.output, h.size, fun k hk hn => h.block k hk (fun c => hn (hs k hk c))⟩
theorem below_keeps {w w' : World} (h : Below w.heap.size w w') (S : Nat → Prop) : Keeps S w w' := ⟨h.os, h.tape, h.output, h.size, fun k hk _ => h.block k hk⟩
theorem keeps_below {S : Nat → Prop} {B : Nat} {w0 w w' : World} (h : Keeps S w w') (hb : Below B w0 w) (hB : B ≤ w.heap.size) (hs : ∀ k, S k → B ≤ k) : Below B w0 w' :=
  hb.trans ⟨h.os, h.tape, h.output, h.size, fun k hk => h.block k (by omega) (fun c => by have := hs k c; omega)⟩

theorem setCell_same {w : World} {p T : Nat} {cs : Array Value} (h : w.heap[p]? = some (.cells cs T (0, 0))) (o : Nat) (v : Value) :
    (w.setCell ⟨p, o, none⟩ v).heap[p]? = some (.cells (cs.setIfInBounds o v) T (0, 0)) := by simp [World.setCell, Array.getElem?_modify, h]
theorem setCell_keeps (w : World) (p o : Nat) (v : Value) : Keeps (· = p) w (w.setCell ⟨p, o, none⟩ v) :=
  ⟨rfl, rfl, rfl, by simp [World.setCell], fun k hk hn => Below.heap_setCell _ _ _ _ hn⟩
theorem Keeps.again {S : Nat → Prop} {a b c : World} (h : Keeps S a b) (k : Keeps S b c) : Keeps S a c :=
  (h.trans k).mono fun x _ hx => hx.elim id id
end Go.Proofs.Yteofdldlmmkgbaa

/-
  Lists of places, lists of addresses; the stripes of places.
-/
namespace Go.Proofs.Yteofdldlmmkgbaa
open Go.RowKit
set_option linter.unusedVariables false

theorem own_below {w w' : World} {base e size n : Nat} {v : Value} {xs : List Value} (h : w.ownsRow base e size v n xs) (hb : Below w.heap.size w w') : w'.ownsRow base e size v n xs := by
  obtain ⟨h1, h2 | ⟨g, cap, cur, rfl, hb1, hg, r⟩⟩ := h
  · exact ⟨h1, .inl h2⟩
  · exact ⟨h1, .inr ⟨g, cap, cur, rfl, hb1, (hb.block g (Array.getElem?_eq_some_iff.1 hg).1).trans hg, r⟩⟩

/-- A list of places that may be read. -/
structure Plc (w : World) (a : Option Addr) (cap : Nat) (l : List (Int × Int)) : Prop where
  le : l.length ≤ cap
  most : cap ≤ maxLen
  nil : a = none → cap = 0
  cell : l = [] ∨ ∃ b off, a = some ⟨b, off, none⟩ ∧ ∀ i, (hi : i < l.length) → w.cell? ⟨b, off + i * 2, none⟩ = some (.int .i64 (l[i]).1) ∧ w.cell? ⟨b, off + i * 2 + 1, none⟩ = some (.int .i64 (l[i]).2)
theorem Plc.at {w : World} {a : Option Addr} {cap : Nat} {l : List (Int × Int)} (h : Plc w a cap l) (i : Nat) (hi : i < l.length) :
    ∃ b off x y, a = some ⟨b, off, none⟩ ∧ l[i]? = some (x, y) ∧ w.cell? ⟨b, off + i * 2, none⟩ = some (.int .i64 x) ∧ w.cell? ⟨b, off + i * 2 + 1, none⟩ = some (.int .i64 y) := by
  rcases h.cell with rfl | ⟨b, off, rfl, h5⟩
  · simp at hi
  · exact ⟨b, off, l[i].1, l[i].2, rfl, List.getElem?_eq_getElem hi, h5 i hi⟩
theorem Plc.below {w w' : World} {a : Option Addr} {cap : Nat} {l : List (Int × Int)} (h : Plc w a cap l) (hb : Below w.heap.size w w') : Plc w' a cap l := by
  refine ⟨h.le, h.most, h.nil, h.cell.imp id fun ⟨b, off, e, h5⟩ => ⟨b, off, e, fun i hi => ?_⟩⟩
  obtain ⟨h6, h7⟩ := h5 i hi
  exact ⟨(hb.cell (World.block_lt_of_cell? _ _ h6)).trans h6, (hb.cell (World.block_lt_of_cell? _ _ h7)).trans h7⟩

/-- The stripes of places, each once. -/
def vstep (out : List Int) (p : Int × Int) : List Int := if ver p.1 p.2 = 0 then out else if out.contains (ver p.1 p.2) then out else out ++ [ver p.1 p.2]
def vof (l : List (Int × Int)) : List Int := l.foldl vstep []
def cu (l : List Int) : List Value := l.map (Value.int .u64)
theorem vof_take {l : List (Int × Int)} {k : Nat} {x y : Int} (h : l[k]? = some (x, y)) : vof (l.take (k + 1)) = vstep (vof (l.take k)) (x, y) := by
  unfold vof
  rw [List.take_add_one, h, List.foldl_append]
  rfl
theorem vstep_len (out : List Int) (p : Int × Int) : (vstep out p).length ≤ out.length + 1 := by
  unfold vstep; split
  · omega
  · split
    · omega
    · simp
theorem vof_len (l : List (Int × Int)) : (vof l).length ≤ l.length := by
  have : ∀ (l : List (Int × Int)) (o : List Int), (l.foldl vstep o).length ≤ o.length + l.length := by
    intro l
    induction l with
    | nil => intro o; simp
    | cons x l ih => intro o; have := ih (vstep o x); have := vstep_len o x; simp only [List.foldl_cons, List.length_cons]; omega
  have := this l []
  unfold vof; simpa using this

/-- The first place at which a stands from k on, or -1. -/
def fidx (xs : List Int) (a : Int) (k : Nat) : Int := match xs with
  | [] => -1
  | x :: r => if a = x then k else fidx r a (k + 1)
theorem fidx_ge (xs : List Int) (a : Int) (k : Nat) : decide (0 ≤ fidx xs a k) = xs.contains a := by
  induction xs generalizing k with
  | nil => rfl
  | cons x r ih =>
    unfold fidx
    split
    · rename_i h; subst h; simp
    · rename_i h; rw [ih]; simp [h]
theorem fidx_drop {xs : List Int} {a y : Int} {k : Nat} (h : xs[k]? = some y) : fidx (xs.drop k) a k = if a = y then (k : Int) else fidx (xs.drop (k + 1)) a (k + 1) := by
  have hk : k < xs.length := (List.getElem?_eq_some_iff.1 h).1
  rw [List.drop_eq_getElem_cons hk]
  have : xs[k] = y := (List.getElem?_eq_some_iff.1 h).2
  rw [this]; rfl

theorem conf_b {a b : Bool} (h : a = b) : Ending.returned (.bool a) = .returned (.bool b) := by rw [h]
/-- A list of addresses that the call itself made, without room behind it. -/
def Adr (w : World) (base : Nat) (v : Value) (xs : List Int) : Prop :=
  (v = .slice none 0 0 ∧ xs = []) ∨ ∃ g cur, v = .slice (some ⟨g, 0, none⟩) xs.length xs.length ∧ base ≤ g ∧ w.heap[g]? = some (.cells cur 56 (0, 0)) ∧ xs.length ≤ maxLen ∧ cur.toList.take xs.length = cu xs
theorem Adr.keep {w w' : World} {base : Nat} {v : Value} {xs : List Int} (h : Adr w base v xs) (hb : Below w.heap.size w w') : Adr w' base v xs := by
  rcases h with h | ⟨g, cur, rfl, h1, h2, h3⟩
  · exact .inl h
  · exact .inr ⟨g, cur, rfl, h1, (hb.block g (Array.getElem?_eq_some_iff.1 h2).1).trans h2, h3⟩

theorem info_addr : (Try.prog.info? 56).map (fun i => (i.zero, i.size, i.bytes)) = some (some (.int .u64 0), 1, 8) := by kernel_rfl
end Go.Proofs.Yteofdldlmmkgbaa
