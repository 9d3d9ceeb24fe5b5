/-
  Texts of this prover, merged: CellsOps, CellsNew, CellsWords0.
-/
import Derived.Test.YteofdldlmmkgbaaG3
import Derived.Deep.RegionWith
import Derived.Maps.RangeWalk
/-
  Load, Store, Swap, Add, CAS, Count, Last, Peek of cells.
-/
namespace Go.Proofs.Yteofdldlmmkgbaa
open Go.RowKit Go.Maps
set_option linter.unusedVariables false

/-- What an access of cells leaves. -/
def Acc (w : World) (base b : Nat) (s' : CS) (S : Nat → Prop) (w' : World) : Prop :=
  ∃ S', Cells w' base b s' S' ∧ Keeps S w w' ∧ ∀ k, S' k → S k ∨ w.heap.size ≤ k

theorem cell_of_word {w : World} {p : Nat} {v : Int} (h : w.heap[p]? = some (wordC v)) : w.cell? ⟨p, 0, none⟩ = some (.int .u64 v) := by simp [World.cell?, h, wordC]
theorem free_of_word {w : World} {p : Nat} {v : Int} (h : w.heap[p]? = some (wordC v)) : w.frozen? ⟨p, 0, none⟩ = false := by simp [World.frozen?, h, wordC]
theorem word_set {w : World} {p : Nat} {v : Int} (h : w.heap[p]? = some (wordC v)) (y : Int) : (w.setCell ⟨p, 0, none⟩ (.int .u64 y)).heap[p]? = some (wordC y) := by
  have := setCell_same h 0 (.int .u64 y); simpa [wordC] using this

theorem load_any (w : World) (base b : Nat) (s : CS) (S : Nat → Prop) (hA : Cells w base b s S) (a : Int) (ha : (Lit.int .u64 a).wf = true) (hn : s.n < lim) (hc : s.cnt < lim) (hbase : base ≤ w.heap.size) :
    Calls Try.prog 120 #[.pointer (some ⟨b, 0, none⟩), .int .u64 a] w fun e w' => e = .returned (.int .u64 (s.val a)) ∧ Acc w base b (s.acc 1 a (s.val a)) S w' := by
  have hw : (Lit.int .u64 (s.val a)).wf = true := by obtain ⟨mo, f, h, rfl⟩ := hA; exact h.wf a
  have key := access_gen 77 #[] 1 w base b s S hA a ha hn hc hbase (s.val a) (s.val a) hw (fun _ => False) (fun _ => none) (fun k h => h.elim) rfl (fun args w => by kernel_rfl)
    (fun w1 p _ _ hp => (a_load p _ w1 (cell_of_word hp)).mono (by rintro e w2 ⟨rfl, rfl⟩; exact ⟨rfl, hp, below_keeps (Below.refl _ _) _, fun k h => h.elim⟩))
  clear hA ha hn hc
  go_enter Try.func120, Try.ntmps120
  go_wp2_with (go_at_call 70; refine key.mono ?_; rintro e w1 ⟨S', rfl, h1, h2, h3, -⟩)
  go_ret
  exact ⟨rfl, S', h1, h2.mono (fun k _ h => h.elim id False.elim), h3⟩

/-- A block of one captured word. -/
theorem cap_cell {w w1 : World} {S : Nat → Prop} {q : Nat} {v : Int} (h : w.heap[q]? = some (.cells #[.int .u64 v] 39 (0, 0))) (hk : Keeps S w w1) (hq : ¬ S q) : w1.cell? ⟨q, 0, none⟩ = some (.int .u64 v) := by
  have h2 : w1.heap[q]? = some (.cells #[.int .u64 v] 39 (0, 0)) := (hk.block q (Array.getElem?_eq_some_iff.1 h).1 hq).trans h
  simp [World.cell?, h2]

theorem swaps1 (w1 : World) (p q : Nat) (x v : Int) (hp : w1.heap[p]? = some (wordC x)) (hq : w1.cell? ⟨q, 0, none⟩ = some (.int .u64 v)) :
    Calls Try.prog 141 #[.pointer (some ⟨p, 0, none⟩), .pointer (some ⟨q, 0, none⟩)] w1 fun e w2 => e = .returned (.int .u64 x) ∧ w2 = w1.setCell ⟨p, 0, none⟩ (.int .u64 v) := by
  have h1 := cell_of_word hp
  have h2 := free_of_word hp
  clear hp
  go_enter Try.func141, Try.ntmps141
  go_wp2_with (go_at_call 142; refine (a_swap p x v _ h1 h2).mono ?_; rintro e w' ⟨rfl, rfl⟩)
  go_ret
  exact ⟨rfl, rfl⟩
theorem swaps_any (w : World) (v : Int) : Calls Try.prog 122 #[.int .u64 v] w fun e w2 => e = .returned (.func (.func 141) #[] #[.pointer (some ⟨w.heap.size, 0, none⟩)]) ∧ w2 = w.alloc (.cells #[.int .u64 v] 39) := by
  have hmf : ∀ (fn : Fn) (first cap : Array Value) (w : World), (Instr.makeFunc fn first cap).run Try.prog w = .ok (.func fn first cap) w := fun _ _ _ _ => rfl
  go_enter Try.func122, Try.ntmps122
  go_wp2
  go_ret
  exact ⟨rfl, rfl⟩

theorem acc_alloc {w w' : World} {base b : Nat} {s' : CS} {S : Nat → Prop} {o : Obj} (h : Acc (w.alloc o) base b s' S w') : Acc w base b s' S w' := by
  obtain ⟨S', h1, h2, h3⟩ := h
  exact ⟨S', h1, (below_keeps ((Below.refl _ _).alloc (Nat.le_refl _) _) S).again h2, fun k hk => (h3 k hk).imp id (fun h => by simp at h; omega)⟩

theorem swap_key (kd : Int) (w : World) (base b : Nat) (s : CS) (S : Nat → Prop) (hA : Cells w base b s S) (a v : Int) (ha : (Lit.int .u64 a).wf = true) (hv : (Lit.int .u64 v).wf = true) (hn : s.n < lim) (hc : s.cnt < lim) (hbase : base ≤ w.heap.size) :
    Calls Try.prog 70 #[.pointer (some ⟨b, 0, none⟩), .int .u8 kd, .int .u64 a, .func (.func 141) #[] #[.pointer (some ⟨w.heap.size, 0, none⟩)]] (w.alloc (.cells #[.int .u64 v] 39)) fun e w' =>
      e = .returned (.int .u64 (s.val a)) ∧ Acc w base b (s.acc kd a v) S w' := by
  have hS := hA.fp
  refine (access_gen 141 #[.pointer (some ⟨w.heap.size, 0, none⟩)] kd (w.alloc (.cells #[.int .u64 v] 39)) base b s S (hA.below ((Below.refl _ _).alloc (Nat.le_refl _) _)) a ha hn hc (by simp; omega) v (s.val a) hv (fun _ => False) (fun _ => none) (fun k h => h.elim) rfl (fun args w => by kernel_rfl)
    (fun w1 p hk hS2 hp => (swaps1 w1 p w.heap.size _ v hp (cap_cell (heap_alloc_new w _) hk (fun c => by have := (hS _ c).2; omega))).mono ?_)).mono ?_
  · rintro e w2 ⟨rfl, rfl⟩
    exact ⟨rfl, word_set hp v, (setCell_keeps w1 p 0 _).mono fun k _ h => .inl h, fun k h => h.elim⟩
  · rintro e w2 ⟨S', rfl, h1, h2, h3, -⟩
    exact ⟨rfl, acc_alloc ⟨S', h1, h2.mono (fun k _ h => h.elim id False.elim), h3⟩⟩

theorem store_any (w : World) (base b : Nat) (s : CS) (S : Nat → Prop) (hA : Cells w base b s S) (a v : Int) (ha : (Lit.int .u64 a).wf = true) (hv : (Lit.int .u64 v).wf = true) (hn : s.n < lim) (hc : s.cnt < lim) (hbase : base ≤ w.heap.size) :
    Calls Try.prog 83 #[.pointer (some ⟨b, 0, none⟩), .int .u64 a, .int .u64 v] w fun e w' => e = .returned (.int .u64 (s.val a)) ∧ Acc w base b (s.acc 2 a v) S w' := by
  have key := swap_key 2 w base b s S hA a v ha hv hn hc hbase
  clear hA ha hn hc hv
  go_enter Try.func83, Try.ntmps83
  go_wp2_with (first | (go_at_call 122; refine (swaps_any _ v).mono ?_; rintro e w1 ⟨rfl, rfl⟩) | (go_at_call 70; refine key.mono ?_; rintro e w1 ⟨rfl, h1⟩))
  go_ret
  exact ⟨rfl, h1⟩
theorem add1 (w1 : World) (p q : Nat) (x v : Int) (hx : (Lit.int .u64 x).wf = true) (hp : w1.heap[p]? = some (wordC x)) (hq : w1.cell? ⟨q, 0, none⟩ = some (.int .u64 v)) (hpq : q ≠ p) :
    Calls Try.prog 71 #[.pointer (some ⟨p, 0, none⟩), .pointer (some ⟨q, 0, none⟩)] w1 fun e w2 => e = .returned (.int .u64 x) ∧ w2 = w1.drew.setCell ⟨p, 0, none⟩ (.int .u64 (wu (x + v))) := by
  have h1 := cell_of_word hp
  have h2 := free_of_word hp
  have hq2 : (w1.drew.setCell ⟨p, 0, none⟩ (.int .u64 (wu (x + v)))).cell? ⟨q, 0, none⟩ = some (.int .u64 v) := by rw [World.cell?_setCell_other _ _ _ _ (by simp)]; exact hq
  have hb := wu_back v hx
  have HX := Lib.hid hx
  clear hp hx
  go_enter Try.func71, Try.ntmps71
  go_wp2
  go_region_with (go_at_call 72; refine (a_add p x v w1.drew h1 h2).mono ?_; rintro e w' ⟨rfl, rfl⟩)
  all_goals (try go_wp2)
  all_goals (go_ret; exact ⟨rfl, rfl⟩)

theorem add_any (w : World) (base b : Nat) (s : CS) (S : Nat → Prop) (hA : Cells w base b s S) (a v : Int) (ha : (Lit.int .u64 a).wf = true) (hn : s.n < lim) (hc : s.cnt < lim) (hbase : base ≤ w.heap.size) :
    Calls Try.prog 22 #[.pointer (some ⟨b, 0, none⟩), .int .u64 a, .int .u64 v] w fun e w' => e = .returned (.int .u64 (s.val a)) ∧ Acc w base b (s.acc 4 a (wu (s.val a + v))) S w' := by
  have hS := hA.fp
  have hwf : (Lit.int .u64 (s.val a)).wf = true := by obtain ⟨mo, f, h, rfl⟩ := hA; exact h.wf a
  have hmf : ∀ (fn : Fn) (first cap : Array Value) (w : World), (Instr.makeFunc fn first cap).run Try.prog w = .ok (.func fn first cap) w := fun _ _ _ _ => rfl
  have key := access_gen 71 #[.pointer (some ⟨w.heap.size, 0, none⟩)] 4 (w.alloc (.cells #[.int .u64 v] 39)) base b s S (hA.below ((Below.refl _ _).alloc (Nat.le_refl _) _)) a ha hn hc (by simp; omega) (wu (s.val a + v)) (s.val a) (wf_wu _) (fun _ => False) (fun _ => none) (fun k h => h.elim) rfl (fun args w => by kernel_rfl)
    (fun w1 p hk hS2 hp => (add1 w1 p w.heap.size _ v hwf hp (cap_cell (heap_alloc_new w _) hk (fun c => by have := (hS _ c).2; omega)) (fun c => by
      rcases hS2 with q | q
      · have := (hS _ q).2; omega
      · simp at q; omega)).mono (by
        rintro e w2 ⟨rfl, rfl⟩
        refine ⟨rfl, ?_, ?_, fun k h => h.elim⟩
        · exact word_set (w := w1.drew) hp _
        · have := (below_keeps (below_drewN w1 1) (fun k => k = p ∨ False)).again ((setCell_keeps w1.drew p 0 (.int .u64 (wu (s.val a + v)))).mono fun k _ h => .inl h)
          exact this))
  clear hA ha hn hc hwf hS
  go_enter Try.func22, Try.ntmps22
  go_wp2_with (go_at_call 70; refine key.mono ?_; rintro e w1 ⟨S', rfl, h1, h2, h3, -⟩)
  go_ret
  exact ⟨rfl, acc_alloc ⟨S', h1, h2.mono (fun k _ h => h.elim id False.elim), h3⟩⟩

/-- The block that says whether a CAS was done. -/
def doneC (d : Bool) : Obj := .cells #[.bool d] 4 (0, 0)
theorem cas1 (w1 : World) (p q1 q2 d : Nat) (x a b : Int) (d0 : Bool) (hp : w1.heap[p]? = some (wordC x)) (ha : w1.cell? ⟨q1, 0, none⟩ = some (.int .u64 a)) (hb : w1.cell? ⟨q2, 0, none⟩ = some (.int .u64 b)) (hd : w1.heap[d]? = some (doneC d0))
    (hpd : p ≠ d) (hq1 : q1 ≠ p) (hq1d : q1 ≠ d) :
    Calls Try.prog 117 #[.pointer (some ⟨p, 0, none⟩), .pointer (some ⟨q1, 0, none⟩), .pointer (some ⟨q2, 0, none⟩), .pointer (some ⟨d, 0, none⟩)] w1 fun e w2 => e = .returned (.int .u64 x) ∧
      w2.heap[p]? = some (wordC (if x = a then b else x)) ∧ Keeps (fun k => k = p ∨ k = d) w1 w2 ∧ w2.heap[d]? = some (doneC (x == a)) := by
  have h1 := cell_of_word hp
  have h2 := free_of_word hp
  have hd1 : w1.cell? ⟨d, 0, none⟩ = some (.bool d0) := by simp [World.cell?, hd, doneC]
  have hd2 : w1.frozen? ⟨d, 0, none⟩ = false := by simp [World.frozen?, hd, doneC]
  by_cases hx : x = a
  · subst hx
    have k1 := setCell_keeps w1 p 0 (.int .u64 b)
    have hdw : (w1.setCell ⟨p, 0, none⟩ (.int .u64 b)).heap[d]? = some (doneC d0) := by rw [k1.block d (Array.getElem?_eq_some_iff.1 hd).1 (Ne.symm hpd)]; exact hd
    have k2 := setCell_keeps (w1.setCell ⟨p, 0, none⟩ (.int .u64 b)) d 0 (.bool true)
    have hpw := word_set hp b
    have HP := Lib.hid hp; have HD := Lib.hid hd; have HDW := Lib.hid hdw; have HPW := Lib.hid hpw; have K1 := Lib.hid k1; have K2 := Lib.hid k2
    have hd1' : (w1.setCell ⟨p, 0, none⟩ (.int .u64 b)).cell? ⟨d, 0, none⟩ = some (.bool d0) := by simp [World.cell?, hdw, doneC]
    have hd2' : (w1.setCell ⟨p, 0, none⟩ (.int .u64 b)).frozen? ⟨d, 0, none⟩ = false := by simp [World.frozen?, hdw, doneC]
    have e1 : ((w1.setCell ⟨p, 0, none⟩ (.int .u64 b)).setCell ⟨d, 0, none⟩ (.bool true)).cell? ⟨d, 0, none⟩ = some (.bool true) := by simp [World.cell?, setCell_same hdw]
    have e2 : ((w1.setCell ⟨p, 0, none⟩ (.int .u64 b)).setCell ⟨d, 0, none⟩ (.bool true)).cell? ⟨q1, 0, none⟩ = some (.int .u64 x) := by
      rw [World.cell?_setCell_other _ _ _ _ (by simp), World.cell?_setCell_other _ _ _ _ (by simp)]; exact ha
    clear hp hd hdw hpw k1 k2
    go_enter Try.func117, Try.ntmps117
    go_wp2_with (go_at_call 118; refine (a_cas_hit p x b _ h1 h2).mono ?_; rintro e w' ⟨rfl, rfl⟩)
    go_ret
    refine ⟨rfl, ?_, ?_, ?_⟩
    · rw [K2.out.block p (by simp [World.setCell]; exact (Array.getElem?_eq_some_iff.1 HP.out).1) hpd]; exact HPW.out
    · exact (K1.out.mono fun k _ h => .inl h).again (K2.out.mono fun k _ h => .inr h)
    · rw [setCell_same HDW.out]; rfl
  · have k2 := setCell_keeps w1 d 0 (.bool false)
    have e1 : (w1.setCell ⟨d, 0, none⟩ (.bool false)).cell? ⟨d, 0, none⟩ = some (.bool false) := by simp [World.cell?, setCell_same hd]
    have e2 : (w1.setCell ⟨d, 0, none⟩ (.bool false)).cell? ⟨p, 0, none⟩ = some (.int .u64 x) := by
      rw [World.cell?_setCell_other _ _ _ _ (by simp)]; exact h1
    have hxb : (x == a) = false := by simp [hx]
    have HP := Lib.hid hp; have HD := Lib.hid hd; have K2 := Lib.hid k2
    clear hp hd k2
    go_enter Try.func117, Try.ntmps117
    go_wp2_with (first | (go_at_call 118; refine (a_cas_miss p x a b _ h1 h2 hx).mono ?_; rintro e w' ⟨rfl, rfl⟩) | (go_at_call 77; refine (a_load p x _ e2).mono ?_; rintro e w' ⟨rfl, rfl⟩))
    go_ret
    refine ⟨rfl, ?_, K2.out.mono fun k _ h => .inr h, ?_⟩
    · rw [K2.out.block p (Array.getElem?_eq_some_iff.1 HP.out).1 hpd]; exact HP.out
    · rw [setCell_same HD.out]; rfl

theorem cas_any (w : World) (base b : Nat) (s : CS) (S : Nat → Prop) (hA : Cells w base b s S) (a x y : Int) (ha : (Lit.int .u64 a).wf = true) (hy : (Lit.int .u64 y).wf = true) (hn : s.n < lim) (hc : s.cnt < lim) (hbase : base ≤ w.heap.size) :
    Calls Try.prog 79 #[.pointer (some ⟨b, 0, none⟩), .int .u64 a, .int .u64 x, .int .u64 y] w fun e w' => e = .returned (.tuple #[.int .u64 (s.val a), .bool (s.val a == x)]) ∧
      Acc w base b (s.acc 3 a (if s.val a = x then y else s.val a)) S w' := by
  have hS := hA.fp
  have hwf : (Lit.int .u64 (s.val a)).wf = true := by obtain ⟨mo, f, h, rfl⟩ := hA; exact h.wf a
  have hmf : ∀ (fn : Fn) (first cap : Array Value) (w : World), (Instr.makeFunc fn first cap).run Try.prog w = .ok (.func fn first cap) w := fun _ _ _ _ => rfl
  obtain ⟨w0, hw0⟩ : ∃ w0, w0 = ((w.alloc (.cells #[.int .u64 x] 39)).alloc (.cells #[.int .u64 y] 39)).alloc (.cells #[.bool false] 4) := ⟨_, rfl⟩
  have hB : Below w.heap.size w w0 := by rw [hw0]; exact (((Below.refl _ _).alloc (Nat.le_refl _) _).alloc (by simp) _).alloc (by simp; omega) _
  have hsz : w0.heap.size = w.heap.size + 3 := by rw [hw0]; simp
  have q1 : w0.heap[w.heap.size]? = some (.cells #[.int .u64 x] 39 (0, 0)) := by
    rw [hw0, Below.heap_alloc _ _ _ (by simp; omega), Below.heap_alloc _ _ _ (by simp)]; exact heap_alloc_new w _
  have q2 : w0.heap[w.heap.size + 1]? = some (.cells #[.int .u64 y] 39 (0, 0)) := by
    rw [hw0, Below.heap_alloc _ _ _ (by simp)]
    have := heap_alloc_new (w.alloc (.cells #[.int .u64 x] 39)) (.cells #[.int .u64 y] 39)
    simpa using this
  have q3 : w0.heap[w.heap.size + 2]? = some (doneC false) := by
    rw [hw0]
    have := heap_alloc_new ((w.alloc (.cells #[.int .u64 x] 39)).alloc (.cells #[.int .u64 y] 39)) (.cells #[.bool false] 4)
    have e2 : ((w.alloc (.cells #[.int .u64 x] 39)).alloc (.cells #[.int .u64 y] 39)).heap.size = w.heap.size + 2 := by simp
    rw [e2] at this
    exact this
  have hA0 := hA.below hB
  have hi : (Lit.int .u64 (if s.val a = x then y else s.val a)).wf = true := by split <;> assumption
  have hSn : ∀ k, w.heap.size ≤ k → ¬ S k := fun k hk c => by have := (hS k c).2; omega
  have hpn : ∀ p k, (S p ∨ w0.heap.size ≤ p) → w.heap.size ≤ k → k < w0.heap.size → p ≠ k := fun p k h h1 h2 c => by
    rcases h with q | q
    · have := (hS _ q).2; omega
    · omega
  have key := access_gen 117 #[.pointer (some ⟨w.heap.size, 0, none⟩), .pointer (some ⟨w.heap.size + 1, 0, none⟩), .pointer (some ⟨w.heap.size + 2, 0, none⟩)] 3 w0 base b s S hA0 a ha hn hc (by omega)
    (if s.val a = x then y else s.val a) (s.val a) hi (fun k => k = w.heap.size + 2) (fun k => some (doneC (s.val a == x))) (fun k h => ⟨by omega, fun c => by have := (hS k c).2; omega⟩) rfl (fun args w => by kernel_rfl)
    (fun w1 p hk hS2 hp => (cas1 w1 p w.heap.size (w.heap.size + 1) (w.heap.size + 2) _ x y false hp (cap_cell q1 hk (hSn _ (by omega))) (cap_cell q2 hk (hSn _ (by omega)))
      ((hk.block _ (by omega) (hSn _ (by omega))).trans q3) (hpn p _ hS2 (by omega) (by omega)) (Ne.symm (hpn p _ hS2 (by omega) (by omega))) (by omega)).mono (by
        rintro e w2 ⟨rfl, g1, g2, g3⟩
        exact ⟨rfl, g1, g2, fun k hk => by rw [hk]; exact g3⟩))
  clear hA ha hn hc hwf hA0 q1 q2 q3 hi hy hSn hpn
  generalize (if s.val a = x then y else s.val a) = i at key ⊢
  generalize (s.val a == x) = dn at key ⊢
  go_enter Try.func79, Try.ntmps79
  go_wp2_with (go_at_call 70; rw [← hw0]; refine key.mono ?_; rintro e w1 ⟨S', rfl, h1, h2, h3, h4⟩; have h5 := h4 _ rfl; have d1 : w1.cell? ⟨w.heap.size + 2, 0, none⟩ = some (.bool dn) := by simp [World.cell?, h5, doneC])
  have d1' : w1.cell? ⟨w.heap.size + 1 + 1, 0, none⟩ = some (.bool dn) := d1
  have d2' : w1.frozen? ⟨w.heap.size + 1 + 1, 0, none⟩ = false := by
    have : w1.heap[w.heap.size + 1 + 1]? = some (doneC dn) := h5
    simp [World.frozen?, this, doneC]
  have H5 := Lib.hid h5; have H4 := Lib.hid h4; have HW := Lib.hid hw0
  clear h5 h4 hw0 key
  go_region
  have K2 := setCell_keeps w1 (w.heap.size + 1 + 1) 0 (.bool dn)
  have e1 : (w1.setCell ⟨w.heap.size + 1 + 1, 0, none⟩ (.bool dn)).drew.cell? ⟨w.heap.size + 1 + 1, 0, none⟩ = some (.bool dn) := by
    have := setCell_same (o := 0) (show w1.heap[w.heap.size + 1 + 1]? = some (.cells #[.bool dn] 4 (0, 0)) from H5.out) (.bool dn)
    have h2 : (w1.setCell ⟨w.heap.size + 1 + 1, 0, none⟩ (.bool dn)).cell? ⟨w.heap.size + 1 + 1, 0, none⟩ = some (.bool dn) := by simp [World.cell?, this]
    exact h2
  have HK := Lib.hid K2
  clear K2
  all_goals (try go_wp2)
  refine bodyPost_ret (v := .tuple #[.int .u64 (s.val a), .bool dn]) (by simp [results, Try.results79, go_sem, e1]) rfl ⟨rfl, S', ?_, ?_, ?_⟩
  · refine h1.keep fun k hk => HK.out.block k (h1.fp k hk).2 (fun c => ?_)
    rcases h3 k hk with q | q
    · have := (hS k q).2; omega
    · omega
  · have hk1 : Keeps (fun k => S k ∨ k = w.heap.size + 2) w w1 := (below_keeps hB _).again h2
    have hk2 := hk1.again (HK.out.mono (T := fun k => S k ∨ k = w.heap.size + 2) fun k _ h => .inr h)
    exact (hk2.again (below_keeps (below_drewN _ 1) _)).mono fun k hk h => h.elim id fun c => by omega
  · exact fun k hk => (h3 k hk).imp id fun h => by omega

theorem count_any (w : World) (base b : Nat) (s : CS) (S : Nat → Prop) (hA : Cells w base b s S) :
    Calls Try.prog 68 #[.pointer (some ⟨b, 0, none⟩)] w fun e w' => e = .returned (.int .i64 s.cnt) ∧ w' = w := by
  have c1 : w.cell? ⟨b, 1, none⟩ = some (.int .i64 s.cnt) := by obtain ⟨mo, f, h, rfl⟩ := hA; simp [World.cell?, h.hdr, hdrC]
  clear hA
  go_enter Try.func68, Try.ntmps68
  go_wp2
  go_ret
  exact ⟨rfl, rfl⟩
def accV (k a x i : Int) : Value := .agg #[.int .u8 k, .int .u64 a, .int .u64 x, .int .u64 i]
theorem last_any (w : World) (base b : Nat) (s : CS) (S : Nat → Prop) (hA : Cells w base b s S) :
    Calls Try.prog 30 #[.pointer (some ⟨b, 0, none⟩)] w fun e w' => e = .returned (accV s.kind s.addr s.was s.is) ∧ Below w.heap.size w w' := by
  have hb : b < w.heap.size := by obtain ⟨mo, f, h, rfl⟩ := hA; exact (Array.getElem?_eq_some_iff.1 h.hdr).1
  have c2 : w.cell? ⟨b, 2, none⟩ = some (.int .u8 s.kind) := by obtain ⟨mo, f, h, rfl⟩ := hA; simp [World.cell?, h.hdr, hdrC]
  have c3 : w.cell? ⟨b, 3, none⟩ = some (.int .u64 s.addr) := by obtain ⟨mo, f, h, rfl⟩ := hA; simp [World.cell?, h.hdr, hdrC]
  have c4 : w.cell? ⟨b, 4, none⟩ = some (.int .u64 s.was) := by obtain ⟨mo, f, h, rfl⟩ := hA; simp [World.cell?, h.hdr, hdrC]
  have c5 : w.cell? ⟨b, 5, none⟩ = some (.int .u64 s.is) := by obtain ⟨mo, f, h, rfl⟩ := hA; simp [World.cell?, h.hdr, hdrC]
  clear hA
  go_enter Try.func30, Try.ntmps30
  go_wp2
  refine bodyPost_ret (v := accV s.kind s.addr s.was s.is) (by simp [results, Try.results30, go_sem, accV]) rfl ⟨rfl, ?_⟩
  exact ((Below.refl _ _).alloc (Nat.le_refl _) _)
theorem peek_any (w : World) (base b : Nat) (s : CS) (S : Nat → Prop) (hA : Cells w base b s S) (a : Int) (ha : (Lit.int .u64 a).wf = true) :
    Calls Try.prog 27 #[.pointer (some ⟨b, 0, none⟩), .int .u64 a] w fun e w' => e = .returned (.int .u64 (s.val a)) ∧ w' = w := by
  obtain ⟨mo, f, hA, rfl⟩ := hA
  have c0 : w.cell? ⟨b, 0, none⟩ = some (.map mo) := by simp [World.cell?, hA.hdr, hdrC]
  cases hfa : f a with
  | some p =>
    cases mo with
    | none => exact absurd (hA.nomap rfl a) (by simp [hfa])
    | some m =>
      have hl := (hA.map m rfl).1.look ha
      rw [hfa] at hl
      simp only [ptrV, Option.map] at hl
      have hp := cell_of_word (hA.ptr a p hfa).1
      clear hfa hA
      go_enter Try.func27, Try.ntmps27
      go_wp2_with (go_at_call 77; refine (a_load p _ _ hp).mono ?_; rintro e w' ⟨rfl, rfl⟩)
      go_ret
      exact ⟨rfl, rfl⟩
  | none =>
    have hz := hA.zero a hfa
    have hl : (Instr.lookup 165 (.map mo) (.int .u64 a) false).run Try.prog w = .ok (.pointer none) w := by
      cases mo with
      | none => exact look_none w ha
      | some m =>
        have hl := (hA.map m rfl).1.look ha
        rw [hfa] at hl
        exact hl
    rw [hz]
    clear hfa hA hz
    go_enter Try.func27, Try.ntmps27
    go_wp2
    go_ret
    exact ⟨rfl, rfl⟩
end Go.Proofs.Yteofdldlmmkgbaa

/-
  New cells.
-/
namespace Go.Proofs.Yteofdldlmmkgbaa
open Go.RowKit Go.Maps
set_option linter.unusedVariables false

def CS.zero : CS := ⟨fun _ => 0, 0, 0, 0, 0, 0, 0⟩
def CS.set (s : CS) (a v : Int) : CS := { s with val := upd s.val a v, n := s.n + 1 }
def CS.init (l : List (Int × Int)) : CS := l.foldl (fun s p => s.set p.1 p.2) CS.zero
theorem CS.init_n (l : List (Int × Int)) : (CS.init l).n = l.length ∧ (CS.init l).cnt = 0 ∧ (CS.init l).kind = 0 ∧ (CS.init l).addr = 0 ∧ (CS.init l).was = 0 ∧ (CS.init l).is = 0 := by
  have h : ∀ (l : List (Int × Int)) (s : CS), (l.foldl (fun s p => s.set p.1 p.2) s).n = s.n + l.length ∧ (l.foldl (fun s p => s.set p.1 p.2) s).cnt = s.cnt ∧ (l.foldl (fun s p => s.set p.1 p.2) s).kind = s.kind ∧
      (l.foldl (fun s p => s.set p.1 p.2) s).addr = s.addr ∧ (l.foldl (fun s p => s.set p.1 p.2) s).was = s.was ∧ (l.foldl (fun s p => s.set p.1 p.2) s).is = s.is := by
    intro l
    induction l with
    | nil => intro s; simp
    | cons x l ih => intro s; simp only [List.foldl_cons, List.length_cons]; have := ih (s.set x.1 x.2); simp only [CS.set] at this ⊢; omega
  have := h l CS.zero
  simpa [CS.init, CS.zero] using this

theorem cells_new (w : World) : CellsAt (w.alloc (.cells (hdrC none CS.zero) 167)) w.heap.size w.heap.size none (fun _ => none) CS.zero :=
  ⟨heap_alloc_new w _, Nat.le_refl _, fun m h => (by cases h), fun _ _ => rfl, fun a p h => (by cases h), fun _ _ => rfl, fun a a' p h => (by cases h), fun _ => rfl⟩

theorem new_nil (w : World) : Calls Try.prog 52 #[.slice none 0 0] w fun e w' => ∃ b S, e = .returned (.pointer (some ⟨b, 0, none⟩)) ∧ Cells w' w.heap.size b CS.zero S ∧ Below w.heap.size w w' := by
  go_enter Try.func52, Try.ntmps52
  go_wp2
  refine wp_loop_rounds 1 ?_
  rw [rounds_succ]
  go_wp2
  go_ret
  exact ⟨w.heap.size, _, rfl, ⟨_, _, cells_new w, rfl⟩, (Below.refl _ _).alloc (Nat.le_refl _) _⟩

/-- A word that is laid without an access. -/
theorem CellsAt.lay {w1 w2 : World} {base b : Nat} {mo : Option Nat} {f : Int → Option Nat} {s : CS} (h1 : CellsAt w1 base b mo f { s with n := s.n + 1 }) {a : Int} {p : Nat} (h2 : f a = some p) (v : Int) (hv : (Lit.int .u64 v).wf = true)
    (hw : w2.heap[p]? = some (wordC v)) (hk : Keeps (· = p) w1 w2) : CellsAt w2 base b mo f (s.set a v) :=
  h1.hit h2 v hv hw fun k hk2 hne => hk.block k (h1.fp k hk2).2 hne

theorem by_word2 {w1 w2 : World} {q : Nat} {a v : Int} {S : Nat → Prop} (hq : w1.heap[q]? = some (.cells #[.int .u64 a, .int .u64 v] 121 (0, 0))) (h : Keeps S w1.drew w2) (hl : q < w1.drew.heap.size) (hn : ¬ S q) : w2.cell? ⟨q, 1, none⟩ = some (.int .u64 v) := by
  have h2 : w2.heap[q]? = some (.cells #[.int .u64 a, .int .u64 v] 121 (0, 0)) := (h.block q hl hn).trans hq
  simp [World.cell?, h2]

theorem new_step {w w1 w2 : World} {mo mo1 : Option Nat} {f f1 : Int → Option Nat} {s s' : CS} {a v : Int} {p : Nat} (hs : s' = s.set a v) (hv : (Lit.int .u64 v).wf = true) (hB : Below w.heap.size w w1) (hsz : w.heap.size ≤ w1.heap.size) (hA : CellsAt w1 w.heap.size w.heap.size mo f s)
    (h1 : CellsAt w2 w.heap.size w.heap.size mo1 f1 { s with n := s.n + 1 }) (h2 : f1 a = some p) (h3 : Keeps (cellsFp w.heap.size mo f) w1.drew w2) (h4 : ∀ k, cellsFp w.heap.size mo1 f1 k → cellsFp w.heap.size mo f k ∨ w1.drew.heap.size ≤ k) (hp : w2.heap[p]? = some (wordC (s.val a))) :
    (∃ S', Cells (w2.setCell ⟨p, 0, none⟩ (.int .u64 v)) w.heap.size w.heap.size s' S') ∧ Below w.heap.size w (w2.setCell ⟨p, 0, none⟩ (.int .u64 v)) := by
  refine ⟨⟨_, mo1, f1, ?_, rfl⟩, ?_⟩
  · rw [hs]; exact h1.lay h2 v hv (word_set hp v) (setCell_keeps _ _ _ _)
  · have k1 : Keeps (cellsFp w.heap.size mo f) w1 w2 := ⟨h3.os, h3.tape, h3.output, h3.size, h3.block⟩
    have k2 : Below w.heap.size w w2 := keeps_below k1 hB hsz (fun k hk => (hA.fp k hk).1)
    refine keeps_below (setCell_keeps w2 p 0 (.int .u64 v)) k2 k2.size (fun k hk => ?_)
    rw [hk]; exact (h1.ptr a p h2).2.1

set_option maxRecDepth 10000 in
set_option maxHeartbeats 2000000 in
theorem new_words (w : World) (g o cap : Nat) (l : List (Int × Int)) (hl : l.length ≤ cap) (hcap : cap ≤ maxLen) (hlim : l.length < lim)
    (hc : ∀ k (h : k < l.length), w.cell? ⟨g, o + k * 2, none⟩ = some (.int .u64 l[k].1) ∧ w.cell? ⟨g, o + k * 2 + 1, none⟩ = some (.int .u64 l[k].2))
    (hw : ∀ p ∈ l, (Lit.int .u64 p.1).wf = true ∧ (Lit.int .u64 p.2).wf = true) :
    Calls Try.prog 52 #[.slice (some ⟨g, o, none⟩) l.length cap] w fun e w' => ∃ b S, e = .returned (.pointer (some ⟨b, 0, none⟩)) ∧ Cells w' w.heap.size b (CS.init l) S ∧ Below w.heap.size w w' := by
  go_enter Try.func52, Try.ntmps52
  go_wp2
  go_loopw [10, 5] (fun x _ wr => ∃ k : Nat, x = .int .i64 k ∧ k ≤ l.length ∧ (∃ S, Cells wr w.heap.size w.heap.size (CS.init (l.take k)) S) ∧ Below w.heap.size w wr)
    (fun x _ _ => l.length - (intOf x).toNat)
  case atStart => exact ⟨0, rfl, Nat.zero_le _, ⟨_, _, _, cells_new w, rfl⟩, (Below.refl _ _).alloc (Nat.le_refl _) _⟩
  case round =>
    obtain ⟨k, hk, hkl, ⟨S, hS⟩, hB⟩ := hrel
    subst hk
    by_cases hk : k < l.length
    · have hkb : decide ((k : Int) < (l.length : Int)) = true := by simp; omega
      have hck := hc k hk
      have hwk := hw l[k] (List.getElem_mem hk)
      have hB2 : Below w.heap.size w (wr.alloc (.cells #[.int .u64 l[k].1, .int .u64 l[k].2] 121)) := hB.alloc hB.size _
      have hg : g < w.heap.size := World.block_lt_of_cell? _ _ hck.1
      have r1 := (hB.cell (p := ⟨g, o + k * 2, none⟩) hg).trans hck.1
      have r2 := (hB.cell (p := ⟨g, o + k * 2 + 1, none⟩) hg).trans hck.2
      have hg2 : g < wr.heap.size := Nat.lt_of_lt_of_le hg hB.size
      have hsz := hB.size
      have hS2 := hS.below ((Below.refl wr.heap.size wr).alloc (Nat.le_refl _) (.cells #[.int .u64 l[k].1, .int .u64 l[k].2] 121))
      have hnS : ¬ S wr.heap.size := fun c => by have := (hS.fp _ c).2; omega
      have hq := heap_alloc_new wr (.cells #[.int .u64 l[k].1, .int .u64 l[k].2] 121)
      have HT := Lib.hid (show (CS.init (l.take (k + 1))) = (CS.init (l.take k)).set l[k].1 l[k].2 by
        rw [List.take_succ_eq_append_getElem hk]; unfold CS.init; rw [List.foldl_append]; rfl)
      have hn := (CS.init_n (l.take k)).1
      simp only [List.length_take] at hn
      have hn2 : (CS.init (l.take k)).n < maxLen := by have := lim_le; omega
      generalize CS.init (l.take k) = s at *
      obtain ⟨s', HS0⟩ : ∃ s', s' = CS.init (l.take (k + 1)) := ⟨_, rfl⟩
      have HS2 := Lib.hid HS0
      rw [← HS0] at HT
      clear HS0
      generalize l[k].1 = a at *
      generalize l[k].2 = v at *
      have HK := Lib.hid hk; have HKL := Lib.hid hkl; have HHL := Lib.hid hl; have HCP := Lib.hid hcap
      clear hck hw hc hn hlim hS
      go_wp2_with fail
      generalize wr.alloc (.cells #[.int .u64 a, .int .u64 v] 121) = w1 at *
      obtain ⟨mo, f, hA, rfl⟩ := hS2
      have x0 : w1.cell? ⟨wr.heap.size, 0, none⟩ = some (.int .u64 a) := by simp [World.cell?, hq]
      have x1 : w1.cell? ⟨wr.heap.size, 1, none⟩ = some (.int .u64 v) := by simp [World.cell?, hq]
      have hA' : CellsAt w1.drew w.heap.size w.heap.size mo f s := hA.keep fun _ _ => rfl
      have hsz1 : w.heap.size ≤ w1.drew.heap.size := hB2.size
      have hqs : wr.heap.size < w1.drew.heap.size := (Array.getElem?_eq_some_iff.1 hq).1
      have HA := Lib.hid hA; have HB := Lib.hid hB; have HB2 := Lib.hid hB2; have HN2 := Lib.hid hn2; have HW := Lib.hid hwk; have HNS := Lib.hid hnS; have HQ := Lib.hid hq; have HSZ := Lib.hid hsz1; have HQS := Lib.hid hqs; have HA' := Lib.hid hA'
      clear hA hB hB2 hn2 hwk hnS hq r1 r2 hg hg2 hsz hsz1 hqs hA' hkb
      go_region_with (first
        | (go_at_call 97; refine (at_any w1.drew w.heap.size w.heap.size mo f s HA'.out a HW.out.1 HN2.out HSZ.out).mono ?_; rintro e w2 ⟨mo1, f1, p, rfl, h1, h2, h3, h4⟩; have y1 : w2.cell? ⟨wr.heap.size, 1, none⟩ = some (.int .u64 v) := by_word2 HQ.out h3 HQS.out HNS.out; have hp := (h1.ptr a p h2).1; have hpc := cell_of_word hp; have hpf := free_of_word hp; have H1 := Lib.hid h1; have H2 := Lib.hid h2; have H3 := Lib.hid h3; have H4 := Lib.hid h4; have HP := Lib.hid hp; clear h1 h2 h3 h4 hp)
        | (go_at_call 98; refine (a_store _ _ v _ hpc hpf).mono ?_; rintro e w4 ⟨rfl, rfl⟩))
      all_goals (have hfin := new_step HT.out HW.out.2 HB2.out HSZ.out HA.out H1.out H2.out H3.out H4.out HP.out)
      all_goals (clear hpc hpf y1 x0 x1)
      all_goals (generalize World.setCell w2 _ _ = w5 at hfin ⊢)
      all_goals (have hk := HK.out)
      all_goals (have hkw : wrap64 ((k : Int) + 1) = k + 1 := IntWalk.wrap64_in _ (by have := HHL.out; have := HCP.out; unfold maxLen at this; omega))
      all_goals (try go_wp2)
      all_goals go_roundw
      all_goals (first | (show (_ : Nat) < _; rw [hkw]; simp [intOf] <;> omega) | exact ⟨k + 1, by rw [hkw]; rfl, by omega, (by rw [← HS2.out]; exact hfin.1), hfin.2⟩)
    · have hkb : decide ((k : Int) < (l.length : Int)) = false := by simp; omega
      have hke : k = l.length := by omega
      go_wp2
      go_ret
      rw [hke, List.take_length] at hS
      exact ⟨_, S, rfl, hS, hB⟩
end Go.Proofs.Yteofdldlmmkgbaa

/-
  Words of cells that hold nothing.
-/
namespace Go.Proofs.Yteofdldlmmkgbaa
open Go.RowKit Go.Maps
set_option linter.unusedVariables false

set_option maxRecDepth 100000 in
set_option maxHeartbeats 1000000 in
theorem sort_nil (fv : Value) (w : World) : Calls Try.prog 128 #[.slice none 0 0, fv] w fun e w' => e = .returned (.tuple #[]) ∧ Below w.heap.size w w' := by
  go_enter Try.func128, Try.ntmps128
  go_wp2
  refine wp_loop_rounds 1 ?_
  rw [rounds_succ]
  go_wp2
  refine wp_loop_rounds 1 ?_
  rw [rounds_succ]
  go_wp2
  go_end0
  exact ⟨rfl, Below.refl _ _⟩
theorem clip_nil (w : World) : Calls Try.prog 131 #[.slice none 0 0] w fun e w' => e = .returned (.slice none 0 0) ∧ Below w.heap.size w w' := by
  go_enter Try.func131, Try.ntmps131
  go_wp2
  go_ret
  exact ⟨rfl, Below.refl _ _⟩

set_option maxRecDepth 10000 in
set_option maxHeartbeats 1000000 in
theorem words_zero (w : World) (base b : Nat) (s : CS) (S : Nat → Prop) (hA : Cells w base b s S) (hz : ∀ a, s.val a = 0) :
    Calls Try.prog 101 #[.pointer (some ⟨b, 0, none⟩)] w fun e w' => e = .returned (.slice none 0 0) ∧ Below w.heap.size w w' := by
  obtain ⟨mo, f, hA, rfl⟩ := hA
  have hb : b < w.heap.size := (Array.getElem?_eq_some_iff.1 hA.hdr).1
  have c0 : w.cell? ⟨b, 0, none⟩ = some (.map mo) := by simp [World.cell?, hA.hdr, hdrC]
  cases mo with
  | none =>
    have hrg := run_range_nilMap (P := Try.prog) w 165 56 152 Try.underlying165
    have hnx : ∀ ty, (Instr.next (.pointer (some ⟨w.heap.size, 0, none⟩)) false ty).run Try.prog (w.alloc (.mapIter none 0 #[] 0)) = _ := fun ty => run_next_nilMap w ty 0 0 #[]
    clear hA
    go_enter Try.func101, Try.ntmps101
    go_wp2
    refine wp_loop_rounds 1 ?_
    rw [rounds_succ]
    go_wp2_with (first
      | (go_at_call 128; refine (sort_nil _ _).mono ?_; rintro e w1 ⟨rfl, g1⟩)
      | (go_at_call 131; refine (clip_nil _).mono ?_; rintro e w2 ⟨rfl, g2⟩))
    go_ret
    exact ⟨rfl, (((Below.refl _ _).alloc (Nat.le_refl _) _).trans (g1.mono (by simp))).trans (g2.mono (Nat.le_trans (by simp) g1.size))⟩
  | some m =>
    obtain ⟨⟨D, hown, hf, hh⟩, hm1, hm2⟩ := hA.map m rfl
    go_enter Try.func101, Try.ntmps101
    go_wp2_with (first
      | (at_range; refine wpList_range_own _ rfl _ 165 rfl 56 152 addr_keyed Try.underlying165 _ m s.n _ rfl hown ?_; intro w0 hrg0 hg0 hs0)
      | fail)
    go_frame
    go_loopw [3] (fun v wr => v = .slice none 0 0 ∧ ∃ (left : Lit → Bool) (cnt : Nat), wr.ranges Try.prog 56 ptrR m w.heap.size s.n D left cnt ∧ Below w.heap.size w wr)
      (fun _ wr => wr.rangeLeft m w.heap.size)
    case atStart => exact ⟨rfl, _, _, hrg0, ⟨hg0.os, hg0.tape, hg0.output, hg0.size, fun k hk => hg0.block k hk (by simp)⟩⟩
    case round =>
      obtain ⟨hv, left, cnt, hrg, hgw⟩ := hrel
      go_wp2_with (first
        | (at_next; refine wpList_next_ranges _ rfl _ rfl 56 addr_keyed ptrR (Value.int .u64) ptrV (fun key kl hkey => by obtain ⟨x, rfl, _⟩ := Maps.keyOf_int_inv Try.underlying56 hkey; exact ⟨x, rfl⟩) (fun v y hv => by obtain ⟨c, rfl, _⟩ := ptrR_inv hv; exact ⟨c, rfl⟩) m w.heap.size s.n _ _ _ rfl hrg ?_ ?_)
        | fail)
      · intro _ hl0
        subst hv
        go_wp2_with (first
          | (go_at_call 128; refine (sort_nil _ _).mono ?_; rintro e w1 ⟨rfl, g1⟩)
          | (go_at_call 131; refine (clip_nil _).mono ?_; rintro e w2 ⟨rfl, g2⟩))
        go_ret
        exact ⟨rfl, (hgw.trans (g1.mono hgw.size)).trans (g2.mono (Nat.le_trans hgw.size g1.size))⟩
      · intro x c kl y yp w1 cnt1 hk hlk hR hat hrg1 hlt hg1 hs1 hen
        obtain ⟨x', ex, hkl, hwx⟩ := Maps.keyOf_int_inv Try.underlying56 hk
        cases ex
        subst hkl
        have e0 : y = pD c := by have := (ptrR_mk c).symm.trans hR; simp only [Option.some.injEq, Prod.mk.injEq] at this; exact this.1.symm
        have e1 : f x = c := pD_inj ((hf x).symm.trans ((hat _).trans e0))
        have e2 : (f x).isSome = true := (hh x).symm.trans (has_true_of_atKey hat)
        rw [e1] at e2
        cases c with
        | none => cases e2
        | some p =>
          have hp := hA.ptr x p e1
          rw [hz x] at hp
          have hpl : p < w.heap.size := (Array.getElem?_eq_some_iff.1 hp.1).1
          have hgw1 : Below w.heap.size w w1 := hgw.trans ⟨hg1.os, hg1.tape, hg1.output, hg1.size, fun k hk => hg1.block k (Nat.lt_of_lt_of_le hk hgw.size) (fun c => by cases c; omega)⟩
          have hpc := cell_of_word ((hgw1.block p hpl).trans hp.1)
          simp only [ptrV, Option.map] at hen ⊢
          have HR := Lib.hid hrg; have HR1 := Lib.hid hrg1
          clear hrg hrg1 hat hR e0 e1 e2 hp hf hh hk hlk hwx
          go_wp2_with (go_at_call 77; refine (a_load p _ _ hpc).mono ?_; rintro e w' ⟨rfl, rfl⟩)
          go_roundw
          case rel => exact ⟨rfl, _, _, HR1.out, hgw1⟩
          case measure => rw [HR1.out.left_eq, HR.out.left_eq]; exact hlt
end Go.Proofs.Yteofdldlmmkgbaa
