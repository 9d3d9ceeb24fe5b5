/-
  Load, Store, Swap, Add, CAS, Count, Last, Peek of cells.
-/
import Derived.Test.YtmakjfeepmiggaaGreatCellsAcc
import Derived.Deep.RegionWith
namespace Go.Proofs.YtmakjfeepmiggaaGreat
open Go.RowKit Go.Maps
set_option linter.unusedVariables false

/-- What an access of cells leaves. -/
def Acc (w : World) (base b : Nat) (s' : CS) (S : Nat → Prop) (w' : World) : Prop :=
  ∃ S', Cells w' base b s' S' ∧ Keeps S w w' ∧ ∀ k, S' k → S k ∨ w.heap.size ≤ k

theorem cell_of_word {w : World} {p : Nat} {v : Int} (h : w.heap[p]? = some (wordC v)) : w.cell? ⟨p, 0, none⟩ = some (.int .u64 v) := by simp [World.cell?, h, wordC]
theorem free_of_word {w : World} {p : Nat} {v : Int} (h : w.heap[p]? = some (wordC v)) : w.frozen? ⟨p, 0, none⟩ = false := by simp [World.frozen?, h, wordC]
theorem word_set {w : World} {p : Nat} {v : Int} (h : w.heap[p]? = some (wordC v)) (y : Int) : (w.setCell ⟨p, 0, none⟩ (.int .u64 y)).heap[p]? = some (wordC y) := by
  have := setCell_same h 0 (.int .u64 y); simpa [wordC] using this

theorem load_any (w : World) (base b : Nat) (s : CS) (S : Nat → Prop) (hA : Cells w base b s S) (a : Int) (ha : (Lit.int .u64 a).wf = true) (hn : s.n < lim) (hc : s.cnt < lim) (hbase : base ≤ w.heap.size) :
    Calls Tryz.prog 62 #[.pointer (some ⟨b, 0, none⟩), .int .u64 a] w fun e w' => e = .returned (.int .u64 (s.val a)) ∧ Acc w base b (s.acc 1 a (s.val a)) S w' := by
  have hw : (Lit.int .u64 (s.val a)).wf = true := by obtain ⟨mo, f, h, rfl⟩ := hA; exact h.wf a
  have key := access_gen 135 #[] 1 w base b s S hA a ha hn hc hbase (s.val a) (s.val a) hw (fun _ => False) (fun _ => none) (fun k h => h.elim) rfl (fun args w => by kernel_rfl)
    (fun w1 p _ _ hp => (a_load p _ w1 (cell_of_word hp)).mono (by rintro e w2 ⟨rfl, rfl⟩; exact ⟨rfl, hp, below_keeps (Below.refl _ _) _, fun k h => h.elim⟩))
  clear hA ha hn hc
  go_enter Tryz.func62, Tryz.ntmps62
  go_wp2_with (go_at_call 120; refine key.mono ?_; rintro e w1 ⟨S', rfl, h1, h2, h3, -⟩)
  go_ret
  exact ⟨rfl, S', h1, h2.mono (fun k _ h => h.elim id False.elim), h3⟩

/-- A block of one captured word. -/
theorem cap_cell {w w1 : World} {S : Nat → Prop} {q : Nat} {v : Int} (h : w.heap[q]? = some (.cells #[.int .u64 v] 38 (0, 0))) (hk : Keeps S w w1) (hq : ¬ S q) : w1.cell? ⟨q, 0, none⟩ = some (.int .u64 v) := by
  have h2 : w1.heap[q]? = some (.cells #[.int .u64 v] 38 (0, 0)) := (hk.block q (Array.getElem?_eq_some_iff.1 h).1 hq).trans h
  simp [World.cell?, h2]

theorem swaps1 (w1 : World) (p q : Nat) (x v : Int) (hp : w1.heap[p]? = some (wordC x)) (hq : w1.cell? ⟨q, 0, none⟩ = some (.int .u64 v)) :
    Calls Tryz.prog 176 #[.pointer (some ⟨p, 0, none⟩), .pointer (some ⟨q, 0, none⟩)] w1 fun e w2 => e = .returned (.int .u64 x) ∧ w2 = w1.setCell ⟨p, 0, none⟩ (.int .u64 v) := by
  have h1 := cell_of_word hp
  have h2 := free_of_word hp
  clear hp
  go_enter Tryz.func176, Tryz.ntmps176
  go_wp2_with (go_at_call 177; refine (a_swap p x v _ h1 h2).mono ?_; rintro e w' ⟨rfl, rfl⟩)
  go_ret
  exact ⟨rfl, rfl⟩
theorem swaps_any (w : World) (v : Int) : Calls Tryz.prog 121 #[.int .u64 v] w fun e w2 => e = .returned (.func (.func 176) #[] #[.pointer (some ⟨w.heap.size, 0, none⟩)]) ∧ w2 = w.alloc (.cells #[.int .u64 v] 38) := by
  have hmf : ∀ (fn : Fn) (first cap : Array Value) (w : World), (Instr.makeFunc fn first cap).run Tryz.prog w = .ok (.func fn first cap) w := fun _ _ _ _ => rfl
  go_enter Tryz.func121, Tryz.ntmps121
  go_wp2
  go_ret
  exact ⟨rfl, rfl⟩

theorem acc_alloc {w w' : World} {base b : Nat} {s' : CS} {S : Nat → Prop} {o : Obj} (h : Acc (w.alloc o) base b s' S w') : Acc w base b s' S w' := by
  obtain ⟨S', h1, h2, h3⟩ := h
  exact ⟨S', h1, (below_keeps ((Below.refl _ _).alloc (Nat.le_refl _) _) S).again h2, fun k hk => (h3 k hk).imp id (fun h => by simp at h; omega)⟩

theorem swap_key (kd : Int) (w : World) (base b : Nat) (s : CS) (S : Nat → Prop) (hA : Cells w base b s S) (a v : Int) (ha : (Lit.int .u64 a).wf = true) (hv : (Lit.int .u64 v).wf = true) (hn : s.n < lim) (hc : s.cnt < lim) (hbase : base ≤ w.heap.size) :
    Calls Tryz.prog 120 #[.pointer (some ⟨b, 0, none⟩), .int .u8 kd, .int .u64 a, .func (.func 176) #[] #[.pointer (some ⟨w.heap.size, 0, none⟩)]] (w.alloc (.cells #[.int .u64 v] 38)) fun e w' =>
      e = .returned (.int .u64 (s.val a)) ∧ Acc w base b (s.acc kd a v) S w' := by
  have hS := hA.fp
  refine (access_gen 176 #[.pointer (some ⟨w.heap.size, 0, none⟩)] kd (w.alloc (.cells #[.int .u64 v] 38)) base b s S (hA.below ((Below.refl _ _).alloc (Nat.le_refl _) _)) a ha hn hc (by simp; omega) v (s.val a) hv (fun _ => False) (fun _ => none) (fun k h => h.elim) rfl (fun args w => by kernel_rfl)
    (fun w1 p hk hS2 hp => (swaps1 w1 p w.heap.size _ v hp (cap_cell (heap_alloc_new w _) hk (fun c => by have := (hS _ c).2; omega))).mono ?_)).mono ?_
  · rintro e w2 ⟨rfl, rfl⟩
    exact ⟨rfl, word_set hp v, (setCell_keeps w1 p 0 _).mono fun k _ h => .inl h, fun k h => h.elim⟩
  · rintro e w2 ⟨S', rfl, h1, h2, h3, -⟩
    exact ⟨rfl, acc_alloc ⟨S', h1, h2.mono (fun k _ h => h.elim id False.elim), h3⟩⟩

theorem store_any (w : World) (base b : Nat) (s : CS) (S : Nat → Prop) (hA : Cells w base b s S) (a v : Int) (ha : (Lit.int .u64 a).wf = true) (hv : (Lit.int .u64 v).wf = true) (hn : s.n < lim) (hc : s.cnt < lim) (hbase : base ≤ w.heap.size) :
    Calls Tryz.prog 41 #[.pointer (some ⟨b, 0, none⟩), .int .u64 a, .int .u64 v] w fun e w' => e = .returned (.int .u64 (s.val a)) ∧ Acc w base b (s.acc 2 a v) S w' := by
  have key := swap_key 2 w base b s S hA a v ha hv hn hc hbase
  clear hA ha hn hc hv
  go_enter Tryz.func41, Tryz.ntmps41
  go_wp2_with (first | (go_at_call 121; refine (swaps_any _ v).mono ?_; rintro e w1 ⟨rfl, rfl⟩) | (go_at_call 120; refine key.mono ?_; rintro e w1 ⟨rfl, h1⟩))
  go_ret
  exact ⟨rfl, h1⟩
theorem add1 (w1 : World) (p q : Nat) (x v : Int) (hx : (Lit.int .u64 x).wf = true) (hp : w1.heap[p]? = some (wordC x)) (hq : w1.cell? ⟨q, 0, none⟩ = some (.int .u64 v)) (hpq : q ≠ p) :
    Calls Tryz.prog 283 #[.pointer (some ⟨p, 0, none⟩), .pointer (some ⟨q, 0, none⟩)] w1 fun e w2 => e = .returned (.int .u64 x) ∧ w2 = w1.drew.setCell ⟨p, 0, none⟩ (.int .u64 (wu (x + v))) := by
  have h1 := cell_of_word hp
  have h2 := free_of_word hp
  have hq2 : (w1.drew.setCell ⟨p, 0, none⟩ (.int .u64 (wu (x + v)))).cell? ⟨q, 0, none⟩ = some (.int .u64 v) := by rw [World.cell?_setCell_other _ _ _ _ (by simp)]; exact hq
  have hb := wu_back v hx
  have HX := Lib.hid hx
  clear hp hx
  go_enter Tryz.func283, Tryz.ntmps283
  go_wp2
  go_region_with (go_at_call 284; refine (a_add p x v w1.drew h1 h2).mono ?_; rintro e w' ⟨rfl, rfl⟩)
  all_goals (try go_wp2)
  all_goals (go_ret; exact ⟨rfl, rfl⟩)

theorem add_any (w : World) (base b : Nat) (s : CS) (S : Nat → Prop) (hA : Cells w base b s S) (a v : Int) (ha : (Lit.int .u64 a).wf = true) (hn : s.n < lim) (hc : s.cnt < lim) (hbase : base ≤ w.heap.size) :
    Calls Tryz.prog 282 #[.pointer (some ⟨b, 0, none⟩), .int .u64 a, .int .u64 v] w fun e w' => e = .returned (.int .u64 (s.val a)) ∧ Acc w base b (s.acc 4 a (wu (s.val a + v))) S w' := by
  have hS := hA.fp
  have hwf : (Lit.int .u64 (s.val a)).wf = true := by obtain ⟨mo, f, h, rfl⟩ := hA; exact h.wf a
  have hmf : ∀ (fn : Fn) (first cap : Array Value) (w : World), (Instr.makeFunc fn first cap).run Tryz.prog w = .ok (.func fn first cap) w := fun _ _ _ _ => rfl
  have key := access_gen 283 #[.pointer (some ⟨w.heap.size, 0, none⟩)] 4 (w.alloc (.cells #[.int .u64 v] 38)) base b s S (hA.below ((Below.refl _ _).alloc (Nat.le_refl _) _)) a ha hn hc (by simp; omega) (wu (s.val a + v)) (s.val a) (wf_wu _) (fun _ => False) (fun _ => none) (fun k h => h.elim) rfl (fun args w => by kernel_rfl)
    (fun w1 p hk hS2 hp => (add1 w1 p w.heap.size _ v hwf hp (cap_cell (heap_alloc_new w _) hk (fun c => by have := (hS _ c).2; omega)) (fun c => by
      rcases hS2 with q | q
      · have := (hS _ q).2; omega
      · simp at q; omega)).mono (by
        rintro e w2 ⟨rfl, rfl⟩
        refine ⟨rfl, ?_, ?_, fun k h => h.elim⟩
        · exact word_set (w := w1.drew) hp _
        · have := (below_keeps (below_drewN w1 1) (fun k => k = p ∨ False)).again ((setCell_keeps w1.drew p 0 (.int .u64 (wu (s.val a + v)))).mono fun k _ h => .inl h)
          exact this))
  clear hA ha hn hc hwf hS
  go_enter Tryz.func282, Tryz.ntmps282
  go_wp2_with (go_at_call 120; refine key.mono ?_; rintro e w1 ⟨S', rfl, h1, h2, h3, -⟩)
  go_ret
  exact ⟨rfl, acc_alloc ⟨S', h1, h2.mono (fun k _ h => h.elim id False.elim), h3⟩⟩

/-- The block that says whether a CAS was done. -/
def doneC (d : Bool) : Obj := .cells #[.bool d] 4 (0, 0)
theorem cas1 (w1 : World) (p q1 q2 d : Nat) (x a b : Int) (d0 : Bool) (hp : w1.heap[p]? = some (wordC x)) (ha : w1.cell? ⟨q1, 0, none⟩ = some (.int .u64 a)) (hb : w1.cell? ⟨q2, 0, none⟩ = some (.int .u64 b)) (hd : w1.heap[d]? = some (doneC d0))
    (hpd : p ≠ d) (hq1 : q1 ≠ p) (hq1d : q1 ≠ d) :
    Calls Tryz.prog 201 #[.pointer (some ⟨p, 0, none⟩), .pointer (some ⟨q1, 0, none⟩), .pointer (some ⟨q2, 0, none⟩), .pointer (some ⟨d, 0, none⟩)] w1 fun e w2 => e = .returned (.int .u64 x) ∧
      w2.heap[p]? = some (wordC (if x = a then b else x)) ∧ Keeps (fun k => k = p ∨ k = d) w1 w2 ∧ w2.heap[d]? = some (doneC (x == a)) := by
  have h1 := cell_of_word hp
  have h2 := free_of_word hp
  have hd1 : w1.cell? ⟨d, 0, none⟩ = some (.bool d0) := by simp [World.cell?, hd, doneC]
  have hd2 : w1.frozen? ⟨d, 0, none⟩ = false := by simp [World.frozen?, hd, doneC]
  by_cases hx : x = a
  · subst hx
    have k1 := setCell_keeps w1 p 0 (.int .u64 b)
    have hdw : (w1.setCell ⟨p, 0, none⟩ (.int .u64 b)).heap[d]? = some (doneC d0) := by rw [k1.block d (Array.getElem?_eq_some_iff.1 hd).1 (Ne.symm hpd)]; exact hd
    have k2 := setCell_keeps (w1.setCell ⟨p, 0, none⟩ (.int .u64 b)) d 0 (.bool true)
    have hpw := word_set hp b
    have HP := Lib.hid hp; have HD := Lib.hid hd; have HDW := Lib.hid hdw; have HPW := Lib.hid hpw; have K1 := Lib.hid k1; have K2 := Lib.hid k2
    have hd1' : (w1.setCell ⟨p, 0, none⟩ (.int .u64 b)).cell? ⟨d, 0, none⟩ = some (.bool d0) := by simp [World.cell?, hdw, doneC]
    have hd2' : (w1.setCell ⟨p, 0, none⟩ (.int .u64 b)).frozen? ⟨d, 0, none⟩ = false := by simp [World.frozen?, hdw, doneC]
    have e1 : ((w1.setCell ⟨p, 0, none⟩ (.int .u64 b)).setCell ⟨d, 0, none⟩ (.bool true)).cell? ⟨d, 0, none⟩ = some (.bool true) := by simp [World.cell?, setCell_same hdw]
    have e2 : ((w1.setCell ⟨p, 0, none⟩ (.int .u64 b)).setCell ⟨d, 0, none⟩ (.bool true)).cell? ⟨q1, 0, none⟩ = some (.int .u64 x) := by
      rw [World.cell?_setCell_other _ _ _ _ (by simp), World.cell?_setCell_other _ _ _ _ (by simp)]; exact ha
    clear hp hd hdw hpw k1 k2
    go_enter Tryz.func201, Tryz.ntmps201
    go_wp2_with (go_at_call 202; refine (a_cas_hit p x b _ h1 h2).mono ?_; rintro e w' ⟨rfl, rfl⟩)
    go_ret
    refine ⟨rfl, ?_, ?_, ?_⟩
    · rw [K2.out.block p (by simp [World.setCell]; exact (Array.getElem?_eq_some_iff.1 HP.out).1) hpd]; exact HPW.out
    · exact (K1.out.mono fun k _ h => .inl h).again (K2.out.mono fun k _ h => .inr h)
    · rw [setCell_same HDW.out]; rfl
  · have k2 := setCell_keeps w1 d 0 (.bool false)
    have e1 : (w1.setCell ⟨d, 0, none⟩ (.bool false)).cell? ⟨d, 0, none⟩ = some (.bool false) := by simp [World.cell?, setCell_same hd]
    have e2 : (w1.setCell ⟨d, 0, none⟩ (.bool false)).cell? ⟨p, 0, none⟩ = some (.int .u64 x) := by
      rw [World.cell?_setCell_other _ _ _ _ (by simp)]; exact h1
    have hxb : (x == a) = false := by simp [hx]
    have HP := Lib.hid hp; have HD := Lib.hid hd; have K2 := Lib.hid k2
    clear hp hd k2
    go_enter Tryz.func201, Tryz.ntmps201
    go_wp2_with (first | (go_at_call 202; refine (a_cas_miss p x a b _ h1 h2 hx).mono ?_; rintro e w' ⟨rfl, rfl⟩) | (go_at_call 135; refine (a_load p x _ e2).mono ?_; rintro e w' ⟨rfl, rfl⟩))
    go_ret
    refine ⟨rfl, ?_, K2.out.mono fun k _ h => .inr h, ?_⟩
    · rw [K2.out.block p (Array.getElem?_eq_some_iff.1 HP.out).1 hpd]; exact HP.out
    · rw [setCell_same HD.out]; rfl

theorem cas_any (w : World) (base b : Nat) (s : CS) (S : Nat → Prop) (hA : Cells w base b s S) (a x y : Int) (ha : (Lit.int .u64 a).wf = true) (hy : (Lit.int .u64 y).wf = true) (hn : s.n < lim) (hc : s.cnt < lim) (hbase : base ≤ w.heap.size) :
    Calls Tryz.prog 159 #[.pointer (some ⟨b, 0, none⟩), .int .u64 a, .int .u64 x, .int .u64 y] w fun e w' => e = .returned (.tuple #[.int .u64 (s.val a), .bool (s.val a == x)]) ∧
      Acc w base b (s.acc 3 a (if s.val a = x then y else s.val a)) S w' := by
  have hS := hA.fp
  have hwf : (Lit.int .u64 (s.val a)).wf = true := by obtain ⟨mo, f, h, rfl⟩ := hA; exact h.wf a
  have hmf : ∀ (fn : Fn) (first cap : Array Value) (w : World), (Instr.makeFunc fn first cap).run Tryz.prog w = .ok (.func fn first cap) w := fun _ _ _ _ => rfl
  obtain ⟨w0, hw0⟩ : ∃ w0, w0 = ((w.alloc (.cells #[.int .u64 x] 38)).alloc (.cells #[.int .u64 y] 38)).alloc (.cells #[.bool false] 4) := ⟨_, rfl⟩
  have hB : Below w.heap.size w w0 := by rw [hw0]; exact (((Below.refl _ _).alloc (Nat.le_refl _) _).alloc (by simp) _).alloc (by simp; omega) _
  have hsz : w0.heap.size = w.heap.size + 3 := by rw [hw0]; simp
  have q1 : w0.heap[w.heap.size]? = some (.cells #[.int .u64 x] 38 (0, 0)) := by
    rw [hw0, Below.heap_alloc _ _ _ (by simp; omega), Below.heap_alloc _ _ _ (by simp)]; exact heap_alloc_new w _
  have q2 : w0.heap[w.heap.size + 1]? = some (.cells #[.int .u64 y] 38 (0, 0)) := by
    rw [hw0, Below.heap_alloc _ _ _ (by simp)]
    have := heap_alloc_new (w.alloc (.cells #[.int .u64 x] 38)) (.cells #[.int .u64 y] 38)
    simpa using this
  have q3 : w0.heap[w.heap.size + 2]? = some (doneC false) := by
    rw [hw0]
    have := heap_alloc_new ((w.alloc (.cells #[.int .u64 x] 38)).alloc (.cells #[.int .u64 y] 38)) (.cells #[.bool false] 4)
    have e2 : ((w.alloc (.cells #[.int .u64 x] 38)).alloc (.cells #[.int .u64 y] 38)).heap.size = w.heap.size + 2 := by simp
    rw [e2] at this
    exact this
  have hA0 := hA.below hB
  have hi : (Lit.int .u64 (if s.val a = x then y else s.val a)).wf = true := by split <;> assumption
  have hSn : ∀ k, w.heap.size ≤ k → ¬ S k := fun k hk c => by have := (hS k c).2; omega
  have hpn : ∀ p k, (S p ∨ w0.heap.size ≤ p) → w.heap.size ≤ k → k < w0.heap.size → p ≠ k := fun p k h h1 h2 c => by
    rcases h with q | q
    · have := (hS _ q).2; omega
    · omega
  have key := access_gen 201 #[.pointer (some ⟨w.heap.size, 0, none⟩), .pointer (some ⟨w.heap.size + 1, 0, none⟩), .pointer (some ⟨w.heap.size + 2, 0, none⟩)] 3 w0 base b s S hA0 a ha hn hc (by omega)
    (if s.val a = x then y else s.val a) (s.val a) hi (fun k => k = w.heap.size + 2) (fun k => some (doneC (s.val a == x))) (fun k h => ⟨by omega, fun c => by have := (hS k c).2; omega⟩) rfl (fun args w => by kernel_rfl)
    (fun w1 p hk hS2 hp => (cas1 w1 p w.heap.size (w.heap.size + 1) (w.heap.size + 2) _ x y false hp (cap_cell q1 hk (hSn _ (by omega))) (cap_cell q2 hk (hSn _ (by omega)))
      ((hk.block _ (by omega) (hSn _ (by omega))).trans q3) (hpn p _ hS2 (by omega) (by omega)) (Ne.symm (hpn p _ hS2 (by omega) (by omega))) (by omega)).mono (by
        rintro e w2 ⟨rfl, g1, g2, g3⟩
        exact ⟨rfl, g1, g2, fun k hk => by rw [hk]; exact g3⟩))
  clear hA ha hn hc hwf hA0 q1 q2 q3 hi hy hSn hpn
  generalize (if s.val a = x then y else s.val a) = i at key ⊢
  generalize (s.val a == x) = dn at key ⊢
  go_enter Tryz.func159, Tryz.ntmps159
  go_wp2_with (go_at_call 120; rw [← hw0]; refine key.mono ?_; rintro e w1 ⟨S', rfl, h1, h2, h3, h4⟩; have h5 := h4 _ rfl; have d1 : w1.cell? ⟨w.heap.size + 2, 0, none⟩ = some (.bool dn) := by simp [World.cell?, h5, doneC])
  have d1' : w1.cell? ⟨w.heap.size + 1 + 1, 0, none⟩ = some (.bool dn) := d1
  have d2' : w1.frozen? ⟨w.heap.size + 1 + 1, 0, none⟩ = false := by
    have : w1.heap[w.heap.size + 1 + 1]? = some (doneC dn) := h5
    simp [World.frozen?, this, doneC]
  have H5 := Lib.hid h5; have H4 := Lib.hid h4; have HW := Lib.hid hw0
  clear h5 h4 hw0 key
  go_region
  have K2 := setCell_keeps w1 (w.heap.size + 1 + 1) 0 (.bool dn)
  have e1 : (w1.setCell ⟨w.heap.size + 1 + 1, 0, none⟩ (.bool dn)).drew.cell? ⟨w.heap.size + 1 + 1, 0, none⟩ = some (.bool dn) := by
    have := setCell_same (o := 0) (show w1.heap[w.heap.size + 1 + 1]? = some (.cells #[.bool dn] 4 (0, 0)) from H5.out) (.bool dn)
    have h2 : (w1.setCell ⟨w.heap.size + 1 + 1, 0, none⟩ (.bool dn)).cell? ⟨w.heap.size + 1 + 1, 0, none⟩ = some (.bool dn) := by simp [World.cell?, this]
    exact h2
  have HK := Lib.hid K2
  clear K2
  all_goals (try go_wp2)
  refine bodyPost_ret (v := .tuple #[.int .u64 (s.val a), .bool dn]) (by simp [results, Tryz.results159, go_sem, e1]) rfl ⟨rfl, S', ?_, ?_, ?_⟩
  · refine h1.keep fun k hk => HK.out.block k (h1.fp k hk).2 (fun c => ?_)
    rcases h3 k hk with q | q
    · have := (hS k q).2; omega
    · omega
  · have hk1 : Keeps (fun k => S k ∨ k = w.heap.size + 2) w w1 := (below_keeps hB _).again h2
    have hk2 := hk1.again (HK.out.mono (T := fun k => S k ∨ k = w.heap.size + 2) fun k _ h => .inr h)
    exact (hk2.again (below_keeps (below_drewN _ 1) _)).mono fun k hk h => h.elim id fun c => by omega
  · exact fun k hk => (h3 k hk).imp id fun h => by omega

theorem count_any (w : World) (base b : Nat) (s : CS) (S : Nat → Prop) (hA : Cells w base b s S) :
    Calls Tryz.prog 139 #[.pointer (some ⟨b, 0, none⟩)] w fun e w' => e = .returned (.int .i64 s.cnt) ∧ w' = w := by
  have c1 : w.cell? ⟨b, 1, none⟩ = some (.int .i64 s.cnt) := by obtain ⟨mo, f, h, rfl⟩ := hA; simp [World.cell?, h.hdr, hdrC]
  clear hA
  go_enter Tryz.func139, Tryz.ntmps139
  go_wp2
  go_ret
  exact ⟨rfl, rfl⟩
def accV (k a x i : Int) : Value := .agg #[.int .u8 k, .int .u64 a, .int .u64 x, .int .u64 i]
theorem last_any (w : World) (base b : Nat) (s : CS) (S : Nat → Prop) (hA : Cells w base b s S) :
    Calls Tryz.prog 69 #[.pointer (some ⟨b, 0, none⟩)] w fun e w' => e = .returned (accV s.kind s.addr s.was s.is) ∧ Below w.heap.size w w' := by
  have hb : b < w.heap.size := by obtain ⟨mo, f, h, rfl⟩ := hA; exact (Array.getElem?_eq_some_iff.1 h.hdr).1
  have c2 : w.cell? ⟨b, 2, none⟩ = some (.int .u8 s.kind) := by obtain ⟨mo, f, h, rfl⟩ := hA; simp [World.cell?, h.hdr, hdrC]
  have c3 : w.cell? ⟨b, 3, none⟩ = some (.int .u64 s.addr) := by obtain ⟨mo, f, h, rfl⟩ := hA; simp [World.cell?, h.hdr, hdrC]
  have c4 : w.cell? ⟨b, 4, none⟩ = some (.int .u64 s.was) := by obtain ⟨mo, f, h, rfl⟩ := hA; simp [World.cell?, h.hdr, hdrC]
  have c5 : w.cell? ⟨b, 5, none⟩ = some (.int .u64 s.is) := by obtain ⟨mo, f, h, rfl⟩ := hA; simp [World.cell?, h.hdr, hdrC]
  clear hA
  go_enter Tryz.func69, Tryz.ntmps69
  go_wp2
  refine bodyPost_ret (v := accV s.kind s.addr s.was s.is) (by simp [results, Tryz.results69, go_sem, accV]) rfl ⟨rfl, ?_⟩
  exact ((Below.refl _ _).alloc (Nat.le_refl _) _)
theorem peek_any (w : World) (base b : Nat) (s : CS) (S : Nat → Prop) (hA : Cells w base b s S) (a : Int) (ha : (Lit.int .u64 a).wf = true) :
    Calls Tryz.prog 142 #[.pointer (some ⟨b, 0, none⟩), .int .u64 a] w fun e w' => e = .returned (.int .u64 (s.val a)) ∧ w' = w := by
  obtain ⟨mo, f, hA, rfl⟩ := hA
  have c0 : w.cell? ⟨b, 0, none⟩ = some (.map mo) := by simp [World.cell?, hA.hdr, hdrC]
  cases hfa : f a with
  | some p =>
    cases mo with
    | none => exact absurd (hA.nomap rfl a) (by simp [hfa])
    | some m =>
      have hl := (hA.map m rfl).1.look ha
      rw [hfa] at hl
      simp only [ptrV, Option.map] at hl
      have hp := cell_of_word (hA.ptr a p hfa).1
      clear hfa hA
      go_enter Tryz.func142, Tryz.ntmps142
      go_wp2_with (go_at_call 135; refine (a_load p _ _ hp).mono ?_; rintro e w' ⟨rfl, rfl⟩)
      go_ret
      exact ⟨rfl, rfl⟩
  | none =>
    have hz := hA.zero a hfa
    have hl : (Instr.lookup 237 (.map mo) (.int .u64 a) false).run Tryz.prog w = .ok (.pointer none) w := by
      cases mo with
      | none => exact look_none w ha
      | some m =>
        have hl := (hA.map m rfl).1.look ha
        rw [hfa] at hl
        exact hl
    rw [hz]
    clear hfa hA hz
    go_enter Tryz.func142, Tryz.ntmps142
    go_wp2
    go_ret
    exact ⟨rfl, rfl⟩
end Go.Proofs.YtmakjfeepmiggaaGreat
