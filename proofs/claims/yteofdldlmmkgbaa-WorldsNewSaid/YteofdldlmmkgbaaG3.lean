/-
  Texts of this prover, merged: Region, Atomic, Ref05Acc, Cells, CellsAcc.
-/
import Derived.Test.YteofdldlmmkgbaaG1
import Derived.Test.YteofdldlmmkgbaaG2
import Derived.StillTail
import Derived.WalkSpells
/-
  A region that draws its order: its first n operations read, or call functions that only make memory; the others come one behind the other, behind all of these. One walk of the text's order serves every order.
-/
namespace Go.Proofs.Yteofdldlmmkgbaa
open Go.RowKit
set_option linter.unusedVariables false
section
variable {P : Program} {ops : Array Oper} {md : Region.Mode} {C : World → Prop}

/-- The first part comes in some order, each of its operations quiet; then L. -/
def HeadQ (P : Program) (md : Region.Mode) (ops : Array Oper) (C : World → Prop) (n : Nat) (L : Array Bool → Act → Prop) : Nat → Array Bool → Act → Prop
  | 0, seen, a => L seen a
  | f + 1, seen, a => Region.ready md ops seen ≠ [] ∧ ∀ i, i ∈ Region.ready md ops seen → i < n ∧ qOp P ops C i (HeadQ P md ops C n L f (seen.setIfInBounds i true)) a

theorem any_of_headQ {n g : Nat} {L : Array Bool → Act → Prop} {Q : Exit → Act → World → Prop} (hL : ∀ seen a w, C w → L seen a → wpAny P md ops Q g seen a w) (f : Nat) :
    ∀ (seen : Array Bool) (a : Act) (w : World), C w → HeadQ P md ops C n L f seen a → wpAny P md ops Q (f + g) seen a w := by
  induction f with
  | zero => intro seen a w hw h; rw [Nat.zero_add]; exact hL _ _ _ hw h
  | succ f ih =>
    intro seen a w hw h
    have e : f + 1 + g = (f + g) + 1 := by omega
    rw [e]
    refine ⟨fun h0 => absurd h0 h.1, fun i hi => ?_⟩
    exact wpOp_of_qOp hw (fun a' w' hw' h' => ih _ a' w' hw' h') (h.2 i hi).2

theorem headQ_take {n i : Nat} {oi : Oper} {v : Value} {L : Array Bool → Act → Prop} (hi : ops[i]? = some oi) (hsel : ∀ (j : Nat) (o : Oper) cs b, ops[j]? = some o → o.op ≠ .select cs b)
    (hs : Region.sinkB md ops n = true) (hc : Region.chainB md ops n = true) (hn : n < ops.size) (hin : i < n) (hdone : ∀ seen a, L seen a → ∀ j, j ∈ Region.ready md ops seen → n ≤ j) (f : Nat) :
    ∀ (seen : Array Bool) (a : Act), HeadInv md ops n seen →
      (∀ j oj, ops[j]? = some oj → j ≠ i → seen.getD j true = false → (∀ e, e ∈ oj.after → Region.binds md e = true → e.on ≠ i) → oi.apart ops oj = true) →
      i ∈ Region.ready md ops seen → YieldsIn P ops C oi v a → HeadQ P md ops C n L f (seen.setIfInBounds i true) (a.put oi.dst v) → HeadQ P md ops C n L (f + 1) seen a := by
  induction f with
  | zero =>
    intro seen a inv _ hr hy H
    have hun : seen.getD i true = false := (mem_ready.1 hr).1
    refine ⟨fun h => by rw [h] at hr; exact absurd hr (by simp), fun j hj => ?_⟩
    by_cases hjn : n ≤ j
    · exact absurd hj (tail_waits hs hc hn inv _ i rfl hin hun j hjn)
    refine ⟨by omega, ?_⟩
    by_cases hji : j = i
    · rw [hji]; exact hy.qOp hi H
    · exact absurd (hdone _ _ H j (ready_mono hj hji)) hjn
  | succ f ih =>
    intro seen a inv hfree hr hy H
    have hun : seen.getD i true = false := (mem_ready.1 hr).1
    refine ⟨fun h => by rw [h] at hr; exact absurd hr (by simp), fun j hj => ?_⟩
    by_cases hjn : n ≤ j
    · exact absurd hj (tail_waits hs hc hn inv _ i rfl hin hun j hjn)
    refine ⟨by omega, ?_⟩
    by_cases hji : j = i
    · rw [hji]; exact hy.qOp hi H
    obtain ⟨hjun, oj, hoj, hall⟩ := mem_ready.1 hj
    have hno : ∀ e, e ∈ oj.after → Region.binds md e = true → e.on ≠ i := by
      intro e he hb heq
      have := hall e he hb
      rw [heq, getD_both hun] at this
      exact absurd this (by simp)
    have step := qOp_put hoj (hfree j oj hoj hji hjun hno) (fun cs b => hsel i oi cs b hi) (fun cs b => hsel j oj cs b hoj) hy (H.2 j (ready_mono hj hji)).2
    refine qOp_mono (fun a' h3 => ?_) step
    refine ih _ a' (inv.set hj (by omega)) ?_ (ready_mono hr (Ne.symm hji)) h3.1 ?_
    · intro k ok hk hki hunk hnok
      refine hfree k ok hk hki ?_ hnok
      by_cases hjk : j = k
      · rw [← hjk]; exact hjun
      · rwa [getD_set_ne true hjk] at hunk
    · rw [Array.setIfInBounds_comm _ _ hji]; exact h3.2

theorem headQ_lex {n g : Nat} {R : Act → Prop} (hsel : Region.noSelect ops = true) (hs : Region.sinkB md ops n = true) (hc : Region.chainB md ops n = true) (hn : n < ops.size) (l : List Oper) :
    ∀ (k : Nat) (seen : Array Bool) (a : Act), (∀ j, j < l.length → l[j]? = ops[k + j]?) → k + l.length = n → HeadInv md ops n seen →
      Region.lexHead md ops g l.length k seen = true → wpQuiet P ops C R l a → HeadQ P md ops C n (fun seen' a' => Region.seqB md ops g n seen' = true ∧ R a') l.length seen a := by
  induction l with
  | nil =>
    intro k seen a _ hk _ hB h
    simp only [List.length_nil, Nat.add_zero] at hk
    subst hk
    exact ⟨hB, h⟩
  | cons o l ih =>
    intro k seen a hl hk inv hB h
    have h0 : ops[k]? = some o := by simpa using (hl 0 (by simp)).symm
    simp only [List.length_cons, Region.lexHead, Bool.and_eq_true] at hB
    obtain ⟨⟨hr, hf⟩, hB'⟩ := hB
    have hkn : k < n := by simp only [List.length_cons] at hk; omega
    have hr' : k ∈ Region.ready md ops seen := by simpa using hr
    have hq : qOp P ops C k (wpQuiet P ops C R l) a := by unfold qOp; simp only [h0]; exact h
    obtain ⟨v, hy, hK⟩ := yieldsIn_of_qOp h0 hq
    refine headQ_take h0 (Region.noSelect_spec hsel) hs hc hn hkn (fun seen' a' hL => seqB_ready hL.1) l.length seen a inv (Region.free_spec h0 hf) hr' hy ?_
    refine ih (k + 1) _ _ (fun j hj => ?_) (by simp only [List.length_cons] at hk; omega) (inv.set hr' hkn) hB' hK
    have := hl (j + 1) (by simp; omega)
    simpa [Nat.add_assoc, Nat.add_comm 1 j] using this

/-- The region, at the class of worlds that have come out of w by new blocks alone. -/
theorem wp_region_ext_tail {id : Nat} {Q : Exit → Act → World → Prop} {a : Act} {w : World} {l : List Oper} (n : Nat) (hm : P.follows .mixedOrders = true) (hB : Region.lexTailB .any l.toArray n = true)
    (h : wpQuiet P l.toArray (fun W => ∃ s : ExtW w, W = s.val) (fun a' => ∀ W, (∃ s : ExtW w, W = s.val) → wpList P l.toArray Q (l.drop n) a' W) (l.take n) a) : (Code.region id l.toArray true).wp P Q a w := by
  simp only [Region.lexTailB, Bool.and_eq_true, decide_eq_true_eq] at hB
  obtain ⟨⟨⟨⟨hsel, hn⟩, hs⟩, hc⟩, hlex⟩ := hB
  have hn' : n < l.length := by simpa using hn
  have htl : (l.take n).length = n := by simp; omega
  have hdl : (l.drop n).length = l.toArray.size - n := by simp
  have inv0 : HeadInv .any l.toArray n (Array.replicate l.toArray.size false) :=
    ⟨by simp, fun j oj _ hl => by rw [getD_replicate_false] at hl; exact absurd hl (by simp), fun t _ ht => getD_in (by simpa using ht) (getD_replicate_false _ _)⟩
  refine wp_region_any hm ?_
  have hh := headQ_lex (P := P) (C := fun W => ∃ s : ExtW w, W = s.val) (g := l.toArray.size - n) (md := .any) hsel hs hc hn (l.take n) 0 (Array.replicate l.toArray.size false) a
    (fun j hj => by rw [htl] at hj; simp [hj]) (by rw [htl]; omega) inv0 (by rw [htl]; exact hlex) h
  have := any_of_headQ (Q := Q) (g := l.toArray.size - n) (fun seen a' W hW hL => ?_) _ _ _ _ ⟨⟨_, (Below.refl _ _).drew⟩, rfl⟩ hh
  · rw [htl] at this
    have e : n + (l.toArray.size - n) = l.toArray.size := by omega
    rw [e] at this
    exact this
  · have := wpAny_of_seq (P := P) (md := .any) (ops := l.toArray) (Q' := Q) (l.drop n) n seen a' W (fun j => by simp [List.getElem?_drop]) (by rw [hdl]; exact hL.1) (hL.2 W hW)
    rw [hdl] at this
    exact this
end
end Go.Proofs.Yteofdldlmmkgbaa

/-
  The words of sync/atomic: what a method of *atomic.Uint64 does to the one cell at its address.
-/
namespace Go.Proofs.Yteofdldlmmkgbaa
open Go.RowKit
set_option linter.unusedVariables false

/-- The sum of a word, as Go's '+' at uint64 tells it. -/
def wu (x : Int) : Int := IntKind.u64.wrap x
theorem wu_eq (x : Int) : wu x = x % 18446744073709551616 := IntKind.wrap_u64 x
theorem wu_of {x : Int} (h : (Lit.int .u64 x).wf = true) : wu x = x := by
  have h1 : 0 ≤ x ∧ x ≤ 18446744073709551615 := by
    have hmin : IntKind.u64.min = 0 := rfl
    have hmax : IntKind.u64.max = 18446744073709551615 := rfl
    simp only [Lit.wf, Bool.and_eq_true, decide_eq_true_eq] at h; omega
  rw [wu_eq]; omega
theorem wf_wu (x : Int) : (Lit.int .u64 (wu x)).wf = true := by
  have hmin : IntKind.u64.min = 0 := rfl
  have hmax : IntKind.u64.max = 18446744073709551615 := rfl
  simp only [Lit.wf, Bool.and_eq_true, decide_eq_true_eq, wu_eq]; omega
theorem wu_back {x : Int} (y : Int) (h : (Lit.int .u64 x).wf = true) : IntKind.u64.wrap (wu (x + y) - y) = x := by
  have h2 := wu_of h
  have e : IntKind.u64.wrap (wu (x + y) - y) = wu x := by
    rw [IntKind.wrap_u64, wu_eq, wu_eq]; omega
  rw [e, h2]

theorem run_call_swap {P : Program} {f : FuncId} {fn : Func} (hf : P.funcs[f]? = some fn) (hname : (fn.name == "runtime.NumGoroutine") = false) (hb : fn.body.isNone = true) (hn : Extern.findNext fn = none) (k : IntKind)
    (he : Extern.find fn = some (Extern.Atomic.swapT (.int k))) {a : Addr} {x y : Int} {w : World} (hc : w.cell? a = some (.int k x)) (hz : w.frozen? a = false) :
    (callFunc f #[.pointer (some a), .int k y]).run P w = .ok (.value (.int k x)) (w.setCell a (.int k y)) := by
  rw [run_callFunc_extern hf hname hb hn he]
  change (Sem.run P (do
    let a' ← asAddr (.pointer (some a))
    let old ← Extern.Atomic.read (.int k) a'
    store a' (.int k y) .atomic
    pure old) w).andThen _ = _
  simp [Extern.Atomic.read, asAddr, hc, hz, run_store P w a (.int k y) .atomic rfl, Result.andThen]

theorem a_load (p : Nat) (v : Int) (w : World) (h : w.cell? ⟨p, 0, none⟩ = some (.int .u64 v)) :
    Calls Try.prog 77 #[.pointer (some ⟨p, 0, none⟩)] w fun e w' => e = .returned (.int .u64 v) ∧ w' = w := by
  have hl := run_call_load (P := Try.prog) Try.func116 (by kernel_rfl) (by kernel_rfl) (by kernel_rfl) .u64 (by kernel_rfl) h
  go_enter Try.func77, Try.ntmps77
  go_wp2
  go_ret
  exact ⟨rfl, rfl⟩

theorem a_store (p : Nat) (v y : Int) (w : World) (h : w.cell? ⟨p, 0, none⟩ = some (.int .u64 v)) (hz : w.frozen? ⟨p, 0, none⟩ = false) :
    Calls Try.prog 98 #[.pointer (some ⟨p, 0, none⟩), .int .u64 y] w fun e w' => e = .returned (.tuple #[]) ∧ w' = w.setCell ⟨p, 0, none⟩ (.int .u64 y) := by
  have hl := run_call_store (P := Try.prog) Try.func127 (by kernel_rfl) (by kernel_rfl) (by kernel_rfl) (by kernel_rfl) (k := .u64) (y := y) h hz
  go_enter Try.func98, Try.ntmps98
  go_wp2
  go_end0
  exact ⟨rfl, rfl⟩

theorem a_swap (p : Nat) (v y : Int) (w : World) (h : w.cell? ⟨p, 0, none⟩ = some (.int .u64 v)) (hz : w.frozen? ⟨p, 0, none⟩ = false) :
    Calls Try.prog 142 #[.pointer (some ⟨p, 0, none⟩), .int .u64 y] w fun e w' => e = .returned (.int .u64 v) ∧ w' = w.setCell ⟨p, 0, none⟩ (.int .u64 y) := by
  have hl := run_call_swap (P := Try.prog) Try.func155 (by kernel_rfl) (by kernel_rfl) (by kernel_rfl) .u64 (by kernel_rfl) (y := y) h hz
  go_enter Try.func142, Try.ntmps142
  go_wp2
  go_ret
  exact ⟨rfl, rfl⟩

theorem a_add (p : Nat) (v y : Int) (w : World) (h : w.cell? ⟨p, 0, none⟩ = some (.int .u64 v)) (hz : w.frozen? ⟨p, 0, none⟩ = false) :
    Calls Try.prog 72 #[.pointer (some ⟨p, 0, none⟩), .int .u64 y] w fun e w' => e = .returned (.int .u64 (wu (v + y))) ∧ w' = w.setCell ⟨p, 0, none⟩ (.int .u64 (wu (v + y))) := by
  have hl := run_call_add (P := Try.prog) Try.func113 (by kernel_rfl) (by kernel_rfl) (by kernel_rfl) .u64 (by kernel_rfl) (y := y) (s := wu (v + y)) h hz (by rfl)
  go_enter Try.func72, Try.ntmps72
  go_wp2
  go_ret
  exact ⟨rfl, rfl⟩

theorem a_cas_hit (p : Nat) (v y : Int) (w : World) (h : w.cell? ⟨p, 0, none⟩ = some (.int .u64 v)) (hz : w.frozen? ⟨p, 0, none⟩ = false) :
    Calls Try.prog 118 #[.pointer (some ⟨p, 0, none⟩), .int .u64 v, .int .u64 y] w fun e w' => e = .returned (.bool true) ∧ w' = w.setCell ⟨p, 0, none⟩ (.int .u64 y) := by
  have hl := run_call_cas_hit (P := Try.prog) Try.func140 (by kernel_rfl) (by kernel_rfl) (by kernel_rfl) .u64 (by kernel_rfl) (y := y) h hz
  go_enter Try.func118, Try.ntmps118
  go_wp2
  go_ret
  exact ⟨rfl, rfl⟩

theorem a_cas_miss (p : Nat) (v o y : Int) (w : World) (h : w.cell? ⟨p, 0, none⟩ = some (.int .u64 v)) (hz : w.frozen? ⟨p, 0, none⟩ = false) (hne : ¬ v = o) :
    Calls Try.prog 118 #[.pointer (some ⟨p, 0, none⟩), .int .u64 o, .int .u64 y] w fun e w' => e = .returned (.bool false) ∧ w' = w := by
  have hl := run_call_cas_miss (P := Try.prog) Try.func140 (by kernel_rfl) (by kernel_rfl) (by kernel_rfl) .u64 (by kernel_rfl) (o := o) (y := y) h hz hne
  go_enter Try.func118, Try.ntmps118
  go_wp2
  go_ret
  exact ⟨rfl, rfl⟩
end Go.Proofs.Yteofdldlmmkgbaa

/-
  The document's cells: each access; new ones.
-/
namespace Go.Proofs.Yteofdldlmmkgbaa
open Go.RowKit
set_option linter.unusedVariables false

theorem below_alloc' (w : World) (o : Obj) : Below w.heap.size w (w.alloc o) := (Below.refl _ _).alloc (Nat.le_refl _) _
theorem rlook_wf {w : World} {base r : Nat} {lv : Value} {x : RS} (h : RCells w base r lv x) (a : Int) : (Lit.int .u64 (rlook x.l a)).wf = true := by
  have key : ∀ (l : List (Int × Int)), (∀ p ∈ l, (Lit.int .u64 p.1).wf = true ∧ (Lit.int .u64 p.2).wf = true) → (Lit.int .u64 (rlook l a)).wf = true := by
    intro l
    induction l with
    | nil => intro _; show (Lit.int .u64 0).wf = true; decide
    | cons p l ih =>
      intro h
      unfold rlook
      split
      · exact (h p (by simp)).2
      · exact ih fun q hq => h q (by simp [hq])
  exact key x.l h.wf
section
variable {w : World} {base r : Nat} {lv : Value} {x : RS} (h : RCells w base r lv x) (hn : x.l.length ≤ 100000) (hc : x.cnt ≤ 1000000) (hbase : base ≤ w.heap.size) (a : Int) (ha : (Lit.int .u64 a).wf = true)
include h hn hc hbase ha
theorem rstore_any (v : Int) (hv : (Lit.int .u64 v).wf = true) : Calls Try.prog 123 #[.pointer (some ⟨r, 0, none⟩), .int .u64 a, .int .u64 v] w fun e w' => e = .returned (.int .u64 (rlook x.l a)) ∧ (∃ lv', RCells w' base r lv' (x.acc 2 a v)) ∧ Keeps (· = r) w w' := by
  have hq := racc_any w base r lv x h hn hc hbase 2 a v ha hv
  clear h ha hv
  go_enter Try.func123, Try.ntmps123
  go_wp2_with (go_at_call 143; refine hq.mono ?_; rintro e w1 ⟨rfl, h1, hk⟩)
  go_ret
  exact ⟨rfl, h1, hk⟩
theorem rcas_any (u v : Int) (hv : (Lit.int .u64 v).wf = true) : Calls Try.prog 150 #[.pointer (some ⟨r, 0, none⟩), .int .u64 a, .int .u64 u, .int .u64 v] w fun e w' => e = .returned (.tuple #[.int .u64 (rlook x.l a), .bool (rlook x.l a == u)]) ∧ (∃ lv', RCells w' base r lv' (x.acc 3 a (if rlook x.l a = u then v else rlook x.l a))) ∧ Keeps (· = r) w w' := by
  have hp := rpeek_any w base r lv x h a
  have hl := rlook_wf h a
  by_cases he : rlook x.l a = u
  · have hq := racc_any w base r lv x h hn hc hbase 3 a v ha hv
    rw [if_pos he]
    have hb : (rlook x.l a == u) = true := beq_iff_eq.2 he
    have hb2 : (rlook x.l a != u) = false := by simp [bne, hb]
    have HQ := Lib.hid hq
    clear h ha hv hl he hq
    generalize rlook x.l a = s at *
    go_enter Try.func150, Try.ntmps150
    go_wp2_with (first
      | (go_at_call 102; refine hp.mono ?_; rintro e w1 ⟨rfl, hw⟩; obtain rfl := hw.symm; clear hp)
      | (go_at_call 143; refine HQ.out.mono ?_; rintro e w1 ⟨rfl, h1, hk⟩))
    go_ret2
    exact ⟨by rw [hb]; rfl, h1, hk⟩
  · have hq := racc_any w base r lv x h hn hc hbase 3 a (rlook x.l a) ha hl
    rw [if_neg he]
    have hb : (rlook x.l a == u) = false := beq_eq_false_iff_ne.2 he
    have hb2 : (rlook x.l a != u) = true := by simp [bne, hb]
    have HQ := Lib.hid hq
    clear h ha hv hl he hq
    generalize rlook x.l a = s at *
    go_enter Try.func150, Try.ntmps150
    go_wp2_with (first
      | (go_at_call 102; refine hp.mono ?_; rintro e w1 ⟨rfl, hw⟩; obtain rfl := hw.symm; clear hp)
      | (go_at_call 143; refine HQ.out.mono ?_; rintro e w1 ⟨rfl, h1, hk⟩))
    go_ret2
    exact ⟨by rw [hb]; rfl, h1, hk⟩
end
def RS.zero : RS := ⟨[], 0, 0, 0, 0, 0⟩
theorem rnew_nil (w : World) : Calls Try.prog 55 #[.slice none 0 0] w fun e w' => e = .returned (.pointer (some ⟨w.heap.size, 0, none⟩)) ∧ RCells w' w.heap.size w.heap.size (.slice none 0 0) RS.zero ∧ Below w.heap.size w w' := by
  go_enter Try.func55, Try.ntmps55
  go_wp2
  refine wp_loop_rounds 1 ?_
  rw [rounds_succ]
  go_wp2
  go_ret
  exact ⟨rfl, ⟨heap_alloc_new w _, Nat.le_refl _, World.ownsRow_nil _ _ _ _, fun p hp => by cases hp⟩, below_alloc' w _⟩
end Go.Proofs.Yteofdldlmmkgbaa

/-
  Cells: what they hold, as a function from addresses to words; the word at an address.
-/
namespace Go.Proofs.Yteofdldlmmkgbaa
open Go.RowKit Go.Maps
set_option linter.unusedVariables false

/-- Cells, as they are told: the words, how many accesses there were, the last one; n: no more addresses than these have a word of their own. -/
structure CS where
  val : Int → Int
  cnt : Nat
  n : Nat
  kind : Int
  addr : Int
  was : Int
  is : Int
def CS.acc (s : CS) (k a i : Int) : CS := ⟨upd s.val a i, s.cnt + 1, s.n + 1, k, a, s.val a, i⟩
def hdrC (mo : Option Nat) (s : CS) : Array Value := #[.map mo, .int .i64 s.cnt, .int .u8 s.kind, .int .u64 s.addr, .int .u64 s.was, .int .u64 s.is]
def wordC (v : Int) : Obj := .cells #[.int .u64 v] 212 (0, 0)

structure CellsAt (w : World) (base b : Nat) (mo : Option Nat) (f : Int → Option Nat) (s : CS) : Prop where
  hdr : w.heap[b]? = some (.cells (hdrC mo s) 167 (0, 0))
  lo : base ≤ b
  map : ∀ m, mo = some m → MapP w m s.n f ∧ base ≤ m ∧ m ≠ b
  nomap : mo = none → ∀ a, f a = none
  ptr : ∀ a p, f a = some p → w.heap[p]? = some (wordC (s.val a)) ∧ base ≤ p ∧ p ≠ b ∧ mo ≠ some p
  zero : ∀ a, f a = none → s.val a = 0
  inj : ∀ a a' p, f a = some p → f a' = some p → a = a'
  wf : ∀ a, (Lit.int .u64 (s.val a)).wf = true
/-- The blocks of cells. -/
def cellsFp (b : Nat) (mo : Option Nat) (f : Int → Option Nat) (k : Nat) : Prop := k = b ∨ mo = some k ∨ ∃ a, f a = some k
/-- Cells whose blocks are S. -/
def Cells (w : World) (base b : Nat) (s : CS) (S : Nat → Prop) : Prop := ∃ mo f, CellsAt w base b mo f s ∧ S = cellsFp b mo f

theorem CellsAt.keep {w w' : World} {base b : Nat} {mo : Option Nat} {f : Int → Option Nat} {s : CS} (h : CellsAt w base b mo f s) (hk : ∀ k, cellsFp b mo f k → w'.heap[k]? = w.heap[k]?) : CellsAt w' base b mo f s := by
  refine ⟨by rw [hk b (.inl rfl)]; exact h.hdr, h.lo, fun m hm => ?_, h.nomap, fun a p hp => ?_, h.zero, h.inj, h.wf⟩
  · obtain ⟨h1, h2⟩ := h.map m hm
    exact ⟨h1.keep (hk m (.inr (.inl hm))), h2⟩
  · obtain ⟨h1, h2⟩ := h.ptr a p hp
    exact ⟨by rw [hk p (.inr (.inr ⟨a, hp⟩))]; exact h1, h2⟩
theorem CellsAt.fp {w : World} {base b : Nat} {mo : Option Nat} {f : Int → Option Nat} {s : CS} (h : CellsAt w base b mo f s) : ∀ k, cellsFp b mo f k → base ≤ k ∧ k < w.heap.size := by
  rintro k (rfl | hm | ⟨a, ha⟩)
  · exact ⟨h.lo, (Array.getElem?_eq_some_iff.1 h.hdr).1⟩
  · exact ⟨(h.map k hm).2.1, (h.map k hm).1.lt⟩
  · exact ⟨(h.ptr a k ha).2.1, (Array.getElem?_eq_some_iff.1 (h.ptr a k ha).1).1⟩
theorem Cells.keep {w w' : World} {base b : Nat} {s : CS} {S : Nat → Prop} (h : Cells w base b s S) (hk : ∀ k, S k → w'.heap[k]? = w.heap[k]?) : Cells w' base b s S := by
  obtain ⟨mo, f, h, rfl⟩ := h
  exact ⟨mo, f, h.keep hk, rfl⟩
theorem Cells.fp {w : World} {base b : Nat} {s : CS} {S : Nat → Prop} (h : Cells w base b s S) : ∀ k, S k → base ≤ k ∧ k < w.heap.size := by
  obtain ⟨mo, f, h, rfl⟩ := h
  exact h.fp
theorem Cells.keeps {w w' : World} {base b : Nat} {s : CS} {S T : Nat → Prop} (h : Cells w base b s S) (hb : Keeps T w w') (hd : ∀ k, S k → ¬ T k) : Cells w' base b s S :=
  h.keep fun k hk => hb.block k (h.fp k hk).2 (hd k hk)
theorem Cells.below {w w' : World} {base b : Nat} {s : CS} {S : Nat → Prop} (h : Cells w base b s S) (hb : Below w.heap.size w w') : Cells w' base b s S :=
  h.keep fun k hk => hb.block k (h.fp k hk).2
theorem CellsAt.mono {w : World} {base b : Nat} {mo : Option Nat} {f : Int → Option Nat} {s : CS} (h : CellsAt w base b mo f s) (n : Nat) (hn : s.n ≤ n) : CellsAt w base b mo f { s with n := n } :=
  ⟨h.hdr, h.lo, fun m hm => ⟨(h.map m hm).1.mono hn, (h.map m hm).2⟩, h.nomap, h.ptr, h.zero, h.inj, h.wf⟩

theorem CellsAt.put {w w2 : World} {base b : Nat} {mo : Option Nat} {f : Int → Option Nat} {s : CS} (hA : CellsAt w base b mo f s) {a : Int} (ha : f a = none) (m p : Nat)
    (hdr : w2.heap[b]? = some (.cells (hdrC (some m) s) 167 (0, 0))) (hM : MapP w2 m (s.n + 1) (upd f a (some p))) (hm : base ≤ m) (hmb : m ≠ b) (hp : w2.heap[p]? = some (wordC 0)) (hpl : w.heap.size ≤ p) (hbase : base ≤ w.heap.size)
    (hmp : m ≠ p) (hold : ∀ x k, f x = some k → w2.heap[k]? = w.heap[k]? ∧ m ≠ k) : CellsAt w2 base b (some m) (upd f a (some p)) { s with n := s.n + 1 } := by
  have hb : b < w.heap.size := (Array.getElem?_eq_some_iff.1 hA.hdr).1
  refine ⟨hdr, hA.lo, fun m' h => ?_, (fun h => by cases h), fun x k hx => ?_, fun x hx => ?_, fun x x' k h1 h2 => ?_, hA.wf⟩
  · cases h; exact ⟨hM, hm, hmb⟩
  · by_cases he : x = a
    · subst he
      rw [upd_same] at hx; cases hx
      simp only [hA.zero x ha]
      exact ⟨hp, by omega, by omega, fun c => hmp (by cases c; rfl)⟩
    · rw [upd_other _ he] at hx
      obtain ⟨h1, h2, h3, _⟩ := hA.ptr x k hx
      obtain ⟨h5, h6⟩ := hold x k hx
      exact ⟨h5.trans h1, h2, h3, fun c => h6 (by cases c; rfl)⟩
  · by_cases he : x = a
    · subst he; rw [upd_same] at hx; cases hx
    · rw [upd_other _ he] at hx; exact hA.zero x hx
  · have hlt : ∀ x k, f x = some k → k < w.heap.size := fun x k h => (Array.getElem?_eq_some_iff.1 (hA.ptr x k h).1).1
    by_cases he : x = a
    · by_cases he2 : x' = a
      · rw [he, he2]
      · subst he; rw [upd_same] at h1; rw [upd_other _ he2] at h2; cases h1
        have := hlt _ _ h2; omega
    · by_cases he2 : x' = a
      · subst he2; rw [upd_same] at h2; rw [upd_other _ he] at h1; cases h2
        have := hlt _ _ h1; omega
      · rw [upd_other _ he] at h1; rw [upd_other _ he2] at h2; exact hA.inj _ _ _ h1 h2

set_option maxRecDepth 10000 in
set_option maxHeartbeats 1000000 in
theorem at_any (w : World) (base b : Nat) (mo : Option Nat) (f : Int → Option Nat) (s : CS) (hA : CellsAt w base b mo f s) (a : Int) (ha : (Lit.int .u64 a).wf = true) (hn : s.n < maxLen) (hbase : base ≤ w.heap.size) :
    Calls Try.prog 97 #[.pointer (some ⟨b, 0, none⟩), .int .u64 a] w fun e w' => ∃ mo' f' p, e = .returned (.pointer (some ⟨p, 0, none⟩)) ∧ CellsAt w' base b mo' f' { s with n := s.n + 1 } ∧ f' a = some p ∧
      Keeps (cellsFp b mo f) w w' ∧ ∀ k, cellsFp b mo' f' k → cellsFp b mo f k ∨ w.heap.size ≤ k := by
  have hmm := @run_makeMap Try.prog
  have qM : ∀ (w : World) (r : Option Nat), (binOp .eql 165 (.map r) (.map none)).run Try.prog w = .ok (.bool r.isNone) w := fun w r => run_eql_map_nil w _ _ _ r Try.underlying165
  have hb : b < w.heap.size := (Array.getElem?_eq_some_iff.1 hA.hdr).1
  have c0 : w.cell? ⟨b, 0, none⟩ = some (.map mo) := by simp [World.cell?, hA.hdr, hdrC]
  have f0 : w.frozen? ⟨b, 0, none⟩ = false := by simp [World.frozen?, hA.hdr]
  cases hfa : f a with
  | some p =>
    cases mo with
    | none => exact absurd (hA.nomap rfl a) (by simp [hfa])
    | some m =>
      have hl := (hA.map m rfl).1.look ha
      rw [hfa] at hl
      simp only [ptrV, Option.map] at hl
      have HF := Lib.hid hfa
      clear hfa
      go_enter Try.func97, Try.ntmps97
      go_wp2
      go_ret
      exact ⟨some m, f, p, rfl, hA.mono _ (by omega), HF.out, below_keeps (Below.refl _ _) _, fun k hk => .inl hk⟩
  | none =>
    cases mo with
    | some m =>
      have hl := (hA.map m rfl).1.look ha
      rw [hfa] at hl
      simp only [ptrV, Option.map] at hl
      have HF := Lib.hid hfa
      clear hfa
      have HM := (hA.map m rfl).1
      go_enter Try.func97, Try.ntmps97
      go_wp2_with (at_mapUpdate; refine wpList_put rfl _ _ _ rfl m s.n f rfl (HM.keep (Below.heap_alloc _ _ _ HM.lt)) hn a w.heap.size rfl rfl ha ?_; intro w2 hM2 hG2)
      go_ret
      have hml : m < w.heap.size := HM.lt
      have hb2 : w2.heap[b]? = w.heap[b]? := (hG2.block b (by simp; omega) (fun c => (hA.map m rfl).2.2 (by cases c; rfl))).trans (Below.heap_alloc _ _ _ hb)
      have hk2 : ∀ k, k < w.heap.size → k ≠ m → w2.heap[k]? = w.heap[k]? := fun k hk hne => (hG2.block k (by simp; omega) (fun c => hne (by cases c; rfl))).trans (Below.heap_alloc _ _ _ hk)
      refine ⟨some m, _, w.heap.size, rfl, hA.put HF.out m _ (hb2.trans hA.hdr) hM2 (hA.map m rfl).2.1 (hA.map m rfl).2.2 ?_ (Nat.le_refl _) hbase (by omega) (fun x k hx => ?_), upd_same _ _ _, ?_, ?_⟩
      · rw [hG2.block _ (by simp) (fun c => by cases c; omega)]; exact heap_alloc_new w _
      · have h1 := hA.ptr x k hx
        have hne : k ≠ m := fun c => h1.2.2.2 (by rw [c])
        exact ⟨hk2 k (Array.getElem?_eq_some_iff.1 h1.1).1 hne, Ne.symm hne⟩
      · exact ⟨hG2.os, hG2.tape, hG2.output, Nat.le_trans (by simp) hG2.size, fun k hk hn => hk2 k hk (fun c => hn (.inr (.inl (by rw [c]))))⟩
      · rintro k (rfl | hm | ⟨x, hx⟩)
        · exact .inl (.inl rfl)
        · exact .inl (.inr (.inl hm))
        · by_cases he : x = a
          · subst he; rw [upd_same] at hx; cases hx; exact .inr (Nat.le_refl _)
          · rw [upd_other _ he] at hx; exact .inl (.inr (.inr ⟨x, hx⟩))
    | none =>
      have hl := look_none w ha
      have HF := Lib.hid hfa
      clear hfa
      have hNo := hA.nomap rfl
      have e1 : (w.setCell ⟨b, 0, none⟩ (.map (some w.heap.size))).heap.size = w.heap.size := by simp [World.setCell]
      have hM0 : MapP (((w.setCell ⟨b, 0, none⟩ (.map (some w.heap.size))).alloc (.map #[] 0)).alloc (.cells #[.int .u64 0] 212)) w.heap.size 0 f := by
        have h := MapP.made (w.setCell ⟨b, 0, none⟩ (.map (some w.heap.size)))
        rw [e1] at h
        rw [show f = fun _ => none from funext hNo]
        exact h.keep (Below.heap_alloc _ _ _ (by simp))
      go_enter Try.func97, Try.ntmps97
      go_wp2_with (at_mapUpdate; refine wpList_put rfl _ _ _ rfl w.heap.size 0 f rfl hM0 (by unfold maxLen; omega) a (w.heap.size + 1) rfl rfl ha ?_; intro w2 hM2 hG2)
      go_ret
      have hs0 := setCell_same hA.hdr 0 (.map (some w.heap.size))
      have hk0 : Keeps (cellsFp b none f) w (((w.setCell ⟨b, 0, none⟩ (.map (some w.heap.size))).alloc (.map #[] 0)).alloc (.cells #[.int .u64 0] 212)) :=
        ((setCell_keeps w b 0 _).mono (T := cellsFp b none f) fun k _ h => .inl h).again (below_keeps (((Below.refl _ _).alloc (Nat.le_refl _) _).alloc (by simp) _) _)
      have hk1 : Keeps (cellsFp b none f) w w2 := ⟨hG2.os.trans hk0.os, hG2.tape.trans hk0.tape, hG2.output.trans hk0.output, Nat.le_trans hk0.size hG2.size, fun k hk hn => (hG2.block k (by simp; omega) (fun c => by cases c; omega)).trans (hk0.block k hk hn)⟩
      refine ⟨some w.heap.size, _, w.heap.size + 1, rfl, hA.put HF.out w.heap.size _ ?_ (hM2.mono (by omega)) hbase (by omega) ?_ (by omega) hbase (by omega) (fun x k hx => by rw [hNo x] at hx; cases hx), upd_same _ _ _, hk1, ?_⟩
      · rw [hG2.block b (by simp; omega) (fun c => by cases c; omega), Below.heap_alloc _ _ _ (by simp; omega), Below.heap_alloc _ _ _ (by simp; omega), hs0]; rfl
      · rw [hG2.block _ (by simp) (fun c => by simp only [Option.some.injEq] at c; omega)]
        have e2 : ((w.setCell ⟨b, 0, none⟩ (.map (some w.heap.size))).alloc (.map #[] 0)).heap.size = w.heap.size + 1 := by simp
        have := heap_alloc_new ((w.setCell ⟨b, 0, none⟩ (.map (some w.heap.size))).alloc (.map #[] 0)) (.cells #[.int .u64 0] 212)
        rw [e2] at this
        exact this
      · rintro k (rfl | hm | ⟨x, hx⟩)
        · exact .inl (.inl rfl)
        · cases hm; exact .inr (Nat.le_refl _)
        · by_cases he : x = a
          · subst he; rw [upd_same] at hx; cases hx; exact .inr (by omega)
          · rw [upd_other _ he, hNo x] at hx; cases hx
end Go.Proofs.Yteofdldlmmkgbaa

/-
  Accesses of cells: what each tells, and leaves.
-/
namespace Go.Proofs.Yteofdldlmmkgbaa
open Go.RowKit Go.Maps
set_option linter.unusedVariables false

/-- More accesses than there may be. -/
def lim : Nat := 4611686018427387904
theorem lim_le : lim ≤ maxLen := by unfold lim maxLen; omega

theorem CellsAt.hit {w w2 : World} {base b : Nat} {mo : Option Nat} {f : Int → Option Nat} {s : CS} (hA : CellsAt w base b mo f s) {a : Int} {p : Nat} (ha : f a = some p) (i : Int) (hi : (Lit.int .u64 i).wf = true)
    (hp : w2.heap[p]? = some (wordC i)) (hold : ∀ k, cellsFp b mo f k → k ≠ p → w2.heap[k]? = w.heap[k]?) : CellsAt w2 base b mo f { s with val := upd s.val a i } := by
  have hpp := hA.ptr a p ha
  refine ⟨(hold b (.inl rfl) (Ne.symm hpp.2.2.1)).trans hA.hdr, hA.lo, fun m hm => ?_, hA.nomap, fun x k hx => ?_, fun x hx => ?_, hA.inj, fun x => ?_⟩
  · obtain ⟨h1, h2⟩ := hA.map m hm
    exact ⟨h1.keep (hold m (.inr (.inl hm)) (fun c => hpp.2.2.2 (by rw [hm, c]))), h2⟩
  · obtain ⟨h1, h2⟩ := hA.ptr x k hx
    by_cases he : x = a
    · subst he; rw [ha] at hx; cases hx
      simp only [upd_same]; exact ⟨hp, h2⟩
    · simp only [upd_other _ he]
      exact ⟨(hold k (.inr (.inr ⟨x, hx⟩)) (fun c => he (hA.inj _ _ _ hx (by rw [ha, c])))).trans h1, h2⟩
  · by_cases he : x = a
    · subst he; rw [ha] at hx; cases hx
    · simp only [upd_other _ he]; exact hA.zero x hx
  · by_cases he : x = a
    · subst he; simp only [upd_same]; exact hi
    · simp only [upd_other _ he]; exact hA.wf x
theorem CellsAt.head {w w2 : World} {base b : Nat} {mo : Option Nat} {f : Int → Option Nat} {s s2 : CS} (hA : CellsAt w base b mo f s) (hv : s2.val = s.val) (hn : s2.n = s.n)
    (hp : w2.heap[b]? = some (.cells (hdrC mo s2) 167 (0, 0))) (hold : ∀ k, cellsFp b mo f k → k ≠ b → w2.heap[k]? = w.heap[k]?) : CellsAt w2 base b mo f s2 := by
  refine ⟨hp, hA.lo, fun m hm => ?_, hA.nomap, fun x k hx => ?_, fun x hx => ?_, hA.inj, fun x => ?_⟩
  · obtain ⟨h1, h2, h3⟩ := hA.map m hm
    rw [hn]; exact ⟨h1.keep (hold m (.inr (.inl hm)) h3), h2, h3⟩
  · obtain ⟨h1, h2, h3, h4⟩ := hA.ptr x k hx
    rw [hv]; exact ⟨(hold k (.inr (.inr ⟨x, hx⟩)) h3).trans h1, h2, h3, h4⟩
  · rw [hv]; exact hA.zero x hx
  · rw [hv]; exact hA.wf x

set_option maxRecDepth 10000 in
set_option maxHeartbeats 1000000 in
theorem access_gen (F : Nat) (cap : Array Value) (kd : Int) (w : World) (base b : Nat) (s : CS) (S : Nat → Prop) (hA : Cells w base b s S) (a : Int) (ha : (Lit.int .u64 a).wf = true) (hn : s.n < lim) (hc : s.cnt < lim) (hbase : base ≤ w.heap.size)
    (i st : Int) (hi : (Lit.int .u64 i).wf = true) (X : Nat → Prop) (O : Nat → Option Obj) (hX : ∀ k, X k → k < w.heap.size ∧ ¬ S k) (hst : st = s.val a)
    (hcf : ∀ (args : Array Value) (w : World), (callFunc F args).run Try.prog w = .ok (.enter F args) w)
    (hF : ∀ (w1 : World) (p : Nat), Keeps S w w1 → (S p ∨ w.heap.size ≤ p) → w1.heap[p]? = some (wordC (s.val a)) →
      Calls Try.prog F (#[.pointer (some ⟨p, 0, none⟩)] ++ cap) w1 fun e w2 => e = .returned (.int .u64 st) ∧ w2.heap[p]? = some (wordC i) ∧ Keeps (fun k => k = p ∨ X k) w1 w2 ∧ ∀ k, X k → w2.heap[k]? = O k) :
    Calls Try.prog 70 #[.pointer (some ⟨b, 0, none⟩), .int .u8 kd, .int .u64 a, .func (.func F) #[] cap] w fun e w' => ∃ S', e = .returned (.int .u64 st) ∧ Cells w' base b (s.acc kd a i) S' ∧
      Keeps (fun k => S k ∨ X k) w w' ∧ (∀ k, S' k → S k ∨ w.heap.size ≤ k) ∧ ∀ k, X k → w'.heap[k]? = O k := by
  obtain ⟨mo, f, hA, rfl⟩ := hA
  go_enter Try.func70, Try.ntmps70
  go_wp2_with (first
    | (go_at_call 97; refine (at_any _ base b mo f s hA a ha (Nat.lt_of_lt_of_le hn lim_le) hbase).mono ?_; rintro e w1 ⟨mo1, f1, p, rfl, h1, h2, h3, h4⟩)
    | (fail))
  have hlt1 := h1.fp
  have hpp := h1.ptr a p h2
  have hXS := hX
  have hXf : ∀ k, cellsFp b mo1 f1 k → ¬ X k := fun k hk hx => by
    obtain ⟨q1, q2⟩ := hX k hx
    rcases h4 k hk with q | q
    · exact q2 q
    · omega
  refine (hF w1 p h3 (h4 p (.inr (.inr ⟨a, h2⟩))) hpp.1).mono ?_
  rintro e w2 ⟨rfl, g1, g2, g3⟩
  have h5 := h1.hit h2 i hi g1 (fun k hk hne => g2.block k (hlt1 k hk).2 (fun c => c.elim hne (hXf k hk)))
  have hw2 : Keeps (fun k => cellsFp b mo f k ∨ X k) w w2 := by
    refine ((h3.mono (T := fun k => cellsFp b mo f k ∨ X k) fun k _ h => .inl h).trans g2).mono fun k hk h => ?_
    rcases h with h | rfl | h
    · exact h
    · rcases h4 _ (.inr (.inr ⟨a, h2⟩)) with q | q
      · exact .inl q
      · omega
    · exact .inr h
  have hpb : p ≠ b := hpp.2.2.1
  have hHB := Lib.hid h5.hdr
  have hb2 : w2.heap[b]? = some (.cells #[.map mo1, .int .i64 s.cnt, .int .u8 s.kind, .int .u64 s.addr, .int .u64 s.was, .int .u64 s.is] 167 (0, 0)) := h5.hdr
  have c1 : w2.cell? ⟨b, 1, none⟩ = some (.int .i64 s.cnt) := by simp [World.cell?, hb2]
  have c2 : w2.cell? ⟨b, 2, none⟩ = some (.int .u8 s.kind) := by simp [World.cell?, hb2]
  have c3 : w2.cell? ⟨b, 3, none⟩ = some (.int .u64 s.addr) := by simp [World.cell?, hb2]
  have c4 : w2.cell? ⟨b, 4, none⟩ = some (.int .u64 s.was) := by simp [World.cell?, hb2]
  have c5 : w2.cell? ⟨b, 5, none⟩ = some (.int .u64 s.is) := by simp [World.cell?, hb2]
  have f1' : w2.frozen? ⟨b, 1, none⟩ = false := by simp [World.frozen?, hb2]
  have f2' : w2.frozen? ⟨b, 2, none⟩ = false := by simp [World.frozen?, hb2]
  have f3' : w2.frozen? ⟨b, 3, none⟩ = false := by simp [World.frozen?, hb2]
  have f4' : w2.frozen? ⟨b, 4, none⟩ = false := by simp [World.frozen?, hb2]
  have f5' : w2.frozen? ⟨b, 5, none⟩ = false := by simp [World.frozen?, hb2]
  have cp : (w2.setCell ⟨b, 1, none⟩ (.int .i64 ((s.cnt : Int) + 1))).cell? ⟨p, 0, none⟩ = some (.int .u64 i) := by
    rw [World.cell?_setCell_other _ _ _ _ (by simp)]; simp [World.cell?, g1, wordC]
  have hcnt : (s.cnt : Int) < 4611686018427387904 := by unfold lim at hc; omega
  have HH1 := Lib.hid h1; have HH2 := Lib.hid h2; have HH5 := Lib.hid h5; have HP := Lib.hid hpp; have HB2 := Lib.hid hb2; have HG1 := Lib.hid g1; have HG3 := Lib.hid g3; have HST := Lib.hid hst
  clear h1 h2 h3 h5 hpp hb2 g1 g2 g3 hlt1 hF hX hXf hst hA hn hc hi ha
  go_wp2_with (first
    | (go_at_call 77; refine (a_load p i _ cp).mono ?_; rintro e w' ⟨rfl, rfl⟩))
  go_ret
  have b2 := HB2.out
  have s1 := setCell_same b2 1 (.int .i64 ((s.cnt : Int) + 1))
  have s2 := setCell_same s1 2 (.int .u8 kd)
  have s3 := setCell_same s2 3 (.int .u64 a)
  have s4 := setCell_same s3 4 (.int .u64 st)
  have s5 := setCell_same s4 5 (.int .u64 i)
  have k5 := (((((setCell_keeps w2 b 1 (.int .i64 ((s.cnt : Int) + 1))).again (setCell_keeps _ b 2 (.int .u8 kd))).again (setCell_keeps _ b 3 (.int .u64 a))).again (setCell_keeps _ b 4 (.int .u64 st))).again (setCell_keeps _ b 5 (.int .u64 i)))
  have h5 := HH5.out
  have hbX : ∀ k, X k → k ≠ b := fun k hk c => by
    have := hXS k hk
    exact this.2 (.inl c)
  refine ⟨cellsFp b mo1 f1, rfl, ⟨mo1, f1, h5.head (s2 := s.acc kd a i) rfl rfl ?_ (fun k hk hne => k5.block k (h5.fp k hk).2 hne), rfl⟩, hw2.again (k5.mono fun k _ h => .inl (.inl h)), h4, fun k hk => ?_⟩
  · rw [s5]; simp only [hdrC, CS.acc, ← HST.out]; rfl
  · rw [k5.block k (Nat.lt_of_lt_of_le (hXS k hk).1 hw2.size) (hbX k hk)]; exact HG3.out k hk
end Go.Proofs.Yteofdldlmmkgbaa
