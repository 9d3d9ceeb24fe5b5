/-
  Texts of this prover, merged: Ref05Acc, Cells, CellsAcc, CellsOps.
-/
import Derived.Test.YteofdldlmmkgbaaG2
import Derived.Test.YteofdldlmmkgbaaG1
import Derived.WalkSpells
import Derived.Deep.RegionWith
/-
  The document's cells: each access; new ones.
-/
namespace Go.Proofs.Yteofdldlmmkgbaa
open Go.RowKit
set_option linter.unusedVariables false

theorem below_alloc' (w : World) (o : Obj) : Below w.heap.size w (w.alloc o) := (Below.refl _ _).alloc (Nat.le_refl _) _
theorem rlook_wf {w : World} {base r : Nat} {lv : Value} {x : RS} (h : RCells w base r lv x) (a : Int) : (Lit.int .u64 (rlook x.l a)).wf = true := by
  have key : ∀ (l : List (Int × Int)), (∀ p ∈ l, (Lit.int .u64 p.1).wf = true ∧ (Lit.int .u64 p.2).wf = true) → (Lit.int .u64 (rlook l a)).wf = true := by
    intro l
    induction l with
    | nil => intro _; show (Lit.int .u64 0).wf = true; decide
    | cons p l ih =>
      intro h
      unfold rlook
      split
      · exact (h p (by simp)).2
      · exact ih fun q hq => h q (by simp [hq])
  exact key x.l h.wf
section
variable {w : World} {base r : Nat} {lv : Value} {x : RS} (h : RCells w base r lv x) (hn : x.l.length ≤ 100000) (hc : x.cnt ≤ 1000000) (hbase : base ≤ w.heap.size) (a : Int) (ha : (Lit.int .u64 a).wf = true)
include h hn hc hbase ha
theorem rstore_any (v : Int) (hv : (Lit.int .u64 v).wf = true) : Calls Try.prog 123 #[.pointer (some ⟨r, 0, none⟩), .int .u64 a, .int .u64 v] w fun e w' => e = .returned (.int .u64 (rlook x.l a)) ∧ (∃ lv', RCells w' base r lv' (x.acc 2 a v)) ∧ Keeps (· = r) w w' := by
  have hq := racc_any w base r lv x h hn hc hbase 2 a v ha hv
  clear h ha hv
  go_enter Try.func123, Try.ntmps123
  go_wp2_with (go_at_call 143; refine hq.mono ?_; rintro e w1 ⟨rfl, h1, hk⟩)
  go_ret
  exact ⟨rfl, h1, hk⟩
theorem rcas_any (u v : Int) (hv : (Lit.int .u64 v).wf = true) : Calls Try.prog 150 #[.pointer (some ⟨r, 0, none⟩), .int .u64 a, .int .u64 u, .int .u64 v] w fun e w' => e = .returned (.tuple #[.int .u64 (rlook x.l a), .bool (rlook x.l a == u)]) ∧ (∃ lv', RCells w' base r lv' (x.acc 3 a (if rlook x.l a = u then v else rlook x.l a))) ∧ Keeps (· = r) w w' := by
  have hp := rpeek_any w base r lv x h a
  have hl := rlook_wf h a
  by_cases he : rlook x.l a = u
  · have hq := racc_any w base r lv x h hn hc hbase 3 a v ha hv
    rw [if_pos he]
    have hb : (rlook x.l a == u) = true := beq_iff_eq.2 he
    have hb2 : (rlook x.l a != u) = false := by simp [bne, hb]
    have HQ := Lib.hid hq
    clear h ha hv hl he hq
    generalize rlook x.l a = s at *
    go_enter Try.func150, Try.ntmps150
    go_wp2_with (first
      | (go_at_call 102; refine hp.mono ?_; rintro e w1 ⟨rfl, hw⟩; obtain rfl := hw.symm; clear hp)
      | (go_at_call 143; refine HQ.out.mono ?_; rintro e w1 ⟨rfl, h1, hk⟩))
    go_ret2
    exact ⟨by rw [hb]; rfl, h1, hk⟩
  · have hq := racc_any w base r lv x h hn hc hbase 3 a (rlook x.l a) ha hl
    rw [if_neg he]
    have hb : (rlook x.l a == u) = false := beq_eq_false_iff_ne.2 he
    have hb2 : (rlook x.l a != u) = true := by simp [bne, hb]
    have HQ := Lib.hid hq
    clear h ha hv hl he hq
    generalize rlook x.l a = s at *
    go_enter Try.func150, Try.ntmps150
    go_wp2_with (first
      | (go_at_call 102; refine hp.mono ?_; rintro e w1 ⟨rfl, hw⟩; obtain rfl := hw.symm; clear hp)
      | (go_at_call 143; refine HQ.out.mono ?_; rintro e w1 ⟨rfl, h1, hk⟩))
    go_ret2
    exact ⟨by rw [hb]; rfl, h1, hk⟩
end
def RS.zero : RS := ⟨[], 0, 0, 0, 0, 0⟩
theorem rnew_nil (w : World) : Calls Try.prog 55 #[.slice none 0 0] w fun e w' => e = .returned (.pointer (some ⟨w.heap.size, 0, none⟩)) ∧ RCells w' w.heap.size w.heap.size (.slice none 0 0) RS.zero ∧ Below w.heap.size w w' := by
  go_enter Try.func55, Try.ntmps55
  go_wp2
  refine wp_loop_rounds 1 ?_
  rw [rounds_succ]
  go_wp2
  go_ret
  exact ⟨rfl, ⟨heap_alloc_new w _, Nat.le_refl _, World.ownsRow_nil _ _ _ _, fun p hp => by cases hp⟩, below_alloc' w _⟩
end Go.Proofs.Yteofdldlmmkgbaa

/-
  Cells: what they hold, as a function from addresses to words; the word at an address.
-/
namespace Go.Proofs.Yteofdldlmmkgbaa
open Go.RowKit Go.Maps
set_option linter.unusedVariables false

/-- Cells, as they are told: the words, how many accesses there were, the last one; n: no more addresses than these have a word of their own. -/
structure CS where
  val : Int → Int
  cnt : Nat
  n : Nat
  kind : Int
  addr : Int
  was : Int
  is : Int
def CS.acc (s : CS) (k a i : Int) : CS := ⟨upd s.val a i, s.cnt + 1, s.n + 1, k, a, s.val a, i⟩
def hdrC (mo : Option Nat) (s : CS) : Array Value := #[.map mo, .int .i64 s.cnt, .int .u8 s.kind, .int .u64 s.addr, .int .u64 s.was, .int .u64 s.is]
def wordC (v : Int) : Obj := .cells #[.int .u64 v] 212 (0, 0)

structure CellsAt (w : World) (base b : Nat) (mo : Option Nat) (f : Int → Option Nat) (s : CS) : Prop where
  hdr : w.heap[b]? = some (.cells (hdrC mo s) 167 (0, 0))
  lo : base ≤ b
  map : ∀ m, mo = some m → MapP w m s.n f ∧ base ≤ m ∧ m ≠ b
  nomap : mo = none → ∀ a, f a = none
  ptr : ∀ a p, f a = some p → w.heap[p]? = some (wordC (s.val a)) ∧ base ≤ p ∧ p ≠ b ∧ mo ≠ some p
  zero : ∀ a, f a = none → s.val a = 0
  inj : ∀ a a' p, f a = some p → f a' = some p → a = a'
  wf : ∀ a, (Lit.int .u64 (s.val a)).wf = true
/-- The blocks of cells. -/
def cellsFp (b : Nat) (mo : Option Nat) (f : Int → Option Nat) (k : Nat) : Prop := k = b ∨ mo = some k ∨ ∃ a, f a = some k
/-- Cells whose blocks are S. -/
def Cells (w : World) (base b : Nat) (s : CS) (S : Nat → Prop) : Prop := ∃ mo f, CellsAt w base b mo f s ∧ S = cellsFp b mo f

theorem CellsAt.keep {w w' : World} {base b : Nat} {mo : Option Nat} {f : Int → Option Nat} {s : CS} (h : CellsAt w base b mo f s) (hk : ∀ k, cellsFp b mo f k → w'.heap[k]? = w.heap[k]?) : CellsAt w' base b mo f s := by
  refine ⟨by rw [hk b (.inl rfl)]; exact h.hdr, h.lo, fun m hm => ?_, h.nomap, fun a p hp => ?_, h.zero, h.inj, h.wf⟩
  · obtain ⟨h1, h2⟩ := h.map m hm
    exact ⟨h1.keep (hk m (.inr (.inl hm))), h2⟩
  · obtain ⟨h1, h2⟩ := h.ptr a p hp
    exact ⟨by rw [hk p (.inr (.inr ⟨a, hp⟩))]; exact h1, h2⟩
theorem CellsAt.fp {w : World} {base b : Nat} {mo : Option Nat} {f : Int → Option Nat} {s : CS} (h : CellsAt w base b mo f s) : ∀ k, cellsFp b mo f k → base ≤ k ∧ k < w.heap.size := by
  rintro k (rfl | hm | ⟨a, ha⟩)
  · exact ⟨h.lo, (Array.getElem?_eq_some_iff.1 h.hdr).1⟩
  · exact ⟨(h.map k hm).2.1, (h.map k hm).1.lt⟩
  · exact ⟨(h.ptr a k ha).2.1, (Array.getElem?_eq_some_iff.1 (h.ptr a k ha).1).1⟩
theorem Cells.keep {w w' : World} {base b : Nat} {s : CS} {S : Nat → Prop} (h : Cells w base b s S) (hk : ∀ k, S k → w'.heap[k]? = w.heap[k]?) : Cells w' base b s S := by
  obtain ⟨mo, f, h, rfl⟩ := h
  exact ⟨mo, f, h.keep hk, rfl⟩
theorem Cells.fp {w : World} {base b : Nat} {s : CS} {S : Nat → Prop} (h : Cells w base b s S) : ∀ k, S k → base ≤ k ∧ k < w.heap.size := by
  obtain ⟨mo, f, h, rfl⟩ := h
  exact h.fp
theorem Cells.keeps {w w' : World} {base b : Nat} {s : CS} {S T : Nat → Prop} (h : Cells w base b s S) (hb : Keeps T w w') (hd : ∀ k, S k → ¬ T k) : Cells w' base b s S :=
  h.keep fun k hk => hb.block k (h.fp k hk).2 (hd k hk)
theorem Cells.below {w w' : World} {base b : Nat} {s : CS} {S : Nat → Prop} (h : Cells w base b s S) (hb : Below w.heap.size w w') : Cells w' base b s S :=
  h.keep fun k hk => hb.block k (h.fp k hk).2
theorem CellsAt.mono {w : World} {base b : Nat} {mo : Option Nat} {f : Int → Option Nat} {s : CS} (h : CellsAt w base b mo f s) (n : Nat) (hn : s.n ≤ n) : CellsAt w base b mo f { s with n := n } :=
  ⟨h.hdr, h.lo, fun m hm => ⟨(h.map m hm).1.mono hn, (h.map m hm).2⟩, h.nomap, h.ptr, h.zero, h.inj, h.wf⟩

theorem CellsAt.put {w w2 : World} {base b : Nat} {mo : Option Nat} {f : Int → Option Nat} {s : CS} (hA : CellsAt w base b mo f s) {a : Int} (ha : f a = none) (m p : Nat)
    (hdr : w2.heap[b]? = some (.cells (hdrC (some m) s) 167 (0, 0))) (hM : MapP w2 m (s.n + 1) (upd f a (some p))) (hm : base ≤ m) (hmb : m ≠ b) (hp : w2.heap[p]? = some (wordC 0)) (hpl : w.heap.size ≤ p) (hbase : base ≤ w.heap.size)
    (hmp : m ≠ p) (hold : ∀ x k, f x = some k → w2.heap[k]? = w.heap[k]? ∧ m ≠ k) : CellsAt w2 base b (some m) (upd f a (some p)) { s with n := s.n + 1 } := by
  have hb : b < w.heap.size := (Array.getElem?_eq_some_iff.1 hA.hdr).1
  refine ⟨hdr, hA.lo, fun m' h => ?_, (fun h => by cases h), fun x k hx => ?_, fun x hx => ?_, fun x x' k h1 h2 => ?_, hA.wf⟩
  · cases h; exact ⟨hM, hm, hmb⟩
  · by_cases he : x = a
    · subst he
      rw [upd_same] at hx; cases hx
      simp only [hA.zero x ha]
      exact ⟨hp, by omega, by omega, fun c => hmp (by cases c; rfl)⟩
    · rw [upd_other _ he] at hx
      obtain ⟨h1, h2, h3, _⟩ := hA.ptr x k hx
      obtain ⟨h5, h6⟩ := hold x k hx
      exact ⟨h5.trans h1, h2, h3, fun c => h6 (by cases c; rfl)⟩
  · by_cases he : x = a
    · subst he; rw [upd_same] at hx; cases hx
    · rw [upd_other _ he] at hx; exact hA.zero x hx
  · have hlt : ∀ x k, f x = some k → k < w.heap.size := fun x k h => (Array.getElem?_eq_some_iff.1 (hA.ptr x k h).1).1
    by_cases he : x = a
    · by_cases he2 : x' = a
      · rw [he, he2]
      · subst he; rw [upd_same] at h1; rw [upd_other _ he2] at h2; cases h1
        have := hlt _ _ h2; omega
    · by_cases he2 : x' = a
      · subst he2; rw [upd_same] at h2; rw [upd_other _ he] at h1; cases h2
        have := hlt _ _ h1; omega
      · rw [upd_other _ he] at h1; rw [upd_other _ he2] at h2; exact hA.inj _ _ _ h1 h2

set_option maxRecDepth 10000 in
set_option maxHeartbeats 1000000 in
theorem at_any (w : World) (base b : Nat) (mo : Option Nat) (f : Int → Option Nat) (s : CS) (hA : CellsAt w base b mo f s) (a : Int) (ha : (Lit.int .u64 a).wf = true) (hn : s.n < maxLen) (hbase : base ≤ w.heap.size) :
    Calls Try.prog 97 #[.pointer (some ⟨b, 0, none⟩), .int .u64 a] w fun e w' => ∃ mo' f' p, e = .returned (.pointer (some ⟨p, 0, none⟩)) ∧ CellsAt w' base b mo' f' { s with n := s.n + 1 } ∧ f' a = some p ∧
      Keeps (cellsFp b mo f) w w' ∧ ∀ k, cellsFp b mo' f' k → cellsFp b mo f k ∨ w.heap.size ≤ k := by
  have hmm := @run_makeMap Try.prog
  have qM : ∀ (w : World) (r : Option Nat), (binOp .eql 165 (.map r) (.map none)).run Try.prog w = .ok (.bool r.isNone) w := fun w r => run_eql_map_nil w _ _ _ r Try.underlying165
  have hb : b < w.heap.size := (Array.getElem?_eq_some_iff.1 hA.hdr).1
  have c0 : w.cell? ⟨b, 0, none⟩ = some (.map mo) := by simp [World.cell?, hA.hdr, hdrC]
  have f0 : w.frozen? ⟨b, 0, none⟩ = false := by simp [World.frozen?, hA.hdr]
  cases hfa : f a with
  | some p =>
    cases mo with
    | none => exact absurd (hA.nomap rfl a) (by simp [hfa])
    | some m =>
      have hl := (hA.map m rfl).1.look ha
      rw [hfa] at hl
      simp only [ptrV, Option.map] at hl
      have HF := Lib.hid hfa
      clear hfa
      go_enter Try.func97, Try.ntmps97
      go_wp2
      go_ret
      exact ⟨some m, f, p, rfl, hA.mono _ (by omega), HF.out, below_keeps (Below.refl _ _) _, fun k hk => .inl hk⟩
  | none =>
    cases mo with
    | some m =>
      have hl := (hA.map m rfl).1.look ha
      rw [hfa] at hl
      simp only [ptrV, Option.map] at hl
      have HF := Lib.hid hfa
      clear hfa
      have HM := (hA.map m rfl).1
      go_enter Try.func97, Try.ntmps97
      go_wp2_with (at_mapUpdate; refine wpList_put rfl _ _ _ rfl m s.n f rfl (HM.keep (Below.heap_alloc _ _ _ HM.lt)) hn a w.heap.size rfl rfl ha ?_; intro w2 hM2 hG2)
      go_ret
      have hml : m < w.heap.size := HM.lt
      have hb2 : w2.heap[b]? = w.heap[b]? := (hG2.block b (by simp; omega) (fun c => (hA.map m rfl).2.2 (by cases c; rfl))).trans (Below.heap_alloc _ _ _ hb)
      have hk2 : ∀ k, k < w.heap.size → k ≠ m → w2.heap[k]? = w.heap[k]? := fun k hk hne => (hG2.block k (by simp; omega) (fun c => hne (by cases c; rfl))).trans (Below.heap_alloc _ _ _ hk)
      refine ⟨some m, _, w.heap.size, rfl, hA.put HF.out m _ (hb2.trans hA.hdr) hM2 (hA.map m rfl).2.1 (hA.map m rfl).2.2 ?_ (Nat.le_refl _) hbase (by omega) (fun x k hx => ?_), upd_same _ _ _, ?_, ?_⟩
      · rw [hG2.block _ (by simp) (fun c => by cases c; omega)]; exact heap_alloc_new w _
      · have h1 := hA.ptr x k hx
        have hne : k ≠ m := fun c => h1.2.2.2 (by rw [c])
        exact ⟨hk2 k (Array.getElem?_eq_some_iff.1 h1.1).1 hne, Ne.symm hne⟩
      · exact ⟨hG2.os, hG2.tape, hG2.output, Nat.le_trans (by simp) hG2.size, fun k hk hn => hk2 k hk (fun c => hn (.inr (.inl (by rw [c]))))⟩
      · rintro k (rfl | hm | ⟨x, hx⟩)
        · exact .inl (.inl rfl)
        · exact .inl (.inr (.inl hm))
        · by_cases he : x = a
          · subst he; rw [upd_same] at hx; cases hx; exact .inr (Nat.le_refl _)
          · rw [upd_other _ he] at hx; exact .inl (.inr (.inr ⟨x, hx⟩))
    | none =>
      have hl := look_none w ha
      have HF := Lib.hid hfa
      clear hfa
      have hNo := hA.nomap rfl
      have e1 : (w.setCell ⟨b, 0, none⟩ (.map (some w.heap.size))).heap.size = w.heap.size := by simp [World.setCell]
      have hM0 : MapP (((w.setCell ⟨b, 0, none⟩ (.map (some w.heap.size))).alloc (.map #[] 0)).alloc (.cells #[.int .u64 0] 212)) w.heap.size 0 f := by
        have h := MapP.made (w.setCell ⟨b, 0, none⟩ (.map (some w.heap.size)))
        rw [e1] at h
        rw [show f = fun _ => none from funext hNo]
        exact h.keep (Below.heap_alloc _ _ _ (by simp))
      go_enter Try.func97, Try.ntmps97
      go_wp2_with (at_mapUpdate; refine wpList_put rfl _ _ _ rfl w.heap.size 0 f rfl hM0 (by unfold maxLen; omega) a (w.heap.size + 1) rfl rfl ha ?_; intro w2 hM2 hG2)
      go_ret
      have hs0 := setCell_same hA.hdr 0 (.map (some w.heap.size))
      have hk0 : Keeps (cellsFp b none f) w (((w.setCell ⟨b, 0, none⟩ (.map (some w.heap.size))).alloc (.map #[] 0)).alloc (.cells #[.int .u64 0] 212)) :=
        ((setCell_keeps w b 0 _).mono (T := cellsFp b none f) fun k _ h => .inl h).again (below_keeps (((Below.refl _ _).alloc (Nat.le_refl _) _).alloc (by simp) _) _)
      have hk1 : Keeps (cellsFp b none f) w w2 := ⟨hG2.os.trans hk0.os, hG2.tape.trans hk0.tape, hG2.output.trans hk0.output, Nat.le_trans hk0.size hG2.size, fun k hk hn => (hG2.block k (by simp; omega) (fun c => by cases c; omega)).trans (hk0.block k hk hn)⟩
      refine ⟨some w.heap.size, _, w.heap.size + 1, rfl, hA.put HF.out w.heap.size _ ?_ (hM2.mono (by omega)) hbase (by omega) ?_ (by omega) hbase (by omega) (fun x k hx => by rw [hNo x] at hx; cases hx), upd_same _ _ _, hk1, ?_⟩
      · rw [hG2.block b (by simp; omega) (fun c => by cases c; omega), Below.heap_alloc _ _ _ (by simp; omega), Below.heap_alloc _ _ _ (by simp; omega), hs0]; rfl
      · rw [hG2.block _ (by simp) (fun c => by simp only [Option.some.injEq] at c; omega)]
        have e2 : ((w.setCell ⟨b, 0, none⟩ (.map (some w.heap.size))).alloc (.map #[] 0)).heap.size = w.heap.size + 1 := by simp
        have := heap_alloc_new ((w.setCell ⟨b, 0, none⟩ (.map (some w.heap.size))).alloc (.map #[] 0)) (.cells #[.int .u64 0] 212)
        rw [e2] at this
        exact this
      · rintro k (rfl | hm | ⟨x, hx⟩)
        · exact .inl (.inl rfl)
        · cases hm; exact .inr (Nat.le_refl _)
        · by_cases he : x = a
          · subst he; rw [upd_same] at hx; cases hx; exact .inr (by omega)
          · rw [upd_other _ he, hNo x] at hx; cases hx
end Go.Proofs.Yteofdldlmmkgbaa

/-
  Accesses of cells: what each tells, and leaves.
-/
namespace Go.Proofs.Yteofdldlmmkgbaa
open Go.RowKit Go.Maps
set_option linter.unusedVariables false

/-- More accesses than there may be. -/
def lim : Nat := 4611686018427387904
theorem lim_le : lim ≤ maxLen := by unfold lim maxLen; omega

theorem CellsAt.hit {w w2 : World} {base b : Nat} {mo : Option Nat} {f : Int → Option Nat} {s : CS} (hA : CellsAt w base b mo f s) {a : Int} {p : Nat} (ha : f a = some p) (i : Int) (hi : (Lit.int .u64 i).wf = true)
    (hp : w2.heap[p]? = some (wordC i)) (hold : ∀ k, cellsFp b mo f k → k ≠ p → w2.heap[k]? = w.heap[k]?) : CellsAt w2 base b mo f { s with val := upd s.val a i } := by
  have hpp := hA.ptr a p ha
  refine ⟨(hold b (.inl rfl) (Ne.symm hpp.2.2.1)).trans hA.hdr, hA.lo, fun m hm => ?_, hA.nomap, fun x k hx => ?_, fun x hx => ?_, hA.inj, fun x => ?_⟩
  · obtain ⟨h1, h2⟩ := hA.map m hm
    exact ⟨h1.keep (hold m (.inr (.inl hm)) (fun c => hpp.2.2.2 (by rw [hm, c]))), h2⟩
  · obtain ⟨h1, h2⟩ := hA.ptr x k hx
    by_cases he : x = a
    · subst he; rw [ha] at hx; cases hx
      simp only [upd_same]; exact ⟨hp, h2⟩
    · simp only [upd_other _ he]
      exact ⟨(hold k (.inr (.inr ⟨x, hx⟩)) (fun c => he (hA.inj _ _ _ hx (by rw [ha, c])))).trans h1, h2⟩
  · by_cases he : x = a
    · subst he; rw [ha] at hx; cases hx
    · simp only [upd_other _ he]; exact hA.zero x hx
  · by_cases he : x = a
    · subst he; simp only [upd_same]; exact hi
    · simp only [upd_other _ he]; exact hA.wf x
theorem CellsAt.head {w w2 : World} {base b : Nat} {mo : Option Nat} {f : Int → Option Nat} {s s2 : CS} (hA : CellsAt w base b mo f s) (hv : s2.val = s.val) (hn : s2.n = s.n)
    (hp : w2.heap[b]? = some (.cells (hdrC mo s2) 167 (0, 0))) (hold : ∀ k, cellsFp b mo f k → k ≠ b → w2.heap[k]? = w.heap[k]?) : CellsAt w2 base b mo f s2 := by
  refine ⟨hp, hA.lo, fun m hm => ?_, hA.nomap, fun x k hx => ?_, fun x hx => ?_, hA.inj, fun x => ?_⟩
  · obtain ⟨h1, h2, h3⟩ := hA.map m hm
    rw [hn]; exact ⟨h1.keep (hold m (.inr (.inl hm)) h3), h2, h3⟩
  · obtain ⟨h1, h2, h3, h4⟩ := hA.ptr x k hx
    rw [hv]; exact ⟨(hold k (.inr (.inr ⟨x, hx⟩)) h3).trans h1, h2, h3, h4⟩
  · rw [hv]; exact hA.zero x hx
  · rw [hv]; exact hA.wf x

set_option maxRecDepth 10000 in
set_option maxHeartbeats 1000000 in
theorem access_gen (F : Nat) (cap : Array Value) (kd : Int) (w : World) (base b : Nat) (s : CS) (S : Nat → Prop) (hA : Cells w base b s S) (a : Int) (ha : (Lit.int .u64 a).wf = true) (hn : s.n < lim) (hc : s.cnt < lim) (hbase : base ≤ w.heap.size)
    (i st : Int) (hi : (Lit.int .u64 i).wf = true) (X : Nat → Prop) (O : Nat → Option Obj) (hX : ∀ k, X k → k < w.heap.size ∧ ¬ S k) (hst : st = s.val a)
    (hcf : ∀ (args : Array Value) (w : World), (callFunc F args).run Try.prog w = .ok (.enter F args) w)
    (hF : ∀ (w1 : World) (p : Nat), Keeps S w w1 → (S p ∨ w.heap.size ≤ p) → w1.heap[p]? = some (wordC (s.val a)) →
      Calls Try.prog F (#[.pointer (some ⟨p, 0, none⟩)] ++ cap) w1 fun e w2 => e = .returned (.int .u64 st) ∧ w2.heap[p]? = some (wordC i) ∧ Keeps (fun k => k = p ∨ X k) w1 w2 ∧ ∀ k, X k → w2.heap[k]? = O k) :
    Calls Try.prog 70 #[.pointer (some ⟨b, 0, none⟩), .int .u8 kd, .int .u64 a, .func (.func F) #[] cap] w fun e w' => ∃ S', e = .returned (.int .u64 st) ∧ Cells w' base b (s.acc kd a i) S' ∧
      Keeps (fun k => S k ∨ X k) w w' ∧ (∀ k, S' k → S k ∨ w.heap.size ≤ k) ∧ ∀ k, X k → w'.heap[k]? = O k := by
  obtain ⟨mo, f, hA, rfl⟩ := hA
  go_enter Try.func70, Try.ntmps70
  go_wp2_with (first
    | (go_at_call 97; refine (at_any _ base b mo f s hA a ha (Nat.lt_of_lt_of_le hn lim_le) hbase).mono ?_; rintro e w1 ⟨mo1, f1, p, rfl, h1, h2, h3, h4⟩)
    | (fail))
  have hlt1 := h1.fp
  have hpp := h1.ptr a p h2
  have hXS := hX
  have hXf : ∀ k, cellsFp b mo1 f1 k → ¬ X k := fun k hk hx => by
    obtain ⟨q1, q2⟩ := hX k hx
    rcases h4 k hk with q | q
    · exact q2 q
    · omega
  refine (hF w1 p h3 (h4 p (.inr (.inr ⟨a, h2⟩))) hpp.1).mono ?_
  rintro e w2 ⟨rfl, g1, g2, g3⟩
  have h5 := h1.hit h2 i hi g1 (fun k hk hne => g2.block k (hlt1 k hk).2 (fun c => c.elim hne (hXf k hk)))
  have hw2 : Keeps (fun k => cellsFp b mo f k ∨ X k) w w2 := by
    refine ((h3.mono (T := fun k => cellsFp b mo f k ∨ X k) fun k _ h => .inl h).trans g2).mono fun k hk h => ?_
    rcases h with h | rfl | h
    · exact h
    · rcases h4 _ (.inr (.inr ⟨a, h2⟩)) with q | q
      · exact .inl q
      · omega
    · exact .inr h
  have hpb : p ≠ b := hpp.2.2.1
  have hHB := Lib.hid h5.hdr
  have hb2 : w2.heap[b]? = some (.cells #[.map mo1, .int .i64 s.cnt, .int .u8 s.kind, .int .u64 s.addr, .int .u64 s.was, .int .u64 s.is] 167 (0, 0)) := h5.hdr
  have c1 : w2.cell? ⟨b, 1, none⟩ = some (.int .i64 s.cnt) := by simp [World.cell?, hb2]
  have c2 : w2.cell? ⟨b, 2, none⟩ = some (.int .u8 s.kind) := by simp [World.cell?, hb2]
  have c3 : w2.cell? ⟨b, 3, none⟩ = some (.int .u64 s.addr) := by simp [World.cell?, hb2]
  have c4 : w2.cell? ⟨b, 4, none⟩ = some (.int .u64 s.was) := by simp [World.cell?, hb2]
  have c5 : w2.cell? ⟨b, 5, none⟩ = some (.int .u64 s.is) := by simp [World.cell?, hb2]
  have f1' : w2.frozen? ⟨b, 1, none⟩ = false := by simp [World.frozen?, hb2]
  have f2' : w2.frozen? ⟨b, 2, none⟩ = false := by simp [World.frozen?, hb2]
  have f3' : w2.frozen? ⟨b, 3, none⟩ = false := by simp [World.frozen?, hb2]
  have f4' : w2.frozen? ⟨b, 4, none⟩ = false := by simp [World.frozen?, hb2]
  have f5' : w2.frozen? ⟨b, 5, none⟩ = false := by simp [World.frozen?, hb2]
  have cp : (w2.setCell ⟨b, 1, none⟩ (.int .i64 ((s.cnt : Int) + 1))).cell? ⟨p, 0, none⟩ = some (.int .u64 i) := by
    rw [World.cell?_setCell_other _ _ _ _ (by simp)]; simp [World.cell?, g1, wordC]
  have hcnt : (s.cnt : Int) < 4611686018427387904 := by unfold lim at hc; omega
  have HH1 := Lib.hid h1; have HH2 := Lib.hid h2; have HH5 := Lib.hid h5; have HP := Lib.hid hpp; have HB2 := Lib.hid hb2; have HG1 := Lib.hid g1; have HG3 := Lib.hid g3; have HST := Lib.hid hst
  clear h1 h2 h3 h5 hpp hb2 g1 g2 g3 hlt1 hF hX hXf hst hA hn hc hi ha
  go_wp2_with (first
    | (go_at_call 77; refine (a_load p i _ cp).mono ?_; rintro e w' ⟨rfl, rfl⟩))
  go_ret
  have b2 := HB2.out
  have s1 := setCell_same b2 1 (.int .i64 ((s.cnt : Int) + 1))
  have s2 := setCell_same s1 2 (.int .u8 kd)
  have s3 := setCell_same s2 3 (.int .u64 a)
  have s4 := setCell_same s3 4 (.int .u64 st)
  have s5 := setCell_same s4 5 (.int .u64 i)
  have k5 := (((((setCell_keeps w2 b 1 (.int .i64 ((s.cnt : Int) + 1))).again (setCell_keeps _ b 2 (.int .u8 kd))).again (setCell_keeps _ b 3 (.int .u64 a))).again (setCell_keeps _ b 4 (.int .u64 st))).again (setCell_keeps _ b 5 (.int .u64 i)))
  have h5 := HH5.out
  have hbX : ∀ k, X k → k ≠ b := fun k hk c => by
    have := hXS k hk
    exact this.2 (.inl c)
  refine ⟨cellsFp b mo1 f1, rfl, ⟨mo1, f1, h5.head (s2 := s.acc kd a i) rfl rfl ?_ (fun k hk hne => k5.block k (h5.fp k hk).2 hne), rfl⟩, hw2.again (k5.mono fun k _ h => .inl (.inl h)), h4, fun k hk => ?_⟩
  · rw [s5]; simp only [hdrC, CS.acc, ← HST.out]; rfl
  · rw [k5.block k (Nat.lt_of_lt_of_le (hXS k hk).1 hw2.size) (hbX k hk)]; exact HG3.out k hk
end Go.Proofs.Yteofdldlmmkgbaa

/-
  Load, Store, Swap, Add, CAS, Count, Last, Peek of cells.
-/
namespace Go.Proofs.Yteofdldlmmkgbaa
open Go.RowKit Go.Maps
set_option linter.unusedVariables false

/-- What an access of cells leaves. -/
def Acc (w : World) (base b : Nat) (s' : CS) (S : Nat → Prop) (w' : World) : Prop :=
  ∃ S', Cells w' base b s' S' ∧ Keeps S w w' ∧ ∀ k, S' k → S k ∨ w.heap.size ≤ k

theorem cell_of_word {w : World} {p : Nat} {v : Int} (h : w.heap[p]? = some (wordC v)) : w.cell? ⟨p, 0, none⟩ = some (.int .u64 v) := by simp [World.cell?, h, wordC]
theorem free_of_word {w : World} {p : Nat} {v : Int} (h : w.heap[p]? = some (wordC v)) : w.frozen? ⟨p, 0, none⟩ = false := by simp [World.frozen?, h, wordC]
theorem word_set {w : World} {p : Nat} {v : Int} (h : w.heap[p]? = some (wordC v)) (y : Int) : (w.setCell ⟨p, 0, none⟩ (.int .u64 y)).heap[p]? = some (wordC y) := by
  have := setCell_same h 0 (.int .u64 y); simpa [wordC] using this

theorem load_any (w : World) (base b : Nat) (s : CS) (S : Nat → Prop) (hA : Cells w base b s S) (a : Int) (ha : (Lit.int .u64 a).wf = true) (hn : s.n < lim) (hc : s.cnt < lim) (hbase : base ≤ w.heap.size) :
    Calls Try.prog 120 #[.pointer (some ⟨b, 0, none⟩), .int .u64 a] w fun e w' => e = .returned (.int .u64 (s.val a)) ∧ Acc w base b (s.acc 1 a (s.val a)) S w' := by
  have hw : (Lit.int .u64 (s.val a)).wf = true := by obtain ⟨mo, f, h, rfl⟩ := hA; exact h.wf a
  have key := access_gen 77 #[] 1 w base b s S hA a ha hn hc hbase (s.val a) (s.val a) hw (fun _ => False) (fun _ => none) (fun k h => h.elim) rfl (fun args w => by kernel_rfl)
    (fun w1 p _ _ hp => (a_load p _ w1 (cell_of_word hp)).mono (by rintro e w2 ⟨rfl, rfl⟩; exact ⟨rfl, hp, below_keeps (Below.refl _ _) _, fun k h => h.elim⟩))
  clear hA ha hn hc
  go_enter Try.func120, Try.ntmps120
  go_wp2_with (go_at_call 70; refine key.mono ?_; rintro e w1 ⟨S', rfl, h1, h2, h3, -⟩)
  go_ret
  exact ⟨rfl, S', h1, h2.mono (fun k _ h => h.elim id False.elim), h3⟩

/-- A block of one captured word. -/
theorem cap_cell {w w1 : World} {S : Nat → Prop} {q : Nat} {v : Int} (h : w.heap[q]? = some (.cells #[.int .u64 v] 39 (0, 0))) (hk : Keeps S w w1) (hq : ¬ S q) : w1.cell? ⟨q, 0, none⟩ = some (.int .u64 v) := by
  have h2 : w1.heap[q]? = some (.cells #[.int .u64 v] 39 (0, 0)) := (hk.block q (Array.getElem?_eq_some_iff.1 h).1 hq).trans h
  simp [World.cell?, h2]

theorem swaps1 (w1 : World) (p q : Nat) (x v : Int) (hp : w1.heap[p]? = some (wordC x)) (hq : w1.cell? ⟨q, 0, none⟩ = some (.int .u64 v)) :
    Calls Try.prog 141 #[.pointer (some ⟨p, 0, none⟩), .pointer (some ⟨q, 0, none⟩)] w1 fun e w2 => e = .returned (.int .u64 x) ∧ w2 = w1.setCell ⟨p, 0, none⟩ (.int .u64 v) := by
  have h1 := cell_of_word hp
  have h2 := free_of_word hp
  clear hp
  go_enter Try.func141, Try.ntmps141
  go_wp2_with (go_at_call 142; refine (a_swap p x v _ h1 h2).mono ?_; rintro e w' ⟨rfl, rfl⟩)
  go_ret
  exact ⟨rfl, rfl⟩
theorem swaps_any (w : World) (v : Int) : Calls Try.prog 122 #[.int .u64 v] w fun e w2 => e = .returned (.func (.func 141) #[] #[.pointer (some ⟨w.heap.size, 0, none⟩)]) ∧ w2 = w.alloc (.cells #[.int .u64 v] 39) := by
  have hmf : ∀ (fn : Fn) (first cap : Array Value) (w : World), (Instr.makeFunc fn first cap).run Try.prog w = .ok (.func fn first cap) w := fun _ _ _ _ => rfl
  go_enter Try.func122, Try.ntmps122
  go_wp2
  go_ret
  exact ⟨rfl, rfl⟩

theorem acc_alloc {w w' : World} {base b : Nat} {s' : CS} {S : Nat → Prop} {o : Obj} (h : Acc (w.alloc o) base b s' S w') : Acc w base b s' S w' := by
  obtain ⟨S', h1, h2, h3⟩ := h
  exact ⟨S', h1, (below_keeps ((Below.refl _ _).alloc (Nat.le_refl _) _) S).again h2, fun k hk => (h3 k hk).imp id (fun h => by simp at h; omega)⟩

theorem swap_key (kd : Int) (w : World) (base b : Nat) (s : CS) (S : Nat → Prop) (hA : Cells w base b s S) (a v : Int) (ha : (Lit.int .u64 a).wf = true) (hv : (Lit.int .u64 v).wf = true) (hn : s.n < lim) (hc : s.cnt < lim) (hbase : base ≤ w.heap.size) :
    Calls Try.prog 70 #[.pointer (some ⟨b, 0, none⟩), .int .u8 kd, .int .u64 a, .func (.func 141) #[] #[.pointer (some ⟨w.heap.size, 0, none⟩)]] (w.alloc (.cells #[.int .u64 v] 39)) fun e w' =>
      e = .returned (.int .u64 (s.val a)) ∧ Acc w base b (s.acc kd a v) S w' := by
  have hS := hA.fp
  refine (access_gen 141 #[.pointer (some ⟨w.heap.size, 0, none⟩)] kd (w.alloc (.cells #[.int .u64 v] 39)) base b s S (hA.below ((Below.refl _ _).alloc (Nat.le_refl _) _)) a ha hn hc (by simp; omega) v (s.val a) hv (fun _ => False) (fun _ => none) (fun k h => h.elim) rfl (fun args w => by kernel_rfl)
    (fun w1 p hk hS2 hp => (swaps1 w1 p w.heap.size _ v hp (cap_cell (heap_alloc_new w _) hk (fun c => by have := (hS _ c).2; omega))).mono ?_)).mono ?_
  · rintro e w2 ⟨rfl, rfl⟩
    exact ⟨rfl, word_set hp v, (setCell_keeps w1 p 0 _).mono fun k _ h => .inl h, fun k h => h.elim⟩
  · rintro e w2 ⟨S', rfl, h1, h2, h3, -⟩
    exact ⟨rfl, acc_alloc ⟨S', h1, h2.mono (fun k _ h => h.elim id False.elim), h3⟩⟩

theorem store_any (w : World) (base b : Nat) (s : CS) (S : Nat → Prop) (hA : Cells w base b s S) (a v : Int) (ha : (Lit.int .u64 a).wf = true) (hv : (Lit.int .u64 v).wf = true) (hn : s.n < lim) (hc : s.cnt < lim) (hbase : base ≤ w.heap.size) :
    Calls Try.prog 83 #[.pointer (some ⟨b, 0, none⟩), .int .u64 a, .int .u64 v] w fun e w' => e = .returned (.int .u64 (s.val a)) ∧ Acc w base b (s.acc 2 a v) S w' := by
  have key := swap_key 2 w base b s S hA a v ha hv hn hc hbase
  clear hA ha hn hc hv
  go_enter Try.func83, Try.ntmps83
  go_wp2_with (first | (go_at_call 122; refine (swaps_any _ v).mono ?_; rintro e w1 ⟨rfl, rfl⟩) | (go_at_call 70; refine key.mono ?_; rintro e w1 ⟨rfl, h1⟩))
  go_ret
  exact ⟨rfl, h1⟩
theorem add1 (w1 : World) (p q : Nat) (x v : Int) (hx : (Lit.int .u64 x).wf = true) (hp : w1.heap[p]? = some (wordC x)) (hq : w1.cell? ⟨q, 0, none⟩ = some (.int .u64 v)) (hpq : q ≠ p) :
    Calls Try.prog 71 #[.pointer (some ⟨p, 0, none⟩), .pointer (some ⟨q, 0, none⟩)] w1 fun e w2 => e = .returned (.int .u64 x) ∧ w2 = w1.drew.setCell ⟨p, 0, none⟩ (.int .u64 (wu (x + v))) := by
  have h1 := cell_of_word hp
  have h2 := free_of_word hp
  have hq2 : (w1.drew.setCell ⟨p, 0, none⟩ (.int .u64 (wu (x + v)))).cell? ⟨q, 0, none⟩ = some (.int .u64 v) := by rw [World.cell?_setCell_other _ _ _ _ (by simp)]; exact hq
  have hb := wu_back v hx
  have HX := Lib.hid hx
  clear hp hx
  go_enter Try.func71, Try.ntmps71
  go_wp2
  go_region_with (go_at_call 72; refine (a_add p x v w1.drew h1 h2).mono ?_; rintro e w' ⟨rfl, rfl⟩)
  all_goals (try go_wp2)
  all_goals (go_ret; exact ⟨rfl, rfl⟩)

theorem add_any (w : World) (base b : Nat) (s : CS) (S : Nat → Prop) (hA : Cells w base b s S) (a v : Int) (ha : (Lit.int .u64 a).wf = true) (hn : s.n < lim) (hc : s.cnt < lim) (hbase : base ≤ w.heap.size) :
    Calls Try.prog 22 #[.pointer (some ⟨b, 0, none⟩), .int .u64 a, .int .u64 v] w fun e w' => e = .returned (.int .u64 (s.val a)) ∧ Acc w base b (s.acc 4 a (wu (s.val a + v))) S w' := by
  have hS := hA.fp
  have hwf : (Lit.int .u64 (s.val a)).wf = true := by obtain ⟨mo, f, h, rfl⟩ := hA; exact h.wf a
  have hmf : ∀ (fn : Fn) (first cap : Array Value) (w : World), (Instr.makeFunc fn first cap).run Try.prog w = .ok (.func fn first cap) w := fun _ _ _ _ => rfl
  have key := access_gen 71 #[.pointer (some ⟨w.heap.size, 0, none⟩)] 4 (w.alloc (.cells #[.int .u64 v] 39)) base b s S (hA.below ((Below.refl _ _).alloc (Nat.le_refl _) _)) a ha hn hc (by simp; omega) (wu (s.val a + v)) (s.val a) (wf_wu _) (fun _ => False) (fun _ => none) (fun k h => h.elim) rfl (fun args w => by kernel_rfl)
    (fun w1 p hk hS2 hp => (add1 w1 p w.heap.size _ v hwf hp (cap_cell (heap_alloc_new w _) hk (fun c => by have := (hS _ c).2; omega)) (fun c => by
      rcases hS2 with q | q
      · have := (hS _ q).2; omega
      · simp at q; omega)).mono (by
        rintro e w2 ⟨rfl, rfl⟩
        refine ⟨rfl, ?_, ?_, fun k h => h.elim⟩
        · exact word_set (w := w1.drew) hp _
        · have := (below_keeps (below_drewN w1 1) (fun k => k = p ∨ False)).again ((setCell_keeps w1.drew p 0 (.int .u64 (wu (s.val a + v)))).mono fun k _ h => .inl h)
          exact this))
  clear hA ha hn hc hwf hS
  go_enter Try.func22, Try.ntmps22
  go_wp2_with (go_at_call 70; refine key.mono ?_; rintro e w1 ⟨S', rfl, h1, h2, h3, -⟩)
  go_ret
  exact ⟨rfl, acc_alloc ⟨S', h1, h2.mono (fun k _ h => h.elim id False.elim), h3⟩⟩

/-- The block that says whether a CAS was done. -/
def doneC (d : Bool) : Obj := .cells #[.bool d] 4 (0, 0)
theorem cas1 (w1 : World) (p q1 q2 d : Nat) (x a b : Int) (d0 : Bool) (hp : w1.heap[p]? = some (wordC x)) (ha : w1.cell? ⟨q1, 0, none⟩ = some (.int .u64 a)) (hb : w1.cell? ⟨q2, 0, none⟩ = some (.int .u64 b)) (hd : w1.heap[d]? = some (doneC d0))
    (hpd : p ≠ d) (hq1 : q1 ≠ p) (hq1d : q1 ≠ d) :
    Calls Try.prog 117 #[.pointer (some ⟨p, 0, none⟩), .pointer (some ⟨q1, 0, none⟩), .pointer (some ⟨q2, 0, none⟩), .pointer (some ⟨d, 0, none⟩)] w1 fun e w2 => e = .returned (.int .u64 x) ∧
      w2.heap[p]? = some (wordC (if x = a then b else x)) ∧ Keeps (fun k => k = p ∨ k = d) w1 w2 ∧ w2.heap[d]? = some (doneC (x == a)) := by
  have h1 := cell_of_word hp
  have h2 := free_of_word hp
  have hd1 : w1.cell? ⟨d, 0, none⟩ = some (.bool d0) := by simp [World.cell?, hd, doneC]
  have hd2 : w1.frozen? ⟨d, 0, none⟩ = false := by simp [World.frozen?, hd, doneC]
  by_cases hx : x = a
  · subst hx
    have k1 := setCell_keeps w1 p 0 (.int .u64 b)
    have hdw : (w1.setCell ⟨p, 0, none⟩ (.int .u64 b)).heap[d]? = some (doneC d0) := by rw [k1.block d (Array.getElem?_eq_some_iff.1 hd).1 (Ne.symm hpd)]; exact hd
    have k2 := setCell_keeps (w1.setCell ⟨p, 0, none⟩ (.int .u64 b)) d 0 (.bool true)
    have hpw := word_set hp b
    have HP := Lib.hid hp; have HD := Lib.hid hd; have HDW := Lib.hid hdw; have HPW := Lib.hid hpw; have K1 := Lib.hid k1; have K2 := Lib.hid k2
    have hd1' : (w1.setCell ⟨p, 0, none⟩ (.int .u64 b)).cell? ⟨d, 0, none⟩ = some (.bool d0) := by simp [World.cell?, hdw, doneC]
    have hd2' : (w1.setCell ⟨p, 0, none⟩ (.int .u64 b)).frozen? ⟨d, 0, none⟩ = false := by simp [World.frozen?, hdw, doneC]
    have e1 : ((w1.setCell ⟨p, 0, none⟩ (.int .u64 b)).setCell ⟨d, 0, none⟩ (.bool true)).cell? ⟨d, 0, none⟩ = some (.bool true) := by simp [World.cell?, setCell_same hdw]
    have e2 : ((w1.setCell ⟨p, 0, none⟩ (.int .u64 b)).setCell ⟨d, 0, none⟩ (.bool true)).cell? ⟨q1, 0, none⟩ = some (.int .u64 x) := by
      rw [World.cell?_setCell_other _ _ _ _ (by simp), World.cell?_setCell_other _ _ _ _ (by simp)]; exact ha
    clear hp hd hdw hpw k1 k2
    go_enter Try.func117, Try.ntmps117
    go_wp2_with (go_at_call 118; refine (a_cas_hit p x b _ h1 h2).mono ?_; rintro e w' ⟨rfl, rfl⟩)
    go_ret
    refine ⟨rfl, ?_, ?_, ?_⟩
    · rw [K2.out.block p (by simp [World.setCell]; exact (Array.getElem?_eq_some_iff.1 HP.out).1) hpd]; exact HPW.out
    · exact (K1.out.mono fun k _ h => .inl h).again (K2.out.mono fun k _ h => .inr h)
    · rw [setCell_same HDW.out]; rfl
  · have k2 := setCell_keeps w1 d 0 (.bool false)
    have e1 : (w1.setCell ⟨d, 0, none⟩ (.bool false)).cell? ⟨d, 0, none⟩ = some (.bool false) := by simp [World.cell?, setCell_same hd]
    have e2 : (w1.setCell ⟨d, 0, none⟩ (.bool false)).cell? ⟨p, 0, none⟩ = some (.int .u64 x) := by
      rw [World.cell?_setCell_other _ _ _ _ (by simp)]; exact h1
    have hxb : (x == a) = false := by simp [hx]
    have HP := Lib.hid hp; have HD := Lib.hid hd; have K2 := Lib.hid k2
    clear hp hd k2
    go_enter Try.func117, Try.ntmps117
    go_wp2_with (first | (go_at_call 118; refine (a_cas_miss p x a b _ h1 h2 hx).mono ?_; rintro e w' ⟨rfl, rfl⟩) | (go_at_call 77; refine (a_load p x _ e2).mono ?_; rintro e w' ⟨rfl, rfl⟩))
    go_ret
    refine ⟨rfl, ?_, K2.out.mono fun k _ h => .inr h, ?_⟩
    · rw [K2.out.block p (Array.getElem?_eq_some_iff.1 HP.out).1 hpd]; exact HP.out
    · rw [setCell_same HD.out]; rfl

theorem cas_any (w : World) (base b : Nat) (s : CS) (S : Nat → Prop) (hA : Cells w base b s S) (a x y : Int) (ha : (Lit.int .u64 a).wf = true) (hy : (Lit.int .u64 y).wf = true) (hn : s.n < lim) (hc : s.cnt < lim) (hbase : base ≤ w.heap.size) :
    Calls Try.prog 79 #[.pointer (some ⟨b, 0, none⟩), .int .u64 a, .int .u64 x, .int .u64 y] w fun e w' => e = .returned (.tuple #[.int .u64 (s.val a), .bool (s.val a == x)]) ∧
      Acc w base b (s.acc 3 a (if s.val a = x then y else s.val a)) S w' := by
  have hS := hA.fp
  have hwf : (Lit.int .u64 (s.val a)).wf = true := by obtain ⟨mo, f, h, rfl⟩ := hA; exact h.wf a
  have hmf : ∀ (fn : Fn) (first cap : Array Value) (w : World), (Instr.makeFunc fn first cap).run Try.prog w = .ok (.func fn first cap) w := fun _ _ _ _ => rfl
  obtain ⟨w0, hw0⟩ : ∃ w0, w0 = ((w.alloc (.cells #[.int .u64 x] 39)).alloc (.cells #[.int .u64 y] 39)).alloc (.cells #[.bool false] 4) := ⟨_, rfl⟩
  have hB : Below w.heap.size w w0 := by rw [hw0]; exact (((Below.refl _ _).alloc (Nat.le_refl _) _).alloc (by simp) _).alloc (by simp; omega) _
  have hsz : w0.heap.size = w.heap.size + 3 := by rw [hw0]; simp
  have q1 : w0.heap[w.heap.size]? = some (.cells #[.int .u64 x] 39 (0, 0)) := by
    rw [hw0, Below.heap_alloc _ _ _ (by simp; omega), Below.heap_alloc _ _ _ (by simp)]; exact heap_alloc_new w _
  have q2 : w0.heap[w.heap.size + 1]? = some (.cells #[.int .u64 y] 39 (0, 0)) := by
    rw [hw0, Below.heap_alloc _ _ _ (by simp)]
    have := heap_alloc_new (w.alloc (.cells #[.int .u64 x] 39)) (.cells #[.int .u64 y] 39)
    simpa using this
  have q3 : w0.heap[w.heap.size + 2]? = some (doneC false) := by
    rw [hw0]
    have := heap_alloc_new ((w.alloc (.cells #[.int .u64 x] 39)).alloc (.cells #[.int .u64 y] 39)) (.cells #[.bool false] 4)
    have e2 : ((w.alloc (.cells #[.int .u64 x] 39)).alloc (.cells #[.int .u64 y] 39)).heap.size = w.heap.size + 2 := by simp
    rw [e2] at this
    exact this
  have hA0 := hA.below hB
  have hi : (Lit.int .u64 (if s.val a = x then y else s.val a)).wf = true := by split <;> assumption
  have hSn : ∀ k, w.heap.size ≤ k → ¬ S k := fun k hk c => by have := (hS k c).2; omega
  have hpn : ∀ p k, (S p ∨ w0.heap.size ≤ p) → w.heap.size ≤ k → k < w0.heap.size → p ≠ k := fun p k h h1 h2 c => by
    rcases h with q | q
    · have := (hS _ q).2; omega
    · omega
  have key := access_gen 117 #[.pointer (some ⟨w.heap.size, 0, none⟩), .pointer (some ⟨w.heap.size + 1, 0, none⟩), .pointer (some ⟨w.heap.size + 2, 0, none⟩)] 3 w0 base b s S hA0 a ha hn hc (by omega)
    (if s.val a = x then y else s.val a) (s.val a) hi (fun k => k = w.heap.size + 2) (fun k => some (doneC (s.val a == x))) (fun k h => ⟨by omega, fun c => by have := (hS k c).2; omega⟩) rfl (fun args w => by kernel_rfl)
    (fun w1 p hk hS2 hp => (cas1 w1 p w.heap.size (w.heap.size + 1) (w.heap.size + 2) _ x y false hp (cap_cell q1 hk (hSn _ (by omega))) (cap_cell q2 hk (hSn _ (by omega)))
      ((hk.block _ (by omega) (hSn _ (by omega))).trans q3) (hpn p _ hS2 (by omega) (by omega)) (Ne.symm (hpn p _ hS2 (by omega) (by omega))) (by omega)).mono (by
        rintro e w2 ⟨rfl, g1, g2, g3⟩
        exact ⟨rfl, g1, g2, fun k hk => by rw [hk]; exact g3⟩))
  clear hA ha hn hc hwf hA0 q1 q2 q3 hi hy hSn hpn
  generalize (if s.val a = x then y else s.val a) = i at key ⊢
  generalize (s.val a == x) = dn at key ⊢
  go_enter Try.func79, Try.ntmps79
  go_wp2_with (go_at_call 70; rw [← hw0]; refine key.mono ?_; rintro e w1 ⟨S', rfl, h1, h2, h3, h4⟩; have h5 := h4 _ rfl; have d1 : w1.cell? ⟨w.heap.size + 2, 0, none⟩ = some (.bool dn) := by simp [World.cell?, h5, doneC])
  have d1' : w1.cell? ⟨w.heap.size + 1 + 1, 0, none⟩ = some (.bool dn) := d1
  have d2' : w1.frozen? ⟨w.heap.size + 1 + 1, 0, none⟩ = false := by
    have : w1.heap[w.heap.size + 1 + 1]? = some (doneC dn) := h5
    simp [World.frozen?, this, doneC]
  have H5 := Lib.hid h5; have H4 := Lib.hid h4; have HW := Lib.hid hw0
  clear h5 h4 hw0 key
  go_region
  have K2 := setCell_keeps w1 (w.heap.size + 1 + 1) 0 (.bool dn)
  have e1 : (w1.setCell ⟨w.heap.size + 1 + 1, 0, none⟩ (.bool dn)).drew.cell? ⟨w.heap.size + 1 + 1, 0, none⟩ = some (.bool dn) := by
    have := setCell_same (o := 0) (show w1.heap[w.heap.size + 1 + 1]? = some (.cells #[.bool dn] 4 (0, 0)) from H5.out) (.bool dn)
    have h2 : (w1.setCell ⟨w.heap.size + 1 + 1, 0, none⟩ (.bool dn)).cell? ⟨w.heap.size + 1 + 1, 0, none⟩ = some (.bool dn) := by simp [World.cell?, this]
    exact h2
  have HK := Lib.hid K2
  clear K2
  all_goals (try go_wp2)
  refine bodyPost_ret (v := .tuple #[.int .u64 (s.val a), .bool dn]) (by simp [results, Try.results79, go_sem, e1]) rfl ⟨rfl, S', ?_, ?_, ?_⟩
  · refine h1.keep fun k hk => HK.out.block k (h1.fp k hk).2 (fun c => ?_)
    rcases h3 k hk with q | q
    · have := (hS k q).2; omega
    · omega
  · have hk1 : Keeps (fun k => S k ∨ k = w.heap.size + 2) w w1 := (below_keeps hB _).again h2
    have hk2 := hk1.again (HK.out.mono (T := fun k => S k ∨ k = w.heap.size + 2) fun k _ h => .inr h)
    exact (hk2.again (below_keeps (below_drewN _ 1) _)).mono fun k hk h => h.elim id fun c => by omega
  · exact fun k hk => (h3 k hk).imp id fun h => by omega

theorem count_any (w : World) (base b : Nat) (s : CS) (S : Nat → Prop) (hA : Cells w base b s S) :
    Calls Try.prog 68 #[.pointer (some ⟨b, 0, none⟩)] w fun e w' => e = .returned (.int .i64 s.cnt) ∧ w' = w := by
  have c1 : w.cell? ⟨b, 1, none⟩ = some (.int .i64 s.cnt) := by obtain ⟨mo, f, h, rfl⟩ := hA; simp [World.cell?, h.hdr, hdrC]
  clear hA
  go_enter Try.func68, Try.ntmps68
  go_wp2
  go_ret
  exact ⟨rfl, rfl⟩
def accV (k a x i : Int) : Value := .agg #[.int .u8 k, .int .u64 a, .int .u64 x, .int .u64 i]
theorem last_any (w : World) (base b : Nat) (s : CS) (S : Nat → Prop) (hA : Cells w base b s S) :
    Calls Try.prog 30 #[.pointer (some ⟨b, 0, none⟩)] w fun e w' => e = .returned (accV s.kind s.addr s.was s.is) ∧ Below w.heap.size w w' := by
  have hb : b < w.heap.size := by obtain ⟨mo, f, h, rfl⟩ := hA; exact (Array.getElem?_eq_some_iff.1 h.hdr).1
  have c2 : w.cell? ⟨b, 2, none⟩ = some (.int .u8 s.kind) := by obtain ⟨mo, f, h, rfl⟩ := hA; simp [World.cell?, h.hdr, hdrC]
  have c3 : w.cell? ⟨b, 3, none⟩ = some (.int .u64 s.addr) := by obtain ⟨mo, f, h, rfl⟩ := hA; simp [World.cell?, h.hdr, hdrC]
  have c4 : w.cell? ⟨b, 4, none⟩ = some (.int .u64 s.was) := by obtain ⟨mo, f, h, rfl⟩ := hA; simp [World.cell?, h.hdr, hdrC]
  have c5 : w.cell? ⟨b, 5, none⟩ = some (.int .u64 s.is) := by obtain ⟨mo, f, h, rfl⟩ := hA; simp [World.cell?, h.hdr, hdrC]
  clear hA
  go_enter Try.func30, Try.ntmps30
  go_wp2
  refine bodyPost_ret (v := accV s.kind s.addr s.was s.is) (by simp [results, Try.results30, go_sem, accV]) rfl ⟨rfl, ?_⟩
  exact ((Below.refl _ _).alloc (Nat.le_refl _) _)
theorem peek_any (w : World) (base b : Nat) (s : CS) (S : Nat → Prop) (hA : Cells w base b s S) (a : Int) (ha : (Lit.int .u64 a).wf = true) :
    Calls Try.prog 27 #[.pointer (some ⟨b, 0, none⟩), .int .u64 a] w fun e w' => e = .returned (.int .u64 (s.val a)) ∧ w' = w := by
  obtain ⟨mo, f, hA, rfl⟩ := hA
  have c0 : w.cell? ⟨b, 0, none⟩ = some (.map mo) := by simp [World.cell?, hA.hdr, hdrC]
  cases hfa : f a with
  | some p =>
    cases mo with
    | none => exact absurd (hA.nomap rfl a) (by simp [hfa])
    | some m =>
      have hl := (hA.map m rfl).1.look ha
      rw [hfa] at hl
      simp only [ptrV, Option.map] at hl
      have hp := cell_of_word (hA.ptr a p hfa).1
      clear hfa hA
      go_enter Try.func27, Try.ntmps27
      go_wp2_with (go_at_call 77; refine (a_load p _ _ hp).mono ?_; rintro e w' ⟨rfl, rfl⟩)
      go_ret
      exact ⟨rfl, rfl⟩
  | none =>
    have hz := hA.zero a hfa
    have hl : (Instr.lookup 165 (.map mo) (.int .u64 a) false).run Try.prog w = .ok (.pointer none) w := by
      cases mo with
      | none => exact look_none w ha
      | some m =>
        have hl := (hA.map m rfl).1.look ha
        rw [hfa] at hl
        exact hl
    rw [hz]
    clear hfa hA hz
    go_enter Try.func27, Try.ntmps27
    go_wp2
    go_ret
    exact ⟨rfl, rfl⟩
end Go.Proofs.Yteofdldlmmkgbaa
