/-
  Cells: what they hold, as a function from addresses to words; the word at an address.
-/
import Derived.Test.YtmakjfeepmiggaaGreatMapPtr
import Derived.Test.YtmakjfeepmiggaaGreatAtomic
import Derived.Test.YtmakjfeepmiggaaGreatKeeps
import Derived.WalkSpells
namespace Go.Proofs.YtmakjfeepmiggaaGreat
open Go.RowKit Go.Maps
set_option linter.unusedVariables false

/-- Cells, as they are told: the words, how many accesses there were, the last one; n: no more addresses than these have a word of their own. -/
structure CS where
  val : Int → Int
  cnt : Nat
  n : Nat
  kind : Int
  addr : Int
  was : Int
  is : Int
def CS.acc (s : CS) (k a i : Int) : CS := ⟨upd s.val a i, s.cnt + 1, s.n + 1, k, a, s.val a, i⟩
def hdrC (mo : Option Nat) (s : CS) : Array Value := #[.map mo, .int .i64 s.cnt, .int .u8 s.kind, .int .u64 s.addr, .int .u64 s.was, .int .u64 s.is]
def wordC (v : Int) : Obj := .cells #[.int .u64 v] 294 (0, 0)

structure CellsAt (w : World) (base b : Nat) (mo : Option Nat) (f : Int → Option Nat) (s : CS) : Prop where
  hdr : w.heap[b]? = some (.cells (hdrC mo s) 239 (0, 0))
  lo : base ≤ b
  map : ∀ m, mo = some m → MapP w m s.n f ∧ base ≤ m ∧ m ≠ b
  nomap : mo = none → ∀ a, f a = none
  ptr : ∀ a p, f a = some p → w.heap[p]? = some (wordC (s.val a)) ∧ base ≤ p ∧ p ≠ b ∧ mo ≠ some p
  zero : ∀ a, f a = none → s.val a = 0
  inj : ∀ a a' p, f a = some p → f a' = some p → a = a'
  wf : ∀ a, (Lit.int .u64 (s.val a)).wf = true
/-- The blocks of cells. -/
def cellsFp (b : Nat) (mo : Option Nat) (f : Int → Option Nat) (k : Nat) : Prop := k = b ∨ mo = some k ∨ ∃ a, f a = some k
/-- Cells whose blocks are S. -/
def Cells (w : World) (base b : Nat) (s : CS) (S : Nat → Prop) : Prop := ∃ mo f, CellsAt w base b mo f s ∧ S = cellsFp b mo f

theorem CellsAt.keep {w w' : World} {base b : Nat} {mo : Option Nat} {f : Int → Option Nat} {s : CS} (h : CellsAt w base b mo f s) (hk : ∀ k, cellsFp b mo f k → w'.heap[k]? = w.heap[k]?) : CellsAt w' base b mo f s := by
  refine ⟨by rw [hk b (.inl rfl)]; exact h.hdr, h.lo, fun m hm => ?_, h.nomap, fun a p hp => ?_, h.zero, h.inj, h.wf⟩
  · obtain ⟨h1, h2⟩ := h.map m hm
    exact ⟨h1.keep (hk m (.inr (.inl hm))), h2⟩
  · obtain ⟨h1, h2⟩ := h.ptr a p hp
    exact ⟨by rw [hk p (.inr (.inr ⟨a, hp⟩))]; exact h1, h2⟩
theorem CellsAt.fp {w : World} {base b : Nat} {mo : Option Nat} {f : Int → Option Nat} {s : CS} (h : CellsAt w base b mo f s) : ∀ k, cellsFp b mo f k → base ≤ k ∧ k < w.heap.size := by
  rintro k (rfl | hm | ⟨a, ha⟩)
  · exact ⟨h.lo, (Array.getElem?_eq_some_iff.1 h.hdr).1⟩
  · exact ⟨(h.map k hm).2.1, (h.map k hm).1.lt⟩
  · exact ⟨(h.ptr a k ha).2.1, (Array.getElem?_eq_some_iff.1 (h.ptr a k ha).1).1⟩
theorem Cells.keep {w w' : World} {base b : Nat} {s : CS} {S : Nat → Prop} (h : Cells w base b s S) (hk : ∀ k, S k → w'.heap[k]? = w.heap[k]?) : Cells w' base b s S := by
  obtain ⟨mo, f, h, rfl⟩ := h
  exact ⟨mo, f, h.keep hk, rfl⟩
theorem Cells.fp {w : World} {base b : Nat} {s : CS} {S : Nat → Prop} (h : Cells w base b s S) : ∀ k, S k → base ≤ k ∧ k < w.heap.size := by
  obtain ⟨mo, f, h, rfl⟩ := h
  exact h.fp
theorem Cells.keeps {w w' : World} {base b : Nat} {s : CS} {S T : Nat → Prop} (h : Cells w base b s S) (hb : Keeps T w w') (hd : ∀ k, S k → ¬ T k) : Cells w' base b s S :=
  h.keep fun k hk => hb.block k (h.fp k hk).2 (hd k hk)
theorem Cells.below {w w' : World} {base b : Nat} {s : CS} {S : Nat → Prop} (h : Cells w base b s S) (hb : Below w.heap.size w w') : Cells w' base b s S :=
  h.keep fun k hk => hb.block k (h.fp k hk).2
theorem CellsAt.mono {w : World} {base b : Nat} {mo : Option Nat} {f : Int → Option Nat} {s : CS} (h : CellsAt w base b mo f s) (n : Nat) (hn : s.n ≤ n) : CellsAt w base b mo f { s with n := n } :=
  ⟨h.hdr, h.lo, fun m hm => ⟨(h.map m hm).1.mono hn, (h.map m hm).2⟩, h.nomap, h.ptr, h.zero, h.inj, h.wf⟩

theorem CellsAt.put {w w2 : World} {base b : Nat} {mo : Option Nat} {f : Int → Option Nat} {s : CS} (hA : CellsAt w base b mo f s) {a : Int} (ha : f a = none) (m p : Nat)
    (hdr : w2.heap[b]? = some (.cells (hdrC (some m) s) 239 (0, 0))) (hM : MapP w2 m (s.n + 1) (upd f a (some p))) (hm : base ≤ m) (hmb : m ≠ b) (hp : w2.heap[p]? = some (wordC 0)) (hpl : w.heap.size ≤ p) (hbase : base ≤ w.heap.size)
    (hmp : m ≠ p) (hold : ∀ x k, f x = some k → w2.heap[k]? = w.heap[k]? ∧ m ≠ k) : CellsAt w2 base b (some m) (upd f a (some p)) { s with n := s.n + 1 } := by
  have hb : b < w.heap.size := (Array.getElem?_eq_some_iff.1 hA.hdr).1
  refine ⟨hdr, hA.lo, fun m' h => ?_, (fun h => by cases h), fun x k hx => ?_, fun x hx => ?_, fun x x' k h1 h2 => ?_, hA.wf⟩
  · cases h; exact ⟨hM, hm, hmb⟩
  · by_cases he : x = a
    · subst he
      rw [upd_same] at hx; cases hx
      simp only [hA.zero x ha]
      exact ⟨hp, by omega, by omega, fun c => hmp (by cases c; rfl)⟩
    · rw [upd_other _ he] at hx
      obtain ⟨h1, h2, h3, _⟩ := hA.ptr x k hx
      obtain ⟨h5, h6⟩ := hold x k hx
      exact ⟨h5.trans h1, h2, h3, fun c => h6 (by cases c; rfl)⟩
  · by_cases he : x = a
    · subst he; rw [upd_same] at hx; cases hx
    · rw [upd_other _ he] at hx; exact hA.zero x hx
  · have hlt : ∀ x k, f x = some k → k < w.heap.size := fun x k h => (Array.getElem?_eq_some_iff.1 (hA.ptr x k h).1).1
    by_cases he : x = a
    · by_cases he2 : x' = a
      · rw [he, he2]
      · subst he; rw [upd_same] at h1; rw [upd_other _ he2] at h2; cases h1
        have := hlt _ _ h2; omega
    · by_cases he2 : x' = a
      · subst he2; rw [upd_same] at h2; rw [upd_other _ he] at h1; cases h2
        have := hlt _ _ h1; omega
      · rw [upd_other _ he] at h1; rw [upd_other _ he2] at h2; exact hA.inj _ _ _ h1 h2

set_option maxRecDepth 10000 in
set_option maxHeartbeats 1000000 in
theorem at_any (w : World) (base b : Nat) (mo : Option Nat) (f : Int → Option Nat) (s : CS) (hA : CellsAt w base b mo f s) (a : Int) (ha : (Lit.int .u64 a).wf = true) (hn : s.n < maxLen) (hbase : base ≤ w.heap.size) :
    Calls Tryz.prog 175 #[.pointer (some ⟨b, 0, none⟩), .int .u64 a] w fun e w' => ∃ mo' f' p, e = .returned (.pointer (some ⟨p, 0, none⟩)) ∧ CellsAt w' base b mo' f' { s with n := s.n + 1 } ∧ f' a = some p ∧
      Keeps (cellsFp b mo f) w w' ∧ ∀ k, cellsFp b mo' f' k → cellsFp b mo f k ∨ w.heap.size ≤ k := by
  have hmm := @run_makeMap Tryz.prog
  have qM : ∀ (w : World) (r : Option Nat), (binOp .eql 237 (.map r) (.map none)).run Tryz.prog w = .ok (.bool r.isNone) w := fun w r => run_eql_map_nil w _ _ _ r Tryz.underlying237
  have hb : b < w.heap.size := (Array.getElem?_eq_some_iff.1 hA.hdr).1
  have c0 : w.cell? ⟨b, 0, none⟩ = some (.map mo) := by simp [World.cell?, hA.hdr, hdrC]
  have f0 : w.frozen? ⟨b, 0, none⟩ = false := by simp [World.frozen?, hA.hdr]
  cases hfa : f a with
  | some p =>
    cases mo with
    | none => exact absurd (hA.nomap rfl a) (by simp [hfa])
    | some m =>
      have hl := (hA.map m rfl).1.look ha
      rw [hfa] at hl
      simp only [ptrV, Option.map] at hl
      have HF := Lib.hid hfa
      clear hfa
      go_enter Tryz.func175, Tryz.ntmps175
      go_wp2
      go_ret
      exact ⟨some m, f, p, rfl, hA.mono _ (by omega), HF.out, below_keeps (Below.refl _ _) _, fun k hk => .inl hk⟩
  | none =>
    cases mo with
    | some m =>
      have hl := (hA.map m rfl).1.look ha
      rw [hfa] at hl
      simp only [ptrV, Option.map] at hl
      have HF := Lib.hid hfa
      clear hfa
      have HM := (hA.map m rfl).1
      go_enter Tryz.func175, Tryz.ntmps175
      go_wp2_with (at_mapUpdate; refine wpList_put rfl _ _ _ rfl m s.n f rfl (HM.keep (Below.heap_alloc _ _ _ HM.lt)) hn a w.heap.size rfl rfl ha ?_; intro w2 hM2 hG2)
      go_ret
      have hml : m < w.heap.size := HM.lt
      have hb2 : w2.heap[b]? = w.heap[b]? := (hG2.block b (by simp; omega) (fun c => (hA.map m rfl).2.2 (by cases c; rfl))).trans (Below.heap_alloc _ _ _ hb)
      have hk2 : ∀ k, k < w.heap.size → k ≠ m → w2.heap[k]? = w.heap[k]? := fun k hk hne => (hG2.block k (by simp; omega) (fun c => hne (by cases c; rfl))).trans (Below.heap_alloc _ _ _ hk)
      refine ⟨some m, _, w.heap.size, rfl, hA.put HF.out m _ (hb2.trans hA.hdr) hM2 (hA.map m rfl).2.1 (hA.map m rfl).2.2 ?_ (Nat.le_refl _) hbase (by omega) (fun x k hx => ?_), upd_same _ _ _, ?_, ?_⟩
      · rw [hG2.block _ (by simp) (fun c => by cases c; omega)]; exact heap_alloc_new w _
      · have h1 := hA.ptr x k hx
        have hne : k ≠ m := fun c => h1.2.2.2 (by rw [c])
        exact ⟨hk2 k (Array.getElem?_eq_some_iff.1 h1.1).1 hne, Ne.symm hne⟩
      · exact ⟨hG2.os, hG2.tape, hG2.output, Nat.le_trans (by simp) hG2.size, fun k hk hn => hk2 k hk (fun c => hn (.inr (.inl (by rw [c]))))⟩
      · rintro k (rfl | hm | ⟨x, hx⟩)
        · exact .inl (.inl rfl)
        · exact .inl (.inr (.inl hm))
        · by_cases he : x = a
          · subst he; rw [upd_same] at hx; cases hx; exact .inr (Nat.le_refl _)
          · rw [upd_other _ he] at hx; exact .inl (.inr (.inr ⟨x, hx⟩))
    | none =>
      have hl := look_none w ha
      have HF := Lib.hid hfa
      clear hfa
      have hNo := hA.nomap rfl
      have e1 : (w.setCell ⟨b, 0, none⟩ (.map (some w.heap.size))).heap.size = w.heap.size := by simp [World.setCell]
      have hM0 : MapP (((w.setCell ⟨b, 0, none⟩ (.map (some w.heap.size))).alloc (.map #[] 0)).alloc (.cells #[.int .u64 0] 294)) w.heap.size 0 f := by
        have h := MapP.made (w.setCell ⟨b, 0, none⟩ (.map (some w.heap.size)))
        rw [e1] at h
        rw [show f = fun _ => none from funext hNo]
        exact h.keep (Below.heap_alloc _ _ _ (by simp))
      go_enter Tryz.func175, Tryz.ntmps175
      go_wp2_with (at_mapUpdate; refine wpList_put rfl _ _ _ rfl w.heap.size 0 f rfl hM0 (by unfold maxLen; omega) a (w.heap.size + 1) rfl rfl ha ?_; intro w2 hM2 hG2)
      go_ret
      have hs0 := setCell_same hA.hdr 0 (.map (some w.heap.size))
      have hk0 : Keeps (cellsFp b none f) w (((w.setCell ⟨b, 0, none⟩ (.map (some w.heap.size))).alloc (.map #[] 0)).alloc (.cells #[.int .u64 0] 294)) :=
        ((setCell_keeps w b 0 _).mono (T := cellsFp b none f) fun k _ h => .inl h).again (below_keeps (((Below.refl _ _).alloc (Nat.le_refl _) _).alloc (by simp) _) _)
      have hk1 : Keeps (cellsFp b none f) w w2 := ⟨hG2.os.trans hk0.os, hG2.tape.trans hk0.tape, hG2.output.trans hk0.output, Nat.le_trans hk0.size hG2.size, fun k hk hn => (hG2.block k (by simp; omega) (fun c => by cases c; omega)).trans (hk0.block k hk hn)⟩
      refine ⟨some w.heap.size, _, w.heap.size + 1, rfl, hA.put HF.out w.heap.size _ ?_ (hM2.mono (by omega)) hbase (by omega) ?_ (by omega) hbase (by omega) (fun x k hx => by rw [hNo x] at hx; cases hx), upd_same _ _ _, hk1, ?_⟩
      · rw [hG2.block b (by simp; omega) (fun c => by cases c; omega), Below.heap_alloc _ _ _ (by simp; omega), Below.heap_alloc _ _ _ (by simp; omega), hs0]; rfl
      · rw [hG2.block _ (by simp) (fun c => by simp only [Option.some.injEq] at c; omega)]
        have e2 : ((w.setCell ⟨b, 0, none⟩ (.map (some w.heap.size))).alloc (.map #[] 0)).heap.size = w.heap.size + 1 := by simp
        have := heap_alloc_new ((w.setCell ⟨b, 0, none⟩ (.map (some w.heap.size))).alloc (.map #[] 0)) (.cells #[.int .u64 0] 294)
        rw [e2] at this
        exact this
      · rintro k (rfl | hm | ⟨x, hx⟩)
        · exact .inl (.inl rfl)
        · cases hm; exact .inr (Nat.le_refl _)
        · by_cases he : x = a
          · subst he; rw [upd_same] at hx; cases hx; exact .inr (by omega)
          · rw [upd_other _ he, hNo x] at hx; cases hx
end Go.Proofs.YtmakjfeepmiggaaGreat
