/-
  Accesses of cells: what each tells, and leaves.
-/
import Derived.Test.YtmakjfeepmiggaaGreatCells
namespace Go.Proofs.YtmakjfeepmiggaaGreat
open Go.RowKit Go.Maps
set_option linter.unusedVariables false

/-- More accesses than there may be. -/
def lim : Nat := 4611686018427387904
theorem lim_le : lim ≤ maxLen := by unfold lim maxLen; omega

theorem CellsAt.hit {w w2 : World} {base b : Nat} {mo : Option Nat} {f : Int → Option Nat} {s : CS} (hA : CellsAt w base b mo f s) {a : Int} {p : Nat} (ha : f a = some p) (i : Int) (hi : (Lit.int .u64 i).wf = true)
    (hp : w2.heap[p]? = some (wordC i)) (hold : ∀ k, cellsFp b mo f k → k ≠ p → w2.heap[k]? = w.heap[k]?) : CellsAt w2 base b mo f { s with val := upd s.val a i } := by
  have hpp := hA.ptr a p ha
  refine ⟨(hold b (.inl rfl) (Ne.symm hpp.2.2.1)).trans hA.hdr, hA.lo, fun m hm => ?_, hA.nomap, fun x k hx => ?_, fun x hx => ?_, hA.inj, fun x => ?_⟩
  · obtain ⟨h1, h2⟩ := hA.map m hm
    exact ⟨h1.keep (hold m (.inr (.inl hm)) (fun c => hpp.2.2.2 (by rw [hm, c]))), h2⟩
  · obtain ⟨h1, h2⟩ := hA.ptr x k hx
    by_cases he : x = a
    · subst he; rw [ha] at hx; cases hx
      simp only [upd_same]; exact ⟨hp, h2⟩
    · simp only [upd_other _ he]
      exact ⟨(hold k (.inr (.inr ⟨x, hx⟩)) (fun c => he (hA.inj _ _ _ hx (by rw [ha, c])))).trans h1, h2⟩
  · by_cases he : x = a
    · subst he; rw [ha] at hx; cases hx
    · simp only [upd_other _ he]; exact hA.zero x hx
  · by_cases he : x = a
    · subst he; simp only [upd_same]; exact hi
    · simp only [upd_other _ he]; exact hA.wf x
theorem CellsAt.head {w w2 : World} {base b : Nat} {mo : Option Nat} {f : Int → Option Nat} {s s2 : CS} (hA : CellsAt w base b mo f s) (hv : s2.val = s.val) (hn : s2.n = s.n)
    (hp : w2.heap[b]? = some (.cells (hdrC mo s2) 239 (0, 0))) (hold : ∀ k, cellsFp b mo f k → k ≠ b → w2.heap[k]? = w.heap[k]?) : CellsAt w2 base b mo f s2 := by
  refine ⟨hp, hA.lo, fun m hm => ?_, hA.nomap, fun x k hx => ?_, fun x hx => ?_, hA.inj, fun x => ?_⟩
  · obtain ⟨h1, h2, h3⟩ := hA.map m hm
    rw [hn]; exact ⟨h1.keep (hold m (.inr (.inl hm)) h3), h2, h3⟩
  · obtain ⟨h1, h2, h3, h4⟩ := hA.ptr x k hx
    rw [hv]; exact ⟨(hold k (.inr (.inr ⟨x, hx⟩)) h3).trans h1, h2, h3, h4⟩
  · rw [hv]; exact hA.zero x hx
  · rw [hv]; exact hA.wf x

set_option maxRecDepth 10000 in
set_option maxHeartbeats 1000000 in
theorem access_gen (F : Nat) (cap : Array Value) (kd : Int) (w : World) (base b : Nat) (s : CS) (S : Nat → Prop) (hA : Cells w base b s S) (a : Int) (ha : (Lit.int .u64 a).wf = true) (hn : s.n < lim) (hc : s.cnt < lim) (hbase : base ≤ w.heap.size)
    (i st : Int) (hi : (Lit.int .u64 i).wf = true) (X : Nat → Prop) (O : Nat → Option Obj) (hX : ∀ k, X k → k < w.heap.size ∧ ¬ S k) (hst : st = s.val a)
    (hcf : ∀ (args : Array Value) (w : World), (callFunc F args).run Tryz.prog w = .ok (.enter F args) w)
    (hF : ∀ (w1 : World) (p : Nat), Keeps S w w1 → (S p ∨ w.heap.size ≤ p) → w1.heap[p]? = some (wordC (s.val a)) →
      Calls Tryz.prog F (#[.pointer (some ⟨p, 0, none⟩)] ++ cap) w1 fun e w2 => e = .returned (.int .u64 st) ∧ w2.heap[p]? = some (wordC i) ∧ Keeps (fun k => k = p ∨ X k) w1 w2 ∧ ∀ k, X k → w2.heap[k]? = O k) :
    Calls Tryz.prog 120 #[.pointer (some ⟨b, 0, none⟩), .int .u8 kd, .int .u64 a, .func (.func F) #[] cap] w fun e w' => ∃ S', e = .returned (.int .u64 st) ∧ Cells w' base b (s.acc kd a i) S' ∧
      Keeps (fun k => S k ∨ X k) w w' ∧ (∀ k, S' k → S k ∨ w.heap.size ≤ k) ∧ ∀ k, X k → w'.heap[k]? = O k := by
  obtain ⟨mo, f, hA, rfl⟩ := hA
  go_enter Tryz.func120, Tryz.ntmps120
  go_wp2_with (first
    | (go_at_call 175; refine (at_any _ base b mo f s hA a ha (Nat.lt_of_lt_of_le hn lim_le) hbase).mono ?_; rintro e w1 ⟨mo1, f1, p, rfl, h1, h2, h3, h4⟩)
    | (fail))
  have hlt1 := h1.fp
  have hpp := h1.ptr a p h2
  have hXS := hX
  have hXf : ∀ k, cellsFp b mo1 f1 k → ¬ X k := fun k hk hx => by
    obtain ⟨q1, q2⟩ := hX k hx
    rcases h4 k hk with q | q
    · exact q2 q
    · omega
  refine (hF w1 p h3 (h4 p (.inr (.inr ⟨a, h2⟩))) hpp.1).mono ?_
  rintro e w2 ⟨rfl, g1, g2, g3⟩
  have h5 := h1.hit h2 i hi g1 (fun k hk hne => g2.block k (hlt1 k hk).2 (fun c => c.elim hne (hXf k hk)))
  have hw2 : Keeps (fun k => cellsFp b mo f k ∨ X k) w w2 := by
    refine ((h3.mono (T := fun k => cellsFp b mo f k ∨ X k) fun k _ h => .inl h).trans g2).mono fun k hk h => ?_
    rcases h with h | rfl | h
    · exact h
    · rcases h4 _ (.inr (.inr ⟨a, h2⟩)) with q | q
      · exact .inl q
      · omega
    · exact .inr h
  have hpb : p ≠ b := hpp.2.2.1
  have hHB := Lib.hid h5.hdr
  have hb2 : w2.heap[b]? = some (.cells #[.map mo1, .int .i64 s.cnt, .int .u8 s.kind, .int .u64 s.addr, .int .u64 s.was, .int .u64 s.is] 239 (0, 0)) := h5.hdr
  have c1 : w2.cell? ⟨b, 1, none⟩ = some (.int .i64 s.cnt) := by simp [World.cell?, hb2]
  have c2 : w2.cell? ⟨b, 2, none⟩ = some (.int .u8 s.kind) := by simp [World.cell?, hb2]
  have c3 : w2.cell? ⟨b, 3, none⟩ = some (.int .u64 s.addr) := by simp [World.cell?, hb2]
  have c4 : w2.cell? ⟨b, 4, none⟩ = some (.int .u64 s.was) := by simp [World.cell?, hb2]
  have c5 : w2.cell? ⟨b, 5, none⟩ = some (.int .u64 s.is) := by simp [World.cell?, hb2]
  have f1' : w2.frozen? ⟨b, 1, none⟩ = false := by simp [World.frozen?, hb2]
  have f2' : w2.frozen? ⟨b, 2, none⟩ = false := by simp [World.frozen?, hb2]
  have f3' : w2.frozen? ⟨b, 3, none⟩ = false := by simp [World.frozen?, hb2]
  have f4' : w2.frozen? ⟨b, 4, none⟩ = false := by simp [World.frozen?, hb2]
  have f5' : w2.frozen? ⟨b, 5, none⟩ = false := by simp [World.frozen?, hb2]
  have cp : (w2.setCell ⟨b, 1, none⟩ (.int .i64 ((s.cnt : Int) + 1))).cell? ⟨p, 0, none⟩ = some (.int .u64 i) := by
    rw [World.cell?_setCell_other _ _ _ _ (by simp)]; simp [World.cell?, g1, wordC]
  have hcnt : (s.cnt : Int) < 4611686018427387904 := by unfold lim at hc; omega
  have HH1 := Lib.hid h1; have HH2 := Lib.hid h2; have HH5 := Lib.hid h5; have HP := Lib.hid hpp; have HB2 := Lib.hid hb2; have HG1 := Lib.hid g1; have HG3 := Lib.hid g3; have HST := Lib.hid hst
  clear h1 h2 h3 h5 hpp hb2 g1 g2 g3 hlt1 hF hX hXf hst hA hn hc hi ha
  go_wp2_with (first
    | (go_at_call 135; refine (a_load p i _ cp).mono ?_; rintro e w' ⟨rfl, rfl⟩))
  go_ret
  have b2 := HB2.out
  have s1 := setCell_same b2 1 (.int .i64 ((s.cnt : Int) + 1))
  have s2 := setCell_same s1 2 (.int .u8 kd)
  have s3 := setCell_same s2 3 (.int .u64 a)
  have s4 := setCell_same s3 4 (.int .u64 st)
  have s5 := setCell_same s4 5 (.int .u64 i)
  have k5 := (((((setCell_keeps w2 b 1 (.int .i64 ((s.cnt : Int) + 1))).again (setCell_keeps _ b 2 (.int .u8 kd))).again (setCell_keeps _ b 3 (.int .u64 a))).again (setCell_keeps _ b 4 (.int .u64 st))).again (setCell_keeps _ b 5 (.int .u64 i)))
  have h5 := HH5.out
  have hbX : ∀ k, X k → k ≠ b := fun k hk c => by
    have := hXS k hk
    exact this.2 (.inl c)
  refine ⟨cellsFp b mo1 f1, rfl, ⟨mo1, f1, h5.head (s2 := s.acc kd a i) rfl rfl ?_ (fun k hk hne => k5.block k (h5.fp k hk).2 hne), rfl⟩, hw2.again (k5.mono fun k _ h => .inl (.inl h)), h4, fun k hk => ?_⟩
  · rw [s5]; simp only [hdrC, CS.acc, ← HST.out]; rfl
  · rw [k5.block k (Nat.lt_of_lt_of_le (hXS k hk).1 hw2.size) (hbX k hk)]; exact HG3.out k hk
end Go.Proofs.YtmakjfeepmiggaaGreat
