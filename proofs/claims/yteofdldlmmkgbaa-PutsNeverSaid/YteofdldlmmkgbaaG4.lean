/-
  Texts of this prover, merged: CellsNew, CellsWords0, CellsOwn, PlacesMay, Conf, Items.
-/
import Derived.Test.YteofdldlmmkgbaaG3
import Derived.Test.YteofdldlmmkgbaaG1
import Derived.Deep.RegionWith
import Derived.Maps.RangeWalk
import Derived.Deep.AppendLies
/-
  New cells.
-/
namespace Go.Proofs.Yteofdldlmmkgbaa
open Go.RowKit Go.Maps
set_option linter.unusedVariables false

def CS.zero : CS := ⟨fun _ => 0, 0, 0, 0, 0, 0, 0⟩
def CS.set (s : CS) (a v : Int) : CS := { s with val := upd s.val a v, n := s.n + 1 }
def CS.init (l : List (Int × Int)) : CS := l.foldl (fun s p => s.set p.1 p.2) CS.zero
theorem CS.init_n (l : List (Int × Int)) : (CS.init l).n = l.length ∧ (CS.init l).cnt = 0 ∧ (CS.init l).kind = 0 ∧ (CS.init l).addr = 0 ∧ (CS.init l).was = 0 ∧ (CS.init l).is = 0 := by
  have h : ∀ (l : List (Int × Int)) (s : CS), (l.foldl (fun s p => s.set p.1 p.2) s).n = s.n + l.length ∧ (l.foldl (fun s p => s.set p.1 p.2) s).cnt = s.cnt ∧ (l.foldl (fun s p => s.set p.1 p.2) s).kind = s.kind ∧
      (l.foldl (fun s p => s.set p.1 p.2) s).addr = s.addr ∧ (l.foldl (fun s p => s.set p.1 p.2) s).was = s.was ∧ (l.foldl (fun s p => s.set p.1 p.2) s).is = s.is := by
    intro l
    induction l with
    | nil => intro s; simp
    | cons x l ih => intro s; simp only [List.foldl_cons, List.length_cons]; have := ih (s.set x.1 x.2); simp only [CS.set] at this ⊢; omega
  have := h l CS.zero
  simpa [CS.init, CS.zero] using this

theorem cells_new (w : World) : CellsAt (w.alloc (.cells (hdrC none CS.zero) 167)) w.heap.size w.heap.size none (fun _ => none) CS.zero :=
  ⟨heap_alloc_new w _, Nat.le_refl _, fun m h => (by cases h), fun _ _ => rfl, fun a p h => (by cases h), fun _ _ => rfl, fun a a' p h => (by cases h), fun _ => rfl⟩

theorem new_nil (w : World) : Calls Try.prog 52 #[.slice none 0 0] w fun e w' => ∃ b S, e = .returned (.pointer (some ⟨b, 0, none⟩)) ∧ Cells w' w.heap.size b CS.zero S ∧ Below w.heap.size w w' := by
  go_enter Try.func52, Try.ntmps52
  go_wp2
  refine wp_loop_rounds 1 ?_
  rw [rounds_succ]
  go_wp2
  go_ret
  exact ⟨w.heap.size, _, rfl, ⟨_, _, cells_new w, rfl⟩, (Below.refl _ _).alloc (Nat.le_refl _) _⟩

/-- A word that is laid without an access. -/
theorem CellsAt.lay {w1 w2 : World} {base b : Nat} {mo : Option Nat} {f : Int → Option Nat} {s : CS} (h1 : CellsAt w1 base b mo f { s with n := s.n + 1 }) {a : Int} {p : Nat} (h2 : f a = some p) (v : Int) (hv : (Lit.int .u64 v).wf = true)
    (hw : w2.heap[p]? = some (wordC v)) (hk : Keeps (· = p) w1 w2) : CellsAt w2 base b mo f (s.set a v) :=
  h1.hit h2 v hv hw fun k hk2 hne => hk.block k (h1.fp k hk2).2 hne

theorem by_word2 {w1 w2 : World} {q : Nat} {a v : Int} {S : Nat → Prop} (hq : w1.heap[q]? = some (.cells #[.int .u64 a, .int .u64 v] 121 (0, 0))) (h : Keeps S w1.drew w2) (hl : q < w1.drew.heap.size) (hn : ¬ S q) : w2.cell? ⟨q, 1, none⟩ = some (.int .u64 v) := by
  have h2 : w2.heap[q]? = some (.cells #[.int .u64 a, .int .u64 v] 121 (0, 0)) := (h.block q hl hn).trans hq
  simp [World.cell?, h2]

theorem new_step {w w1 w2 : World} {mo mo1 : Option Nat} {f f1 : Int → Option Nat} {s s' : CS} {a v : Int} {p : Nat} (hs : s' = s.set a v) (hv : (Lit.int .u64 v).wf = true) (hB : Below w.heap.size w w1) (hsz : w.heap.size ≤ w1.heap.size) (hA : CellsAt w1 w.heap.size w.heap.size mo f s)
    (h1 : CellsAt w2 w.heap.size w.heap.size mo1 f1 { s with n := s.n + 1 }) (h2 : f1 a = some p) (h3 : Keeps (cellsFp w.heap.size mo f) w1.drew w2) (h4 : ∀ k, cellsFp w.heap.size mo1 f1 k → cellsFp w.heap.size mo f k ∨ w1.drew.heap.size ≤ k) (hp : w2.heap[p]? = some (wordC (s.val a))) :
    (∃ S', Cells (w2.setCell ⟨p, 0, none⟩ (.int .u64 v)) w.heap.size w.heap.size s' S') ∧ Below w.heap.size w (w2.setCell ⟨p, 0, none⟩ (.int .u64 v)) := by
  refine ⟨⟨_, mo1, f1, ?_, rfl⟩, ?_⟩
  · rw [hs]; exact h1.lay h2 v hv (word_set hp v) (setCell_keeps _ _ _ _)
  · have k1 : Keeps (cellsFp w.heap.size mo f) w1 w2 := ⟨h3.os, h3.tape, h3.output, h3.size, h3.block⟩
    have k2 : Below w.heap.size w w2 := keeps_below k1 hB hsz (fun k hk => (hA.fp k hk).1)
    refine keeps_below (setCell_keeps w2 p 0 (.int .u64 v)) k2 k2.size (fun k hk => ?_)
    rw [hk]; exact (h1.ptr a p h2).2.1

set_option maxRecDepth 10000 in
set_option maxHeartbeats 2000000 in
theorem new_words (w : World) (g o cap : Nat) (l : List (Int × Int)) (hl : l.length ≤ cap) (hcap : cap ≤ maxLen) (hlim : l.length < lim)
    (hc : ∀ k (h : k < l.length), w.cell? ⟨g, o + k * 2, none⟩ = some (.int .u64 l[k].1) ∧ w.cell? ⟨g, o + k * 2 + 1, none⟩ = some (.int .u64 l[k].2))
    (hw : ∀ p ∈ l, (Lit.int .u64 p.1).wf = true ∧ (Lit.int .u64 p.2).wf = true) :
    Calls Try.prog 52 #[.slice (some ⟨g, o, none⟩) l.length cap] w fun e w' => ∃ b S, e = .returned (.pointer (some ⟨b, 0, none⟩)) ∧ Cells w' w.heap.size b (CS.init l) S ∧ Below w.heap.size w w' := by
  go_enter Try.func52, Try.ntmps52
  go_wp2
  go_loopw [10, 5] (fun x _ wr => ∃ k : Nat, x = .int .i64 k ∧ k ≤ l.length ∧ (∃ S, Cells wr w.heap.size w.heap.size (CS.init (l.take k)) S) ∧ Below w.heap.size w wr)
    (fun x _ _ => l.length - (intOf x).toNat)
  case atStart => exact ⟨0, rfl, Nat.zero_le _, ⟨_, _, _, cells_new w, rfl⟩, (Below.refl _ _).alloc (Nat.le_refl _) _⟩
  case round =>
    obtain ⟨k, hk, hkl, ⟨S, hS⟩, hB⟩ := hrel
    subst hk
    by_cases hk : k < l.length
    · have hkb : decide ((k : Int) < (l.length : Int)) = true := by simp; omega
      have hck := hc k hk
      have hwk := hw l[k] (List.getElem_mem hk)
      have hB2 : Below w.heap.size w (wr.alloc (.cells #[.int .u64 l[k].1, .int .u64 l[k].2] 121)) := hB.alloc hB.size _
      have hg : g < w.heap.size := World.block_lt_of_cell? _ _ hck.1
      have r1 := (hB.cell (p := ⟨g, o + k * 2, none⟩) hg).trans hck.1
      have r2 := (hB.cell (p := ⟨g, o + k * 2 + 1, none⟩) hg).trans hck.2
      have hg2 : g < wr.heap.size := Nat.lt_of_lt_of_le hg hB.size
      have hsz := hB.size
      have hS2 := hS.below ((Below.refl wr.heap.size wr).alloc (Nat.le_refl _) (.cells #[.int .u64 l[k].1, .int .u64 l[k].2] 121))
      have hnS : ¬ S wr.heap.size := fun c => by have := (hS.fp _ c).2; omega
      have hq := heap_alloc_new wr (.cells #[.int .u64 l[k].1, .int .u64 l[k].2] 121)
      have HT := Lib.hid (show (CS.init (l.take (k + 1))) = (CS.init (l.take k)).set l[k].1 l[k].2 by
        rw [List.take_succ_eq_append_getElem hk]; unfold CS.init; rw [List.foldl_append]; rfl)
      have hn := (CS.init_n (l.take k)).1
      simp only [List.length_take] at hn
      have hn2 : (CS.init (l.take k)).n < maxLen := by have := lim_le; omega
      generalize CS.init (l.take k) = s at *
      obtain ⟨s', HS0⟩ : ∃ s', s' = CS.init (l.take (k + 1)) := ⟨_, rfl⟩
      have HS2 := Lib.hid HS0
      rw [← HS0] at HT
      clear HS0
      generalize l[k].1 = a at *
      generalize l[k].2 = v at *
      have HK := Lib.hid hk; have HKL := Lib.hid hkl; have HHL := Lib.hid hl; have HCP := Lib.hid hcap
      clear hck hw hc hn hlim hS
      go_wp2_with fail
      generalize wr.alloc (.cells #[.int .u64 a, .int .u64 v] 121) = w1 at *
      obtain ⟨mo, f, hA, rfl⟩ := hS2
      have x0 : w1.cell? ⟨wr.heap.size, 0, none⟩ = some (.int .u64 a) := by simp [World.cell?, hq]
      have x1 : w1.cell? ⟨wr.heap.size, 1, none⟩ = some (.int .u64 v) := by simp [World.cell?, hq]
      have hA' : CellsAt w1.drew w.heap.size w.heap.size mo f s := hA.keep fun _ _ => rfl
      have hsz1 : w.heap.size ≤ w1.drew.heap.size := hB2.size
      have hqs : wr.heap.size < w1.drew.heap.size := (Array.getElem?_eq_some_iff.1 hq).1
      have HA := Lib.hid hA; have HB := Lib.hid hB; have HB2 := Lib.hid hB2; have HN2 := Lib.hid hn2; have HW := Lib.hid hwk; have HNS := Lib.hid hnS; have HQ := Lib.hid hq; have HSZ := Lib.hid hsz1; have HQS := Lib.hid hqs; have HA' := Lib.hid hA'
      clear hA hB hB2 hn2 hwk hnS hq r1 r2 hg hg2 hsz hsz1 hqs hA' hkb
      go_region_with (first
        | (go_at_call 97; refine (at_any w1.drew w.heap.size w.heap.size mo f s HA'.out a HW.out.1 HN2.out HSZ.out).mono ?_; rintro e w2 ⟨mo1, f1, p, rfl, h1, h2, h3, h4⟩; have y1 : w2.cell? ⟨wr.heap.size, 1, none⟩ = some (.int .u64 v) := by_word2 HQ.out h3 HQS.out HNS.out; have hp := (h1.ptr a p h2).1; have hpc := cell_of_word hp; have hpf := free_of_word hp; have H1 := Lib.hid h1; have H2 := Lib.hid h2; have H3 := Lib.hid h3; have H4 := Lib.hid h4; have HP := Lib.hid hp; clear h1 h2 h3 h4 hp)
        | (go_at_call 98; refine (a_store _ _ v _ hpc hpf).mono ?_; rintro e w4 ⟨rfl, rfl⟩))
      all_goals (have hfin := new_step HT.out HW.out.2 HB2.out HSZ.out HA.out H1.out H2.out H3.out H4.out HP.out)
      all_goals (clear hpc hpf y1 x0 x1)
      all_goals (generalize World.setCell w2 _ _ = w5 at hfin ⊢)
      all_goals (have hk := HK.out)
      all_goals (have hkw : wrap64 ((k : Int) + 1) = k + 1 := IntWalk.wrap64_in _ (by have := HHL.out; have := HCP.out; unfold maxLen at this; omega))
      all_goals (try go_wp2)
      all_goals go_roundw
      all_goals (first | (show (_ : Nat) < _; rw [hkw]; simp [intOf] <;> omega) | exact ⟨k + 1, by rw [hkw]; rfl, by omega, (by rw [← HS2.out]; exact hfin.1), hfin.2⟩)
    · have hkb : decide ((k : Int) < (l.length : Int)) = false := by simp; omega
      have hke : k = l.length := by omega
      go_wp2
      go_ret
      rw [hke, List.take_length] at hS
      exact ⟨_, S, rfl, hS, hB⟩
end Go.Proofs.Yteofdldlmmkgbaa

/-
  Words of cells that hold nothing.
-/
namespace Go.Proofs.Yteofdldlmmkgbaa
open Go.RowKit Go.Maps
set_option linter.unusedVariables false

set_option maxRecDepth 100000 in
set_option maxHeartbeats 1000000 in
theorem sort_nil (fv : Value) (w : World) : Calls Try.prog 128 #[.slice none 0 0, fv] w fun e w' => e = .returned (.tuple #[]) ∧ Below w.heap.size w w' := by
  go_enter Try.func128, Try.ntmps128
  go_wp2
  refine wp_loop_rounds 1 ?_
  rw [rounds_succ]
  go_wp2
  refine wp_loop_rounds 1 ?_
  rw [rounds_succ]
  go_wp2
  go_end0
  exact ⟨rfl, Below.refl _ _⟩
theorem clip_nil (w : World) : Calls Try.prog 131 #[.slice none 0 0] w fun e w' => e = .returned (.slice none 0 0) ∧ Below w.heap.size w w' := by
  go_enter Try.func131, Try.ntmps131
  go_wp2
  go_ret
  exact ⟨rfl, Below.refl _ _⟩

set_option maxRecDepth 10000 in
set_option maxHeartbeats 1000000 in
theorem words_zero (w : World) (base b : Nat) (s : CS) (S : Nat → Prop) (hA : Cells w base b s S) (hz : ∀ a, s.val a = 0) :
    Calls Try.prog 101 #[.pointer (some ⟨b, 0, none⟩)] w fun e w' => e = .returned (.slice none 0 0) ∧ Below w.heap.size w w' := by
  obtain ⟨mo, f, hA, rfl⟩ := hA
  have hb : b < w.heap.size := (Array.getElem?_eq_some_iff.1 hA.hdr).1
  have c0 : w.cell? ⟨b, 0, none⟩ = some (.map mo) := by simp [World.cell?, hA.hdr, hdrC]
  cases mo with
  | none =>
    have hrg := run_range_nilMap (P := Try.prog) w 165 56 152 Try.underlying165
    have hnx : ∀ ty, (Instr.next (.pointer (some ⟨w.heap.size, 0, none⟩)) false ty).run Try.prog (w.alloc (.mapIter none 0 #[] 0)) = _ := fun ty => run_next_nilMap w ty 0 0 #[]
    clear hA
    go_enter Try.func101, Try.ntmps101
    go_wp2
    refine wp_loop_rounds 1 ?_
    rw [rounds_succ]
    go_wp2_with (first
      | (go_at_call 128; refine (sort_nil _ _).mono ?_; rintro e w1 ⟨rfl, g1⟩)
      | (go_at_call 131; refine (clip_nil _).mono ?_; rintro e w2 ⟨rfl, g2⟩))
    go_ret
    exact ⟨rfl, (((Below.refl _ _).alloc (Nat.le_refl _) _).trans (g1.mono (by simp))).trans (g2.mono (Nat.le_trans (by simp) g1.size))⟩
  | some m =>
    obtain ⟨⟨D, hown, hf, hh⟩, hm1, hm2⟩ := hA.map m rfl
    go_enter Try.func101, Try.ntmps101
    go_wp2_with (first
      | (at_range; refine wpList_range_own _ rfl _ 165 rfl 56 152 addr_keyed Try.underlying165 _ m s.n _ rfl hown ?_; intro w0 hrg0 hg0 hs0)
      | fail)
    go_frame
    go_loopw [3] (fun v wr => v = .slice none 0 0 ∧ ∃ (left : Lit → Bool) (cnt : Nat), wr.ranges Try.prog 56 ptrR m w.heap.size s.n D left cnt ∧ Below w.heap.size w wr)
      (fun _ wr => wr.rangeLeft m w.heap.size)
    case atStart => exact ⟨rfl, _, _, hrg0, ⟨hg0.os, hg0.tape, hg0.output, hg0.size, fun k hk => hg0.block k hk (by simp)⟩⟩
    case round =>
      obtain ⟨hv, left, cnt, hrg, hgw⟩ := hrel
      go_wp2_with (first
        | (at_next; refine wpList_next_ranges _ rfl _ rfl 56 addr_keyed ptrR (Value.int .u64) ptrV (fun key kl hkey => by obtain ⟨x, rfl, _⟩ := Maps.keyOf_int_inv Try.underlying56 hkey; exact ⟨x, rfl⟩) (fun v y hv => by obtain ⟨c, rfl, _⟩ := ptrR_inv hv; exact ⟨c, rfl⟩) m w.heap.size s.n _ _ _ rfl hrg ?_ ?_)
        | fail)
      · intro _ hl0
        subst hv
        go_wp2_with (first
          | (go_at_call 128; refine (sort_nil _ _).mono ?_; rintro e w1 ⟨rfl, g1⟩)
          | (go_at_call 131; refine (clip_nil _).mono ?_; rintro e w2 ⟨rfl, g2⟩))
        go_ret
        exact ⟨rfl, (hgw.trans (g1.mono hgw.size)).trans (g2.mono (Nat.le_trans hgw.size g1.size))⟩
      · intro x c kl y yp w1 cnt1 hk hlk hR hat hrg1 hlt hg1 hs1 hen
        obtain ⟨x', ex, hkl, hwx⟩ := Maps.keyOf_int_inv Try.underlying56 hk
        cases ex
        subst hkl
        have e0 : y = pD c := by have := (ptrR_mk c).symm.trans hR; simp only [Option.some.injEq, Prod.mk.injEq] at this; exact this.1.symm
        have e1 : f x = c := pD_inj ((hf x).symm.trans ((hat _).trans e0))
        have e2 : (f x).isSome = true := (hh x).symm.trans (has_true_of_atKey hat)
        rw [e1] at e2
        cases c with
        | none => cases e2
        | some p =>
          have hp := hA.ptr x p e1
          rw [hz x] at hp
          have hpl : p < w.heap.size := (Array.getElem?_eq_some_iff.1 hp.1).1
          have hgw1 : Below w.heap.size w w1 := hgw.trans ⟨hg1.os, hg1.tape, hg1.output, hg1.size, fun k hk => hg1.block k (Nat.lt_of_lt_of_le hk hgw.size) (fun c => by cases c; omega)⟩
          have hpc := cell_of_word ((hgw1.block p hpl).trans hp.1)
          simp only [ptrV, Option.map] at hen ⊢
          have HR := Lib.hid hrg; have HR1 := Lib.hid hrg1
          clear hrg hrg1 hat hR e0 e1 e2 hp hf hh hk hlk hwx
          go_wp2_with (go_at_call 77; refine (a_load p _ _ hpc).mono ?_; rintro e w' ⟨rfl, rfl⟩)
          go_roundw
          case rel => exact ⟨rfl, _, _, HR1.out, hgw1⟩
          case measure => rw [HR1.out.left_eq, HR.out.left_eq]; exact hlt
end Go.Proofs.Yteofdldlmmkgbaa

/-
  Cells that a call itself made: what each access leaves, from the call's beginning on.
-/
namespace Go.Proofs.Yteofdldlmmkgbaa
open Go.RowKit Go.Maps
set_option linter.unusedVariables false

/-- From w0 on, cells at block b were made; of what was in w0 nothing has turned. -/
structure Own (w0 w : World) (b : Nat) (s : CS) : Prop where
  cells : ∃ S, Cells w w0.heap.size b s S
  below : Below w0.heap.size w0 w
theorem Own.new {w0 w w1 : World} {b : Nat} {s : CS} {S : Nat → Prop} (hB : Below w0.heap.size w0 w) (h : Cells w1 w.heap.size b s S) (h2 : Below w.heap.size w w1) : Own w0 w1 b s := by
  refine ⟨⟨S, ?_⟩, hB.trans (h2.mono hB.size)⟩
  obtain ⟨mo, f, h, rfl⟩ := h
  have hs := hB.size
  exact ⟨mo, f, ⟨h.hdr, Nat.le_trans hs h.lo, fun m hm => ⟨(h.map m hm).1, Nat.le_trans hs (h.map m hm).2.1, (h.map m hm).2.2⟩, h.nomap, fun a p hp => ⟨(h.ptr a p hp).1, Nat.le_trans hs (h.ptr a p hp).2.1, (h.ptr a p hp).2.2⟩, h.zero, h.inj, h.wf⟩, rfl⟩
theorem Own.keep {w0 w w1 : World} {b : Nat} {s : CS} (h : Own w0 w b s) (h2 : Below w.heap.size w w1) : Own w0 w1 b s := by
  obtain ⟨⟨S, hS⟩, hB⟩ := h
  exact ⟨⟨S, hS.below h2⟩, hB.trans (h2.mono hB.size)⟩
theorem Own.acc {w0 w w1 : World} {b : Nat} {s s' : CS} {S : Nat → Prop} (hS : Cells w w0.heap.size b s S) (hB : Below w0.heap.size w0 w) (h : Acc w w0.heap.size b s' S w1) : Own w0 w1 b s' := by
  obtain ⟨S', h1, h2, h3⟩ := h
  exact ⟨⟨S', h1⟩, keeps_below h2 hB hB.size fun k hk => (hS.fp k hk).1⟩
theorem Own.wf {w0 w : World} {b : Nat} {s : CS} (h : Own w0 w b s) (a : Int) : (Lit.int .u64 (s.val a)).wf = true := by
  obtain ⟨⟨S, mo, f, h, _⟩, _⟩ := h; exact h.wf a
/-- What is no cells' header and no word of cells stays as it was. -/
def Rest (w w' : World) : Prop := ∀ (k : Nat) (cs : Array Value) (T : TypeId) (fr : Nat × Nat), w.heap[k]? = some (Obj.cells cs T fr) → (T == 167) = false → (T == 212) = false → w'.heap[k]? = some (Obj.cells cs T fr)
theorem Acc.rest {w w' : World} {base b : Nat} {s s' : CS} {S : Nat → Prop} (hS : Cells w base b s S) (h : Acc w base b s' S w') : Rest w w' := by
  intro k cs T fr hk h1 h2
  obtain ⟨S', _, hK, _⟩ := h
  rw [hK.block k (Array.getElem?_eq_some_iff.1 hk).1 (fun c => ?_)]; exact hk
  obtain ⟨mo, f, hA, rfl⟩ := hS
  rcases c with rfl | hm | ⟨a, ha⟩
  · have := hA.hdr.symm.trans hk; simp only [Option.some.injEq, Obj.cells.injEq] at this; rw [← this.2.1] at h1; simp at h1
  · obtain ⟨⟨D, ⟨es, cl, hb, _⟩, _⟩, _⟩ := hA.map k hm
    have := hb.symm.trans hk; cases this
  · have := (hA.ptr a k ha).1.symm.trans hk; simp only [wordC, Option.some.injEq, Obj.cells.injEq] at this; rw [← this.2.1] at h2; simp at h2
theorem below_rest {w w' : World} (h : Below w.heap.size w w') : Rest w w' := fun k cs T fr hk _ _ => (h.block k (Array.getElem?_eq_some_iff.1 hk).1).trans hk
/-- There is room for more accesses. -/
def CS.room (s : CS) : Prop := s.n < lim ∧ s.cnt < lim

section
variable {w0 w : World} {b : Nat} {s : CS} (h : Own w0 w b s) (hr : s.room) (a : Int) (ha : (Lit.int .u64 a).wf = true)
include h hr ha
theorem load_own : Calls Try.prog 120 #[.pointer (some ⟨b, 0, none⟩), .int .u64 a] w fun e w' => e = .returned (.int .u64 (s.val a)) ∧ Own w0 w' b (s.acc 1 a (s.val a)) := by
  obtain ⟨⟨S, hS⟩, hB⟩ := h
  exact (load_any w _ b s S hS a ha hr.1 hr.2 hB.size).mono fun e w' ⟨he, hA⟩ => ⟨he, Own.acc hS hB hA⟩
theorem store_own (v : Int) (hv : (Lit.int .u64 v).wf = true) : Calls Try.prog 83 #[.pointer (some ⟨b, 0, none⟩), .int .u64 a, .int .u64 v] w fun e w' => e = .returned (.int .u64 (s.val a)) ∧ Own w0 w' b (s.acc 2 a v) := by
  obtain ⟨⟨S, hS⟩, hB⟩ := h
  exact (store_any w _ b s S hS a v ha hv hr.1 hr.2 hB.size).mono fun e w' ⟨he, hA⟩ => ⟨he, Own.acc hS hB hA⟩
theorem add_own (v : Int) : Calls Try.prog 22 #[.pointer (some ⟨b, 0, none⟩), .int .u64 a, .int .u64 v] w fun e w' => e = .returned (.int .u64 (s.val a)) ∧ Own w0 w' b (s.acc 4 a (wu (s.val a + v))) := by
  obtain ⟨⟨S, hS⟩, hB⟩ := h
  exact (add_any w _ b s S hS a v ha hr.1 hr.2 hB.size).mono fun e w' ⟨he, hA⟩ => ⟨he, Own.acc hS hB hA⟩
theorem cas_own (x y : Int) (hy : (Lit.int .u64 y).wf = true) : Calls Try.prog 79 #[.pointer (some ⟨b, 0, none⟩), .int .u64 a, .int .u64 x, .int .u64 y] w fun e w' => e = .returned (.tuple #[.int .u64 (s.val a), .bool (s.val a == x)]) ∧
    Own w0 w' b (s.acc 3 a (if s.val a = x then y else s.val a)) := by
  obtain ⟨⟨S, hS⟩, hB⟩ := h
  exact (cas_any w _ b s S hS a x y ha hy hr.1 hr.2 hB.size).mono fun e w' ⟨he, hA⟩ => ⟨he, Own.acc hS hB hA⟩
omit hr in
theorem peek_own : Calls Try.prog 27 #[.pointer (some ⟨b, 0, none⟩), .int .u64 a] w fun e w' => e = .returned (.int .u64 (s.val a)) ∧ w' = w := by
  obtain ⟨⟨S, hS⟩, hB⟩ := h
  exact peek_any w _ b s S hS a ha
omit hr ha in
theorem count_own : Calls Try.prog 68 #[.pointer (some ⟨b, 0, none⟩)] w fun e w' => e = .returned (.int .i64 s.cnt) ∧ w' = w := by
  obtain ⟨⟨S, hS⟩, hB⟩ := h
  exact count_any w _ b s S hS
omit hr ha in
theorem last_own : Calls Try.prog 30 #[.pointer (some ⟨b, 0, none⟩)] w fun e w' => e = .returned (accV s.kind s.addr s.was s.is) ∧ Own w0 w' b s := by
  have h0 := h
  obtain ⟨⟨S, hS⟩, hB⟩ := h
  exact (last_any w _ b s S hS).mono fun e w' ⟨he, hA⟩ => ⟨he, h0.keep hA⟩
omit hr ha in
theorem words0_own (hz : ∀ a, s.val a = 0) : Calls Try.prog 101 #[.pointer (some ⟨b, 0, none⟩)] w fun e w' => e = .returned (.slice none 0 0) ∧ Own w0 w' b s := by
  have h0 := h
  obtain ⟨⟨S, hS⟩, hB⟩ := h
  exact (words_zero w _ b s S hS hz).mono fun e w' ⟨he, hA⟩ => ⟨he, h0.keep hA⟩
end
theorem new_own {w0 w : World} (hB : Below w0.heap.size w0 w) : Calls Try.prog 52 #[.slice none 0 0] w fun e w' => ∃ b, e = .returned (.pointer (some ⟨b, 0, none⟩)) ∧ Own w0 w' b CS.zero :=
  (new_nil w).mono fun e w' ⟨b, S, he, h1, h2⟩ => ⟨b, he, Own.new hB h1 h2⟩

theorem upd_upd {α : Type} (f : Int → α) (a : Int) (x y : α) : upd (upd f a x) a y = upd f a y := by
  funext k; unfold upd; split <;> rfl
theorem upd_id {α : Type} (f : Int → α) (a : Int) : upd f a (f a) = f := by
  funext k; unfold upd; split
  · rename_i h; rw [h]
  · rfl

/-- Cells of which one address alone was spoken of: v stands there; c accesses. -/
def One (w0 w : World) (b : Nat) (a v : Int) (c : Nat) : Prop := ∃ s, Own w0 w b s ∧ s.val a = v ∧ (∀ x, x ≠ a → s.val x = 0) ∧ s.cnt = c ∧ s.n = c
theorem One.new {w0 w : World} (a : Int) (hB : Below w0.heap.size w0 w) : Calls Try.prog 52 #[.slice none 0 0] w fun e w' => ∃ b, e = .returned (.pointer (some ⟨b, 0, none⟩)) ∧ One w0 w' b a 0 0 :=
  (new_own hB).mono fun e w' ⟨b, he, h⟩ => ⟨b, he, CS.zero, h, rfl, fun _ _ => rfl, rfl, rfl⟩
theorem One.of {w0 w' : World} {b : Nat} {s : CS} {a : Int} {c : Nat} (k i : Int) (h : Own w0 w' b (s.acc k a i)) (h1 : ∀ x, x ≠ a → s.val x = 0) (h2 : s.cnt = c) (h3 : s.n = c) : One w0 w' b a i (c + 1) :=
  ⟨_, h, upd_same _ _ _, fun x hx => (upd_other _ hx _).trans (h1 x hx), by simp [CS.acc, h2], by simp [CS.acc, h3]⟩
section
variable {w0 w : World} {b : Nat} {a v : Int} {c : Nat} (h : One w0 w b a v c) (ha : (Lit.int .u64 a).wf = true) (hc : c < 1000)
include h ha hc
theorem One.load : Calls Try.prog 120 #[.pointer (some ⟨b, 0, none⟩), .int .u64 a] w fun e w' => e = .returned (.int .u64 v) ∧ One w0 w' b a v (c + 1) := by
  obtain ⟨s, h, h1, h2, h3, h4⟩ := h
  subst h1
  exact (load_own h (by unfold CS.room lim; omega) a ha).mono fun e w' ⟨he, hA⟩ => ⟨he, One.of _ _ hA h2 h3 h4⟩
theorem One.store (x : Int) (hx : (Lit.int .u64 x).wf = true) : Calls Try.prog 83 #[.pointer (some ⟨b, 0, none⟩), .int .u64 a, .int .u64 x] w fun e w' => e = .returned (.int .u64 v) ∧ One w0 w' b a x (c + 1) := by
  obtain ⟨s, h, h1, h2, h3, h4⟩ := h
  subst h1
  exact (store_own h (by unfold CS.room lim; omega) a ha x hx).mono fun e w' ⟨he, hA⟩ => ⟨he, One.of _ _ hA h2 h3 h4⟩
theorem One.add (x : Int) : Calls Try.prog 22 #[.pointer (some ⟨b, 0, none⟩), .int .u64 a, .int .u64 x] w fun e w' => e = .returned (.int .u64 v) ∧ One w0 w' b a (wu (v + x)) (c + 1) := by
  obtain ⟨s, h, h1, h2, h3, h4⟩ := h
  subst h1
  exact (add_own h (by unfold CS.room lim; omega) a ha x).mono fun e w' ⟨he, hA⟩ => ⟨he, One.of _ _ hA h2 h3 h4⟩
theorem One.cas (y : Int) (hy : (Lit.int .u64 y).wf = true) : Calls Try.prog 79 #[.pointer (some ⟨b, 0, none⟩), .int .u64 a, .int .u64 v, .int .u64 y] w fun e w' => e = .returned (.tuple #[.int .u64 v, .bool true]) ∧ One w0 w' b a y (c + 1) := by
  obtain ⟨s, h, h1, h2, h3, h4⟩ := h
  subst h1
  refine (cas_own h (by unfold CS.room lim; omega) a ha (s.val a) y hy).mono fun e w' ⟨he, hA⟩ => ?_
  simp only [beq_self_eq_true, if_true] at he hA
  exact ⟨he, One.of _ _ hA h2 h3 h4⟩
theorem One.cas_not (x y : Int) (hx : v ≠ x) (hy : (Lit.int .u64 y).wf = true) : Calls Try.prog 79 #[.pointer (some ⟨b, 0, none⟩), .int .u64 a, .int .u64 x, .int .u64 y] w fun e w' => e = .returned (.tuple #[.int .u64 v, .bool false]) ∧ One w0 w' b a v (c + 1) := by
  obtain ⟨s, h, h1, h2, h3, h4⟩ := h
  subst h1
  refine (cas_own h (by unfold CS.room lim; omega) a ha x y hy).mono fun e w' ⟨he, hA⟩ => ?_
  simp only [beq_eq_false_iff_ne.2 hx, if_neg hx] at he hA
  exact ⟨he, One.of _ _ hA h2 h3 h4⟩
omit hc in
theorem One.peek : Calls Try.prog 27 #[.pointer (some ⟨b, 0, none⟩), .int .u64 a] w fun e w' => e = .returned (.int .u64 v) ∧ w' = w := by
  obtain ⟨s, h, h1, h2, h3, h4⟩ := h
  subst h1
  exact peek_own h a ha
omit hc ha in
theorem One.count : Calls Try.prog 68 #[.pointer (some ⟨b, 0, none⟩)] w fun e w' => e = .returned (.int .i64 c) ∧ w' = w := by
  obtain ⟨s, h, h1, h2, h3, h4⟩ := h
  subst h3
  exact count_own h
omit hc ha in
theorem One.words0 (hv : v = 0) : Calls Try.prog 101 #[.pointer (some ⟨b, 0, none⟩)] w fun e w' => e = .returned (.slice none 0 0) ∧ One w0 w' b a v c := by
  obtain ⟨s, h, h1, h2, h3, h4⟩ := h
  refine (words0_own h (fun x => ?_)).mono fun e w' ⟨he, hA⟩ => ⟨he, s, hA, h1, h2, h3, h4⟩
  by_cases hx : x = a
  · rw [hx, h1, hv]
  · exact h2 x hx
omit hc ha in
theorem One.below : Below w0.heap.size w0 w := by obtain ⟨s, h, _⟩ := h; exact h.below
end

theorem One.keep {w0 w w1 : World} {b : Nat} {a v : Int} {c : Nat} (h : One w0 w b a v c) (h2 : Below w.heap.size w w1) : One w0 w1 b a v c := by
  obtain ⟨s, h, r⟩ := h
  exact ⟨s, h.keep h2, r⟩

end Go.Proofs.Yteofdldlmmkgbaa

/-
  How many slots there are; may tables grow?
-/
namespace Go.Proofs.Yteofdldlmmkgbaa
open Go.RowKit
set_option linter.unusedVariables false

theorem ret_bool {a b : Bool} (h : a = b) : Ending.returned (.bool a) = .returned (.bool b) := by rw [h]
def spots (v : Int) : Int := 4 * (tsize (asOld v) + tsize (asNow v))
theorem as_range (v : Int) : 0 ≤ asOld v ∧ asOld v < 256 ∧ 0 ≤ asNow v ∧ asNow v < 256 := by
  unfold asNow asOld
  split <;> split <;> omega
/-- May a table of so many bits grow? -/
def pmay (first budget bits : Int) : Bool := !(tsize first == 0 || tsize bits == 0 || tsize (bits + 1) == 0) && decide (4 * (tsize bits + tsize (bits + 1)) ≤ 8 * max (min budget 65536) (4 * tsize first))
theorem pmay_any (first budget bits : Int) (hb : 0 ≤ bits ∧ bits < 256) (hg : (Lit.int .i64 budget).wf = true) (w : World) : Calls Try.prog 61 #[.int .i64 first, .int .i64 budget, .int .i64 bits] w fun e w' => e = .returned (.bool (pmay first budget bits)) ∧ w' = w := by
  have hs1 := tsize_le first
  have hs2 := tsize_le bits
  have hs3 := tsize_le (bits + 1)
  unfold pmay
  cases e1 : (tsize first == 0)
  · cases e2 : (tsize bits == 0)
    · cases e3 : (tsize (bits + 1) == 0)
      · have hm : -9223372036854775808 ≤ budget := by
          have hmin : IntKind.i64.min = -9223372036854775808 := rfl
          simp only [Lit.wf, Bool.and_eq_true, decide_eq_true_eq] at hg; omega
        go_enter Try.func61, Try.ntmps61
        go_wp2_with (first | (go_at_call 92; refine (size_any _ _).mono ?_; rintro e w' ⟨rfl, rfl⟩))
        all_goals (go_ret; exact ⟨ret_bool (decide_eq_decide.2 (by omega)), rfl⟩)
      · go_enter Try.func61, Try.ntmps61
        go_wp2_with (first | (go_at_call 92; refine (size_any _ _).mono ?_; rintro e w' ⟨rfl, rfl⟩))
        go_ret
        exact ⟨rfl, rfl⟩
    · go_enter Try.func61, Try.ntmps61
      go_wp2_with (first | (go_at_call 92; refine (size_any _ _).mono ?_; rintro e w' ⟨rfl, rfl⟩))
      go_ret
      exact ⟨rfl, rfl⟩
  · go_enter Try.func61, Try.ntmps61
    go_wp2_with (first | (go_at_call 92; refine (size_any _ _).mono ?_; rintro e w' ⟨rfl, rfl⟩))
    go_ret
    exact ⟨rfl, rfl⟩
end Go.Proofs.Yteofdldlmmkgbaa

/-
  Configs of worlds.
-/
namespace Go.Proofs.Yteofdldlmmkgbaa
open Go.RowKit
set_option linter.unusedVariables false

structure Conf where
  bits : Int
  budget : Int
  tries : Int
  quantum : Int
  way : Int
def Conf.cells (c : Conf) : List Value := [.int .i64 c.bits, .int .i64 c.budget, .int .i64 c.tries, .int .i64 c.quantum, .int .i64 c.way]
def Conf.ok (c : Conf) : Bool := decide (1 ≤ c.bits ∧ c.bits ≤ 12) && decide (1 ≤ c.budget ∧ c.budget ≤ 65536) && decide (0 ≤ c.tries ∧ c.tries ≤ 16) && decide (1 ≤ c.quantum ∧ c.quantum ≤ 8) && decide (2 ≤ c.way ∧ c.way ≤ 256)
def Conf.wf (c : Conf) : Prop := (Lit.int .i64 c.bits).wf = true ∧ (Lit.int .i64 c.budget).wf = true ∧ (Lit.int .i64 c.tries).wf = true ∧ (Lit.int .i64 c.quantum).wf = true ∧ (Lit.int .i64 c.way).wf = true

theorem conf_false {b : Bool} (h : b = false) : Ending.returned (.bool false) = .returned (.bool b) := by rw [h]
theorem conf_true {b : Bool} (h : b = true) : Ending.returned (.bool true) = .returned (.bool b) := by rw [h]
set_option maxRecDepth 10000 in
set_option maxHeartbeats 4000000 in
theorem wmay_any (c : Conf) (w : World) : Calls Try.prog 11 #[.agg #[.int .i64 c.bits, .int .i64 c.budget, .int .i64 c.tries, .int .i64 c.quantum, .int .i64 c.way]] w fun e w' => e = .returned (.bool c.ok) ∧ Below w.heap.size w w' := by
  have i0 : ∀ w, (Instr.index 140 (.agg #[.int .i64 c.bits, .int .i64 1, .int .i64 12, .int .i64 c.budget, .int .i64 1, .int .i64 65536, .int .i64 c.tries, .int .i64 0, .int .i64 16, .int .i64 c.quantum, .int .i64 1, .int .i64 8, .int .i64 c.way, .int .i64 2, .int .i64 256]) (.int .i64 0)).run Try.prog w = .ok (.agg #[.int .i64 c.bits, .int .i64 1, .int .i64 12]) w := fun _ => by kernel_rfl
  have i1 : ∀ w, (Instr.index 140 (.agg #[.int .i64 c.bits, .int .i64 1, .int .i64 12, .int .i64 c.budget, .int .i64 1, .int .i64 65536, .int .i64 c.tries, .int .i64 0, .int .i64 16, .int .i64 c.quantum, .int .i64 1, .int .i64 8, .int .i64 c.way, .int .i64 2, .int .i64 256]) (.int .i64 1)).run Try.prog w = .ok (.agg #[.int .i64 c.budget, .int .i64 1, .int .i64 65536]) w := fun _ => by kernel_rfl
  have i2 : ∀ w, (Instr.index 140 (.agg #[.int .i64 c.bits, .int .i64 1, .int .i64 12, .int .i64 c.budget, .int .i64 1, .int .i64 65536, .int .i64 c.tries, .int .i64 0, .int .i64 16, .int .i64 c.quantum, .int .i64 1, .int .i64 8, .int .i64 c.way, .int .i64 2, .int .i64 256]) (.int .i64 2)).run Try.prog w = .ok (.agg #[.int .i64 c.tries, .int .i64 0, .int .i64 16]) w := fun _ => by kernel_rfl
  have i3 : ∀ w, (Instr.index 140 (.agg #[.int .i64 c.bits, .int .i64 1, .int .i64 12, .int .i64 c.budget, .int .i64 1, .int .i64 65536, .int .i64 c.tries, .int .i64 0, .int .i64 16, .int .i64 c.quantum, .int .i64 1, .int .i64 8, .int .i64 c.way, .int .i64 2, .int .i64 256]) (.int .i64 3)).run Try.prog w = .ok (.agg #[.int .i64 c.quantum, .int .i64 1, .int .i64 8]) w := fun _ => by kernel_rfl
  have i4 : ∀ w, (Instr.index 140 (.agg #[.int .i64 c.bits, .int .i64 1, .int .i64 12, .int .i64 c.budget, .int .i64 1, .int .i64 65536, .int .i64 c.tries, .int .i64 0, .int .i64 16, .int .i64 c.quantum, .int .i64 1, .int .i64 8, .int .i64 c.way, .int .i64 2, .int .i64 256]) (.int .i64 4)).run Try.prog w = .ok (.agg #[.int .i64 c.way, .int .i64 2, .int .i64 256]) w := fun _ => by kernel_rfl
  go_enter Try.func11, Try.ntmps11
  go_wp2
  refine wp_loop_rounds 6 ?_
  iterate 6 (all_goals (first | (rw [rounds_succ]; go_wp2) | (go_ret; refine ⟨conf_false (by simp only [Conf.ok, Bool.and_eq_false_iff, decide_eq_false_iff_not]; omega), ?_⟩; repeat (first | exact Below.refl _ _ | refine Below.alloc ?_ (by simp <;> omega) _))))
  all_goals (first | (go_ret; refine ⟨conf_false (by simp only [Conf.ok, Bool.and_eq_false_iff, decide_eq_false_iff_not]; omega), ?_⟩; repeat (first | exact Below.refl _ _ | refine Below.alloc ?_ (by simp <;> omega) _)) | (go_ret; refine ⟨conf_true (by simp only [Conf.ok, Bool.and_eq_true, decide_eq_true_eq]; omega), ?_⟩; repeat (first | exact Below.refl _ _ | refine Below.alloc ?_ (by simp <;> omega) _)))
end Go.Proofs.Yteofdldlmmkgbaa

/-
  Records, and the walks of package items.
-/
namespace Go.Proofs.Yteofdldlmmkgbaa
open Go.RowKit
set_option linter.unusedVariables false

/-- A record, as its six cells hold it. -/
structure Itm where
  key : ByteArray
  val : ByteArray
  flags : Int
  id : Int
  dies : Int
  gen : Int
def Itm.cells (x : Itm) : List Value := [.string x.key, .string x.val, .int .u32 x.flags, .int .u64 x.id, .int .i64 x.dies, .int .i64 x.gen]
def Itm.zero : Itm := ⟨ByteArray.empty, ByteArray.empty, 0, 0, 0, 0⟩

theorem place_any (b g nb cap p n o : Nat) (w : World) (ho : n % 64 * 6 = o) (hm : n ≤ 1048576)
    (h1 : w.cell? ⟨b, 0, none⟩ = some (.slice (some ⟨g, 0, none⟩) nb cap)) (hn : n / 64 < nb)
    (h2 : w.cell? ⟨g, n / 64, none⟩ = some (.pointer (some ⟨p, 0, none⟩))) :
    Calls Try.prog 73 #[.pointer (some ⟨b, 0, none⟩), .int .i64 n] w fun e w' => e = .returned (.pointer (some ⟨p, o, none⟩)) ∧ w = w' := by
  subst ho
  have hn' : (n : Int) / 64 < (nb : Int) := by omega
  go_enter Try.func73, Try.ntmps73
  go_wp2
  go_ret
  exact ⟨rfl, rfl⟩

theorem add_nil (x : Itm) (w : World) : Calls Try.prog 23 #[.pointer none, .agg x.cells.toArray] w fun e w' => e = .returned (.tuple #[.int .i64 0, .int .i64 2]) ∧ Below w.heap.size w w' := by
  go_enter Try.func23, Try.ntmps23
  go_wp2
  go_ret2
  exact ⟨rfl, (Below.refl _ _).alloc (Nat.le_refl _) _⟩

theorem info_pblk : (Try.prog.info? 158).map (fun i => (i.zero, i.size, i.bytes)) = some (some (.pointer none), 1, 8) := by kernel_rfl
/-- A new block of records: 384 cells. -/
theorem zero_block : ∃ z : Array Value, z.size = 384 ∧ ∀ w, (zeroValue 160).run Try.prog w = .ok (.agg z) w :=
  ⟨(List.replicate 64 Itm.zero.cells).flatten.toArray, by decide +kernel, fun w => by kernel_rfl⟩

theorem news_one (W : World) (v : Value) (T n : Nat) (h : n = W.heap.size) : ∀ j u, [v][j]? = some u → (W.alloc (.cells #[v] T)).cell? ((⟨n, 0, none⟩ : Addr).add j) = some u := by
  subst h; exact cell_one_new _ _ _

/-- What a program arena holds: block b has the header; ps: its blocks of records. -/
structure ArenaAt (w : World) (base b : Nat) (ao : Option Addr) (cap : Nat) (ps : List Nat) (l : List Itm) : Prop where
  hdr : w.heap[b]? = some (.cells #[.slice ao ps.length cap, .int .i64 l.length] 157 (0, 0))
  own : w.ownsRow base 158 1 (.slice ao ps.length cap) ps.length (ps.map fun p => .pointer (some ⟨p, 0, none⟩))
  lo : base ≤ b
  los : ∀ p ∈ ps, base ≤ p
  most : l.length ≤ 64 * ps.length
  least : 64 * ps.length < l.length + 64
  blk : ∀ j, (hj : j < ps.length) → ∃ cs : Array Value, w.heap[ps[j]]? = some (.cells cs 160 (0, 0)) ∧ cs.size = 384 ∧ ∀ i, i < 64 → (hi : 64 * j + i < l.length) → ∀ f, f < 6 → cs[6 * i + f]? = (l[64 * j + i]).cells[f]?
  nodup : ps.Nodup
  nb : b ∉ ps
  no : (Value.slice ao ps.length cap).ownBlock ≠ some b
  nps : ∀ p ∈ ps, (Value.slice ao ps.length cap).ownBlock ≠ some p
/-- The blocks of an arena. -/
def arenaFp (b : Nat) (ao : Option Addr) (ps : List Nat) (k : Nat) : Prop := k = b ∨ (∃ a, ao = some a ∧ a.block = k) ∨ k ∈ ps
/-- An arena whose blocks are S. -/
def Arena (w : World) (base b : Nat) (l : List Itm) (S : Nat → Prop) : Prop := ∃ ao cap ps, ArenaAt w base b ao cap ps l ∧ S = arenaFp b ao ps

theorem ArenaAt.keep {w w' : World} {base b : Nat} {ao : Option Addr} {cap : Nat} {ps : List Nat} {l : List Itm} (h : ArenaAt w base b ao cap ps l) (hk : ∀ k, arenaFp b ao ps k → w'.heap[k]? = w.heap[k]?) : ArenaAt w' base b ao cap ps l := by
  refine ⟨by rw [hk b (.inl rfl)]; exact h.hdr, ?_, h.lo, h.los, h.most, h.least, fun j hj => ?_, h.nodup, h.nb, h.no, h.nps⟩
  · refine ⟨h.own.1, ?_⟩
    rcases h.own.2 with hn | ⟨g, c, cur, hv, hg, hh, r⟩
    · exact .inl hn
    · refine .inr ⟨g, c, cur, hv, hg, ?_, r⟩
      simp only [Value.slice.injEq] at hv
      rw [hk g (.inr (.inl ⟨_, hv.1, rfl⟩))]; exact hh
  · obtain ⟨cs, h1, h2⟩ := h.blk j hj
    exact ⟨cs, by rw [hk _ (.inr (.inr (List.getElem_mem hj)))]; exact h1, h2⟩
theorem Arena.keep {w w' : World} {base b : Nat} {l : List Itm} {S : Nat → Prop} (h : Arena w base b l S) (hk : ∀ k, S k → w'.heap[k]? = w.heap[k]?) : Arena w' base b l S := by
  obtain ⟨ao, cap, ps, h, rfl⟩ := h
  exact ⟨ao, cap, ps, h.keep hk, rfl⟩
theorem Arena.fp {w : World} {base b : Nat} {l : List Itm} {S : Nat → Prop} (h : Arena w base b l S) : ∀ k, S k → base ≤ k ∧ k < w.heap.size := by
  obtain ⟨ao, cap, ps, h, rfl⟩ := h
  rintro k (rfl | ⟨a, rfl, rfl⟩ | hk)
  · exact ⟨h.lo, (Array.getElem?_eq_some_iff.1 h.hdr).1⟩
  · exact h.own.lt _ rfl
  · obtain ⟨j, hj, rfl⟩ := List.mem_iff_getElem.1 hk
    obtain ⟨cs, h1, _⟩ := h.blk j hj
    exact ⟨h.los _ hk, (Array.getElem?_eq_some_iff.1 h1).1⟩
theorem Arena.below {w w' : World} {base b : Nat} {l : List Itm} {S : Nat → Prop} (h : Arena w base b l S) (hb : Below w.heap.size w w') : Arena w' base b l S :=
  h.keep fun k hk => hb.block k (h.fp k hk).2
theorem Arena.keeps {w w' : World} {base b : Nat} {l : List Itm} {S T : Nat → Prop} (h : Arena w base b l S) (hb : Keeps T w w') (hd : ∀ k, S k → ¬ T k) : Arena w' base b l S :=
  h.keep fun k hk => hb.block k (h.fp k hk).2 (hd k hk)

/-- Six cells written one behind the other. -/
def put6 (cs : Array Value) (o : Nat) (x : Itm) : Array Value :=
  (((((cs.setIfInBounds o (.string x.key)).setIfInBounds (o + 1) (.string x.val)).setIfInBounds (o + 2) (.int .u32 x.flags)).setIfInBounds (o + 3) (.int .u64 x.id)).setIfInBounds (o + 4) (.int .i64 x.dies)).setIfInBounds (o + 5) (.int .i64 x.gen)
theorem put6_size (cs : Array Value) (o : Nat) (x : Itm) : (put6 cs o x).size = cs.size := by simp [put6]
theorem put6_in (cs : Array Value) (o : Nat) (x : Itm) (f : Nat) (hf : f < 6) (ho : o + 6 ≤ cs.size) : (put6 cs o x)[o + f]? = x.cells[f]? := by
  have h0 : o < cs.size := by omega
  have h1 : o + 1 < cs.size := by omega
  have h2 : o + 2 < cs.size := by omega
  have h3 : o + 3 < cs.size := by omega
  have h4 : o + 4 < cs.size := by omega
  have h5 : o + 5 < cs.size := by omega
  match f, hf with
  | 0, _ => simp [put6, Itm.cells, h0]
  | 1, _ => simp [put6, Itm.cells, h1]
  | 2, _ => simp [put6, Itm.cells, h2]
  | 3, _ => simp [put6, Itm.cells, h3]
  | 4, _ => simp [put6, Itm.cells, h4]
  | 5, _ => simp [put6, Itm.cells, h5]
theorem put6_out (cs : Array Value) (o : Nat) (x : Itm) (k : Nat) (hk : k < o ∨ o + 6 ≤ k) : (put6 cs o x)[k]? = cs[k]? := by
  have h0 : o ≠ k := by omega
  have h1 : o + 1 ≠ k := by omega
  have h2 : o + 2 ≠ k := by omega
  have h3 : o + 3 ≠ k := by omega
  have h4 : o + 4 ≠ k := by omega
  have h5 : o + 5 ≠ k := by omega
  simp [put6, h0, h1, h2, h3, h4, h5]
end Go.Proofs.Yteofdldlmmkgbaa
