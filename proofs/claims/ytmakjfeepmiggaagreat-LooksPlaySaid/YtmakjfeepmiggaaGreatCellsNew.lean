/-
  New cells.
-/
import Derived.Test.YtmakjfeepmiggaaGreatCellsOps
import Derived.Deep.RegionWith
namespace Go.Proofs.YtmakjfeepmiggaaGreat
open Go.RowKit Go.Maps
set_option linter.unusedVariables false

def CS.zero : CS := ⟨fun _ => 0, 0, 0, 0, 0, 0, 0⟩
def CS.set (s : CS) (a v : Int) : CS := { s with val := upd s.val a v, n := s.n + 1 }
def CS.init (l : List (Int × Int)) : CS := l.foldl (fun s p => s.set p.1 p.2) CS.zero
theorem CS.init_n (l : List (Int × Int)) : (CS.init l).n = l.length ∧ (CS.init l).cnt = 0 ∧ (CS.init l).kind = 0 ∧ (CS.init l).addr = 0 ∧ (CS.init l).was = 0 ∧ (CS.init l).is = 0 := by
  have h : ∀ (l : List (Int × Int)) (s : CS), (l.foldl (fun s p => s.set p.1 p.2) s).n = s.n + l.length ∧ (l.foldl (fun s p => s.set p.1 p.2) s).cnt = s.cnt ∧ (l.foldl (fun s p => s.set p.1 p.2) s).kind = s.kind ∧
      (l.foldl (fun s p => s.set p.1 p.2) s).addr = s.addr ∧ (l.foldl (fun s p => s.set p.1 p.2) s).was = s.was ∧ (l.foldl (fun s p => s.set p.1 p.2) s).is = s.is := by
    intro l
    induction l with
    | nil => intro s; simp
    | cons x l ih => intro s; simp only [List.foldl_cons, List.length_cons]; have := ih (s.set x.1 x.2); simp only [CS.set] at this ⊢; omega
  have := h l CS.zero
  simpa [CS.init, CS.zero] using this

theorem cells_new (w : World) : CellsAt (w.alloc (.cells (hdrC none CS.zero) 239)) w.heap.size w.heap.size none (fun _ => none) CS.zero :=
  ⟨heap_alloc_new w _, Nat.le_refl _, fun m h => (by cases h), fun _ _ => rfl, fun a p h => (by cases h), fun _ _ => rfl, fun a a' p h => (by cases h), fun _ => rfl⟩

theorem new_nil (w : World) : Calls Tryz.prog 126 #[.slice none 0 0] w fun e w' => ∃ b S, e = .returned (.pointer (some ⟨b, 0, none⟩)) ∧ Cells w' w.heap.size b CS.zero S ∧ Below w.heap.size w w' := by
  go_enter Tryz.func126, Tryz.ntmps126
  go_wp2
  refine wp_loop_rounds 1 ?_
  rw [rounds_succ]
  go_wp2
  go_ret
  exact ⟨w.heap.size, _, rfl, ⟨_, _, cells_new w, rfl⟩, (Below.refl _ _).alloc (Nat.le_refl _) _⟩

/-- A word that is laid without an access. -/
theorem CellsAt.lay {w1 w2 : World} {base b : Nat} {mo : Option Nat} {f : Int → Option Nat} {s : CS} (h1 : CellsAt w1 base b mo f { s with n := s.n + 1 }) {a : Int} {p : Nat} (h2 : f a = some p) (v : Int) (hv : (Lit.int .u64 v).wf = true)
    (hw : w2.heap[p]? = some (wordC v)) (hk : Keeps (· = p) w1 w2) : CellsAt w2 base b mo f (s.set a v) :=
  h1.hit h2 v hv hw fun k hk2 hne => hk.block k (h1.fp k hk2).2 hne

theorem by_word2 {w1 w2 : World} {q : Nat} {a v : Int} {S : Nat → Prop} (hq : w1.heap[q]? = some (.cells #[.int .u64 a, .int .u64 v] 226 (0, 0))) (h : Keeps S w1.drew w2) (hl : q < w1.drew.heap.size) (hn : ¬ S q) : w2.cell? ⟨q, 1, none⟩ = some (.int .u64 v) := by
  have h2 : w2.heap[q]? = some (.cells #[.int .u64 a, .int .u64 v] 226 (0, 0)) := (h.block q hl hn).trans hq
  simp [World.cell?, h2]

theorem new_step {w w1 w2 : World} {mo mo1 : Option Nat} {f f1 : Int → Option Nat} {s s' : CS} {a v : Int} {p : Nat} (hs : s' = s.set a v) (hv : (Lit.int .u64 v).wf = true) (hB : Below w.heap.size w w1) (hsz : w.heap.size ≤ w1.heap.size) (hA : CellsAt w1 w.heap.size w.heap.size mo f s)
    (h1 : CellsAt w2 w.heap.size w.heap.size mo1 f1 { s with n := s.n + 1 }) (h2 : f1 a = some p) (h3 : Keeps (cellsFp w.heap.size mo f) w1.drew w2) (h4 : ∀ k, cellsFp w.heap.size mo1 f1 k → cellsFp w.heap.size mo f k ∨ w1.drew.heap.size ≤ k) (hp : w2.heap[p]? = some (wordC (s.val a))) :
    (∃ S', Cells (w2.setCell ⟨p, 0, none⟩ (.int .u64 v)) w.heap.size w.heap.size s' S') ∧ Below w.heap.size w (w2.setCell ⟨p, 0, none⟩ (.int .u64 v)) := by
  refine ⟨⟨_, mo1, f1, ?_, rfl⟩, ?_⟩
  · rw [hs]; exact h1.lay h2 v hv (word_set hp v) (setCell_keeps _ _ _ _)
  · have k1 : Keeps (cellsFp w.heap.size mo f) w1 w2 := ⟨h3.os, h3.tape, h3.output, h3.size, h3.block⟩
    have k2 : Below w.heap.size w w2 := keeps_below k1 hB hsz (fun k hk => (hA.fp k hk).1)
    refine keeps_below (setCell_keeps w2 p 0 (.int .u64 v)) k2 k2.size (fun k hk => ?_)
    rw [hk]; exact (h1.ptr a p h2).2.1

set_option maxRecDepth 10000 in
set_option maxHeartbeats 2000000 in
theorem new_words (w : World) (g o cap : Nat) (l : List (Int × Int)) (hl : l.length ≤ cap) (hcap : cap ≤ maxLen) (hlim : l.length < lim)
    (hc : ∀ k (h : k < l.length), w.cell? ⟨g, o + k * 2, none⟩ = some (.int .u64 l[k].1) ∧ w.cell? ⟨g, o + k * 2 + 1, none⟩ = some (.int .u64 l[k].2))
    (hw : ∀ p ∈ l, (Lit.int .u64 p.1).wf = true ∧ (Lit.int .u64 p.2).wf = true) :
    Calls Tryz.prog 126 #[.slice (some ⟨g, o, none⟩) l.length cap] w fun e w' => ∃ b S, e = .returned (.pointer (some ⟨b, 0, none⟩)) ∧ Cells w' w.heap.size b (CS.init l) S ∧ Below w.heap.size w w' := by
  go_enter Tryz.func126, Tryz.ntmps126
  go_wp2
  go_loopw [10, 5] (fun x _ wr => ∃ k : Nat, x = .int .i64 k ∧ k ≤ l.length ∧ (∃ S, Cells wr w.heap.size w.heap.size (CS.init (l.take k)) S) ∧ Below w.heap.size w wr)
    (fun x _ _ => l.length - (intOf x).toNat)
  case atStart => exact ⟨0, rfl, Nat.zero_le _, ⟨_, _, _, cells_new w, rfl⟩, (Below.refl _ _).alloc (Nat.le_refl _) _⟩
  case round =>
    obtain ⟨k, hk, hkl, ⟨S, hS⟩, hB⟩ := hrel
    subst hk
    by_cases hk : k < l.length
    · have hkb : decide ((k : Int) < (l.length : Int)) = true := by simp; omega
      have hck := hc k hk
      have hwk := hw l[k] (List.getElem_mem hk)
      have hB2 : Below w.heap.size w (wr.alloc (.cells #[.int .u64 l[k].1, .int .u64 l[k].2] 226)) := hB.alloc hB.size _
      have hg : g < w.heap.size := World.block_lt_of_cell? _ _ hck.1
      have r1 := (hB.cell (p := ⟨g, o + k * 2, none⟩) hg).trans hck.1
      have r2 := (hB.cell (p := ⟨g, o + k * 2 + 1, none⟩) hg).trans hck.2
      have hg2 : g < wr.heap.size := Nat.lt_of_lt_of_le hg hB.size
      have hsz := hB.size
      have hS2 := hS.below ((Below.refl wr.heap.size wr).alloc (Nat.le_refl _) (.cells #[.int .u64 l[k].1, .int .u64 l[k].2] 226))
      have hnS : ¬ S wr.heap.size := fun c => by have := (hS.fp _ c).2; omega
      have hq := heap_alloc_new wr (.cells #[.int .u64 l[k].1, .int .u64 l[k].2] 226)
      have HT := Lib.hid (show (CS.init (l.take (k + 1))) = (CS.init (l.take k)).set l[k].1 l[k].2 by
        rw [List.take_succ_eq_append_getElem hk]; unfold CS.init; rw [List.foldl_append]; rfl)
      have hn := (CS.init_n (l.take k)).1
      simp only [List.length_take] at hn
      have hn2 : (CS.init (l.take k)).n < maxLen := by have := lim_le; omega
      generalize CS.init (l.take k) = s at *
      obtain ⟨s', HS0⟩ : ∃ s', s' = CS.init (l.take (k + 1)) := ⟨_, rfl⟩
      have HS2 := Lib.hid HS0
      rw [← HS0] at HT
      clear HS0
      generalize l[k].1 = a at *
      generalize l[k].2 = v at *
      have HK := Lib.hid hk; have HKL := Lib.hid hkl; have HHL := Lib.hid hl; have HCP := Lib.hid hcap
      clear hck hw hc hn hlim hS
      go_wp2_with fail
      generalize wr.alloc (.cells #[.int .u64 a, .int .u64 v] 226) = w1 at *
      obtain ⟨mo, f, hA, rfl⟩ := hS2
      have x0 : w1.cell? ⟨wr.heap.size, 0, none⟩ = some (.int .u64 a) := by simp [World.cell?, hq]
      have x1 : w1.cell? ⟨wr.heap.size, 1, none⟩ = some (.int .u64 v) := by simp [World.cell?, hq]
      have hA' : CellsAt w1.drew w.heap.size w.heap.size mo f s := hA.keep fun _ _ => rfl
      have hsz1 : w.heap.size ≤ w1.drew.heap.size := hB2.size
      have hqs : wr.heap.size < w1.drew.heap.size := (Array.getElem?_eq_some_iff.1 hq).1
      have HA := Lib.hid hA; have HB := Lib.hid hB; have HB2 := Lib.hid hB2; have HN2 := Lib.hid hn2; have HW := Lib.hid hwk; have HNS := Lib.hid hnS; have HQ := Lib.hid hq; have HSZ := Lib.hid hsz1; have HQS := Lib.hid hqs; have HA' := Lib.hid hA'
      clear hA hB hB2 hn2 hwk hnS hq r1 r2 hg hg2 hsz hsz1 hqs hA' hkb
      go_region_with (first
        | (go_at_call 175; refine (at_any w1.drew w.heap.size w.heap.size mo f s HA'.out a HW.out.1 HN2.out HSZ.out).mono ?_; rintro e w2 ⟨mo1, f1, p, rfl, h1, h2, h3, h4⟩; have y1 : w2.cell? ⟨wr.heap.size, 1, none⟩ = some (.int .u64 v) := by_word2 HQ.out h3 HQS.out HNS.out; have hp := (h1.ptr a p h2).1; have hpc := cell_of_word hp; have hpf := free_of_word hp; have H1 := Lib.hid h1; have H2 := Lib.hid h2; have H3 := Lib.hid h3; have H4 := Lib.hid h4; have HP := Lib.hid hp; clear h1 h2 h3 h4 hp)
        | (go_at_call 179; refine (a_store _ _ v _ hpc hpf).mono ?_; rintro e w4 ⟨rfl, rfl⟩))
      all_goals (have hfin := new_step HT.out HW.out.2 HB2.out HSZ.out HA.out H1.out H2.out H3.out H4.out HP.out)
      all_goals (clear hpc hpf y1 x0 x1)
      all_goals (generalize World.setCell w2 _ _ = w5 at hfin ⊢)
      all_goals (have hk := HK.out)
      all_goals (have hkw : wrap64 ((k : Int) + 1) = k + 1 := IntWalk.wrap64_in _ (by have := HHL.out; have := HCP.out; unfold maxLen at this; omega))
      all_goals (try go_wp2)
      all_goals go_roundw
      all_goals (first | (show (_ : Nat) < _; rw [hkw]; simp [intOf] <;> omega) | exact ⟨k + 1, by rw [hkw]; rfl, by omega, (by rw [← HS2.out]; exact hfin.1), hfin.2⟩)
    · have hkb : decide ((k : Int) < (l.length : Int)) = false := by simp; omega
      have hke : k = l.length := by omega
      go_wp2
      go_ret
      rw [hke, List.take_length] at hS
      exact ⟨_, S, rfl, hS, hB⟩
end Go.Proofs.YtmakjfeepmiggaaGreat
