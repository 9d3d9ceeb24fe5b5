/-
  The document's cells: each access; new ones.
-/
import Derived.Test.YtmakjfeepmiggaaGreatRef05
import Derived.Test.YtmakjfeepmiggaaGreatRegion
import Derived.Test.YtmakjfeepmiggaaGreatAtomic
namespace Go.Proofs.YtmakjfeepmiggaaGreat
open Go.RowKit
set_option linter.unusedVariables false

theorem below_alloc' (w : World) (o : Obj) : Below w.heap.size w (w.alloc o) := (Below.refl _ _).alloc (Nat.le_refl _) _
theorem rlook_wf {w : World} {base r : Nat} {lv : Value} {x : RS} (h : RCells w base r lv x) (a : Int) : (Lit.int .u64 (rlook x.l a)).wf = true := by
  have key : ∀ (l : List (Int × Int)), (∀ p ∈ l, (Lit.int .u64 p.1).wf = true ∧ (Lit.int .u64 p.2).wf = true) → (Lit.int .u64 (rlook l a)).wf = true := by
    intro l
    induction l with
    | nil => intro _; show (Lit.int .u64 0).wf = true; decide
    | cons p l ih =>
      intro h
      unfold rlook
      split
      · exact (h p (by simp)).2
      · exact ih fun q hq => h q (by simp [hq])
  exact key x.l h.wf
section
variable {w : World} {base r : Nat} {lv : Value} {x : RS} (h : RCells w base r lv x) (hn : x.l.length ≤ 100000) (hc : x.cnt ≤ 1000000) (hbase : base ≤ w.heap.size) (a : Int) (ha : (Lit.int .u64 a).wf = true)
include h hn hc hbase ha
theorem rload_any : Calls Tryz.prog 133 #[.pointer (some ⟨r, 0, none⟩), .int .u64 a] w fun e w' => e = .returned (.int .u64 (rlook x.l a)) ∧ (∃ lv', RCells w' base r lv' (x.acc 1 a (rlook x.l a))) ∧ Keeps (· = r) w w' := by
  have hp := rpeek_any w base r lv x h a
  have hq := racc_any w base r lv x h hn hc hbase 1 a (rlook x.l a) ha (rlook_wf h a)
  clear h ha
  go_enter Tryz.func133, Tryz.ntmps133
  go_wp2_with (first
    | (go_at_call 180; refine hp.mono ?_; rintro e w1 ⟨rfl, hw⟩; obtain rfl := hw.symm; clear hp)
    | (go_at_call 181; refine hq.mono ?_; rintro e w1 ⟨rfl, h1, hk⟩))
  go_ret
  exact ⟨rfl, h1, hk⟩
theorem rstore_any (v : Int) (hv : (Lit.int .u64 v).wf = true) : Calls Tryz.prog 132 #[.pointer (some ⟨r, 0, none⟩), .int .u64 a, .int .u64 v] w fun e w' => e = .returned (.int .u64 (rlook x.l a)) ∧ (∃ lv', RCells w' base r lv' (x.acc 2 a v)) ∧ Keeps (· = r) w w' := by
  have hq := racc_any w base r lv x h hn hc hbase 2 a v ha hv
  clear h ha hv
  go_enter Tryz.func132, Tryz.ntmps132
  go_wp2_with (go_at_call 181; refine hq.mono ?_; rintro e w1 ⟨rfl, h1, hk⟩)
  go_ret
  exact ⟨rfl, h1, hk⟩
theorem radd_any (v : Int) : Calls Tryz.prog 229 #[.pointer (some ⟨r, 0, none⟩), .int .u64 a, .int .u64 v] w fun e w' => e = .returned (.int .u64 (rlook x.l a)) ∧ (∃ lv', RCells w' base r lv' (x.acc 4 a (wu (rlook x.l a + v)))) ∧ Keeps (· = r) w w' := by
  have hp := rpeek_any w base r lv x h a
  have hq := racc_any w base r lv x h hn hc hbase 4 a (wu (rlook x.l a + v)) ha (wf_wu _)
  have e1 : IntKind.u64.wrap (rlook x.l a + v) = wu (rlook x.l a + v) := rfl
  have HQ := Lib.hid hq
  clear h ha hq
  generalize hg : rlook x.l a = s at *
  go_enter Tryz.func229, Tryz.ntmps229
  go_wp2_with (first
    | (go_at_call 180; refine hp.mono ?_; rintro e w1 ⟨rfl, hw⟩; obtain rfl := hw.symm; clear hp)
    | (go_at_call 181; refine HQ.out.mono ?_; rintro e w1 ⟨rfl, h1, hk⟩))
  go_ret
  exact ⟨rfl, h1, hk⟩
theorem rcas_any (u v : Int) (hv : (Lit.int .u64 v).wf = true) : Calls Tryz.prog 205 #[.pointer (some ⟨r, 0, none⟩), .int .u64 a, .int .u64 u, .int .u64 v] w fun e w' => e = .returned (.tuple #[.int .u64 (rlook x.l a), .bool (rlook x.l a == u)]) ∧ (∃ lv', RCells w' base r lv' (x.acc 3 a (if rlook x.l a = u then v else rlook x.l a))) ∧ Keeps (· = r) w w' := by
  have hp := rpeek_any w base r lv x h a
  have hl := rlook_wf h a
  by_cases he : rlook x.l a = u
  · have hq := racc_any w base r lv x h hn hc hbase 3 a v ha hv
    rw [if_pos he]
    have hb : (rlook x.l a == u) = true := beq_iff_eq.2 he
    have hb2 : (rlook x.l a != u) = false := by simp [bne, hb]
    have HQ := Lib.hid hq
    clear h ha hv hl he hq
    generalize rlook x.l a = s at *
    go_enter Tryz.func205, Tryz.ntmps205
    go_wp2_with (first
      | (go_at_call 180; refine hp.mono ?_; rintro e w1 ⟨rfl, hw⟩; obtain rfl := hw.symm; clear hp)
      | (go_at_call 181; refine HQ.out.mono ?_; rintro e w1 ⟨rfl, h1, hk⟩))
    go_ret2
    exact ⟨by rw [hb]; rfl, h1, hk⟩
  · have hq := racc_any w base r lv x h hn hc hbase 3 a (rlook x.l a) ha hl
    rw [if_neg he]
    have hb : (rlook x.l a == u) = false := beq_eq_false_iff_ne.2 he
    have hb2 : (rlook x.l a != u) = true := by simp [bne, hb]
    have HQ := Lib.hid hq
    clear h ha hv hl he hq
    generalize rlook x.l a = s at *
    go_enter Tryz.func205, Tryz.ntmps205
    go_wp2_with (first
      | (go_at_call 180; refine hp.mono ?_; rintro e w1 ⟨rfl, hw⟩; obtain rfl := hw.symm; clear hp)
      | (go_at_call 181; refine HQ.out.mono ?_; rintro e w1 ⟨rfl, h1, hk⟩))
    go_ret2
    exact ⟨by rw [hb]; rfl, h1, hk⟩
end
def RS.zero : RS := ⟨[], 0, 0, 0, 0, 0⟩
theorem rnew_nil (w : World) : Calls Tryz.prog 123 #[.slice none 0 0] w fun e w' => e = .returned (.pointer (some ⟨w.heap.size, 0, none⟩)) ∧ RCells w' w.heap.size w.heap.size (.slice none 0 0) RS.zero ∧ Below w.heap.size w w' := by
  go_enter Tryz.func123, Tryz.ntmps123
  go_wp2
  refine wp_loop_rounds 1 ?_
  rw [rounds_succ]
  go_wp2
  go_ret
  exact ⟨rfl, ⟨heap_alloc_new w _, Nat.le_refl _, World.ownsRow_nil _ _ _ _, fun p hp => by cases hp⟩, below_alloc' w _⟩
end Go.Proofs.YtmakjfeepmiggaaGreat
