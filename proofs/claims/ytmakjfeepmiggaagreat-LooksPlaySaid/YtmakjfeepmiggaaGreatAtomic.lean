/-
  The words of sync/atomic: what a method of *atomic.Uint64 does to the one cell at its address.
-/
import Derived.Test.YtmakjfeepmiggaaGreatLib
namespace Go.Proofs.YtmakjfeepmiggaaGreat
open Go.RowKit
set_option linter.unusedVariables false

/-- The sum of a word, as Go's '+' at uint64 tells it. -/
def wu (x : Int) : Int := IntKind.u64.wrap x
theorem wu_eq (x : Int) : wu x = x % 18446744073709551616 := IntKind.wrap_u64 x
theorem wu_of {x : Int} (h : (Lit.int .u64 x).wf = true) : wu x = x := by
  have h1 : 0 ≤ x ∧ x ≤ 18446744073709551615 := by
    have hmin : IntKind.u64.min = 0 := rfl
    have hmax : IntKind.u64.max = 18446744073709551615 := rfl
    simp only [Lit.wf, Bool.and_eq_true, decide_eq_true_eq] at h; omega
  rw [wu_eq]; omega
theorem wf_wu (x : Int) : (Lit.int .u64 (wu x)).wf = true := by
  have hmin : IntKind.u64.min = 0 := rfl
  have hmax : IntKind.u64.max = 18446744073709551615 := rfl
  simp only [Lit.wf, Bool.and_eq_true, decide_eq_true_eq, wu_eq]; omega
theorem wu_back {x : Int} (y : Int) (h : (Lit.int .u64 x).wf = true) : IntKind.u64.wrap (wu (x + y) - y) = x := by
  have h2 := wu_of h
  have e : IntKind.u64.wrap (wu (x + y) - y) = wu x := by
    rw [IntKind.wrap_u64, wu_eq, wu_eq]; omega
  rw [e, h2]

theorem run_call_swap {P : Program} {f : FuncId} {fn : Func} (hf : P.funcs[f]? = some fn) (hname : (fn.name == "runtime.NumGoroutine") = false) (hb : fn.body.isNone = true) (hn : Extern.findNext fn = none) (k : IntKind)
    (he : Extern.find fn = some (Extern.Atomic.swapT (.int k))) {a : Addr} {x y : Int} {w : World} (hc : w.cell? a = some (.int k x)) (hz : w.frozen? a = false) :
    (callFunc f #[.pointer (some a), .int k y]).run P w = .ok (.value (.int k x)) (w.setCell a (.int k y)) := by
  rw [run_callFunc_extern hf hname hb hn he]
  change (Sem.run P (do
    let a' ← asAddr (.pointer (some a))
    let old ← Extern.Atomic.read (.int k) a'
    store a' (.int k y) .atomic
    pure old) w).andThen _ = _
  simp [Extern.Atomic.read, asAddr, hc, hz, run_store P w a (.int k y) .atomic rfl, Result.andThen]

theorem a_load (p : Nat) (v : Int) (w : World) (h : w.cell? ⟨p, 0, none⟩ = some (.int .u64 v)) :
    Calls Tryz.prog 135 #[.pointer (some ⟨p, 0, none⟩)] w fun e w' => e = .returned (.int .u64 v) ∧ w' = w := by
  have hl := run_call_load (P := Tryz.prog) Tryz.func182 (by kernel_rfl) (by kernel_rfl) (by kernel_rfl) .u64 (by kernel_rfl) h
  go_enter Tryz.func135, Tryz.ntmps135
  go_wp2
  go_ret
  exact ⟨rfl, rfl⟩

theorem a_store (p : Nat) (v y : Int) (w : World) (h : w.cell? ⟨p, 0, none⟩ = some (.int .u64 v)) (hz : w.frozen? ⟨p, 0, none⟩ = false) :
    Calls Tryz.prog 179 #[.pointer (some ⟨p, 0, none⟩), .int .u64 y] w fun e w' => e = .returned (.tuple #[]) ∧ w' = w.setCell ⟨p, 0, none⟩ (.int .u64 y) := by
  have hl := run_call_store (P := Tryz.prog) Tryz.func218 (by kernel_rfl) (by kernel_rfl) (by kernel_rfl) (by kernel_rfl) (k := .u64) (y := y) h hz
  go_enter Tryz.func179, Tryz.ntmps179
  go_wp2
  go_end0
  exact ⟨rfl, rfl⟩

theorem a_swap (p : Nat) (v y : Int) (w : World) (h : w.cell? ⟨p, 0, none⟩ = some (.int .u64 v)) (hz : w.frozen? ⟨p, 0, none⟩ = false) :
    Calls Tryz.prog 177 #[.pointer (some ⟨p, 0, none⟩), .int .u64 y] w fun e w' => e = .returned (.int .u64 v) ∧ w' = w.setCell ⟨p, 0, none⟩ (.int .u64 y) := by
  have hl := run_call_swap (P := Tryz.prog) Tryz.func217 (by kernel_rfl) (by kernel_rfl) (by kernel_rfl) .u64 (by kernel_rfl) (y := y) h hz
  go_enter Tryz.func177, Tryz.ntmps177
  go_wp2
  go_ret
  exact ⟨rfl, rfl⟩

theorem a_add (p : Nat) (v y : Int) (w : World) (h : w.cell? ⟨p, 0, none⟩ = some (.int .u64 v)) (hz : w.frozen? ⟨p, 0, none⟩ = false) :
    Calls Tryz.prog 284 #[.pointer (some ⟨p, 0, none⟩), .int .u64 y] w fun e w' => e = .returned (.int .u64 (wu (v + y))) ∧ w' = w.setCell ⟨p, 0, none⟩ (.int .u64 (wu (v + y))) := by
  have hl := run_call_add (P := Tryz.prog) Tryz.func285 (by kernel_rfl) (by kernel_rfl) (by kernel_rfl) .u64 (by kernel_rfl) (y := y) (s := wu (v + y)) h hz (by rfl)
  go_enter Tryz.func284, Tryz.ntmps284
  go_wp2
  go_ret
  exact ⟨rfl, rfl⟩

theorem a_cas_hit (p : Nat) (v y : Int) (w : World) (h : w.cell? ⟨p, 0, none⟩ = some (.int .u64 v)) (hz : w.frozen? ⟨p, 0, none⟩ = false) :
    Calls Tryz.prog 202 #[.pointer (some ⟨p, 0, none⟩), .int .u64 v, .int .u64 y] w fun e w' => e = .returned (.bool true) ∧ w' = w.setCell ⟨p, 0, none⟩ (.int .u64 y) := by
  have hl := run_call_cas_hit (P := Tryz.prog) Tryz.func226 (by kernel_rfl) (by kernel_rfl) (by kernel_rfl) .u64 (by kernel_rfl) (y := y) h hz
  go_enter Tryz.func202, Tryz.ntmps202
  go_wp2
  go_ret
  exact ⟨rfl, rfl⟩

theorem a_cas_miss (p : Nat) (v o y : Int) (w : World) (h : w.cell? ⟨p, 0, none⟩ = some (.int .u64 v)) (hz : w.frozen? ⟨p, 0, none⟩ = false) (hne : ¬ v = o) :
    Calls Tryz.prog 202 #[.pointer (some ⟨p, 0, none⟩), .int .u64 o, .int .u64 y] w fun e w' => e = .returned (.bool false) ∧ w' = w := by
  have hl := run_call_cas_miss (P := Tryz.prog) Tryz.func226 (by kernel_rfl) (by kernel_rfl) (by kernel_rfl) .u64 (by kernel_rfl) (o := o) (y := y) h hz hne
  go_enter Tryz.func202, Tryz.ntmps202
  go_wp2
  go_ret
  exact ⟨rfl, rfl⟩
end Go.Proofs.YtmakjfeepmiggaaGreat
