/-
  Texts of this prover, merged: Tickets, Tag, Puts, PutsDo, PutsAll, PutsLives, PutsEx, PutsNil, PutRef.
-/
import Derived.Test.YtjfocckdbaaimaaGreatBegin0
import Derived.Test.YtjfocckdbaaimaaGreatLib
import Derived.Test.YtjfocckdbaaimaaGreatTagPure
import Derived.Test.YtjfocckdbaaimaaGreatAddr
import Derived.Test.YtjfocckdbaaimaaGreatSegs
import Derived.Test.YtjfocckdbaaimaaGreatP1
import Derived.Test.YtjfocckdbaaimaaGreatPairPut
import Derived.Laws.EntriesVeiled
import Derived.Deep.QuietTactic
import Derived.BigQuiet
import Derived.Maps.RangeWalk
/-
  Tickets: a Take, a Give, who waits.
-/
namespace Go.Proofs.YtjfocckdbaaimaaGreat
open Go.RowKit
set_option linter.unusedVariables false

/-- Of the old blocks only b, and such of some types, have turned. -/
structure Fx (K : TypeId → Bool) (mp : Bool) (b : Nat) (w w' : World) : Prop where
  size : w.heap.size ≤ w'.heap.size
  cells : ∀ (k : Nat) (cs : Array Value) (T : TypeId) (fr : Nat × Nat), w.heap[k]? = some (.cells cs T fr) → K T = false → k ≠ b → w'.heap[k]? = some (.cells cs T fr)
  map : mp = false → ∀ (k : Nat) (es : Array MapEntry) (cl : Nat), w.heap[k]? = some (.map es cl) → k ≠ b → w'.heap[k]? = some (.map es cl)
theorem Fr.fx {K : TypeId → Bool} {mp : Bool} {w w' : World} (h : Fr K mp w w') (b : Nat) : Fx K mp b w w' := ⟨h.size, fun k cs T fr h1 h2 _ => h.cells k cs T fr h1 h2, fun hm k es cl h1 _ => h.map hm k es cl h1⟩
theorem Fx.trans {K : TypeId → Bool} {mp : Bool} {b : Nat} {a c d : World} (h : Fx K mp b a c) (k : Fx K mp b c d) : Fx K mp b a d :=
  ⟨Nat.le_trans h.size k.size, fun i cs T fr hi hT hb => k.cells i cs T fr (h.cells i cs T fr hi hT hb) hT hb, fun hm i es cl hi hb => k.map hm i es cl (h.map hm i es cl hi hb) hb⟩
theorem set_fx (K : TypeId → Bool) (mp : Bool) (w : World) (b o : Nat) (v : Value) : Fx K mp b w (w.setCell ⟨b, o, none⟩ v) :=
  ⟨by simp [World.setCell], fun k cs T fr h _ hb => (Below.heap_setCell _ _ _ _ hb).trans h, fun _ k es cl h hb => (Below.heap_setCell _ _ _ _ hb).trans h⟩
theorem Fx.fr {K : TypeId → Bool} {mp : Bool} {b : Nat} {w w' : World} (h : Fx K mp b w w') {cs : Array Value} {T : TypeId} {fr : Nat × Nat} (hb : w.heap[b]? = some (.cells cs T fr)) : Fr (fun x => K x || x == T) mp w w' := by
  refine ⟨h.size, fun k cs2 T2 fr2 h2 hT => ?_, fun hm k es cl h2 => h.map hm k es cl h2 fun c => ?_⟩
  · simp only [Bool.or_eq_false_iff] at hT
    refine h.cells k cs2 T2 fr2 h2 hT.1 fun c => ?_
    subst c
    have := hb.symm.trans h2; simp only [Option.some.injEq, Obj.cells.injEq] at this
    have h3 := hT.2; rw [this.2.1] at h3; simp at h3
  · subst c; rw [hb] at h2; cases h2

theorem mkfunc (fn : Fn) (first cap : Array Value) (w : World) : (Instr.makeFunc fn first cap).run Tryz.prog w = .ok (.func fn first cap) w := rfl
/-- The worlds' types, and a Take's. -/
theorem WS.cellb {w0 w : World} {B : WB} {V : WV} {s : CS} (h : WS w0 w B V s) (t : Nat) (ht : t < 64) : w.cell? ⟨B.wb, 8 + t, none⟩ = some (.int .u64 (V.tk.getD t 0)) := (h.cell (8 + t)).trans (val_tkat B V h.tkl t ht)
theorem WS.hcell' {w0 w : World} {B : WB} {V : WV} {s : CS} (h : WS w0 w B V s) : w.cell? ⟨B.wb, 72, none⟩ = some (.int .i64 V.hd) := (h.cell 72).trans (val_at B V h.tkl).2.2.2.2.2
theorem WS.frz {w0 w : World} {B : WB} {V : WV} {s : CS} (h : WS w0 w B V s) (o : Nat) : w.frozen? ⟨B.wb, o, none⟩ = false := hfrz h.blk o
theorem WS.fx {w0 w w' : World} {B : WB} {V : WV} {s : CS} {K : TypeId → Bool} {b : Nat} (h : WS w0 w B V s) (hf : Fx K false b w w') (hK : ∀ T, wTy T = true → K T = false) {cs : Array Value} {T : TypeId} {fr : Nat × Nat} (hb : w.heap[b]? = some (.cells cs T fr)) (hT : wTy T = false) (hB : Below w0.heap.size w0 w') : WS w0 w' B V s :=
  h.fr (hf.fr hb) (fun x hx => by simp only [Bool.or_eq_false_iff]; exact ⟨hK x hx, by cases hxT : (x == T); rfl; rw [beq_iff_eq] at hxT; subst hxT; rw [hx] at hT; cases hT⟩) hB
theorem set_take {w0 w : World} {B : WB} {V : WV} {s : CS} {b o : Nat} {cs : Array Value} {T : TypeId} (h : WS w0 w B V s) (hb : w.heap[b]? = some (.cells cs T (0, 0))) (hT : wTy T = false) (hlo : w0.heap.size ≤ b) (v : Value) : WS w0 (w.setCell ⟨b, o, none⟩ v) B V s :=
  h.fx (set_fx (fun _ => false) false w b o v) (fun _ _ => rfl) hb hT (keeps_below (setCell_keeps w b o v) h.below h.below.size fun k e => e ▸ hlo)

section
variable {w0 w : World} {B : WB} {V : WV} {s : CS} {b t : Nat} {d : Bool} {k : Int} (h : WS w0 w B V s) (hr : s.room) (hlo : w0.heap.size ≤ b) (ht : t < 64)
include h hr hlo ht
end
end Go.Proofs.YtjfocckdbaaimaaGreat

/-
  The walks of package tagwords: each function computes what TagPure says.
-/
namespace Go.Proofs.YtjfocckdbaaimaaGreat
open Go.RowKit TagPure
set_option linter.unusedVariables false


theorem there_in (s : Int) (w : World) (h0 : 0 ≤ s) (h1 : s < 4) : Calls Tryz.prog 153 #[.int .i64 s] w fun e w' => e = .returned (.bool true) ∧ w = w' := by
  go_enter Tryz.func153, Tryz.ntmps153
  go_wp2
  go_ret
  exact ⟨rfl, rfl⟩
theorem there_out (s : Int) (w : World) (h : s < 0 ∨ 4 ≤ s) : Calls Tryz.prog 153 #[.int .i64 s] w fun e w' => e = .returned (.bool false) ∧ w = w' := by
  by_cases h0 : s < 0
  · go_enter Tryz.func153, Tryz.ntmps153
    go_wp2
    go_ret
    exact ⟨rfl, rfl⟩
  · have h1 : 0 ≤ s := by omega
    have hd : decide (s < 4) = false := by simp; omega
    go_enter Tryz.func153, Tryz.ntmps153
    go_wp2
    go_ret
    exact ⟨rfl, rfl⟩

/-- The four tags as an array. -/
def tags4 (x : Int) : List Value := [.int .i64 (tg x 0), .int .i64 (tg x 1), .int .i64 (tg x 2), .int .i64 (tg x 3)]

theorem part_eq (x : Int) (h0 : 0 ≤ x) (h1 : x < 18446744073709551616) (i : Nat) (d : Int) (hd : d = 256 ^ i) (hp : 1 ≤ d) : wrap64 (bits BinOp.and IntKind.u64 (x / d) 255) = tg x i := by
  subst hd
  have a : 0 ≤ x / 256 ^ i := Int.ediv_nonneg h0 (by omega)
  have b : x / 256 ^ i ≤ x := Int.ediv_le_self _ h0
  rw [and255 _ a (by omega), IntWalk.wrap64_in _ (by omega)]
  rfl

set_option maxHeartbeats 400000 in
theorem parts_any (x : Int) (w : World) (h0 : 0 ≤ x) (h1 : x < 18446744073709551616) :
    Calls Tryz.prog 154 #[.int .u64 x] w fun e w' => e = .returned (.agg (tags4 x).toArray) ∧ Below w.heap.size w w' := by
  go_enter Tryz.func154, Tryz.ntmps154
  go_wp2
  refine wp_loop_rounds 5 ?_
  rw [rounds_succ]; go_wp2
  rw [rounds_succ]; go_wp2
  rw [rounds_succ]; go_wp2
  rw [rounds_succ]; go_wp2
  rw [rounds_succ]; go_wp2
  have e0 : wrap64 (bits BinOp.and IntKind.u64 x 255) = tg x 0 := by have := part_eq x h0 h1 0 1 rfl (by omega); simpa using this
  have e1 := part_eq x h0 h1 1 256 rfl (by omega)
  have e2 := part_eq x h0 h1 2 65536 rfl (by omega)
  have e3 := part_eq x h0 h1 3 16777216 rfl (by omega)
  rw [e0, e1, e2, e3]
  refine bodyPost_ret (v := .agg (tags4 x).toArray) (by simp [results, Tryz.results154, go_sem, tags4]) rfl ⟨rfl, ?_⟩
  exact (Below.refl _ _).alloc (Nat.le_refl _) _

theorem tags_get (x : Int) (n : Nat) (hn : n < 4) (w : World) : (Instr.index 286 (.agg (tags4 x).toArray) (.int .i64 n)).run Tryz.prog w = .ok (.int .i64 (tg x n)) w := by
  rw [run_index_ints (P := Tryz.prog) Tryz.underlying286 Tryz.underlying3 (by kernel_rfl) (tags4 x) rfl .i64 n hn w]
  match n, hn with
  | 0, _ => rfl
  | 1, _ => rfl
  | 2, _ => rfl
  | 3, _ => rfl

theorem tag_in (x s : Int) (w : World) (h0 : 0 ≤ x) (h1 : x < 18446744073709551616) (hs : 0 ≤ s) (hs4 : s < 4) :
    Calls Tryz.prog 92 #[.int .u64 x, .int .i64 s] w fun e w' => e = .returned (.int .i64 (tg x s.toNat)) ∧ Below w.heap.size w w' := by
  obtain ⟨n, rfl⟩ := Int.eq_ofNat_of_zero_le hs
  have hn : n < 4 := by omega
  have hi := tags_get x n hn
  go_enter Tryz.func92, Tryz.ntmps92
  go_wp2_with (first | (go_at_call 153; refine (there_in _ _ (by omega) (by omega)).mono ?_; rintro e w' ⟨rfl, rfl⟩) | (go_at_call 154; refine (parts_any _ _ h0 h1).mono ?_; rintro e w' ⟨rfl, hb⟩))
  go_ret
  exact ⟨rfl, hb⟩
theorem tag_out (x s : Int) (w : World) (h : s < 0 ∨ 4 ≤ s) :
    Calls Tryz.prog 92 #[.int .u64 x, .int .i64 s] w fun e w' => e = .returned (.int .i64 0) ∧ w = w' := by
  go_enter Tryz.func92, Tryz.ntmps92
  go_wp2_with (first | (go_at_call 153; refine (there_out _ _ h).mono ?_; rintro e w' ⟨rfl, rfl⟩))
  go_ret
  exact ⟨rfl, rfl⟩

/-- The tag of a slot, whatever slot. -/
theorem tag_any (x s : Int) (w : World) (h0 : 0 ≤ x) (h1 : x < 18446744073709551616) :
    Calls Tryz.prog 92 #[.int .u64 x, .int .i64 s] w fun e w' => e = .returned (.int .i64 (tagOf x s)) ∧ Below w.heap.size w w' := by
  by_cases h : 0 ≤ s ∧ s < 4
  · unfold tagOf; rw [if_pos h]; exact tag_in x s w h0 h1 h.1 h.2
  · unfold tagOf; rw [if_neg h]; exact (tag_out x s w (by omega)).mono fun e w' ⟨a, b⟩ => ⟨a, b ▸ Below.refl _ _⟩

theorem with_out (x s t : Int) (w : World) (h : (s < 0 ∨ 4 ≤ s) ∨ t < 0 ∨ 255 < t) :
    Calls Tryz.prog 249 #[.int .u64 x, .int .i64 s, .int .i64 t] w fun e w' => e = .returned (.int .u64 x) ∧ w = w' := by
  by_cases hs : s < 0 ∨ 4 ≤ s
  · go_enter Tryz.func249, Tryz.ntmps249
    go_wp2_with (first | (go_at_call 153; refine (there_out _ _ hs).mono ?_; rintro e w' ⟨rfl, rfl⟩))
    go_ret
    exact ⟨rfl, rfl⟩
  · by_cases ht : t < 0
    · go_enter Tryz.func249, Tryz.ntmps249
      go_wp2_with (first | (go_at_call 153; refine (there_in _ _ (by omega) (by omega)).mono ?_; rintro e w' ⟨rfl, rfl⟩))
      go_ret
      exact ⟨rfl, rfl⟩
    · have ht' : 0 ≤ t := by omega
      have ht2 : 255 < t := by omega
      go_enter Tryz.func249, Tryz.ntmps249
      go_wp2_with (first | (go_at_call 153; refine (there_in _ _ (by omega) (by omega)).mono ?_; rintro e w' ⟨rfl, rfl⟩))
      go_ret
      exact ⟨rfl, rfl⟩
set_option maxHeartbeats 800000 in
theorem with_in (x t : Int) (n : Nat) (w : World) (h0 : 0 ≤ x) (h1 : x < 18446744073709551616) (hn : n < 4) (t0 : 0 ≤ t) (t1 : t ≤ 255) :
    Calls Tryz.prog 249 #[.int .u64 x, .int .i64 n, .int .i64 t] w fun e w' => e = .returned (.int .u64 (put x n t)) ∧ Below w.heap.size w w' := by
  match n, hn with
  | 0, _ =>
    go_enter Tryz.func249, Tryz.ntmps249
    go_wp2_with (first | (go_at_call 153; refine (there_in _ _ (by omega) (by omega)).mono ?_; rintro e w' ⟨rfl, rfl⟩))
    go_quiet (fail)
    go_wp2
    go_ret
    exact ⟨ret_u64 (put0 x t h0 h1 t0 t1), below_drewN _ _⟩
  | 1, _ =>
    go_enter Tryz.func249, Tryz.ntmps249
    go_wp2_with (first | (go_at_call 153; refine (there_in _ _ (by omega) (by omega)).mono ?_; rintro e w' ⟨rfl, rfl⟩))
    go_quiet (fail)
    go_wp2
    go_ret
    exact ⟨ret_u64 (put1 x t h0 h1 t0 t1), below_drewN _ _⟩
  | 2, _ =>
    go_enter Tryz.func249, Tryz.ntmps249
    go_wp2_with (first | (go_at_call 153; refine (there_in _ _ (by omega) (by omega)).mono ?_; rintro e w' ⟨rfl, rfl⟩))
    go_quiet (fail)
    go_wp2
    go_ret
    exact ⟨ret_u64 (put2 x t h0 h1 t0 t1), below_drewN _ _⟩
  | 3, _ =>
    go_enter Tryz.func249, Tryz.ntmps249
    go_wp2_with (first | (go_at_call 153; refine (there_in _ _ (by omega) (by omega)).mono ?_; rintro e w' ⟨rfl, rfl⟩))
    go_quiet (fail)
    go_wp2
    go_ret
    exact ⟨ret_u64 (put3 x t h0 h1 t0 t1), below_drewN _ _⟩

/-- The word with a tag at a slot, whatever slot and tag. -/
theorem with_any (x s t : Int) (w : World) (h0 : 0 ≤ x) (h1 : x < 18446744073709551616) :
    Calls Tryz.prog 249 #[.int .u64 x, .int .i64 s, .int .i64 t] w fun e w' => e = .returned (.int .u64 (withOf x s t)) ∧ Below w.heap.size w w' := by
  by_cases h : (0 ≤ s ∧ s < 4) ∧ 0 ≤ t ∧ t ≤ 255
  · unfold withOf; rw [if_pos h]
    have := with_in x t s.toNat w h0 h1 (by omega) h.2.1 h.2.2
    rwa [Int.toNat_of_nonneg h.1.1] at this
  · unfold withOf; rw [if_neg h]; exact (with_out x s t w (by omega)).mono fun e w' ⟨a, b⟩ => ⟨a, b ▸ Below.refl _ _⟩

/-- How many of the first k slots are not free. -/
def cnt (x : Int) : Nat → Nat
  | 0 => 0
  | k + 1 => cnt x k + if tg x k = 0 then 0 else 1
theorem cnt_le (x : Int) (k : Nat) : cnt x k ≤ k := by
  induction k with
  | zero => exact Nat.le_refl _
  | succ k ih => simp only [cnt]; split <;> omega

/-- The lowest free slot from k on (n more), or -1. -/
def freeFrom (x : Int) : Nat → Nat → Int
  | _, 0 => -1
  | k, n + 1 => if tg x k = 0 then k else freeFrom x (k + 1) n

/-- The slots among the first k that have a tag. -/
def has (x t : Int) : Nat → List Nat
  | 0 => []
  | k + 1 => has x t k ++ if tg x k = t then [k] else []
theorem has_le (x t : Int) (k : Nat) : (has x t k).length ≤ k := by
  induction k with
  | zero => exact Nat.le_refl _
  | succ k ih => simp only [has, List.length_append]; split <;> simp <;> omega
/-- Numbers as cells. -/
def cells (l : List Nat) : List Value := l.map fun (n : Nat) => Value.int .i64 n

theorem clip_ints (v : Value) (n base : Nat) (xs : List Value) (w : World) (h : Lst w base v n xs) :
    Calls Tryz.prog 248 #[v] w fun e w' => ∃ v', e = .returned v' ∧ w = w' ∧ Lst w base v' n xs := by
  rcases h with ⟨rfl, rfl, rfl⟩ | ⟨g, off, cap, cur, e, rfl, h2, h3, h4, h5, h6⟩
  · go_enter Tryz.func248, Tryz.ntmps248
    go_wp2
    go_ret
    exact ⟨_, rfl, rfl, .inl ⟨rfl, rfl, rfl⟩⟩
  · unfold maxLen at h5
    go_enter Tryz.func248, Tryz.ntmps248
    go_wp2
    go_ret
    exact ⟨_, rfl, rfl, .inr ⟨g, off, n, cur, e, rfl, h2, h3, Nat.le_refl _, by unfold maxLen; omega, h6⟩⟩
end Go.Proofs.YtjfocckdbaaimaaGreat

/-
  Puts and Outs of a slot: their beginnings, their lines.
-/
namespace Go.Proofs.YtjfocckdbaaimaaGreat
open Go.RowKit
set_option linter.unusedVariables false

/-- A slot that is changed. -/
structure SL where
  tg : Int
  it : Int
  at_ : Int
  x : Int
  ln : Int
abbrev SL.cs (s : SL) (rest : List Value) : Array Value := (Value.int .u64 s.tg :: .int .u64 s.it :: .int .i64 s.at_ :: .int .u64 s.x :: .int .i64 s.ln :: rest).toArray
def SlotAt (w : World) (b : Nat) (T : TypeId) (s : SL) (rest : List Value) : Prop := w.heap[b]? = some (.cells (s.cs rest) T (0, 0))
section
variable {w w' : World} {b : Nat} {T : TypeId} {s : SL} {rest : List Value} (h : SlotAt w b T s rest)
include h
theorem SlotAt.lt : b < w.heap.size := (Array.getElem?_eq_some_iff.1 h).1
theorem SlotAt.below (hb : Below w.heap.size w w') : SlotAt w' b T s rest := (hb.block _ h.lt).trans h
theorem SlotAt.c0 : w.cell? ⟨b, 0, none⟩ = some (.int .u64 s.tg) := by rw [hcell h 0]; simp
theorem SlotAt.c1 : w.cell? ⟨b, 1, none⟩ = some (.int .u64 s.it) := by rw [hcell h 1]; simp
theorem SlotAt.c2 : w.cell? ⟨b, 2, none⟩ = some (.int .i64 s.at_) := by rw [hcell h 2]; simp
theorem SlotAt.c3 : w.cell? ⟨b, 3, none⟩ = some (.int .u64 s.x) := by rw [hcell h 3]; simp
theorem SlotAt.c4 : w.cell? ⟨b, 4, none⟩ = some (.int .i64 s.ln) := by rw [hcell h 4]; simp
theorem SlotAt.set3 (x : Int) : SlotAt (w.setCell ⟨b, 3, none⟩ (.int .u64 x)) b T { s with x := x } rest := by
  have := setCell_same h 3 (.int .u64 x)
  simpa [SlotAt, SL.cs] using this
theorem SlotAt.set4 (x : Int) : SlotAt (w.setCell ⟨b, 4, none⟩ (.int .i64 x)) b T { s with ln := x } rest := by
  have := setCell_same h 4 (.int .i64 x)
  simpa [SlotAt, SL.cs] using this
end
def sof (b u s : Int) : SL := if itemA b u s = 0 then ⟨0, 0, 0, 0, 0⟩ else ⟨tagsA b u, itemA b u s, s, 0, 0⟩
abbrev SL.agg (s : SL) : Value := .agg #[.int .u64 s.tg, .int .u64 s.it, .int .i64 s.at_, .int .u64 s.x, .int .i64 s.ln]
theorem box5s (w : World) (a b c d e : Value) (T : TypeId) : ∀ o, (w.alloc (.cells #[a, b, c, d, e] T)).cell? ⟨w.heap.size, o, none⟩ = (#[a, b, c, d, e] : Array Value)[o]? := fun o => by
  have := heap_alloc_new w (.cells #[a, b, c, d, e] T)
  unfold World.cell?; simp only; rw [this]; rfl

theorem sfive_below {w w1 : World} {q : Nat} {v0 v1 v2 v3 v4 : Value} (h : Below w.heap.size w w1) (hq : w.heap.size ≤ q) : Below w.heap.size w (((((w1.setCell ⟨q, 0, none⟩ v0).setCell ⟨q, 1, none⟩ v1).setCell ⟨q, 2, none⟩ v2).setCell ⟨q, 3, none⟩ v3).setCell ⟨q, 4, none⟩ v4) :=
  below_set (below_set (below_set (below_set (below_set h hq) hq) hq) hq) hq
theorem sfive_set {w1 : World} {q : Nat} {a b c d e : Value} {T : TypeId} (h : w1.heap[q]? = some (.cells #[a, b, c, d, e] T (0, 0))) (v0 v1 v2 v3 v4 : Value) :
    (((((w1.setCell ⟨q, 0, none⟩ v0).setCell ⟨q, 1, none⟩ v1).setCell ⟨q, 2, none⟩ v2).setCell ⟨q, 3, none⟩ v3).setCell ⟨q, 4, none⟩ v4).heap[q]? = some (.cells #[v0, v1, v2, v3, v4] T (0, 0)) :=
  setCell_same (setCell_same (setCell_same (setCell_same (setCell_same h 0 v0) 1 v1) 2 v2) 3 v3) 4 v4
set_option maxRecDepth 10000 in
set_option maxHeartbeats 1000000 in
theorem pof_any (b u s : Int) (hs : (Lit.int .i64 s).wf = true) (w : World) : Calls Tryz.prog 93 #[.agg #[.int .i64 b, .int .i64 u, .int .i64 s]] w fun e w' => e = .returned (sof b u s).agg ∧ Below w.heap.size w w' := by
  have hit := fun w => item_any b u s hs w
  have hitx := fun {w : World} (st : ExtW w) => item_any b u s hs st.val
  have htg := fun {w : World} (st : ExtW w) => tags_any b u st.val
  have hB1 : Below w.heap.size w ((w.alloc (.cells #[.int .i64 b, .int .i64 u, .int .i64 s] 43)).alloc (.cells #[.int .u64 0, .int .u64 0, .int .i64 0, .int .u64 0, .int .i64 0] 205)) :=
    bnext (below_alloc w _) (below_alloc _ _)
  have hz : ∀ o, ((w.alloc (.cells #[.int .i64 b, .int .i64 u, .int .i64 s] 43)).alloc (.cells #[.int .u64 0, .int .u64 0, .int .i64 0, .int .u64 0, .int .i64 0] 205)).cell? ⟨w.heap.size, o, none⟩ = (#[.int .i64 b, .int .i64 u, .int .i64 s] : Array Value)[o]? := fun o =>
    ((below_alloc _ _).cell (p := ⟨w.heap.size, o, none⟩) (by simp)).trans (box3 w b u s _ o)
  have hq : ((w.alloc (.cells #[.int .i64 b, .int .i64 u, .int .i64 s] 43)).alloc (.cells #[.int .u64 0, .int .u64 0, .int .i64 0, .int .u64 0, .int .i64 0] 205)).heap[w.heap.size + 1]? = some (.cells #[.int .u64 0, .int .u64 0, .int .i64 0, .int .u64 0, .int .i64 0] 205 (0, 0)) := by
    simpa using heap_alloc_new (w.alloc (.cells #[.int .i64 b, .int .i64 u, .int .i64 s] 43)) (.cells #[.int .u64 0, .int .u64 0, .int .i64 0, .int .u64 0, .int .i64 0] 205)
  have hsz : ((w.alloc (.cells #[.int .i64 b, .int .i64 u, .int .i64 s] 43)).alloc (.cells #[.int .u64 0, .int .u64 0, .int .i64 0, .int .u64 0, .int .i64 0] 205)).heap.size = w.heap.size + 2 := by simp
  have hZ := Lib.hid hz; have HQ := Lib.hid hq; have HB1 := Lib.hid hB1; have HSZ := Lib.hid hsz
  clear hz hq hB1 hsz
  unfold sof
  cases h0 : (itemA b u s == 0)
  · rw [if_neg (beq_eq_false_iff_ne.1 h0)]
    generalize itemA b u s = I at *
    generalize tagsA b u = G at *
    go_enter Tryz.func93, Tryz.ntmps93
    go_upto_region 3 with (go_at_call 86; refine (hit _).mono ?_; rintro e w1 ⟨rfl, b1⟩; have hq1 := (b1.block _ (by rw [HSZ.out]; omega)).trans HQ.out; have hz0 := (b1.cell (p := ⟨w.heap.size, 0, none⟩) (by rw [HSZ.out]; show w.heap.size < _; omega)).trans (hZ.out 0); have hz1 := (b1.cell (p := ⟨w.heap.size, 1, none⟩) (by rw [HSZ.out]; show w.heap.size < _; omega)).trans (hZ.out 1); have hz2 := (b1.cell (p := ⟨w.heap.size, 2, none⟩) (by rw [HSZ.out]; show w.heap.size < _; omega)).trans (hZ.out 2); have HB2 := Lib.hid (HB1.out.trans (b1.mono HB1.out.size)); clear b1)
    have x0 := fun st : ExtW w1 => st.cell hz0
    have x1 := fun st : ExtW w1 => st.cell hz1
    have x2 := fun st : ExtW w1 => st.cell hz2
    have HQ1 := Lib.hid hq1
    clear hz0 hz1 hz2 hq1 hit
    refine wp_region_ext_tail 8 (by kernel_rfl) (by kernel_rfl) ?_
    simp only [List.take_succ_cons, List.take_zero, List.drop_succ_cons, List.drop_zero]
    repeat (go_big_quiet_step (first | (go_at_call 86; with_reducible refine calls_ext (hitx _)) | (go_at_call 87; with_reducible refine calls_ext (htg _))))
    refine wpQuiet_nil ?_
    rintro W ⟨⟨W2, hW⟩, rfl⟩
    have hq1 := (hW.block _ (Array.getElem?_eq_some_iff.1 HQ1.out).1).trans HQ1.out
    have y0 := hcell hq1 0; have y1 := hcell hq1 1; have y2 := hcell hq1 2; have y3 := hcell hq1 3; have y4 := hcell hq1 4
    have yf := hfrz hq1
    have HW := Lib.hid (HB2.out.trans (hW.mono HB2.out.size))
    have hq5 := sfive_set hq1 (.int .u64 G) (.int .u64 I) (.int .i64 s) (.int .u64 0) (.int .i64 0)
    have hB5 := sfive_below (v0 := .int .u64 G) (v1 := .int .u64 I) (v2 := .int .i64 s) (v3 := .int .u64 0) (v4 := .int .i64 0) HW.out (show w.heap.size ≤ w.heap.size + 1 by omega)
    clear x0 x1 x2 hW hq1
    go_wp2
    generalize World.setCell _ _ _ = W5 at *
    have k0 := hcell hq5 0; have k1 := hcell hq5 1; have k2 := hcell hq5 2; have k3 := hcell hq5 3; have k4 := hcell hq5 4
    simp only [List.getElem?_toArray, List.getElem?_cons_zero, List.getElem?_cons_succ] at k0 k1 k2 k3 k4
    refine bodyPost_ret (v := .agg #[_, _, _, _, _]) (by simp [results, Tryz.results93, go_sem, k0, k1, k2, k3, k4]) rfl ⟨rfl, hB5⟩
  · rw [if_pos (beq_iff_eq.1 h0)]
    rw [beq_iff_eq.1 h0] at hit
    clear hitx htg h0
    go_enter Tryz.func93, Tryz.ntmps93
    go_wp2_with (go_at_call 86; refine (hit _).mono ?_; rintro e w1 ⟨rfl, b1⟩; have hq1 := (b1.block _ (by rw [HSZ.out]; omega)).trans HQ.out; have y0 := hcell hq1 0; have y1 := hcell hq1 1; have y2 := hcell hq1 2; have y3 := hcell hq1 3; have y4 := hcell hq1 4; have yf := hfrz hq1; have hq5 := sfive_set hq1 (.int .u64 0) (.int .u64 0) (.int .i64 0) (.int .u64 0) (.int .i64 0); have hB5 := sfive_below (v0 := .int .u64 0) (v1 := .int .u64 0) (v2 := .int .i64 0) (v3 := .int .u64 0) (v4 := .int .i64 0) (HB1.out.trans (b1.mono HB1.out.size)) (show w.heap.size ≤ w.heap.size + 1 by omega); clear hq1 b1)
    generalize World.setCell _ _ _ = W5 at *
    have k0 := hcell hq5 0; have k1 := hcell hq5 1; have k2 := hcell hq5 2; have k3 := hcell hq5 3; have k4 := hcell hq5 4
    simp only [List.getElem?_toArray, List.getElem?_cons_zero, List.getElem?_cons_succ] at k0 k1 k2 k3 k4
    refine bodyPost_ret (v := .agg #[_, _, _, _, _]) (by simp [results, Tryz.results93, go_sem, k0, k1, k2, k3, k4]) rfl ⟨rfl, hB5⟩

theorem newput_in (b u s g r : Int) (hs : (Lit.int .i64 s).wf = true) (hg : 1 ≤ g ∧ g ≤ 255) (hr : 1 ≤ r) (w : World) : Calls Tryz.prog 24 #[.agg #[.int .i64 b, .int .i64 u, .int .i64 s], .int .i64 g, .int .i64 r] w
    fun e w' => ∃ q, e = .returned (.pointer (some ⟨q, 0, none⟩)) ∧ SlotAt w' q 210 (sof b u s) [.int .i64 g, .int .i64 r] ∧ w.heap.size ≤ q ∧ Below w.heap.size w w' := by
  have ho := fun w => pof_any b u s hs w
  have h1 : decide (g < 1) = false := by simp; omega
  have h2 : decide (255 < g) = false := by simp; omega
  have h3 : decide (r < 1) = false := by simp; omega
  clear hg hr
  go_enter Tryz.func24, Tryz.ntmps24
  go_wp2_with (go_at_call 93; refine (ho _).mono ?_; rintro e w1 ⟨rfl, b1⟩)
  go_ret
  have hB1 := bnext (below_alloc w _) b1
  exact ⟨_, rfl, heap_alloc_new w1 _, hB1.size, bnext hB1 (below_alloc w1 _)⟩
theorem newout_any (b u s : Int) (hs : (Lit.int .i64 s).wf = true) (w : World) : Calls Tryz.prog 23 #[.agg #[.int .i64 b, .int .i64 u, .int .i64 s]] w
    fun e w' => ∃ q, e = .returned (.pointer (some ⟨q, 0, none⟩)) ∧ SlotAt w' q 208 (sof b u s) [] ∧ w.heap.size ≤ q ∧ Below w.heap.size w w' := by
  have ho := fun w => pof_any b u s hs w
  go_enter Tryz.func23, Tryz.ntmps23
  go_wp2_with (go_at_call 93; refine (ho _).mono ?_; rintro e w1 ⟨rfl, b1⟩)
  go_ret
  have hB1 := bnext (below_alloc w _) b1
  exact ⟨_, rfl, heap_alloc_new w1 _, hB1.size, bnext hB1 (below_alloc w1 _)⟩

section
variable {w0 w : World} {B : WB} {V : WV} {s : CS} {b : Nat} {T : TypeId} {σ : SL} {rest : List Value} (h : WS w0 w B V s) (hr : s.room) (hS : SlotAt w b T σ rest) (hT : wTy T = false) (hlo : w0.heap.size ≤ b) (hg : (Lit.int .u64 σ.tg).wf = true)
include h hr hS hT hlo hg
set_option maxRecDepth 10000 in
set_option maxHeartbeats 1000000 in
theorem slot_load : Calls Tryz.prog 236 #[.pointer (some ⟨b, 0, none⟩), .pointer (some ⟨B.wb, 0, none⟩)] w fun e w' => e = .returned (.tuple #[]) ∧ WS w0 w' B V (s.acc 1 σ.tg (s.val σ.tg)) ∧ SlotAt w' b T { σ with x := s.val σ.tg } rest ∧ Fx wTy true b w w' := by
  have hld : ∀ W, Below w.heap.size w W → Calls Tryz.prog 76 #[.pointer (some ⟨B.cb, 0, none⟩), .int .u64 σ.tg] W fun e w' => e = .returned (.int .u64 (s.val σ.tg)) ∧ WS w0 w' B V (s.acc 1 σ.tg (s.val σ.tg)) ∧ Fr wTy true W w' := fun W hW => (h.keep hW).load hr _ hg
  have hd0 := h.keep (Below.refl w.heap.size w).drew
  have y0 : w.drew.cell? ⟨B.wb, 0, none⟩ = some (.pointer (some ⟨B.cb, 0, none⟩)) := hd0.c0
  have y1 : w.drew.cell? ⟨b, 0, none⟩ = some (.int .u64 σ.tg) := SlotAt.c0 (w := w.drew) hS
  have hlw := hld w.drew (Below.refl w.heap.size w).drew
  have HS := Lib.hid hS
  clear hd0 h hr hS hg hld
  go_enter Tryz.func236, Tryz.ntmps236
  go_wp2_with fail
  go_region_with (go_at_call 76; refine hlw.mono ?_; rintro e w2 ⟨rfl, h2, f2⟩; have hs2 : SlotAt w2 b T σ rest := f2.cells _ _ _ _ HS.out hT; have z3 := hs2.c3; have zf := hfrz hs2 3; have H2 := Lib.hid h2; have F2 := Lib.hid f2; have HS2 := Lib.hid hs2; clear h2 f2 hs2 y0 y1 hlw)
  all_goals go_wp2
  all_goals go_end0
  all_goals exact ⟨rfl, set_take (o := 3) H2.out HS2.out hT hlo _, HS2.out.set3 _, (show Fx wTy true b w w2 from ⟨F2.out.size, fun k cs T fr h1 h2 _ => F2.out.cells k cs T fr h1 h2, fun h => by cases h⟩).trans (set_fx _ _ _ _ _ _)⟩
omit hT hlo in
set_option maxRecDepth 10000 in
set_option maxHeartbeats 1000000 in
theorem slot_store (g : Int) (hx : 0 ≤ σ.x ∧ σ.x < 18446744073709551616) : Calls Tryz.prog 237 #[.pointer (some ⟨b, 0, none⟩), .pointer (some ⟨B.wb, 0, none⟩), .int .i64 g] w fun e w' => e = .returned (.tuple #[]) ∧ WS w0 w' B V (s.acc 2 σ.tg (TagPure.withOf σ.x σ.at_ g)) ∧ Fr wTy true w w' := by
  have hst : ∀ W, Below w.heap.size w W → Calls Tryz.prog 103 #[.pointer (some ⟨B.cb, 0, none⟩), .int .u64 σ.tg, .int .u64 (TagPure.withOf σ.x σ.at_ g)] W fun e w' => e = .returned (.int .u64 (s.val σ.tg)) ∧ WS w0 w' B V (s.acc 2 σ.tg (TagPure.withOf σ.x σ.at_ g)) ∧ Fr wTy true W w' := fun W hW => (h.keep hW).store hr _ hg _ (withOf_wf _ _ _ hx.1 hx.2)
  have hwx := fun {w : World} (st : ExtW w) => with_any σ.x σ.at_ g st.val hx.1 hx.2
  have x0 := fun st : ExtW w => st.cell h.c0
  have x1 := fun st : ExtW w => st.cell hS.c0
  have x2 := fun st : ExtW w => st.cell hS.c2
  have x3 := fun st : ExtW w => st.cell hS.c3
  have HST := Lib.hid hst
  clear h hr hS hg hst hx
  go_enter Tryz.func237, Tryz.ntmps237
  go_wp2_with fail
  refine wp_region_ext_tail 18 (by kernel_rfl) (by kernel_rfl) ?_
  simp only [List.take_succ_cons, List.take_zero, List.drop_succ_cons, List.drop_zero]
  repeat (go_big_quiet_step ((go_at_call 249; with_reducible refine calls_ext (hwx _))))
  refine wpQuiet_nil ?_
  rintro W ⟨⟨W2, hW⟩, rfl⟩
  have hsw := HST.out _ hW
  have HW := Lib.hid hW
  clear x0 x1 x2 x3 hwx hW
  go_wp2_with (go_at_call 103; refine hsw.mono ?_; rintro e w2 ⟨rfl, h2, f2⟩)
  go_end0
  exact ⟨rfl, h2, (below_fr HW.out wTy true).trans f2⟩
end
end Go.Proofs.YtjfocckdbaaimaaGreat

/-
  Puts and Outs: their lines, their steps.
-/
namespace Go.Proofs.YtjfocckdbaaimaaGreat
open Go.RowKit
set_option linter.unusedVariables false

theorem fr_fx {w w' : World} (b : Nat) (F : Fr wTy true w w') : Fx wTy true b w w' := ⟨F.size, fun k cs T fr h1 h2 _ => F.cells k cs T fr h1 h2, fun h => by cases h⟩
section
variable {w0 w : World} {B : WB} {V : WV} {s : CS} {b : Nat} {σ : SL} (h : WS w0 w B V s) (hr : s.room)
include h hr
set_option maxRecDepth 10000 in
set_option maxHeartbeats 1000000 in
theorem put_first {g r : Int} (hS : SlotAt w b 210 σ [.int .i64 g, .int .i64 r]) (hi : (Lit.int .u64 σ.it).wf = true) (hrr : 0 ≤ r ∧ r < 9223372036854775808) : Calls Tryz.prog 215 #[.pointer (some ⟨b, 0, none⟩), .pointer (some ⟨B.wb, 0, none⟩)] w fun e w' => e = .returned (.tuple #[]) ∧ WS w0 w' B V (s.acc 2 σ.it r) ∧ Fr wTy true w w' := by
  have e1 : IntKind.u64.wrap r = r := by rw [IntKind.wrap_u64]; omega
  have hst : ∀ W, Below w.heap.size w W → Calls Tryz.prog 103 #[.pointer (some ⟨B.cb, 0, none⟩), .int .u64 σ.it, .int .u64 r] W fun e w' => e = .returned (.int .u64 (s.val σ.it)) ∧ WS w0 w' B V (s.acc 2 σ.it r) ∧ Fr wTy true W w' := fun W hW => (h.keep hW).store hr _ hi _ (bd_wf (by omega))
  have x0 := fun st : ExtW w => st.cell h.c0
  have x1 := fun st : ExtW w => st.cell hS.c1
  have x6 : ∀ st : ExtW w, st.val.cell? ⟨b, 6, none⟩ = some (.int .i64 r) := fun st => st.cell (by rw [hcell hS 6]; rfl)
  have HST := Lib.hid hst
  clear h hr hS hi hst hrr
  go_enter Tryz.func215, Tryz.ntmps215
  go_wp2_with fail
  refine wp_region_ext_tail 14 (by kernel_rfl) (by kernel_rfl) ?_
  simp only [List.take_succ_cons, List.take_zero, List.drop_succ_cons, List.drop_zero]
  repeat (go_big_quiet_step (fail))
  refine wpQuiet_nil ?_
  rintro W ⟨⟨W2, hW⟩, rfl⟩
  have hsw := HST.out _ hW
  have HW := Lib.hid hW
  clear x0 x1 x6 hW
  go_wp2_with (go_at_call 103; refine hsw.mono ?_; rintro e w2 ⟨rfl, h2, f2⟩)
  go_end0
  exact ⟨rfl, h2, (below_fr HW.out wTy true).trans f2⟩
theorem put_second {rest : List Value} (hlo : w0.heap.size ≤ b) (hS : SlotAt w b 210 σ rest) (hg : (Lit.int .u64 σ.tg).wf = true) : Calls Tryz.prog 216 #[.pointer (some ⟨b, 0, none⟩), .pointer (some ⟨B.wb, 0, none⟩)] w fun e w' => e = .returned (.tuple #[]) ∧ WS w0 w' B V (s.acc 1 σ.tg (s.val σ.tg)) ∧ SlotAt w' b 210 { σ with x := s.val σ.tg } rest ∧ Fx wTy true b w w' := by
  have hl := slot_load h hr hS rfl hlo hg
  have y0 := hS.c0
  clear h hr hS hg
  go_enter Tryz.func216, Tryz.ntmps216
  go_wp2_with (go_at_call 236; refine hl.mono ?_; rintro e w2 ⟨rfl, h2⟩)
  go_end0
  exact ⟨rfl, h2⟩
theorem out_first {rest : List Value} (hlo : w0.heap.size ≤ b) (hS : SlotAt w b 208 σ rest) (hg : (Lit.int .u64 σ.tg).wf = true) : Calls Tryz.prog 198 #[.pointer (some ⟨b, 0, none⟩), .pointer (some ⟨B.wb, 0, none⟩)] w fun e w' => e = .returned (.tuple #[]) ∧ WS w0 w' B V (s.acc 1 σ.tg (s.val σ.tg)) ∧ SlotAt w' b 208 { σ with x := s.val σ.tg } rest ∧ Fx wTy true b w w' := by
  have hl := slot_load h hr hS rfl hlo hg
  have y0 := hS.c0
  clear h hr hS hg
  go_enter Tryz.func198, Tryz.ntmps198
  go_wp2_with (go_at_call 236; refine hl.mono ?_; rintro e w2 ⟨rfl, h2⟩)
  go_end0
  exact ⟨rfl, h2⟩
theorem out_second {rest : List Value} (hS : SlotAt w b 208 σ rest) (hg : (Lit.int .u64 σ.tg).wf = true) (hx : 0 ≤ σ.x ∧ σ.x < 18446744073709551616) : Calls Tryz.prog 199 #[.pointer (some ⟨b, 0, none⟩), .pointer (some ⟨B.wb, 0, none⟩)] w fun e w' => e = .returned (.tuple #[]) ∧ WS w0 w' B V (s.acc 2 σ.tg (TagPure.withOf σ.x σ.at_ 0)) ∧ Fr wTy true w w' := by
  have hl := slot_store h hr hS hg 0 hx
  have y0 := hS.c0
  clear h hr hS hg hx
  go_enter Tryz.func199, Tryz.ntmps199
  go_wp2_with (go_at_call 237; refine hl.mono ?_; rintro e w2 ⟨rfl, h2⟩)
  go_end0
  exact ⟨rfl, h2⟩
set_option maxRecDepth 10000 in
set_option maxHeartbeats 1000000 in
theorem put_third {g r : Int} (hS : SlotAt w b 210 σ [.int .i64 g, .int .i64 r]) (hg : (Lit.int .u64 σ.tg).wf = true) (hx : 0 ≤ σ.x ∧ σ.x < 18446744073709551616) : Calls Tryz.prog 217 #[.pointer (some ⟨b, 0, none⟩), .pointer (some ⟨B.wb, 0, none⟩)] w fun e w' => e = .returned (.tuple #[]) ∧ WS w0 w' B V (s.acc 2 σ.tg (TagPure.withOf σ.x σ.at_ g)) ∧ Fr wTy true w w' := by
  have hl : ∀ W, Below w.heap.size w W → Calls Tryz.prog 237 #[.pointer (some ⟨b, 0, none⟩), .pointer (some ⟨B.wb, 0, none⟩), .int .i64 g] W fun e w' => e = .returned (.tuple #[]) ∧ WS w0 w' B V (s.acc 2 σ.tg (TagPure.withOf σ.x σ.at_ g)) ∧ Fr wTy true W w' := fun W hW => slot_store (h.keep hW) hr (hS.below hW) hg g hx
  have x0 := fun st : ExtW w => st.cell hS.c0
  have x5 : ∀ st : ExtW w, st.val.cell? ⟨b, 5, none⟩ = some (.int .i64 g) := fun st => st.cell (by rw [hcell hS 5]; rfl)
  have HL := Lib.hid hl
  clear h hr hS hg hx hl
  go_enter Tryz.func217, Tryz.ntmps217
  go_wp2_with fail
  refine wp_region_ext_tail 8 (by kernel_rfl) (by kernel_rfl) ?_
  simp only [List.take_succ_cons, List.take_zero, List.drop_succ_cons, List.drop_zero]
  repeat (go_big_quiet_step (fail))
  refine wpQuiet_nil ?_
  rintro W ⟨⟨W2, hW⟩, rfl⟩
  have hsw := HL.out _ hW
  have HW := Lib.hid hW
  clear x0 x5 hW
  go_wp2_with (go_at_call 237; refine hsw.mono ?_; rintro e w2 ⟨rfl, h2, f2⟩)
  go_end0
  exact ⟨rfl, h2, (below_fr HW.out wTy true).trans f2⟩
set_option maxRecDepth 10000 in
set_option maxHeartbeats 1000000 in
theorem out_third {rest : List Value} (hS : SlotAt w b 208 σ rest) (hi : (Lit.int .u64 σ.it).wf = true) : Calls Tryz.prog 200 #[.pointer (some ⟨b, 0, none⟩), .pointer (some ⟨B.wb, 0, none⟩)] w fun e w' => e = .returned (.tuple #[]) ∧ WS w0 w' B V (s.acc 2 σ.it 0) ∧ Fr wTy true w w' := by
  have hst : ∀ W, Below w.heap.size w W → Calls Tryz.prog 103 #[.pointer (some ⟨B.cb, 0, none⟩), .int .u64 σ.it, .int .u64 0] W fun e w' => e = .returned (.int .u64 (s.val σ.it)) ∧ WS w0 w' B V (s.acc 2 σ.it 0) ∧ Fr wTy true W w' := fun W hW => (h.keep hW).store hr _ hi _ (by decide)
  have x0 := fun st : ExtW w => st.cell h.c0
  have x00 := fun st : ExtW w => st.cell hS.c0
  have x1 := fun st : ExtW w => st.cell hS.c1
  have HST := Lib.hid hst
  clear h hr hS hi hst
  go_enter Tryz.func200, Tryz.ntmps200
  go_wp2_with fail
  refine wp_region_ext_tail 9 (by kernel_rfl) (by kernel_rfl) ?_
  simp only [List.take_succ_cons, List.take_zero, List.drop_succ_cons, List.drop_zero]
  repeat (go_big_quiet_step (fail))
  refine wpQuiet_nil ?_
  rintro W ⟨⟨W2, hW⟩, rfl⟩
  have hsw := HST.out _ hW
  have HW := Lib.hid hW
  clear x0 x00 x1 hW
  go_wp2_with (go_at_call 103; refine hsw.mono ?_; rintro e w2 ⟨rfl, h2, f2⟩)
  go_end0
  exact ⟨rfl, h2, (below_fr HW.out wTy true).trans f2⟩
end

abbrev fv (f : Fn) : Value := .func f #[] #[]

theorem puts_any (w : World) : Calls Tryz.prog 168 #[] w fun e w' => e = .returned (.agg #[fv (.func 215), fv (.func 216), fv (.func 217)]) ∧ Below w.heap.size w w' := by
  go_enter Tryz.func168, Tryz.ntmps168
  go_wp2
  refine bodyPost_ret (v := .agg #[fv (.func 215), fv (.func 216), fv (.func 217)]) (by simp [results, Tryz.results168, go_sem]) rfl ⟨rfl, ?_⟩
  exact below_alloc' _ _
set_option maxRecDepth 10000 in
theorem Putover {w : World} {b : Nat} {σ : SL} {rest : List Value} (hS : SlotAt w b 210 σ rest) (a c : Bool) (ha : (σ.tg == 0) = a) (hc : (σ.ln == 3) = c) : Calls Tryz.prog 109 #[.pointer (some ⟨b, 0, none⟩)] w fun e w' => e = .returned (.bool (a || c)) ∧ Below w.heap.size w w' := by
  have x0 := fun st : ExtW w => st.cell hS.c0
  have x4 := fun st : ExtW w => st.cell hS.c4
  have hp := fun {w : World} (st : ExtW w) => puts_any st.val
  clear hS
  cases a
  all_goals
    go_enter Tryz.func109, Tryz.ntmps109
    go_wp2_with fail
    refine wp_region_ext (by kernel_rfl) (by kernel_rfl) ?_
    repeat (go_big_quiet_step ((go_at_call 168; with_reducible refine calls_ext (hp _))))
    refine wpQuiet_nil ?_
    rintro W ⟨⟨W2, hW⟩, rfl⟩
    clear x0 x4
    go_wp2
    go_ret
    exact ⟨by simp, hW⟩

theorem outs_any (w : World) : Calls Tryz.prog 152 #[] w fun e w' => e = .returned (.agg #[fv (.func 198), fv (.func 199), fv (.func 200)]) ∧ Below w.heap.size w w' := by
  go_enter Tryz.func152, Tryz.ntmps152
  go_wp2
  refine bodyPost_ret (v := .agg #[fv (.func 198), fv (.func 199), fv (.func 200)]) (by simp [results, Tryz.results152, go_sem]) rfl ⟨rfl, ?_⟩
  exact below_alloc' _ _
set_option maxRecDepth 10000 in
theorem Outover {w : World} {b : Nat} {σ : SL} {rest : List Value} (hS : SlotAt w b 208 σ rest) (a c : Bool) (ha : (σ.tg == 0) = a) (hc : (σ.ln == 3) = c) : Calls Tryz.prog 108 #[.pointer (some ⟨b, 0, none⟩)] w fun e w' => e = .returned (.bool (a || c)) ∧ Below w.heap.size w w' := by
  have x0 := fun st : ExtW w => st.cell hS.c0
  have x4 := fun st : ExtW w => st.cell hS.c4
  have hp := fun {w : World} (st : ExtW w) => outs_any st.val
  clear hS
  cases a
  all_goals
    go_enter Tryz.func108, Tryz.ntmps108
    go_wp2_with fail
    refine wp_region_ext (by kernel_rfl) (by kernel_rfl) ?_
    repeat (go_big_quiet_step ((go_at_call 152; with_reducible refine calls_ext (hp _))))
    refine wpQuiet_nil ?_
    rintro W ⟨⟨W2, hW⟩, rfl⟩
    clear x0 x4
    go_wp2
    go_ret
    exact ⟨by simp, hW⟩

theorem cell_lt {w : World} {b o : Nat} {v : Value} (h : w.cell? ⟨b, o, none⟩ = some v) : b < w.heap.size := by
  unfold World.cell? at h; simp only at h
  rcases Nat.lt_or_ge b w.heap.size with h1 | h1
  · exact h1
  · rw [Array.getElem?_eq_none h1] at h; cases h

set_option maxRecDepth 10000 in
set_option maxHeartbeats 1000000 in
theorem put_step0 {w0 w : World} {B : WB} {V : WV} {s : CS} {b : Nat} {σ : SL} {g r : Int} (h : WS w0 w B V s) (hr : s.room) (hlo : w0.heap.size ≤ b) (hS : SlotAt w b 210 σ [.int .i64 g, .int .i64 r]) (hz : σ.tg ≠ 0) (hg : (Lit.int .u64 σ.tg).wf = true) (hl : σ.ln = 0) (hi : (Lit.int .u64 σ.it).wf = true) (hrr : 0 ≤ r ∧ r < 9223372036854775808) :
    Calls Tryz.prog 111 #[.pointer (some ⟨b, 0, none⟩), .pointer (some ⟨B.wb, 0, none⟩)] w fun e w' => e = .returned (.bool false) ∧ WS w0 w' B V (s.acc 2 σ.it r) ∧ SlotAt w' b 210 { σ with ln := 1 } [.int .i64 g, .int .i64 r] ∧ Fx wTy true b w w' := by
  have hz' : (σ.tg == 0) = false := beq_eq_false_iff_ne.2 hz
  have ho := Putover hS false false hz' (by rw [hl]; rfl)
  have hcallee : ∀ W, Below w.heap.size w W → Calls Tryz.prog 215 #[.pointer (some ⟨b, 0, none⟩), .pointer (some ⟨B.wb, 0, none⟩)] W fun e w' => e = .returned (.tuple #[]) ∧ WS w0 w' B V (s.acc 2 σ.it r) ∧ SlotAt w' b 210 (σ) [.int .i64 g, .int .i64 r] ∧ Fx wTy true b W w' := fun W hW =>
    (put_first (h.keep hW) hr (hS.below hW) hi hrr).mono fun e w' ⟨he, hw, hf⟩ => ⟨he, hw, hf.cells _ _ _ _ (hS.below hW) rfl, fr_fx b hf⟩
  have hln : (σ).ln = 0 := hl
  have hso : ((σ).tg == 0) = false := hz'
  have hidx : ∀ W : World, (Instr.index 302 (.agg #[fv (.func 215), fv (.func 216), fv (.func 217)]) (.int .i64 0)).run Tryz.prog W = .ok (fv (.func 215)) W := fun W => by kernel_rfl
  have hp := fun {w : World} (st : ExtW w) => puts_any st.val
  have hc4 := hS.c4
  rw [hl] at hc4
  have HC := Lib.hid hcallee; have H0 := Lib.hid hln; have HSO := Lib.hid hso
  clear h hr hS hg hcallee hl hz hz' hln hso hi hrr
  go_enter Tryz.func111, Tryz.ntmps111
  go_upto_region 2 with (go_at_call 109; refine ho.mono ?_; rintro e w1 ⟨rfl, b1⟩; have x4 := (fun st : ExtW w1 => st.cell ((b1.cell (p := ⟨b, 4, none⟩) (cell_lt hc4)).trans hc4)); have B1 := Lib.hid b1; clear b1 ho hc4)
  refine wp_region_ext_tail 9 (by kernel_rfl) (by kernel_rfl) ?_
  simp only [List.take_succ_cons, List.take_zero, List.drop_succ_cons, List.drop_zero]
  repeat (go_big_quiet_step ((go_at_call 168; with_reducible refine calls_ext (hp _))))
  refine wpQuiet_nil ?_
  rintro W ⟨⟨W2, hW⟩, rfl⟩
  have hb2 := B1.out.trans (hW.mono B1.out.size)
  have hcw := HC.out _ hb2
  have HB2 := Lib.hid hb2
  clear x4 hp hidx hW hb2
  go_upto_region 4 with (go_at_call 215; refine hcw.mono ?_; rintro e w3 ⟨rfl, h3, s3, f3⟩; have y4 := s3.c4; rw [H0.out] at y4; have yf := hfrz s3 4; have H3 := Lib.hid h3; have S3 := Lib.hid s3; have F3 := Lib.hid f3; clear h3 s3 f3 hcw)
  have ho2 := Putover (S3.out.set4 (1)) false false HSO.out rfl
  have h4 := set_take (o := 4) H3.out S3.out rfl hlo (.int .i64 (1))
  have s4 := S3.out.set4 (1)
  have f4 := (((below_fr HB2.out wTy true).fx b).trans F3.out).trans (set_fx wTy true w3 b 4 (.int .i64 (1)))
  have H4 := Lib.hid h4; have S4 := Lib.hid s4; have F4 := Lib.hid f4
  clear h4 s4 f4 H3 S3 F3 y4 yf
  change Code.wp _ _ _ _ (w3.setCell ⟨b, 4, none⟩ (.int .i64 (1)))
  generalize w3.setCell ⟨b, 4, none⟩ (.int .i64 (1)) = W4 at *
  go_wp2_with (go_at_call 109; refine ho2.mono ?_; rintro e w5 ⟨rfl, b5⟩)
  go_ret
  exact ⟨rfl, H4.out.keep b5, S4.out.below b5, F4.out.trans ((below_fr b5 wTy true).fx b)⟩

set_option maxRecDepth 10000 in
set_option maxHeartbeats 1000000 in
theorem put_step1 {w0 w : World} {B : WB} {V : WV} {s : CS} {b : Nat} {σ : SL} {rest : List Value} (h : WS w0 w B V s) (hr : s.room) (hlo : w0.heap.size ≤ b) (hS : SlotAt w b 210 σ rest) (hz : σ.tg ≠ 0) (hg : (Lit.int .u64 σ.tg).wf = true) (hl : σ.ln = 1)  :
    Calls Tryz.prog 111 #[.pointer (some ⟨b, 0, none⟩), .pointer (some ⟨B.wb, 0, none⟩)] w fun e w' => e = .returned (.bool false) ∧ WS w0 w' B V (s.acc 1 σ.tg (s.val σ.tg)) ∧ SlotAt w' b 210 { { σ with x := s.val σ.tg } with ln := 2 } rest ∧ Fx wTy true b w w' := by
  have hz' : (σ.tg == 0) = false := beq_eq_false_iff_ne.2 hz
  have ho := Putover hS false false hz' (by rw [hl]; rfl)
  have hcallee : ∀ W, Below w.heap.size w W → Calls Tryz.prog 216 #[.pointer (some ⟨b, 0, none⟩), .pointer (some ⟨B.wb, 0, none⟩)] W fun e w' => e = .returned (.tuple #[]) ∧ WS w0 w' B V (s.acc 1 σ.tg (s.val σ.tg)) ∧ SlotAt w' b 210 ({ σ with x := s.val σ.tg }) rest ∧ Fx wTy true b W w' := fun W hW =>
    put_second (h.keep hW) hr hlo (hS.below hW) hg
  have hln : ({ σ with x := s.val σ.tg }).ln = 1 := hl
  have hso : (({ σ with x := s.val σ.tg }).tg == 0) = false := hz'
  have hidx : ∀ W : World, (Instr.index 302 (.agg #[fv (.func 215), fv (.func 216), fv (.func 217)]) (.int .i64 1)).run Tryz.prog W = .ok (fv (.func 216)) W := fun W => by kernel_rfl
  have hp := fun {w : World} (st : ExtW w) => puts_any st.val
  have hc4 := hS.c4
  rw [hl] at hc4
  have HC := Lib.hid hcallee; have H1 := Lib.hid hln; have HSO := Lib.hid hso
  clear h hr hS hg hcallee hl hz hz' hln hso 
  go_enter Tryz.func111, Tryz.ntmps111
  go_upto_region 2 with (go_at_call 109; refine ho.mono ?_; rintro e w1 ⟨rfl, b1⟩; have x4 := (fun st : ExtW w1 => st.cell ((b1.cell (p := ⟨b, 4, none⟩) (cell_lt hc4)).trans hc4)); have B1 := Lib.hid b1; clear b1 ho hc4)
  refine wp_region_ext_tail 9 (by kernel_rfl) (by kernel_rfl) ?_
  simp only [List.take_succ_cons, List.take_zero, List.drop_succ_cons, List.drop_zero]
  repeat (go_big_quiet_step ((go_at_call 168; with_reducible refine calls_ext (hp _))))
  refine wpQuiet_nil ?_
  rintro W ⟨⟨W2, hW⟩, rfl⟩
  have hb2 := B1.out.trans (hW.mono B1.out.size)
  have hcw := HC.out _ hb2
  have HB2 := Lib.hid hb2
  clear x4 hp hidx hW hb2
  go_upto_region 4 with (go_at_call 216; refine hcw.mono ?_; rintro e w3 ⟨rfl, h3, s3, f3⟩; have y4 := s3.c4; rw [H1.out] at y4; have yf := hfrz s3 4; have H3 := Lib.hid h3; have S3 := Lib.hid s3; have F3 := Lib.hid f3; clear h3 s3 f3 hcw)
  have ho2 := Putover (S3.out.set4 (2)) false false HSO.out rfl
  have h4 := set_take (o := 4) H3.out S3.out rfl hlo (.int .i64 (2))
  have s4 := S3.out.set4 (2)
  have f4 := (((below_fr HB2.out wTy true).fx b).trans F3.out).trans (set_fx wTy true w3 b 4 (.int .i64 (2)))
  have H4 := Lib.hid h4; have S4 := Lib.hid s4; have F4 := Lib.hid f4
  clear h4 s4 f4 H3 S3 F3 y4 yf
  change Code.wp _ _ _ _ (w3.setCell ⟨b, 4, none⟩ (.int .i64 (2)))
  generalize w3.setCell ⟨b, 4, none⟩ (.int .i64 (2)) = W4 at *
  go_wp2_with (go_at_call 109; refine ho2.mono ?_; rintro e w5 ⟨rfl, b5⟩)
  go_ret
  exact ⟨rfl, H4.out.keep b5, S4.out.below b5, F4.out.trans ((below_fr b5 wTy true).fx b)⟩

set_option maxRecDepth 10000 in
set_option maxHeartbeats 1000000 in
theorem put_step2 {w0 w : World} {B : WB} {V : WV} {s : CS} {b : Nat} {σ : SL} {g r : Int} (h : WS w0 w B V s) (hr : s.room) (hlo : w0.heap.size ≤ b) (hS : SlotAt w b 210 σ [.int .i64 g, .int .i64 r]) (hz : σ.tg ≠ 0) (hg : (Lit.int .u64 σ.tg).wf = true) (hl : σ.ln = 2) (hx : 0 ≤ σ.x ∧ σ.x < 18446744073709551616) :
    Calls Tryz.prog 111 #[.pointer (some ⟨b, 0, none⟩), .pointer (some ⟨B.wb, 0, none⟩)] w fun e w' => e = .returned (.bool true) ∧ WS w0 w' B V (s.acc 2 σ.tg (TagPure.withOf σ.x σ.at_ g)) ∧ SlotAt w' b 210 { σ with ln := 3 } [.int .i64 g, .int .i64 r] ∧ Fx wTy true b w w' := by
  have hz' : (σ.tg == 0) = false := beq_eq_false_iff_ne.2 hz
  have ho := Putover hS false false hz' (by rw [hl]; rfl)
  have hcallee : ∀ W, Below w.heap.size w W → Calls Tryz.prog 217 #[.pointer (some ⟨b, 0, none⟩), .pointer (some ⟨B.wb, 0, none⟩)] W fun e w' => e = .returned (.tuple #[]) ∧ WS w0 w' B V (s.acc 2 σ.tg (TagPure.withOf σ.x σ.at_ g)) ∧ SlotAt w' b 210 (σ) [.int .i64 g, .int .i64 r] ∧ Fx wTy true b W w' := fun W hW =>
    (put_third (h.keep hW) hr (hS.below hW) hg hx).mono fun e w' ⟨he, hw, hf⟩ => ⟨he, hw, hf.cells _ _ _ _ (hS.below hW) rfl, fr_fx b hf⟩
  have hln : (σ).ln = 2 := hl
  have hso : ((σ).tg == 0) = false := hz'
  have hidx : ∀ W : World, (Instr.index 302 (.agg #[fv (.func 215), fv (.func 216), fv (.func 217)]) (.int .i64 2)).run Tryz.prog W = .ok (fv (.func 217)) W := fun W => by kernel_rfl
  have hp := fun {w : World} (st : ExtW w) => puts_any st.val
  have hc4 := hS.c4
  rw [hl] at hc4
  have HC := Lib.hid hcallee; have H2 := Lib.hid hln; have HSO := Lib.hid hso
  clear h hr hS hg hcallee hl hz hz' hln hso hx
  go_enter Tryz.func111, Tryz.ntmps111
  go_upto_region 2 with (go_at_call 109; refine ho.mono ?_; rintro e w1 ⟨rfl, b1⟩; have x4 := (fun st : ExtW w1 => st.cell ((b1.cell (p := ⟨b, 4, none⟩) (cell_lt hc4)).trans hc4)); have B1 := Lib.hid b1; clear b1 ho hc4)
  refine wp_region_ext_tail 9 (by kernel_rfl) (by kernel_rfl) ?_
  simp only [List.take_succ_cons, List.take_zero, List.drop_succ_cons, List.drop_zero]
  repeat (go_big_quiet_step ((go_at_call 168; with_reducible refine calls_ext (hp _))))
  refine wpQuiet_nil ?_
  rintro W ⟨⟨W2, hW⟩, rfl⟩
  have hb2 := B1.out.trans (hW.mono B1.out.size)
  have hcw := HC.out _ hb2
  have HB2 := Lib.hid hb2
  clear x4 hp hidx hW hb2
  go_upto_region 4 with (go_at_call 217; refine hcw.mono ?_; rintro e w3 ⟨rfl, h3, s3, f3⟩; have y4 := s3.c4; rw [H2.out] at y4; have yf := hfrz s3 4; have H3 := Lib.hid h3; have S3 := Lib.hid s3; have F3 := Lib.hid f3; clear h3 s3 f3 hcw)
  have ho2 := Putover (S3.out.set4 (3)) false true HSO.out rfl
  have h4 := set_take (o := 4) H3.out S3.out rfl hlo (.int .i64 (3))
  have s4 := S3.out.set4 (3)
  have f4 := (((below_fr HB2.out wTy true).fx b).trans F3.out).trans (set_fx wTy true w3 b 4 (.int .i64 (3)))
  have H4 := Lib.hid h4; have S4 := Lib.hid s4; have F4 := Lib.hid f4
  clear h4 s4 f4 H3 S3 F3 y4 yf
  change Code.wp _ _ _ _ (w3.setCell ⟨b, 4, none⟩ (.int .i64 (3)))
  generalize w3.setCell ⟨b, 4, none⟩ (.int .i64 (3)) = W4 at *
  go_wp2_with (go_at_call 109; refine ho2.mono ?_; rintro e w5 ⟨rfl, b5⟩)
  go_ret
  exact ⟨rfl, H4.out.keep b5, S4.out.below b5, F4.out.trans ((below_fr b5 wTy true).fx b)⟩

set_option maxRecDepth 10000 in
set_option maxHeartbeats 1000000 in
theorem out_step0 {w0 w : World} {B : WB} {V : WV} {s : CS} {b : Nat} {σ : SL} {rest : List Value} (h : WS w0 w B V s) (hr : s.room) (hlo : w0.heap.size ≤ b) (hS : SlotAt w b 208 σ rest) (hz : σ.tg ≠ 0) (hg : (Lit.int .u64 σ.tg).wf = true) (hl : σ.ln = 0)  :
    Calls Tryz.prog 88 #[.pointer (some ⟨b, 0, none⟩), .pointer (some ⟨B.wb, 0, none⟩)] w fun e w' => e = .returned (.bool false) ∧ WS w0 w' B V (s.acc 1 σ.tg (s.val σ.tg)) ∧ SlotAt w' b 208 { { σ with x := s.val σ.tg } with ln := 1 } rest ∧ Fx wTy true b w w' := by
  have hz' : (σ.tg == 0) = false := beq_eq_false_iff_ne.2 hz
  have ho := Outover hS false false hz' (by rw [hl]; rfl)
  have hcallee : ∀ W, Below w.heap.size w W → Calls Tryz.prog 198 #[.pointer (some ⟨b, 0, none⟩), .pointer (some ⟨B.wb, 0, none⟩)] W fun e w' => e = .returned (.tuple #[]) ∧ WS w0 w' B V (s.acc 1 σ.tg (s.val σ.tg)) ∧ SlotAt w' b 208 ({ σ with x := s.val σ.tg }) rest ∧ Fx wTy true b W w' := fun W hW =>
    out_first (h.keep hW) hr hlo (hS.below hW) hg
  have hln : ({ σ with x := s.val σ.tg }).ln = 0 := hl
  have hso : (({ σ with x := s.val σ.tg }).tg == 0) = false := hz'
  have hidx : ∀ W : World, (Instr.index 282 (.agg #[fv (.func 198), fv (.func 199), fv (.func 200)]) (.int .i64 0)).run Tryz.prog W = .ok (fv (.func 198)) W := fun W => by kernel_rfl
  have hp := fun {w : World} (st : ExtW w) => outs_any st.val
  have hc4 := hS.c4
  rw [hl] at hc4
  have HC := Lib.hid hcallee; have H0 := Lib.hid hln; have HSO := Lib.hid hso
  clear h hr hS hg hcallee hl hz hz' hln hso 
  go_enter Tryz.func88, Tryz.ntmps88
  go_upto_region 2 with (go_at_call 108; refine ho.mono ?_; rintro e w1 ⟨rfl, b1⟩; have x4 := (fun st : ExtW w1 => st.cell ((b1.cell (p := ⟨b, 4, none⟩) (cell_lt hc4)).trans hc4)); have B1 := Lib.hid b1; clear b1 ho hc4)
  refine wp_region_ext_tail 9 (by kernel_rfl) (by kernel_rfl) ?_
  simp only [List.take_succ_cons, List.take_zero, List.drop_succ_cons, List.drop_zero]
  repeat (go_big_quiet_step ((go_at_call 152; with_reducible refine calls_ext (hp _))))
  refine wpQuiet_nil ?_
  rintro W ⟨⟨W2, hW⟩, rfl⟩
  have hb2 := B1.out.trans (hW.mono B1.out.size)
  have hcw := HC.out _ hb2
  have HB2 := Lib.hid hb2
  clear x4 hp hidx hW hb2
  go_upto_region 4 with (go_at_call 198; refine hcw.mono ?_; rintro e w3 ⟨rfl, h3, s3, f3⟩; have y4 := s3.c4; rw [H0.out] at y4; have yf := hfrz s3 4; have H3 := Lib.hid h3; have S3 := Lib.hid s3; have F3 := Lib.hid f3; clear h3 s3 f3 hcw)
  have ho2 := Outover (S3.out.set4 (1)) false false HSO.out rfl
  have h4 := set_take (o := 4) H3.out S3.out rfl hlo (.int .i64 (1))
  have s4 := S3.out.set4 (1)
  have f4 := (((below_fr HB2.out wTy true).fx b).trans F3.out).trans (set_fx wTy true w3 b 4 (.int .i64 (1)))
  have H4 := Lib.hid h4; have S4 := Lib.hid s4; have F4 := Lib.hid f4
  clear h4 s4 f4 H3 S3 F3 y4 yf
  change Code.wp _ _ _ _ (w3.setCell ⟨b, 4, none⟩ (.int .i64 (1)))
  generalize w3.setCell ⟨b, 4, none⟩ (.int .i64 (1)) = W4 at *
  go_wp2_with (go_at_call 108; refine ho2.mono ?_; rintro e w5 ⟨rfl, b5⟩)
  go_ret
  exact ⟨rfl, H4.out.keep b5, S4.out.below b5, F4.out.trans ((below_fr b5 wTy true).fx b)⟩

set_option maxRecDepth 10000 in
set_option maxHeartbeats 1000000 in
theorem out_step1 {w0 w : World} {B : WB} {V : WV} {s : CS} {b : Nat} {σ : SL} {rest : List Value} (h : WS w0 w B V s) (hr : s.room) (hlo : w0.heap.size ≤ b) (hS : SlotAt w b 208 σ rest) (hz : σ.tg ≠ 0) (hg : (Lit.int .u64 σ.tg).wf = true) (hl : σ.ln = 1) (hx : 0 ≤ σ.x ∧ σ.x < 18446744073709551616) :
    Calls Tryz.prog 88 #[.pointer (some ⟨b, 0, none⟩), .pointer (some ⟨B.wb, 0, none⟩)] w fun e w' => e = .returned (.bool false) ∧ WS w0 w' B V (s.acc 2 σ.tg (TagPure.withOf σ.x σ.at_ 0)) ∧ SlotAt w' b 208 { σ with ln := 2 } rest ∧ Fx wTy true b w w' := by
  have hz' : (σ.tg == 0) = false := beq_eq_false_iff_ne.2 hz
  have ho := Outover hS false false hz' (by rw [hl]; rfl)
  have hcallee : ∀ W, Below w.heap.size w W → Calls Tryz.prog 199 #[.pointer (some ⟨b, 0, none⟩), .pointer (some ⟨B.wb, 0, none⟩)] W fun e w' => e = .returned (.tuple #[]) ∧ WS w0 w' B V (s.acc 2 σ.tg (TagPure.withOf σ.x σ.at_ 0)) ∧ SlotAt w' b 208 (σ) rest ∧ Fx wTy true b W w' := fun W hW =>
    (out_second (h.keep hW) hr (hS.below hW) hg hx).mono fun e w' ⟨he, hw, hf⟩ => ⟨he, hw, hf.cells _ _ _ _ (hS.below hW) rfl, fr_fx b hf⟩
  have hln : (σ).ln = 1 := hl
  have hso : ((σ).tg == 0) = false := hz'
  have hidx : ∀ W : World, (Instr.index 282 (.agg #[fv (.func 198), fv (.func 199), fv (.func 200)]) (.int .i64 1)).run Tryz.prog W = .ok (fv (.func 199)) W := fun W => by kernel_rfl
  have hp := fun {w : World} (st : ExtW w) => outs_any st.val
  have hc4 := hS.c4
  rw [hl] at hc4
  have HC := Lib.hid hcallee; have H1 := Lib.hid hln; have HSO := Lib.hid hso
  clear h hr hS hg hcallee hl hz hz' hln hso hx
  go_enter Tryz.func88, Tryz.ntmps88
  go_upto_region 2 with (go_at_call 108; refine ho.mono ?_; rintro e w1 ⟨rfl, b1⟩; have x4 := (fun st : ExtW w1 => st.cell ((b1.cell (p := ⟨b, 4, none⟩) (cell_lt hc4)).trans hc4)); have B1 := Lib.hid b1; clear b1 ho hc4)
  refine wp_region_ext_tail 9 (by kernel_rfl) (by kernel_rfl) ?_
  simp only [List.take_succ_cons, List.take_zero, List.drop_succ_cons, List.drop_zero]
  repeat (go_big_quiet_step ((go_at_call 152; with_reducible refine calls_ext (hp _))))
  refine wpQuiet_nil ?_
  rintro W ⟨⟨W2, hW⟩, rfl⟩
  have hb2 := B1.out.trans (hW.mono B1.out.size)
  have hcw := HC.out _ hb2
  have HB2 := Lib.hid hb2
  clear x4 hp hidx hW hb2
  go_upto_region 4 with (go_at_call 199; refine hcw.mono ?_; rintro e w3 ⟨rfl, h3, s3, f3⟩; have y4 := s3.c4; rw [H1.out] at y4; have yf := hfrz s3 4; have H3 := Lib.hid h3; have S3 := Lib.hid s3; have F3 := Lib.hid f3; clear h3 s3 f3 hcw)
  have ho2 := Outover (S3.out.set4 (2)) false false HSO.out rfl
  have h4 := set_take (o := 4) H3.out S3.out rfl hlo (.int .i64 (2))
  have s4 := S3.out.set4 (2)
  have f4 := (((below_fr HB2.out wTy true).fx b).trans F3.out).trans (set_fx wTy true w3 b 4 (.int .i64 (2)))
  have H4 := Lib.hid h4; have S4 := Lib.hid s4; have F4 := Lib.hid f4
  clear h4 s4 f4 H3 S3 F3 y4 yf
  change Code.wp _ _ _ _ (w3.setCell ⟨b, 4, none⟩ (.int .i64 (2)))
  generalize w3.setCell ⟨b, 4, none⟩ (.int .i64 (2)) = W4 at *
  go_wp2_with (go_at_call 108; refine ho2.mono ?_; rintro e w5 ⟨rfl, b5⟩)
  go_ret
  exact ⟨rfl, H4.out.keep b5, S4.out.below b5, F4.out.trans ((below_fr b5 wTy true).fx b)⟩

set_option maxRecDepth 10000 in
set_option maxHeartbeats 1000000 in
theorem out_step2 {w0 w : World} {B : WB} {V : WV} {s : CS} {b : Nat} {σ : SL} {rest : List Value} (h : WS w0 w B V s) (hr : s.room) (hlo : w0.heap.size ≤ b) (hS : SlotAt w b 208 σ rest) (hz : σ.tg ≠ 0) (hg : (Lit.int .u64 σ.tg).wf = true) (hl : σ.ln = 2) (hi : (Lit.int .u64 σ.it).wf = true) :
    Calls Tryz.prog 88 #[.pointer (some ⟨b, 0, none⟩), .pointer (some ⟨B.wb, 0, none⟩)] w fun e w' => e = .returned (.bool true) ∧ WS w0 w' B V (s.acc 2 σ.it 0) ∧ SlotAt w' b 208 { σ with ln := 3 } rest ∧ Fx wTy true b w w' := by
  have hz' : (σ.tg == 0) = false := beq_eq_false_iff_ne.2 hz
  have ho := Outover hS false false hz' (by rw [hl]; rfl)
  have hcallee : ∀ W, Below w.heap.size w W → Calls Tryz.prog 200 #[.pointer (some ⟨b, 0, none⟩), .pointer (some ⟨B.wb, 0, none⟩)] W fun e w' => e = .returned (.tuple #[]) ∧ WS w0 w' B V (s.acc 2 σ.it 0) ∧ SlotAt w' b 208 (σ) rest ∧ Fx wTy true b W w' := fun W hW =>
    (out_third (h.keep hW) hr (hS.below hW) hi).mono fun e w' ⟨he, hw, hf⟩ => ⟨he, hw, hf.cells _ _ _ _ (hS.below hW) rfl, fr_fx b hf⟩
  have hln : (σ).ln = 2 := hl
  have hso : ((σ).tg == 0) = false := hz'
  have hidx : ∀ W : World, (Instr.index 282 (.agg #[fv (.func 198), fv (.func 199), fv (.func 200)]) (.int .i64 2)).run Tryz.prog W = .ok (fv (.func 200)) W := fun W => by kernel_rfl
  have hp := fun {w : World} (st : ExtW w) => outs_any st.val
  have hc4 := hS.c4
  rw [hl] at hc4
  have HC := Lib.hid hcallee; have H2 := Lib.hid hln; have HSO := Lib.hid hso
  clear h hr hS hg hcallee hl hz hz' hln hso hi
  go_enter Tryz.func88, Tryz.ntmps88
  go_upto_region 2 with (go_at_call 108; refine ho.mono ?_; rintro e w1 ⟨rfl, b1⟩; have x4 := (fun st : ExtW w1 => st.cell ((b1.cell (p := ⟨b, 4, none⟩) (cell_lt hc4)).trans hc4)); have B1 := Lib.hid b1; clear b1 ho hc4)
  refine wp_region_ext_tail 9 (by kernel_rfl) (by kernel_rfl) ?_
  simp only [List.take_succ_cons, List.take_zero, List.drop_succ_cons, List.drop_zero]
  repeat (go_big_quiet_step ((go_at_call 152; with_reducible refine calls_ext (hp _))))
  refine wpQuiet_nil ?_
  rintro W ⟨⟨W2, hW⟩, rfl⟩
  have hb2 := B1.out.trans (hW.mono B1.out.size)
  have hcw := HC.out _ hb2
  have HB2 := Lib.hid hb2
  clear x4 hp hidx hW hb2
  go_upto_region 4 with (go_at_call 200; refine hcw.mono ?_; rintro e w3 ⟨rfl, h3, s3, f3⟩; have y4 := s3.c4; rw [H2.out] at y4; have yf := hfrz s3 4; have H3 := Lib.hid h3; have S3 := Lib.hid s3; have F3 := Lib.hid f3; clear h3 s3 f3 hcw)
  have ho2 := Outover (S3.out.set4 (3)) false true HSO.out rfl
  have h4 := set_take (o := 4) H3.out S3.out rfl hlo (.int .i64 (3))
  have s4 := S3.out.set4 (3)
  have f4 := (((below_fr HB2.out wTy true).fx b).trans F3.out).trans (set_fx wTy true w3 b 4 (.int .i64 (3)))
  have H4 := Lib.hid h4; have S4 := Lib.hid s4; have F4 := Lib.hid f4
  clear h4 s4 f4 H3 S3 F3 y4 yf
  change Code.wp _ _ _ _ (w3.setCell ⟨b, 4, none⟩ (.int .i64 (3)))
  generalize w3.setCell ⟨b, 4, none⟩ (.int .i64 (3)) = W4 at *
  go_wp2_with (go_at_call 108; refine ho2.mono ?_; rintro e w5 ⟨rfl, b5⟩)
  go_ret
  exact ⟨rfl, H4.out.keep b5, S4.out.below b5, F4.out.trans ((below_fr b5 wTy true).fx b)⟩
end Go.Proofs.YtjfocckdbaaimaaGreat

/-
  Slots, spots, runs of a Put, layer 13's examples.
-/
namespace Go.Proofs.YtjfocckdbaaimaaGreat
open Go.RowKit Go.Maps TagPure
set_option linter.unusedVariables false

theorem world12w (b : Int) (hb : 1 ≤ b ∧ b ≤ 12) (w : World) : Calls Tryz.prog 85 #[.int .i64 b] w fun e w' => ∃ B, e = .returned (.pointer (some ⟨B.wb, 0, none⟩)) ∧ WS w w' B (v0 ⟨b, 8, 3, 1, 16⟩) (CS.init [(2, tword b 0)]) := by
  have hn1 : Calls Tryz.prog 62 #[.agg #[.int .i64 b, .int .i64 8, .int .i64 3, .int .i64 1, .int .i64 16]] w fun e w' => ∃ B : WB, e = .returned (.tuple #[.pointer (some ⟨B.wb, 0, none⟩), .int .i64 0]) ∧ WS w w' B (v0 ⟨b, 8, 3, 1, 16⟩) (CS.init [(2, tword b 0)]) :=
    (wnew_ok ⟨b, 8, 3, 1, 16⟩ (by simp [Conf.ok]; omega) w).mono fun e w' ⟨wb, cb, ib, nb, he, g1, g2, g3, g4, g5, g6, g7⟩ => ⟨⟨wb, cb, ib, nb⟩, he, ws_of (Below.refl _ w) g1 g2 g3 g4 g5 g6 g7⟩
  clear hb
  go_enter Tryz.func85, Tryz.ntmps85
  go_wp2_with (go_at_call 62; with_reducible refine hn1.mono ?_; rintro e w1 ⟨B, rfl, h1⟩)
  go_ret
  exact ⟨_, rfl, h1⟩

theorem WS.peekx {w0 w : World} {B : WB} {V : WV} {s : CS} (h : WS w0 w B V s) (a : Int) (ha : (Lit.int .u64 a).wf = true) (st : ExtW w) : Calls Tryz.prog 30 #[.pointer (some ⟨B.cb, 0, none⟩), .int .u64 a] st.val fun e w' => e = .returned (.int .u64 (s.val a)) ∧ st.val = w' :=
  ((h.keep st.below).peek a ha).mono fun e w' ⟨he, hw⟩ => ⟨he, hw.symm⟩
set_option maxRecDepth 10000 in
set_option maxHeartbeats 1000000 in
theorem slot_any {w0 w : World} {B : WB} {V : WV} {s : CS} (h : WS w0 w B V s) (b u k : Int) (hk : (Lit.int .i64 k).wf = true) : Calls Tryz.prog 21 #[.pointer (some ⟨B.wb, 0, none⟩), .agg #[.int .i64 b, .int .i64 u, .int .i64 k]] w
    fun e w' => e = .returned (.tuple #[.int .i64 (tagOf (s.val (tagsA b u)) k), .int .u64 (s.val (itemA b u k))]) ∧ Below w.heap.size w w' := by
  have hB := below_alloc w (.cells #[.int .i64 b, .int .i64 u, .int .i64 k] 43)
  have h1 := h.keep hB
  have hit := fun {W : World} (st : ExtW W) => item_any b u k hk st.val
  have htg := fun {W : World} (st : ExtW W) => tags_any b u st.val
  have hp1 := fun st => h1.peekx (tagsA b u) (tagsA_wf b u) st
  have hp2 := fun st => h1.peekx (itemA b u k) (itemA_wf b u k) st
  have hwf := wf_bd (h.own.wf (tagsA b u))
  have hto := fun {W : World} (st : ExtW W) => tag_any (s.val (tagsA b u)) k st.val hwf.1 hwf.2
  have z := box3 w b u k 43
  have x0 := fun st : ExtW (w.alloc (.cells #[.int .i64 b, .int .i64 u, .int .i64 k] 43)) => st.cell (z 0)
  have x1 := fun st : ExtW (w.alloc (.cells #[.int .i64 b, .int .i64 u, .int .i64 k] 43)) => st.cell (z 1)
  have x2 := fun st : ExtW (w.alloc (.cells #[.int .i64 b, .int .i64 u, .int .i64 k] 43)) => st.cell (z 2)
  have x3 := fun st : ExtW (w.alloc (.cells #[.int .i64 b, .int .i64 u, .int .i64 k] 43)) => st.cell h1.c0
  have HB := Lib.hid hB
  clear h h1 hk hwf z hB
  go_enter Tryz.func21, Tryz.ntmps21
  go_wp2_with fail
  refine wp_region_ext (by kernel_rfl) (by kernel_rfl) ?_
  repeat (go_big_quiet_step (first
    | (go_at_call 87; with_reducible refine calls_ext (htg _))
    | (go_at_call 86; with_reducible refine calls_ext (hit _))
    | (go_at_call 30; with_reducible refine calls_ext_same (hp1 _))
    | (go_at_call 30; with_reducible refine calls_ext_same (hp2 _))
    | (go_at_call 92; with_reducible refine calls_ext (hto _))))
  refine wpQuiet_nil ?_
  rintro W ⟨⟨W2, hW⟩, rfl⟩
  clear x0 x1 x2 x3
  go_wp2
  go_ret2
  exact ⟨rfl, bnext HB.out hW⟩
theorem spot21 (k : Nat) (hk : k < 4) (w : World) : Calls Tryz.prog 18 #[.int .i64 2, .int .i64 1, .int .i64 k] w fun e w' => e = .returned (.agg #[.int .i64 2, .int .i64 1, .int .i64 k]) ∧ Below w.heap.size w w' := by
  have hsz := fun w => size_any 2 w
  have e0 : tsize 2 = 4 := by decide
  simp only [e0] at hsz
  have e1 : (k : Int) % 4 = k := by omega
  clear e0 hk
  go_enter Tryz.func18, Tryz.ntmps18
  go_wp2_with (go_at_call 90; refine (hsz _).mono ?_; rintro e w1 ⟨rfl, hw⟩; obtain rfl := hw.symm)
  refine bodyPost_ret (v := .agg #[.int .i64 2, .int .i64 1, .int .i64 k]) (by simp [results, Tryz.results18, go_sem]) rfl ⟨rfl, ?_⟩
  exact below_alloc' _ _

def pst (s : CS) (tgA it at_ g r : Int) : Nat → CS
  | 0 => s
  | 1 => s.acc 2 it r
  | 2 => (s.acc 2 it r).acc 1 tgA ((s.acc 2 it r).val tgA)
  | _ => ((s.acc 2 it r).acc 1 tgA ((s.acc 2 it r).val tgA)).acc 2 tgA (withOf ((s.acc 2 it r).val tgA) at_ g)
def psl (s : CS) (tgA it at_ r : Int) : Nat → SL
  | 0 => ⟨tgA, it, at_, 0, 0⟩
  | 1 => ⟨tgA, it, at_, 0, 1⟩
  | 2 => ⟨tgA, it, at_, (s.acc 2 it r).val tgA, 2⟩
  | _ => ⟨tgA, it, at_, (s.acc 2 it r).val tgA, 3⟩
def ost (s : CS) (tgA it at_ : Int) : Nat → CS
  | 0 => s
  | 1 => s.acc 1 tgA (s.val tgA)
  | 2 => (s.acc 1 tgA (s.val tgA)).acc 2 tgA (withOf (s.val tgA) at_ 0)
  | _ => ((s.acc 1 tgA (s.val tgA)).acc 2 tgA (withOf (s.val tgA) at_ 0)).acc 2 it 0
def osl (s : CS) (tgA it at_ : Int) : Nat → SL
  | 0 => ⟨tgA, it, at_, 0, 0⟩
  | 1 => ⟨tgA, it, at_, s.val tgA, 1⟩
  | 2 => ⟨tgA, it, at_, s.val tgA, 2⟩
  | _ => ⟨tgA, it, at_, s.val tgA, 3⟩
section
variable {w0 w : World} {B : WB} {V : WV} {s : CS} {b : Nat} {tgA it at_ g r : Int} {m : Nat} (hm : s.n ≤ m ∧ s.cnt ≤ m) (hl : m + 3 < lim) (hlo : w0.heap.size ≤ b) (hz : tgA ≠ 0) (hg : (Lit.int .u64 tgA).wf = true) (hi : (Lit.int .u64 it).wf = true)
include hm
theorem pst_le (n : Nat) (hn : n ≤ 3) : (pst s tgA it at_ g r n).n ≤ m + n ∧ (pst s tgA it at_ g r n).cnt ≤ m + n := by
  match n, hn with
  | 0, _ => exact hm
  | 1, _ => exact room_acc m hm
  | 2, _ => exact room_acc _ (room_acc m hm)
  | 3, _ => exact room_acc _ (room_acc _ (room_acc m hm))
theorem ost_le (n : Nat) (hn : n ≤ 3) : (ost s tgA it at_ n).n ≤ m + n ∧ (ost s tgA it at_ n).cnt ≤ m + n := by
  match n, hn with
  | 0, _ => exact hm
  | 1, _ => exact room_acc m hm
  | 2, _ => exact room_acc _ (room_acc m hm)
  | 3, _ => exact room_acc _ (room_acc _ (room_acc m hm))
include hl hlo hz hg hi
theorem put_step (hrr : 0 ≤ r ∧ r < 9223372036854775808) (n : Nat) (hn : n < 3) (h : WS w0 w B V (pst s tgA it at_ g r n)) (hS : SlotAt w b 210 (psl s tgA it at_ r n) [.int .i64 g, .int .i64 r]) :
    Calls Tryz.prog 111 #[.pointer (some ⟨b, 0, none⟩), .pointer (some ⟨B.wb, 0, none⟩)] w fun e w' => (∃ o, e = .returned (.bool o)) ∧ WS w0 w' B V (pst s tgA it at_ g r (n + 1)) ∧ SlotAt w' b 210 (psl s tgA it at_ r (n + 1)) [.int .i64 g, .int .i64 r] ∧ Fx wTy true b w w' := by
  have hle := pst_le (tgA := tgA) (it := it) (at_ := at_) (g := g) (r := r) hm n (by omega)
  have hr : (pst s tgA it at_ g r n).room := CS.room_of (m + n) hle (by omega)
  match n, hn with
  | 0, _ => exact (put_step0 h hr hlo hS hz hg rfl hi hrr).mono fun e w' ⟨h1, h2⟩ => ⟨⟨_, h1⟩, h2⟩
  | 1, _ => exact (put_step1 h hr hlo hS hz hg rfl).mono fun e w' ⟨h1, h2⟩ => ⟨⟨_, h1⟩, h2⟩
  | 2, _ =>
    have hx : 0 ≤ (psl s tgA it at_ r 2).x ∧ (psl s tgA it at_ r 2).x < 18446744073709551616 := by
      have := wf_bd (h.own.wf tgA)
      simp only [pst, CS.acc_self] at this
      exact this
    exact (put_step2 h hr hlo hS hz hg rfl hx).mono fun e w' ⟨h1, h2⟩ => ⟨⟨_, h1⟩, h2⟩
theorem out_step (n : Nat) (hn : n < 3) (h : WS w0 w B V (ost s tgA it at_ n)) (hS : SlotAt w b 208 (osl s tgA it at_ n) []) :
    Calls Tryz.prog 88 #[.pointer (some ⟨b, 0, none⟩), .pointer (some ⟨B.wb, 0, none⟩)] w fun e w' => (∃ o, e = .returned (.bool o)) ∧ WS w0 w' B V (ost s tgA it at_ (n + 1)) ∧ SlotAt w' b 208 (osl s tgA it at_ (n + 1)) [] ∧ Fx wTy true b w w' := by
  have hle := ost_le (tgA := tgA) (it := it) (at_ := at_) hm n (by omega)
  have hr : (ost s tgA it at_ n).room := CS.room_of (m + n) hle (by omega)
  match n, hn with
  | 0, _ => exact (out_step0 h hr hlo hS hz hg rfl).mono fun e w' ⟨h1, h2⟩ => ⟨⟨_, h1⟩, h2⟩
  | 1, _ =>
    have hx : 0 ≤ (osl s tgA it at_ 1).x ∧ (osl s tgA it at_ 1).x < 18446744073709551616 := by
      have := wf_bd (h.own.wf tgA)
      simp only [ost, CS.acc_self] at this
      exact this
    exact (out_step1 h hr hlo hS hz hg rfl hx).mono fun e w' ⟨h1, h2⟩ => ⟨⟨_, h1⟩, h2⟩
  | 2, _ => exact (out_step2 h hr hlo hS hz hg rfl hi).mono fun e w' ⟨h1, h2⟩ => ⟨⟨true, h1⟩, h2⟩
end
end Go.Proofs.YtjfocckdbaaimaaGreat

/-
  A Put by itself; layer 13's examples.
-/
namespace Go.Proofs.YtjfocckdbaaimaaGreat
open Go.RowKit Go.Maps TagPure
set_option linter.unusedVariables false

theorem psl_tg (s : CS) (tgA it at_ r : Int) (n : Nat) : (psl s tgA it at_ r n).tg = tgA := by unfold psl; split <;> rfl
theorem psl_ln (s : CS) (tgA it at_ r : Int) (n : Nat) (hn : n ≤ 3) : (psl s tgA it at_ r n).ln = n := by
  match n, hn with
  | 0, _ | 1, _ | 2, _ | 3, _ => rfl
theorem osl_tg (s : CS) (tgA it at_ : Int) (n : Nat) : (osl s tgA it at_ n).tg = tgA := by unfold osl; split <;> rfl
theorem osl_ln (s : CS) (tgA it at_ : Int) (n : Nat) (hn : n ≤ 3) : (osl s tgA it at_ n).ln = n := by
  match n, hn with
  | 0, _ | 1, _ | 2, _ | 3, _ => rfl
theorem put_over {w : World} {b : Nat} {s : CS} {tgA it at_ r : Int} {rest : List Value} (n : Nat) (hn : n ≤ 3) (hz : tgA ≠ 0) (hS : SlotAt w b 210 (psl s tgA it at_ r n) rest) : Calls Tryz.prog 109 #[.pointer (some ⟨b, 0, none⟩)] w fun e w' => e = .returned (.bool ((n : Int) == 3)) ∧ Below w.heap.size w w' := by
  have := Putover hS false ((n : Int) == 3) (by rw [psl_tg]; exact beq_eq_false_iff_ne.2 hz) (by rw [psl_ln _ _ _ _ _ n hn])
  simpa only [Bool.false_or] using this
theorem out_over {w : World} {b : Nat} {s : CS} {tgA it at_ : Int} {rest : List Value} (n : Nat) (hn : n ≤ 3) (hz : tgA ≠ 0) (hS : SlotAt w b 208 (osl s tgA it at_ n) rest) : Calls Tryz.prog 108 #[.pointer (some ⟨b, 0, none⟩)] w fun e w' => e = .returned (.bool ((n : Int) == 3)) ∧ Below w.heap.size w w' := by
  have := Outover hS false ((n : Int) == 3) (by rw [osl_tg]; exact beq_eq_false_iff_ne.2 hz) (by rw [osl_ln _ _ _ _ n hn])
  simpa only [Bool.false_or] using this
theorem gone_any {w : World} {b : Nat} {s : CS} {tgA it at_ : Int} {rest : List Value} (n : Nat) (hn : n ≤ 3) (hz : tgA ≠ 0) (hS : SlotAt w b 208 (osl s tgA it at_ n) rest) : Calls Tryz.prog 89 #[.pointer (some ⟨b, 0, none⟩)] w fun e w' => e = .returned (.bool (decide ((1 : Int) < n))) ∧ w' = w := by
  have c0 := hS.c0; have c4 := hS.c4
  rw [osl_tg] at c0
  rw [osl_ln _ _ _ _ n hn] at c4
  have hz' : (tgA != 0) = true := bne_iff_ne.2 hz
  clear hS hz hn
  go_enter Tryz.func89, Tryz.ntmps89
  go_wp2
  go_ret
  exact ⟨rfl, rfl⟩
set_option maxRecDepth 10000 in
set_option maxHeartbeats 1000000 in
theorem run_put {w0 w : World} {B : WB} {V : WV} {s : CS} {b : Nat} {tgA it at_ g r : Int} {m : Nat} (hm : s.n ≤ m ∧ s.cnt ≤ m) (hl : m + 3 < lim) (hlo : w0.heap.size ≤ b) (hz : tgA ≠ 0) (hg : (Lit.int .u64 tgA).wf = true) (hi : (Lit.int .u64 it).wf = true) (hrr : 0 ≤ r ∧ r < 9223372036854775808)
    (h : WS w0 w B V s) (hS : SlotAt w b 210 ⟨tgA, it, at_, 0, 0⟩ [.int .i64 g, .int .i64 r]) :
    Calls Tryz.prog 25 #[.pointer (some ⟨B.wb, 0, none⟩), .iface 67 (.pointer (some ⟨b, 0, none⟩)), .int .i64 9] w fun e w' => e = .returned (.int .i64 3) ∧ WS w0 w' B V (pst s tgA it at_ g r 3) ∧ SlotAt w' b 210 (psl s tgA it at_ r 3) [.int .i64 g, .int .i64 r] ∧ Fx wTy true b w w' := by
  have hst := fun (n : Nat) (hn : n < 3) (W : World) (h1 : WS w0 W B V (pst s tgA it at_ g r n)) h2 => put_step hm hl hlo hz hg hi hrr n hn h1 h2
  have H := Lib.hid h; have HS := Lib.hid hS; have HST := Lib.hid hst; have HZ := Lib.hid hz
  clear h hS hst hg hi hrr hm hl hz
  go_enter Tryz.func25, Tryz.ntmps25
  go_wp2
  go_loopw [7] (fun i wr => ∃ k : Nat, k ≤ 3 ∧ i = .int .i64 k ∧ WS w0 wr B V (pst s tgA it at_ g r k) ∧ SlotAt wr b 210 (psl s tgA it at_ r k) [.int .i64 g, .int .i64 r] ∧ Fx wTy true b w wr) (fun i _ => 3 - (intOf i).toNat)
  case atStart => exact ⟨0, by omega, rfl, H.out, HS.out, (below_fr (Below.refl _ w) wTy true).fx b⟩
  case round =>
    obtain ⟨k, hk, rfl, h1, h2, h3⟩ := hrel
    have hov := put_over k hk HZ.out h2
    by_cases hlt : k < 3
    · have hk9 : (k : Int) < 9 := by omega
      have hk3 : ((k : Int) == 3) = false := by rw [beq_eq_false_iff_ne]; omega
      rw [hk3] at hov
      have hcall := fun (W : World) (hb : Below wr.heap.size wr W) => HST.out k hlt W (h1.keep hb) (h2.below hb)
      have HC := Lib.hid hcall; have H3 := Lib.hid h3
      clear h1 h2 h3 hcall hk3
      go_wp2_with (first
        | (go_at_call 109; refine hov.mono ?_; rintro e w2 ⟨rfl, b2⟩; have hc := HC.out _ b2; have B2 := Lib.hid b2; clear b2 hov)
        | (go_at_call 111; refine hc.mono ?_; rintro e w3 ⟨⟨o, rfl⟩, g1, g2, g3⟩; have G1 := Lib.hid g1; have G2 := Lib.hid g2; have G3 := Lib.hid g3; clear g1 g2 g3 hc))
      exact ⟨⟨k + 1, by omega, by go_num, G1.out, G2.out, (H3.out.trans ((below_fr B2.out wTy true).fx b)).trans G3.out⟩, by simp [intOf]; omega⟩
    · obtain rfl : k = 3 := by omega
      have H1 := Lib.hid h1; have H2 := Lib.hid h2; have H3 := Lib.hid h3
      rw [show (((3 : Nat) : Int) == 3) = true from rfl] at hov
      clear h1 h2 h3
      go_wp2_with (go_at_call 109; refine hov.mono ?_; rintro e w2 ⟨rfl, b2⟩)
      go_ret
      exact ⟨rfl, H1.out.keep b2, H2.out.below b2, H3.out.trans ((below_fr b2 wTy true).fx b)⟩
end Go.Proofs.YtjfocckdbaaimaaGreat

/-
  Layer 13's examples.
-/
namespace Go.Proofs.YtjfocckdbaaimaaGreat
open Go.RowKit Go.Maps TagPure
set_option linter.unusedVariables false

theorem ex_it (n : Nat) (hn : n ≤ 3) (h3 : n = 3 ∨ n = 1) : True := trivial
def exs : CS := pst (CS.init [(2, tword 1 0)]) 4120 4123 2 7 5 3
theorem exs_le : exs.n ≤ 10 ∧ exs.cnt ≤ 10 := ⟨by decide, by decide⟩
theorem exs_it : exs.val 4123 = 5 := by decide
theorem exs_tg : exs.val 4120 = 458752 := by decide
def exo : CS := ost exs 4120 4123 2 3
theorem exo_it : exo.val 4123 = 0 := by decide
theorem exo_tg : exo.val 4120 = 0 := by decide
theorem spot3 (w : World) (q : Nat) (a b c : Value) (T : TypeId) (h : w.heap[q]? = some (.cells #[a, b, c] T (0, 0))) : w.cell? ⟨q, 0, none⟩ = some a ∧ w.cell? ⟨q, 1, none⟩ = some b ∧ w.cell? ⟨q, 2, none⟩ = some c := ⟨hcell h 0, hcell h 1, hcell h 2⟩
set_option maxRecDepth 10000 in
set_option maxHeartbeats 2000000 in
theorem lives13 (w : World) : Calls Tryz.prog 17 #[] w fun e w' => e = .returned (.bool true) ∧ Below w.heap.size w w' := by
  have et : tagsA 1 1 = 4120 := by decide
  have ei : itemA 1 1 2 = 4123 := by decide
  have es : sof 1 1 2 = ⟨4120, 4123, 2, 0, 0⟩ := by unfold sof; rw [et, ei]; rfl
  have htags := fun {W : World} (st : ExtW W) => tags_any 1 1 st.val
  have hitem := fun {W : World} (st : ExtW W) => item_any 1 1 2 (by decide) st.val
  rw [et] at htags
  rw [ei] at hitem
  have hnp := fun W => newput_in 1 1 2 7 5 (by decide) (by decide) (by decide) W
  have hno := fun W => newout_any 1 1 2 (by decide) W
  rw [es] at hnp hno
  have e4123 := exs_it; have e4120 := exs_tg
  clear et ei es
  go_enter Tryz.func17, Tryz.ntmps17
  go_upto_region 5 with (first
    | (go_at_call 85; refine (world12w 1 (by decide) w).mono ?_; rintro e w1 ⟨B, rfl, h1⟩; have H1 := Lib.hid h1; clear h1))
  have hq0 := heap_alloc_new w1 (.cells #[.int .i64 1, .int .i64 1, .int .i64 2] 43)
  have hb0 := below_alloc w1 (.cells #[.int .i64 1, .int .i64 1, .int .i64 2] 43)
  have H2 := Lib.hid (H1.out.keep hb0)
  have HW1 : Hid (w.heap.size ≤ w1.heap.size) := H1.out.below.size
  generalize w1.alloc (.cells #[.int .i64 1, .int .i64 1, .int .i64 2] 43) = w2 at *
  generalize w1.heap.size = q at *
  have c0 := H2.out.c0
  obtain ⟨c1, c2, c3⟩ := spot3 _ _ _ _ _ _ hq0
  have HQ := Lib.hid hq0
  clear hq0 hb0 H1
  go_upto_region 6 with (first
    | (go_at_call 24; refine (hnp _).mono ?_; rintro e w3 ⟨b, rfl, p3, l3, b3⟩; have hq3 := (b3.block _ (Array.getElem?_eq_some_iff.1 HQ.out).1).trans HQ.out; have H3 := Lib.hid (H2.out.keep b3); have HL := Lib.hid (show w.heap.size ≤ b from Nat.le_trans H2.out.below.size l3); have HNE := Lib.hid (show q ≠ b from Nat.ne_of_lt (Nat.lt_of_lt_of_le (Array.getElem?_eq_some_iff.1 HQ.out).1 l3)); have P3 := Lib.hid p3; clear p3 l3 b3)
    | (go_at_call 25; refine (run_put (m := 1) ⟨by decide, by decide⟩ (by unfold lim; decide) HL.out (by decide) (by decide) (by decide) (by decide) H3.out P3.out).mono ?_; rintro e w4 ⟨rfl, h4, p4, f4⟩; have hq4 := f4.cells _ _ _ _ hq3 rfl HNE.out; have H4 : Hid (WS w w4 B (v0 ⟨1, 8, 3, 1, 16⟩) exs) := h4; have HQ4 := Lib.hid hq4; clear h4 p4 f4 hq4 hq3))
  clear c0 c1 c2 c3 H2 H3 P3 HQ hnp
  have hp1 := fun st => H4.out.peekx 4123 (by decide) st
  have hp2 := fun st => H4.out.peekx 4120 (by decide) st
  rw [e4123] at hp1
  rw [e4120] at hp2
  have x0 := fun st : ExtW w4 => st.cell H4.out.c0
  have x1 := fun st : ExtW w4 => st.cell (spot3 _ _ _ _ _ _ HQ4.out).1
  have x2 := fun st : ExtW w4 => st.cell (spot3 _ _ _ _ _ _ HQ4.out).2.1
  have x3 := fun st : ExtW w4 => st.cell (spot3 _ _ _ _ _ _ HQ4.out).2.2
  refine wp_region_ext (by kernel_rfl) (by kernel_rfl) ?_
  repeat (go_big_quiet_step (first
    | (go_at_call 87; with_reducible refine calls_ext (htags _))
    | (go_at_call 86; with_reducible refine calls_ext (hitem _))
    | (go_at_call 30; with_reducible refine calls_ext_same (hp1 _))
    | (go_at_call 30; with_reducible refine calls_ext_same (hp2 _))))
  refine wpQuiet_nil ?_
  rintro W ⟨⟨W5, hW⟩, rfl⟩
  have H5 := Lib.hid (H4.out.keep hW)
  have hq5 := (hW.block _ (Array.getElem?_eq_some_iff.1 HQ4.out).1).trans HQ4.out
  obtain ⟨c1, c2, c3⟩ := spot3 _ _ _ _ _ _ hq5
  have HQ5 := Lib.hid hq5
  clear x0 x1 x2 x3 hp1 hp2 hW hq5 H4 HQ4
  go_upto_region 9 with (fail)
  go_upto_region 10 with (first
    | (go_at_call 23; refine (hno _).mono ?_; rintro e w6 ⟨b6, rfl, p6, l6, bb6⟩; have hq6 := (bb6.block _ (Array.getElem?_eq_some_iff.1 HQ5.out).1).trans HQ5.out; have H6 := Lib.hid (H5.out.keep bb6); have HL6 := Lib.hid (show w.heap.size ≤ b6 from Nat.le_trans H5.out.below.size l6); have HNE6 := Lib.hid (show q ≠ b6 from Nat.ne_of_lt (Nat.lt_of_lt_of_le (Array.getElem?_eq_some_iff.1 HQ5.out).1 l6)); have P6 := Lib.hid p6; have HQ6 := Lib.hid hq6; clear p6 l6 bb6 hq6)
    | (go_at_call 88; refine (out_step (m := 10) exs_le (by unfold lim; decide) HL6.out (by decide) (by decide) (by decide) 0 (by decide) H6.out P6.out).mono ?_; rintro e w7 ⟨⟨o, rfl⟩, h7, p7, f7⟩; have hq7 := f7.cells _ _ _ _ HQ6.out rfl HNE6.out; have H7 := Lib.hid h7; have P7 := Lib.hid p7; have HQ7 := Lib.hid hq7; have hgo := gone_any 1 (by decide) (by decide) p7; clear h7 p7 f7 hq7))
  clear c1 c2 c3
  go_upto_region 12 with (first
    | (go_at_call 89; refine hgo.mono ?_; rintro e w' ⟨rfl, hw⟩; obtain rfl := hw.symm; clear hgo)
    | (go_at_call 88; refine (out_step (m := 10) exs_le (by unfold lim; decide) HL6.out (by decide) (by decide) (by decide) 1 (by decide) H7.out P7.out).mono ?_; rintro e w8 ⟨⟨o2, rfl⟩, h8, p8, f8⟩; have hq8 := f8.cells _ _ _ _ HQ7.out rfl HNE6.out; have H8 := Lib.hid h8; have P8 := Lib.hid p8; have HQ8 := Lib.hid hq8; clear h8 p8 f8 hq8))
  have x0 := fun st : ExtW w8 => st.cell H8.out.c0
  have hg2 : ∀ st : ExtW w8, Calls Tryz.prog 89 #[.pointer (some ⟨b6, 0, none⟩)] st.val fun e w' => e = .returned (.bool (decide ((1 : Int) < (2 : Nat)))) ∧ st.val = w' := fun st => (gone_any 2 (by decide) (by decide) (P8.out.below st.below)).mono fun e w' ⟨he, hw⟩ => ⟨he, hw.symm⟩
  refine wp_region_segs [9] (by kernel_rfl) (by kernel_rfl) (by kernel_rfl) ?_
  simp only [Segs, List.take_succ_cons, List.take_zero, List.drop_succ_cons, List.drop_zero]
  repeat (go_big_quiet_step ((go_at_call 89; with_reducible refine calls_ext_same (hg2 _))))
  refine wpQuiet_nil ?_
  rintro W ⟨⟨W9, hW⟩, rfl⟩
  clear x0 hg2
  refine seg_call rfl (by kernel_rfl) 88 #[.pointer (some ⟨b6, 0, none⟩), .pointer (some ⟨B.wb, 0, none⟩)] (by kernel_rfl) ?_
  refine (out_step2 (H8.out.keep hW) (CS.room_of (10 + 2) (ost_le exs_le 2 (by decide)) (by unfold lim; decide)) HL6.out (P8.out.below hW) (by decide) (by decide) rfl (by decide)).mono ?_
  rintro e w10 ⟨rfl, h10, p10, f10⟩
  have h10 : WS w w10 B (v0 ⟨1, 8, 3, 1, 16⟩) exo := h10
  have hq10 := f10.cells _ _ _ _ ((hW.block _ (Array.getElem?_eq_some_iff.1 HQ8.out).1).trans HQ8.out) rfl HNE6.out
  refine ⟨_, rfl, ?_⟩
  simp only [List.getElem_toArray, List.getElem_cons_succ, List.getElem_cons_zero]
  go_frame
  have H10 := Lib.hid h10
  have hp1 := fun st => h10.peekx 4123 (by decide) st
  have hp2 := fun st => h10.peekx 4120 (by decide) st
  rw [exo_it] at hp1
  rw [exo_tg] at hp2
  have x0 := fun st : ExtW w10 => st.cell h10.c0
  have x1 := fun st : ExtW w10 => st.cell (spot3 _ _ _ _ _ _ hq10).1
  have x2 := fun st : ExtW w10 => st.cell (spot3 _ _ _ _ _ _ hq10).2.1
  have x3 := fun st : ExtW w10 => st.cell (spot3 _ _ _ _ _ _ hq10).2.2
  clear h10 hq10 p10 f10 hW
  repeat (go_big_quiet_step (first
    | (go_at_call 87; with_reducible refine calls_ext (htags _))
    | (go_at_call 86; with_reducible refine calls_ext (hitem _))
    | (go_at_call 30; with_reducible refine calls_ext_same (hp1 _))
    | (go_at_call 30; with_reducible refine calls_ext_same (hp2 _))))
  refine wpQuiet_nil ?_
  rintro W12 ⟨⟨W11, hW11⟩, rfl⟩
  clear x0 x1 x2 x3 hp1 hp2
  go_wp2
  go_ret
  exact ⟨rfl, (H10.out.keep hW11).below⟩
end Go.Proofs.YtjfocckdbaaimaaGreat

/-
  Puts: what is not there, what is over, what has no world.
-/
namespace Go.Proofs.YtjfocckdbaaimaaGreat
open Go.RowKit Go.Maps
set_option linter.unusedVariables false

theorem pover_nil (w : World) : Calls Tryz.prog 109 #[.pointer none] w fun e w' => e = .returned (.bool true) ∧ Below w.heap.size w w' := by
  go_enter Tryz.func109, Tryz.ntmps109
  go_wp2_with fail
  refine wp_region_ext (by kernel_rfl) (by kernel_rfl) ?_
  repeat (go_big_quiet_step (fail))
  refine wpQuiet_nil ?_
  rintro W ⟨⟨W2, hW⟩, rfl⟩
  go_wp2
  go_ret
  exact ⟨rfl, hW⟩
theorem oover_nil (w : World) : Calls Tryz.prog 108 #[.pointer none] w fun e w' => e = .returned (.bool true) ∧ Below w.heap.size w w' := by
  go_enter Tryz.func108, Tryz.ntmps108
  go_wp2_with fail
  refine wp_region_ext (by kernel_rfl) (by kernel_rfl) ?_
  repeat (go_big_quiet_step (fail))
  refine wpQuiet_nil ?_
  rintro W ⟨⟨W2, hW⟩, rfl⟩
  go_wp2
  go_ret
  exact ⟨rfl, hW⟩
theorem gone_nil (w : World) : Calls Tryz.prog 89 #[.pointer none] w fun e w' => e = .returned (.bool false) ∧ w' = w := by
  go_enter Tryz.func89, Tryz.ntmps89
  go_wp2
  go_ret
  exact ⟨rfl, rfl⟩
theorem gone_not {w : World} {b : Nat} {σ : SL} {rest : List Value} (hS : SlotAt w b 208 σ rest) (h : σ.tg = 0 ∨ σ.ln = 0) : Calls Tryz.prog 89 #[.pointer (some ⟨b, 0, none⟩)] w fun e w' => e = .returned (.bool false) ∧ w' = w := by
  have c0 := hS.c0; have c4 := hS.c4
  clear hS
  by_cases hz : σ.tg = 0
  · rw [hz] at c0
    clear h hz
    go_enter Tryz.func89, Tryz.ntmps89
    go_wp2
    go_ret
    exact ⟨rfl, rfl⟩
  · rw [h.resolve_left hz] at c4
    have hz' : (σ.tg != 0) = true := bne_iff_ne.2 hz
    clear h hz
    go_enter Tryz.func89, Tryz.ntmps89
    go_wp2
    go_ret
    exact ⟨rfl, rfl⟩
/-- A Put that is over, or none; an Out likewise. -/
def VPut (w : World) (v : Value) : Prop := v = .pointer none ∨ ∃ b σ rest, v = .pointer (some ⟨b, 0, none⟩) ∧ SlotAt w b 210 σ rest ∧ σ.tg = 0
def VOut (w : World) (v : Value) : Prop := v = .pointer none ∨ ∃ b σ rest, v = .pointer (some ⟨b, 0, none⟩) ∧ SlotAt w b 208 σ rest ∧ σ.tg = 0
theorem VPut.fr {K : TypeId → Bool} {mp : Bool} {w w' : World} {v : Value} (h : VPut w v) (hf : Fr K mp w w') (h1 : K 210 = false) : VPut w' v := by
  rcases h with rfl | ⟨b, σ, rest, rfl, h, hz⟩
  · exact .inl rfl
  · exact .inr ⟨b, σ, rest, rfl, hf.cells _ _ _ _ h h1, hz⟩
theorem VOut.fr {K : TypeId → Bool} {mp : Bool} {w w' : World} {v : Value} (h : VOut w v) (hf : Fr K mp w w') (h1 : K 208 = false) : VOut w' v := by
  rcases h with rfl | ⟨b, σ, rest, rfl, h, hz⟩
  · exact .inl rfl
  · exact .inr ⟨b, σ, rest, rfl, hf.cells _ _ _ _ h h1, hz⟩
theorem VPut.below {w w' : World} {v : Value} (h : VPut w v) (hb : Below w.heap.size w w') : VPut w' v := h.fr (below_fr hb (fun _ => false) false) rfl
theorem VOut.below {w w' : World} {v : Value} (h : VOut w v) (hb : Below w.heap.size w w') : VOut w' v := h.fr (below_fr hb (fun _ => false) false) rfl
theorem VPut.over {w : World} {v : Value} (h : VPut w v) : Calls Tryz.prog 109 #[v] w fun e w' => e = .returned (.bool true) ∧ Below w.heap.size w w' := by
  rcases h with rfl | ⟨b, σ, rest, rfl, h, hz⟩
  · exact pover_nil w
  · exact Putover h true (σ.ln == 3) (by rw [hz]; rfl) rfl
theorem VOut.over {w : World} {v : Value} (h : VOut w v) : Calls Tryz.prog 108 #[v] w fun e w' => e = .returned (.bool true) ∧ Below w.heap.size w w' := by
  rcases h with rfl | ⟨b, σ, rest, rfl, h, hz⟩
  · exact oover_nil w
  · exact Outover h true (σ.ln == 3) (by rw [hz]; rfl) rfl
theorem VOut.gone {w : World} {v : Value} (h : VOut w v) : Calls Tryz.prog 89 #[v] w fun e w' => e = .returned (.bool false) ∧ w' = w := by
  rcases h with rfl | ⟨b, σ, rest, rfl, h, hz⟩
  · exact gone_nil w
  · exact gone_not h (.inl hz)
theorem VPut.step {w : World} {v : Value} (u : Value) (h : VPut w v) : Calls Tryz.prog 111 #[v, u] w fun e w' => e = .returned (.bool true) ∧ Below w.heap.size w w' := by
  have ho := h.over
  have H := Lib.hid h
  clear h
  go_enter Tryz.func111, Tryz.ntmps111
  go_upto_region 4 with (go_at_call 109; refine ho.mono ?_; rintro e w1 ⟨rfl, b1⟩; have HB := Lib.hid b1; have ho2 := (H.out.below b1).over; clear b1 ho)
  go_wp2_with (go_at_call 109; refine ho2.mono ?_; rintro e w2 ⟨rfl, b2⟩)
  go_ret
  exact ⟨rfl, HB.out.trans (b2.mono HB.out.size)⟩
theorem VOut.step {w : World} {v : Value} (u : Value) (h : VOut w v) : Calls Tryz.prog 88 #[v, u] w fun e w' => e = .returned (.bool true) ∧ Below w.heap.size w w' := by
  have ho := h.over
  have H := Lib.hid h
  clear h
  go_enter Tryz.func88, Tryz.ntmps88
  go_upto_region 4 with (go_at_call 108; refine ho.mono ?_; rintro e w1 ⟨rfl, b1⟩; have HB := Lib.hid b1; have ho2 := (H.out.below b1).over; clear b1 ho)
  go_wp2_with (go_at_call 108; refine ho2.mono ?_; rintro e w2 ⟨rfl, b2⟩)
  go_ret
  exact ⟨rfl, HB.out.trans (b2.mono HB.out.size)⟩
theorem pstep_no {w : World} {b : Nat} {σ : SL} {rest : List Value} (h : SlotAt w b 210 σ rest) (h0 : (σ.tg == 0) = false) (h4 : (σ.ln == 3) = false) : Calls Tryz.prog 111 #[.pointer (some ⟨b, 0, none⟩), .pointer none] w fun e w' => e = .returned (.bool false) ∧ Below w.heap.size w w' := by
  have ho := Putover h false false h0 h4
  have H := Lib.hid h; have H0 := Lib.hid h0; have H4 := Lib.hid h4
  clear h h0 h4
  go_enter Tryz.func111, Tryz.ntmps111
  go_upto_region 4 with (go_at_call 109; refine ho.mono ?_; rintro e w1 ⟨rfl, b1⟩; have HB := Lib.hid b1; have ho2 := Putover (H.out.below b1) false false H0.out H4.out; clear b1 ho)
  go_wp2_with (go_at_call 109; refine ho2.mono ?_; rintro e w2 ⟨rfl, b2⟩)
  go_ret
  exact ⟨rfl, HB.out.trans (b2.mono HB.out.size)⟩
theorem ostep_no {w : World} {b : Nat} {σ : SL} {rest : List Value} (h : SlotAt w b 208 σ rest) (h0 : (σ.tg == 0) = false) (h4 : (σ.ln == 3) = false) : Calls Tryz.prog 88 #[.pointer (some ⟨b, 0, none⟩), .pointer none] w fun e w' => e = .returned (.bool false) ∧ Below w.heap.size w w' := by
  have ho := Outover h false false h0 h4
  have H := Lib.hid h; have H0 := Lib.hid h0; have H4 := Lib.hid h4
  clear h h0 h4
  go_enter Tryz.func88, Tryz.ntmps88
  go_upto_region 4 with (go_at_call 108; refine ho.mono ?_; rintro e w1 ⟨rfl, b1⟩; have HB := Lib.hid b1; have ho2 := Outover (H.out.below b1) false false H0.out H4.out; clear b1 ho)
  go_wp2_with (go_at_call 108; refine ho2.mono ?_; rintro e w2 ⟨rfl, b2⟩)
  go_ret
  exact ⟨rfl, HB.out.trans (b2.mono HB.out.size)⟩
theorem newput_out (b u s g r : Int) (h : g < 1 ∨ 255 < g ∨ r < 1) (w : World) : Calls Tryz.prog 24 #[.agg #[.int .i64 b, .int .i64 u, .int .i64 s], .int .i64 g, .int .i64 r] w
    fun e w' => ∃ q, e = .returned (.pointer (some ⟨q, 0, none⟩)) ∧ VPut w' (.pointer (some ⟨q, 0, none⟩)) ∧ Below w.heap.size w w' := by
  have hb := below_alloc w (.cells #[.int .i64 b, .int .i64 u, .int .i64 s] 43)
  have e : (w.alloc (.cells #[.int .i64 b, .int .i64 u, .int .i64 s] 43)).heap.size = w.heap.size + 1 := by simp
  have fin : VPut ((w.alloc (.cells #[.int .i64 b, .int .i64 u, .int .i64 s] 43)).alloc (.cells #[.int .u64 0, .int .u64 0, .int .i64 0, .int .u64 0, .int .i64 0, .int .i64 0, .int .i64 0] 210)) (.pointer (some ⟨w.heap.size + 1, 0, none⟩)) ∧ Below w.heap.size w ((w.alloc (.cells #[.int .i64 b, .int .i64 u, .int .i64 s] 43)).alloc (.cells #[.int .u64 0, .int .u64 0, .int .i64 0, .int .u64 0, .int .i64 0, .int .i64 0, .int .i64 0] 210)) :=
    ⟨.inr ⟨_, ⟨0, 0, 0, 0, 0⟩, [.int .i64 0, .int .i64 0], rfl, heap_alloc_at _ _ e.symm, rfl⟩, hb.trans ((below_alloc _ _).mono hb.size)⟩
  have F := Lib.hid fin
  clear fin e hb
  by_cases h1 : g < 1
  · have d1 : decide (g < 1) = true := decide_eq_true h1
    clear h h1
    go_enter Tryz.func24, Tryz.ntmps24
    go_wp2
    go_ret
    exact ⟨w.heap.size + 1, rfl, F.out.1, F.out.2⟩
  have d1 : decide (g < 1) = false := decide_eq_false h1
  by_cases h2 : 255 < g
  · have d2 : decide (255 < g) = true := decide_eq_true h2
    clear h h1 h2
    go_enter Tryz.func24, Tryz.ntmps24
    go_wp2
    go_ret
    exact ⟨w.heap.size + 1, rfl, F.out.1, F.out.2⟩
  have d2 : decide (255 < g) = false := decide_eq_false h2
  have d3 : decide (r < 1) = true := decide_eq_true ((h.resolve_left h1).resolve_left h2)
  clear h h1 h2
  go_enter Tryz.func24, Tryz.ntmps24
  go_wp2
  go_ret
  exact ⟨w.heap.size + 1, rfl, F.out.1, F.out.2⟩
theorem sof_out {b u s : Int} (h : itemA b u s = 0) : (sof b u s).tg = 0 := by unfold sof; rw [if_pos h]
end Go.Proofs.YtjfocckdbaaimaaGreat

/-
  The document's Put and Out: a step. (written by genputref.py)
-/
namespace Go.Proofs.YtjfocckdbaaimaaGreat
open Go.RowKit Go.Maps
set_option linter.unusedVariables false

/-- The document's Op in memory. -/
abbrev opC (ln : Int) (gone out : Bool) (b u s g r y : Int) : Array Value := #[.int .i64 ln, .bool gone, .bool out, .int .i64 b, .int .i64 u, .int .i64 s, .int .i64 g, .int .i64 r, .int .u64 y]
def ROp (w : World) (rb : Nat) (ln : Int) (gone out : Bool) (b u s g r y : Int) : Prop := w.heap[rb]? = some (.cells (opC ln gone out b u s g r y) 226 (0, 0))
theorem rd_set' {w0 w : World} {B : WB} {V : WV} {x : RS} {b o : Nat} {cs : Array Value} {T : TypeId} (h : RD w0 w B V x) (hb : w.heap[b]? = some (.cells cs T (0, 0))) (hT : rTy T = false) (hlo : w0.heap.size ≤ b) (v : Value) : RD w0 (w.setCell ⟨b, o, none⟩ v) B V x :=
  h.fr (set_ty hb o v) (fun X hX => by cases hXT : (X == T); rfl; rw [beq_iff_eq] at hXT; subst hXT; rw [hX] at hT; cases hT) (set_below h.below h.below.size hlo o v)
section
variable {w0 w : World} {B : WB} {V : WV} {x : RS} {rb : Nat} {b u s g r y : Int} {gone out : Bool}

set_option maxRecDepth 10000 in
set_option maxHeartbeats 1000000 in
theorem rop_over (hs : (Lit.int .i64 s).wf = true) (v : Value) (hO : ROp w rb 0 gone out b u s g r y) : Calls Tryz.prog 110 #[.pointer (some ⟨rb, 0, none⟩), v] w fun e w' => e = .returned (.tuple #[]) ∧ Below w.heap.size w w' := by
  have c3 := hcell hO 3
  have c4 := hcell hO 4
  have HO := Lib.hid hO; have HS := Lib.hid hs
  clear hO hs
  go_enter Tryz.func110, Tryz.ntmps110
  go_upto_region 1 with (go_at_call 142; refine (rtags_any b u _).mono ?_; intro e w1 hh; obtain ⟨hh1, b1⟩ := hh; subst hh1; have B1 := Lib.hid b1; clear b1)
  have hO1 := (B1.out.block _ (Array.getElem?_eq_some_iff.1 HO.out).1).trans HO.out
  clear c3 c4
  have c3 := hcell hO1 3
  have c4 := hcell hO1 4
  have c5 := hcell hO1 5
  have HO1 := Lib.hid hO1
  clear hO1
  go_upto_region 3 with (go_at_call 107; refine (ritem_any b u s HS.out _).mono ?_; intro e w2 hh; obtain ⟨hh1, b2⟩ := hh; subst hh1; have B2 := Lib.hid b2; clear b2)
  have hO2 := (B2.out.block _ (Array.getElem?_eq_some_iff.1 HO1.out).1).trans HO1.out
  clear c3 c4 c5
  have c0 := hcell hO2 0
  have HB := Lib.hid (B1.out.trans (B2.out.mono B1.out.size))
  clear hO2
  go_wp2
  first
    | (go_ret; exact ⟨rfl, HB.out⟩)
    | (refine bodyPost_ret (v := .tuple #[]) (by rfl) rfl ⟨rfl, HB.out⟩)
    | (refine bodyPost_ret (v := .tuple #[]) (by simp [results, Tryz.results110, go_sem]) rfl ⟨rfl, HB.out⟩)

set_option maxRecDepth 10000 in
set_option maxHeartbeats 1000000 in
theorem rput0 (h : RD w0 w B V x) (hr : x.room) (hs : (Lit.int .i64 s).wf = true) (hlo : w0.heap.size ≤ rb) (hy : 0 ≤ y ∧ y < 18446744073709551616) (hrr : 0 ≤ r ∧ r < 9223372036854775808) (hO : ROp w rb 1 gone false b u s g r y) :
    Calls Tryz.prog 110 #[.pointer (some ⟨rb, 0, none⟩), .pointer (some ⟨B.wb, 0, none⟩)] w fun e w' => e = .returned (.tuple #[]) ∧ RD w0 w' B V (x.acc 2 (itemA b u s) (r)) ∧ ROp w' rb 2 gone false b u s g r (y) ∧ Fx rTy false rb w w' := by
  have hta := tagsA_wf b u
  have hia := itemA_wf b u s
  have ht : ∀ W, Calls Tryz.prog 142 #[.agg #[.int .i64 b, .int .i64 u]] W fun e w' => e = .returned (.int .u64 (tagsA b u)) ∧ Below W.heap.size W w' := fun W => rtags_any b u W
  have hi : ∀ W, Calls Tryz.prog 107 #[.agg #[.int .i64 b, .int .i64 u, .int .i64 s]] W fun e w' => e = .returned (.int .u64 (itemA b u s)) ∧ Below W.heap.size W w' := fun W => ritem_any b u s hs W
  generalize tagsA b u = ta at *
  generalize itemA b u s = ia at *
  have e64 : IntKind.u64.wrap r = r := by rw [show IntKind.u64.wrap r = r % 18446744073709551616 from wu_eq r]; omega
  have hacc : ∀ W, Below w.heap.size w W → Calls Tryz.prog 104 #[.pointer (some ⟨B.wb, 0, none⟩), .int .u64 ia, .int .u64 r] W fun e w' => e = .returned (.int .u64 (rlook x.l ia)) ∧ RD w0 w' B V (x.acc 2 ia r) ∧ Fr rTy false W w' := fun W hW => rwstore (h.keep hW) hr ia hia r (bd_wf ⟨hrr.1, by omega⟩)
  have c3 := hcell hO 3
  have c4 := hcell hO 4
  have HACC := Lib.hid hacc; have HO := Lib.hid hO
  clear h hr hs hy hrr hO hta hia hacc
  go_enter Tryz.func110, Tryz.ntmps110
  go_upto_region 1 with (go_at_call 142; refine (ht _).mono ?_; intro e w1 hh; obtain ⟨hh1, b1⟩ := hh; subst hh1; have B1 := Lib.hid b1; clear b1)
  have hO1 := (B1.out.block _ (Array.getElem?_eq_some_iff.1 HO.out).1).trans HO.out
  clear c3 c4
  have c3 := hcell hO1 3
  have c4 := hcell hO1 4
  have c5 := hcell hO1 5
  have HO1 := Lib.hid hO1
  clear hO1
  go_upto_region 3 with (go_at_call 107; refine (hi _).mono ?_; intro e w2 hh; obtain ⟨hh1, b2⟩ := hh; subst hh1; have B2 := Lib.hid b2; clear b2)
  have hO2 := (B2.out.block _ (Array.getElem?_eq_some_iff.1 HO1.out).1).trans HO1.out
  clear c3 c4 c5 ht hi
  have c0 := hcell hO2 0; have c2 := hcell hO2 2
  have c7 := hcell hO2 7
  have HB := Lib.hid (B1.out.trans (B2.out.mono B1.out.size))
  have HO2 := Lib.hid hO2
  clear hO2 HO HO1 B1 B2
  have hacc := HACC.out _ HB.out
  go_upto_region 14 with (go_at_call 104; refine hacc.mono ?_; intro e w5 hh; obtain ⟨hh1, h5, f5⟩ := hh; subst hh1; have H5 := Lib.hid h5; have F5 := Lib.hid f5; clear h5 f5 hacc)
  have hO6 : ROp w5 rb 1 gone false b u s g r y := F5.out.cells _ _ _ _ HO2.out rfl
  have HO6 := Lib.hid hO6; have H6 := H5; have F6 : Hid (Fx rTy false rb w w5) := ((below_fr HB.out rTy false).trans F5.out).fx rb
  clear hO6 c0 c2 c7
  generalize w5 = w6 at *
  have z0 := hcell HO6.out 0
  have zf := hfrz HO6.out 0
  go_wp2
  go_end0
  exact ⟨rfl, rd_set' (o := 0) H6.out HO6.out rfl hlo _, setCell_same HO6.out 0 _, F6.out.trans (set_fx _ _ _ _ _ _)⟩
set_option maxRecDepth 10000 in
set_option maxHeartbeats 1000000 in
theorem rput1 (h : RD w0 w B V x) (hr : x.room) (hs : (Lit.int .i64 s).wf = true) (hlo : w0.heap.size ≤ rb) (hy : 0 ≤ y ∧ y < 18446744073709551616) (hrr : 0 ≤ r ∧ r < 9223372036854775808) (hO : ROp w rb 2 gone false b u s g r y) :
    Calls Tryz.prog 110 #[.pointer (some ⟨rb, 0, none⟩), .pointer (some ⟨B.wb, 0, none⟩)] w fun e w' => e = .returned (.tuple #[]) ∧ RD w0 w' B V (x.acc 1 (tagsA b u) (rlook x.l (tagsA b u))) ∧ ROp w' rb 3 gone false b u s g r (rlook x.l (tagsA b u)) ∧ Fx rTy false rb w w' := by
  have hta := tagsA_wf b u
  have hia := itemA_wf b u s
  have ht : ∀ W, Calls Tryz.prog 142 #[.agg #[.int .i64 b, .int .i64 u]] W fun e w' => e = .returned (.int .u64 (tagsA b u)) ∧ Below W.heap.size W w' := fun W => rtags_any b u W
  have hi : ∀ W, Calls Tryz.prog 107 #[.agg #[.int .i64 b, .int .i64 u, .int .i64 s]] W fun e w' => e = .returned (.int .u64 (itemA b u s)) ∧ Below W.heap.size W w' := fun W => ritem_any b u s hs W
  generalize tagsA b u = ta at *
  generalize itemA b u s = ia at *
  have hacc : ∀ W, Below w.heap.size w W → Calls Tryz.prog 77 #[.pointer (some ⟨B.wb, 0, none⟩), .int .u64 ta] W fun e w' => e = .returned (.int .u64 (rlook x.l ta)) ∧ RD w0 w' B V (x.acc 1 ta (rlook x.l ta)) ∧ Fr rTy false W w' := fun W hW => rwload (h.keep hW) hr ta hta
  have c3 := hcell hO 3
  have c4 := hcell hO 4
  have HACC := Lib.hid hacc; have HO := Lib.hid hO
  clear h hr hs hy hrr hO hta hia hacc
  go_enter Tryz.func110, Tryz.ntmps110
  go_upto_region 1 with (go_at_call 142; refine (ht _).mono ?_; intro e w1 hh; obtain ⟨hh1, b1⟩ := hh; subst hh1; have B1 := Lib.hid b1; clear b1)
  have hO1 := (B1.out.block _ (Array.getElem?_eq_some_iff.1 HO.out).1).trans HO.out
  clear c3 c4
  have c3 := hcell hO1 3
  have c4 := hcell hO1 4
  have c5 := hcell hO1 5
  have HO1 := Lib.hid hO1
  clear hO1
  go_upto_region 3 with (go_at_call 107; refine (hi _).mono ?_; intro e w2 hh; obtain ⟨hh1, b2⟩ := hh; subst hh1; have B2 := Lib.hid b2; clear b2)
  have hO2 := (B2.out.block _ (Array.getElem?_eq_some_iff.1 HO1.out).1).trans HO1.out
  clear c3 c4 c5 ht hi
  have c0 := hcell hO2 0; have c2 := hcell hO2 2
  have HB := Lib.hid (B1.out.trans (B2.out.mono B1.out.size))
  have HO2 := Lib.hid hO2
  clear hO2 HO HO1 B1 B2
  have hacc := HACC.out _ HB.out
  have hacc2 : Calls Tryz.prog 77 #[.pointer (some ⟨B.wb, 0, none⟩), .int .u64 ta] w2 fun e w' => e = .returned (.int .u64 (rlook x.l ta)) ∧ RD w0 w' B V (x.acc 1 ta (rlook x.l ta)) ∧ Fr rTy false w2 w' ∧ w'.cell? ⟨rb, 8, none⟩ = some (.int .u64 y) ∧ w'.frozen? ⟨rb, 8, none⟩ = false := hacc.mono fun e w' ⟨h1, h2, h3⟩ => ⟨h1, h2, h3, hcell (h3.cells _ _ _ _ HO2.out rfl) 8, hfrz (h3.cells _ _ _ _ HO2.out rfl) 8⟩
  clear hacc
  go_upto_region 14 with (go_at_call 77; refine hacc2.mono ?_; intro e w5 hh; obtain ⟨hh1, h5, f5, z8, zf⟩ := hh; subst hh1; have H5 := Lib.hid h5; have F5 := Lib.hid f5; clear h5 f5 hacc2)
  have hO5 := F5.out.cells _ _ _ _ HO2.out rfl
  have hO6 : ROp (w5.setCell ⟨rb, 8, none⟩ (.int .u64 (rlook x.l ta))) rb 2 gone false b u s g r (rlook x.l ta) := setCell_same hO5 8 _
  have h6 := rd_set' (o := 8) H5.out hO5 rfl hlo (.int .u64 (rlook x.l ta))
  have f6 : Fx rTy false rb w (w5.setCell ⟨rb, 8, none⟩ (.int .u64 (rlook x.l ta))) := (((below_fr HB.out rTy false).trans F5.out).fx rb).trans (set_fx _ _ _ _ _ _)
  have HO6 := Lib.hid hO6; have H6 := Lib.hid h6; have F6 := Lib.hid f6
  clear hO5 hO6 h6 f6 z8 zf c0 c2
  generalize w5.setCell ⟨rb, 8, none⟩ (.int .u64 (rlook x.l ta)) = w6 at *
  have z0 := hcell HO6.out 0
  have zf := hfrz HO6.out 0
  go_wp2
  go_end0
  exact ⟨rfl, rd_set' (o := 0) H6.out HO6.out rfl hlo _, setCell_same HO6.out 0 _, F6.out.trans (set_fx _ _ _ _ _ _)⟩
set_option maxRecDepth 10000 in
set_option maxHeartbeats 1000000 in
theorem rput2 (h : RD w0 w B V x) (hr : x.room) (hs : (Lit.int .i64 s).wf = true) (hlo : w0.heap.size ≤ rb) (hy : 0 ≤ y ∧ y < 18446744073709551616) (hrr : 0 ≤ r ∧ r < 9223372036854775808) (hO : ROp w rb 3 gone false b u s g r y) :
    Calls Tryz.prog 110 #[.pointer (some ⟨rb, 0, none⟩), .pointer (some ⟨B.wb, 0, none⟩)] w fun e w' => e = .returned (.tuple #[]) ∧ RD w0 w' B V (x.acc 2 (tagsA b u) (TagPure.withOf y s g)) ∧ ROp w' rb 0 gone false b u s g r (y) ∧ Fx rTy false rb w w' := by
  have hta := tagsA_wf b u
  have hia := itemA_wf b u s
  have ht : ∀ W, Calls Tryz.prog 142 #[.agg #[.int .i64 b, .int .i64 u]] W fun e w' => e = .returned (.int .u64 (tagsA b u)) ∧ Below W.heap.size W w' := fun W => rtags_any b u W
  have hi : ∀ W, Calls Tryz.prog 107 #[.agg #[.int .i64 b, .int .i64 u, .int .i64 s]] W fun e w' => e = .returned (.int .u64 (itemA b u s)) ∧ Below W.heap.size W w' := fun W => ritem_any b u s hs W
  generalize tagsA b u = ta at *
  generalize itemA b u s = ia at *
  have hwf : (Lit.int .u64 (TagPure.withOf y s g)).wf = true := withOf_wf y s _ hy.1 hy.2
  have hwith : ∀ W : World, Calls Tryz.prog 143 #[.int .u64 y, .int .i64 s, .int .i64 g] W fun e w' => e = .returned (.int .u64 (TagPure.withOf y s g)) ∧ W = w' := fun W => (rwith_any y s _ W hy.1 hy.2).mono fun e w' ⟨h1, h2⟩ => ⟨h1, h2⟩
  generalize TagPure.withOf y s g = nv at *
  have hacc : ∀ W, Below w.heap.size w W → Calls Tryz.prog 104 #[.pointer (some ⟨B.wb, 0, none⟩), .int .u64 ta, .int .u64 nv] W fun e w' => e = .returned (.int .u64 (rlook x.l ta)) ∧ RD w0 w' B V (x.acc 2 ta nv) ∧ Fr rTy false W w' := fun W hW => rwstore (h.keep hW) hr ta hta nv hwf
  clear hwf
  have c3 := hcell hO 3
  have c4 := hcell hO 4
  have HACC := Lib.hid hacc; have HO := Lib.hid hO
  clear h hr hs hy hrr hO hta hia hacc
  go_enter Tryz.func110, Tryz.ntmps110
  go_upto_region 1 with (go_at_call 142; refine (ht _).mono ?_; intro e w1 hh; obtain ⟨hh1, b1⟩ := hh; subst hh1; have B1 := Lib.hid b1; clear b1)
  have hO1 := (B1.out.block _ (Array.getElem?_eq_some_iff.1 HO.out).1).trans HO.out
  clear c3 c4
  have c3 := hcell hO1 3
  have c4 := hcell hO1 4
  have c5 := hcell hO1 5
  have HO1 := Lib.hid hO1
  clear hO1
  go_upto_region 3 with (go_at_call 107; refine (hi _).mono ?_; intro e w2 hh; obtain ⟨hh1, b2⟩ := hh; subst hh1; have B2 := Lib.hid b2; clear b2)
  have hO2 := (B2.out.block _ (Array.getElem?_eq_some_iff.1 HO1.out).1).trans HO1.out
  clear c3 c4 c5 ht hi
  have c0 := hcell hO2 0; have c2 := hcell hO2 2
  have HB := Lib.hid (B1.out.trans (B2.out.mono B1.out.size))
  have HO2 := Lib.hid hO2
  clear hO2 HO HO1 B1 B2
  go_upto_region 2 with (fail)
  clear c0 c2
  have x8 : ∀ st : ExtW w2, st.val.cell? ⟨rb, 8, none⟩ = some (.int .u64 y) := fun st => st.cell (hcell HO2.out 8)
  have x5 : ∀ st : ExtW w2, st.val.cell? ⟨rb, 5, none⟩ = some (.int .i64 s) := fun st => st.cell (hcell HO2.out 5)
  have x6 : ∀ st : ExtW w2, st.val.cell? ⟨rb, 6, none⟩ = some (.int .i64 g) := fun st => st.cell (hcell HO2.out 6)
  refine wp_region_ext_tail 16 (by kernel_rfl) (by kernel_rfl) ?_
  simp only [List.take_succ_cons, List.take_zero, List.drop_succ_cons, List.drop_zero]
  repeat (go_big_quiet_step ((go_at_call 143; with_reducible refine calls_ext_same (hwith _))))
  refine wpQuiet_nil ?_
  rintro W ⟨⟨W2, hW⟩, rfl⟩
  clear x8 x5 x6 hwith
  have hO3 := (hW.block _ (Array.getElem?_eq_some_iff.1 HO2.out).1).trans HO2.out
  have HO3 := Lib.hid hO3
  have HB3 := Lib.hid (HB.out.trans (hW.mono HB.out.size))
  clear hW hO3
  have hacc := HACC.out _ HB3.out
  go_upto_region 14 with (go_at_call 104; refine hacc.mono ?_; intro e w5 hh; obtain ⟨hh1, h5, f5⟩ := hh; subst hh1; have H5 := Lib.hid h5; have F5 := Lib.hid f5; clear h5 f5 hacc)
  have hO6 : ROp w5 rb 3 gone false b u s g r y := F5.out.cells _ _ _ _ HO3.out rfl
  have HO6 := Lib.hid hO6; have H6 := H5; have F6 : Hid (Fx rTy false rb w w5) := ((below_fr HB3.out rTy false).trans F5.out).fx rb
  clear hO6
  generalize w5 = w6 at *
  have z0 := hcell HO6.out 0
  have zf := hfrz HO6.out 0
  go_wp2
  go_end0
  exact ⟨rfl, rd_set' (o := 0) H6.out HO6.out rfl hlo _, setCell_same HO6.out 0 _, F6.out.trans (set_fx _ _ _ _ _ _)⟩
set_option maxRecDepth 10000 in
set_option maxHeartbeats 1000000 in
theorem rout0 (h : RD w0 w B V x) (hr : x.room) (hs : (Lit.int .i64 s).wf = true) (hlo : w0.heap.size ≤ rb) (hy : 0 ≤ y ∧ y < 18446744073709551616) (hrr : 0 ≤ r ∧ r < 9223372036854775808) (hO : ROp w rb 1 gone true b u s g r y) :
    Calls Tryz.prog 110 #[.pointer (some ⟨rb, 0, none⟩), .pointer (some ⟨B.wb, 0, none⟩)] w fun e w' => e = .returned (.tuple #[]) ∧ RD w0 w' B V (x.acc 1 (tagsA b u) (rlook x.l (tagsA b u))) ∧ ROp w' rb 2 gone true b u s g r (rlook x.l (tagsA b u)) ∧ Fx rTy false rb w w' := by
  have hta := tagsA_wf b u
  have hia := itemA_wf b u s
  have ht : ∀ W, Calls Tryz.prog 142 #[.agg #[.int .i64 b, .int .i64 u]] W fun e w' => e = .returned (.int .u64 (tagsA b u)) ∧ Below W.heap.size W w' := fun W => rtags_any b u W
  have hi : ∀ W, Calls Tryz.prog 107 #[.agg #[.int .i64 b, .int .i64 u, .int .i64 s]] W fun e w' => e = .returned (.int .u64 (itemA b u s)) ∧ Below W.heap.size W w' := fun W => ritem_any b u s hs W
  generalize tagsA b u = ta at *
  generalize itemA b u s = ia at *
  have hacc : ∀ W, Below w.heap.size w W → Calls Tryz.prog 77 #[.pointer (some ⟨B.wb, 0, none⟩), .int .u64 ta] W fun e w' => e = .returned (.int .u64 (rlook x.l ta)) ∧ RD w0 w' B V (x.acc 1 ta (rlook x.l ta)) ∧ Fr rTy false W w' := fun W hW => rwload (h.keep hW) hr ta hta
  have c3 := hcell hO 3
  have c4 := hcell hO 4
  have HACC := Lib.hid hacc; have HO := Lib.hid hO
  clear h hr hs hy hrr hO hta hia hacc
  go_enter Tryz.func110, Tryz.ntmps110
  go_upto_region 1 with (go_at_call 142; refine (ht _).mono ?_; intro e w1 hh; obtain ⟨hh1, b1⟩ := hh; subst hh1; have B1 := Lib.hid b1; clear b1)
  have hO1 := (B1.out.block _ (Array.getElem?_eq_some_iff.1 HO.out).1).trans HO.out
  clear c3 c4
  have c3 := hcell hO1 3
  have c4 := hcell hO1 4
  have c5 := hcell hO1 5
  have HO1 := Lib.hid hO1
  clear hO1
  go_upto_region 3 with (go_at_call 107; refine (hi _).mono ?_; intro e w2 hh; obtain ⟨hh1, b2⟩ := hh; subst hh1; have B2 := Lib.hid b2; clear b2)
  have hO2 := (B2.out.block _ (Array.getElem?_eq_some_iff.1 HO1.out).1).trans HO1.out
  clear c3 c4 c5 ht hi
  have c0 := hcell hO2 0; have c2 := hcell hO2 2
  have HB := Lib.hid (B1.out.trans (B2.out.mono B1.out.size))
  have HO2 := Lib.hid hO2
  clear hO2 HO HO1 B1 B2
  have hacc := HACC.out _ HB.out
  have hacc2 : Calls Tryz.prog 77 #[.pointer (some ⟨B.wb, 0, none⟩), .int .u64 ta] w2 fun e w' => e = .returned (.int .u64 (rlook x.l ta)) ∧ RD w0 w' B V (x.acc 1 ta (rlook x.l ta)) ∧ Fr rTy false w2 w' ∧ w'.cell? ⟨rb, 8, none⟩ = some (.int .u64 y) ∧ w'.frozen? ⟨rb, 8, none⟩ = false := hacc.mono fun e w' ⟨h1, h2, h3⟩ => ⟨h1, h2, h3, hcell (h3.cells _ _ _ _ HO2.out rfl) 8, hfrz (h3.cells _ _ _ _ HO2.out rfl) 8⟩
  clear hacc
  go_upto_region 14 with (go_at_call 77; refine hacc2.mono ?_; intro e w5 hh; obtain ⟨hh1, h5, f5, z8, zf⟩ := hh; subst hh1; have H5 := Lib.hid h5; have F5 := Lib.hid f5; clear h5 f5 hacc2)
  have hO5 := F5.out.cells _ _ _ _ HO2.out rfl
  have hO6 : ROp (w5.setCell ⟨rb, 8, none⟩ (.int .u64 (rlook x.l ta))) rb 1 gone true b u s g r (rlook x.l ta) := setCell_same hO5 8 _
  have h6 := rd_set' (o := 8) H5.out hO5 rfl hlo (.int .u64 (rlook x.l ta))
  have f6 : Fx rTy false rb w (w5.setCell ⟨rb, 8, none⟩ (.int .u64 (rlook x.l ta))) := (((below_fr HB.out rTy false).trans F5.out).fx rb).trans (set_fx _ _ _ _ _ _)
  have HO6 := Lib.hid hO6; have H6 := Lib.hid h6; have F6 := Lib.hid f6
  clear hO5 hO6 h6 f6 z8 zf c0 c2
  generalize w5.setCell ⟨rb, 8, none⟩ (.int .u64 (rlook x.l ta)) = w6 at *
  have z0 := hcell HO6.out 0
  have zf := hfrz HO6.out 0
  go_wp2
  go_end0
  exact ⟨rfl, rd_set' (o := 0) H6.out HO6.out rfl hlo _, setCell_same HO6.out 0 _, F6.out.trans (set_fx _ _ _ _ _ _)⟩
set_option maxRecDepth 10000 in
set_option maxHeartbeats 1000000 in
theorem rout1 (h : RD w0 w B V x) (hr : x.room) (hs : (Lit.int .i64 s).wf = true) (hlo : w0.heap.size ≤ rb) (hy : 0 ≤ y ∧ y < 18446744073709551616) (hrr : 0 ≤ r ∧ r < 9223372036854775808) (hO : ROp w rb 2 gone true b u s g r y) :
    Calls Tryz.prog 110 #[.pointer (some ⟨rb, 0, none⟩), .pointer (some ⟨B.wb, 0, none⟩)] w fun e w' => e = .returned (.tuple #[]) ∧ RD w0 w' B V (x.acc 2 (tagsA b u) (TagPure.withOf y s 0)) ∧ ROp w' rb 3 true true b u s g r (y) ∧ Fx rTy false rb w w' := by
  have hta := tagsA_wf b u
  have hia := itemA_wf b u s
  have ht : ∀ W, Calls Tryz.prog 142 #[.agg #[.int .i64 b, .int .i64 u]] W fun e w' => e = .returned (.int .u64 (tagsA b u)) ∧ Below W.heap.size W w' := fun W => rtags_any b u W
  have hi : ∀ W, Calls Tryz.prog 107 #[.agg #[.int .i64 b, .int .i64 u, .int .i64 s]] W fun e w' => e = .returned (.int .u64 (itemA b u s)) ∧ Below W.heap.size W w' := fun W => ritem_any b u s hs W
  generalize tagsA b u = ta at *
  generalize itemA b u s = ia at *
  have hwf : (Lit.int .u64 (TagPure.withOf y s 0)).wf = true := withOf_wf y s _ hy.1 hy.2
  have hwith : ∀ W : World, Calls Tryz.prog 143 #[.int .u64 y, .int .i64 s, .int .i64 0] W fun e w' => e = .returned (.int .u64 (TagPure.withOf y s 0)) ∧ W = w' := fun W => (rwith_any y s _ W hy.1 hy.2).mono fun e w' ⟨h1, h2⟩ => ⟨h1, h2⟩
  generalize TagPure.withOf y s 0 = nv at *
  have hacc : ∀ W, Below w.heap.size w W → Calls Tryz.prog 104 #[.pointer (some ⟨B.wb, 0, none⟩), .int .u64 ta, .int .u64 nv] W fun e w' => e = .returned (.int .u64 (rlook x.l ta)) ∧ RD w0 w' B V (x.acc 2 ta nv) ∧ Fr rTy false W w' := fun W hW => rwstore (h.keep hW) hr ta hta nv hwf
  clear hwf
  have c3 := hcell hO 3
  have c4 := hcell hO 4
  have HACC := Lib.hid hacc; have HO := Lib.hid hO
  clear h hr hs hy hrr hO hta hia hacc
  go_enter Tryz.func110, Tryz.ntmps110
  go_upto_region 1 with (go_at_call 142; refine (ht _).mono ?_; intro e w1 hh; obtain ⟨hh1, b1⟩ := hh; subst hh1; have B1 := Lib.hid b1; clear b1)
  have hO1 := (B1.out.block _ (Array.getElem?_eq_some_iff.1 HO.out).1).trans HO.out
  clear c3 c4
  have c3 := hcell hO1 3
  have c4 := hcell hO1 4
  have c5 := hcell hO1 5
  have HO1 := Lib.hid hO1
  clear hO1
  go_upto_region 3 with (go_at_call 107; refine (hi _).mono ?_; intro e w2 hh; obtain ⟨hh1, b2⟩ := hh; subst hh1; have B2 := Lib.hid b2; clear b2)
  have hO2 := (B2.out.block _ (Array.getElem?_eq_some_iff.1 HO1.out).1).trans HO1.out
  clear c3 c4 c5 ht hi
  have c0 := hcell hO2 0; have c2 := hcell hO2 2
  have HB := Lib.hid (B1.out.trans (B2.out.mono B1.out.size))
  have HO2 := Lib.hid hO2
  clear hO2 HO HO1 B1 B2
  go_upto_region 10 with (fail)
  clear c0 c2
  have x8 : ∀ st : ExtW w2, st.val.cell? ⟨rb, 8, none⟩ = some (.int .u64 y) := fun st => st.cell (hcell HO2.out 8)
  have x5 : ∀ st : ExtW w2, st.val.cell? ⟨rb, 5, none⟩ = some (.int .i64 s) := fun st => st.cell (hcell HO2.out 5)
  have x6 : ∀ st : ExtW w2, st.val.cell? ⟨rb, 6, none⟩ = some (.int .i64 g) := fun st => st.cell (hcell HO2.out 6)
  refine wp_region_ext_tail 12 (by kernel_rfl) (by kernel_rfl) ?_
  simp only [List.take_succ_cons, List.take_zero, List.drop_succ_cons, List.drop_zero]
  repeat (go_big_quiet_step ((go_at_call 143; with_reducible refine calls_ext_same (hwith _))))
  refine wpQuiet_nil ?_
  rintro W ⟨⟨W2, hW⟩, rfl⟩
  clear x8 x5 x6 hwith
  have hO3 := (hW.block _ (Array.getElem?_eq_some_iff.1 HO2.out).1).trans HO2.out
  have HO3 := Lib.hid hO3
  have HB3 := Lib.hid (HB.out.trans (hW.mono HB.out.size))
  clear hW hO3
  have hacc := HACC.out _ HB3.out
  have hacc2 : Calls Tryz.prog 104 #[.pointer (some ⟨B.wb, 0, none⟩), .int .u64 ta, .int .u64 nv] W fun e w' => e = .returned (.int .u64 (rlook x.l ta)) ∧ RD w0 w' B V (x.acc 2 ta nv) ∧ Fr rTy false W w' ∧ w'.cell? ⟨rb, 1, none⟩ = some (.bool gone) ∧ w'.frozen? ⟨rb, 1, none⟩ = false := hacc.mono fun e w' ⟨h1, h2, h3⟩ => ⟨h1, h2, h3, hcell (h3.cells _ _ _ _ HO3.out rfl) 1, hfrz (h3.cells _ _ _ _ HO3.out rfl) 1⟩
  clear hacc
  go_upto_region 14 with (go_at_call 104; refine hacc2.mono ?_; intro e w5 hh; obtain ⟨hh1, h5, f5, z8, zf⟩ := hh; subst hh1; have H5 := Lib.hid h5; have F5 := Lib.hid f5; clear h5 f5 hacc2)
  have hO5 := F5.out.cells _ _ _ _ HO3.out rfl
  have hO6 : ROp (w5.setCell ⟨rb, 1, none⟩ (.bool true)) rb 2 true true b u s g r y := setCell_same hO5 1 _
  have h6 := rd_set' (o := 1) H5.out hO5 rfl hlo (.bool true)
  have f6 : Fx rTy false rb w (w5.setCell ⟨rb, 1, none⟩ (.bool true)) := (((below_fr HB3.out rTy false).trans F5.out).fx rb).trans (set_fx _ _ _ _ _ _)
  have HO6 := Lib.hid hO6; have H6 := Lib.hid h6; have F6 := Lib.hid f6
  clear hO5 hO6 h6 f6 z8 zf
  generalize w5.setCell ⟨rb, 1, none⟩ (.bool true) = w6 at *
  have z0 := hcell HO6.out 0
  have zf := hfrz HO6.out 0
  go_wp2
  go_end0
  exact ⟨rfl, rd_set' (o := 0) H6.out HO6.out rfl hlo _, setCell_same HO6.out 0 _, F6.out.trans (set_fx _ _ _ _ _ _)⟩
set_option maxRecDepth 10000 in
set_option maxHeartbeats 1000000 in
theorem rout2 (h : RD w0 w B V x) (hr : x.room) (hs : (Lit.int .i64 s).wf = true) (hlo : w0.heap.size ≤ rb) (hy : 0 ≤ y ∧ y < 18446744073709551616) (hrr : 0 ≤ r ∧ r < 9223372036854775808) (hO : ROp w rb 3 gone true b u s g r y) :
    Calls Tryz.prog 110 #[.pointer (some ⟨rb, 0, none⟩), .pointer (some ⟨B.wb, 0, none⟩)] w fun e w' => e = .returned (.tuple #[]) ∧ RD w0 w' B V (x.acc 2 (itemA b u s) (0)) ∧ ROp w' rb 0 gone true b u s g r (y) ∧ Fx rTy false rb w w' := by
  have hta := tagsA_wf b u
  have hia := itemA_wf b u s
  have ht : ∀ W, Calls Tryz.prog 142 #[.agg #[.int .i64 b, .int .i64 u]] W fun e w' => e = .returned (.int .u64 (tagsA b u)) ∧ Below W.heap.size W w' := fun W => rtags_any b u W
  have hi : ∀ W, Calls Tryz.prog 107 #[.agg #[.int .i64 b, .int .i64 u, .int .i64 s]] W fun e w' => e = .returned (.int .u64 (itemA b u s)) ∧ Below W.heap.size W w' := fun W => ritem_any b u s hs W
  generalize tagsA b u = ta at *
  generalize itemA b u s = ia at *
  have hacc : ∀ W, Below w.heap.size w W → Calls Tryz.prog 104 #[.pointer (some ⟨B.wb, 0, none⟩), .int .u64 ia, .int .u64 0] W fun e w' => e = .returned (.int .u64 (rlook x.l ia)) ∧ RD w0 w' B V (x.acc 2 ia 0) ∧ Fr rTy false W w' := fun W hW => rwstore (h.keep hW) hr ia hia 0 (by decide)
  have c3 := hcell hO 3
  have c4 := hcell hO 4
  have HACC := Lib.hid hacc; have HO := Lib.hid hO
  clear h hr hs hy hrr hO hta hia hacc
  go_enter Tryz.func110, Tryz.ntmps110
  go_upto_region 1 with (go_at_call 142; refine (ht _).mono ?_; intro e w1 hh; obtain ⟨hh1, b1⟩ := hh; subst hh1; have B1 := Lib.hid b1; clear b1)
  have hO1 := (B1.out.block _ (Array.getElem?_eq_some_iff.1 HO.out).1).trans HO.out
  clear c3 c4
  have c3 := hcell hO1 3
  have c4 := hcell hO1 4
  have c5 := hcell hO1 5
  have HO1 := Lib.hid hO1
  clear hO1
  go_upto_region 3 with (go_at_call 107; refine (hi _).mono ?_; intro e w2 hh; obtain ⟨hh1, b2⟩ := hh; subst hh1; have B2 := Lib.hid b2; clear b2)
  have hO2 := (B2.out.block _ (Array.getElem?_eq_some_iff.1 HO1.out).1).trans HO1.out
  clear c3 c4 c5 ht hi
  have c0 := hcell hO2 0; have c2 := hcell hO2 2
  have HB := Lib.hid (B1.out.trans (B2.out.mono B1.out.size))
  have HO2 := Lib.hid hO2
  clear hO2 HO HO1 B1 B2
  have hacc := HACC.out _ HB.out
  go_upto_region 14 with (go_at_call 104; refine hacc.mono ?_; intro e w5 hh; obtain ⟨hh1, h5, f5⟩ := hh; subst hh1; have H5 := Lib.hid h5; have F5 := Lib.hid f5; clear h5 f5 hacc)
  have hO6 : ROp w5 rb 3 gone true b u s g r y := F5.out.cells _ _ _ _ HO2.out rfl
  have HO6 := Lib.hid hO6; have H6 := H5; have F6 : Hid (Fx rTy false rb w w5) := ((below_fr HB.out rTy false).trans F5.out).fx rb
  clear hO6 c0 c2
  generalize w5 = w6 at *
  have z0 := hcell HO6.out 0
  have zf := hfrz HO6.out 0
  go_wp2
  go_end0
  exact ⟨rfl, rd_set' (o := 0) H6.out HO6.out rfl hlo _, setCell_same HO6.out 0 _, F6.out.trans (set_fx _ _ _ _ _ _)⟩
end
end Go.Proofs.YtjfocckdbaaimaaGreat
