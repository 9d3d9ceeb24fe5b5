/-
  WorldsVoid.
-/
import Derived.Test.YtccbejnonmbgnaaWorldVoid
import Derived.Test.YtccbejnonmbgnaaWorldsFull
namespace Go.Proofs.Ytccbejnonmbgnaa
open Go.RowKit Go.Maps
set_option linter.unusedVariables false

/-- An act's cells, as far as they are asked for. -/
structure ActC (cs : Array Value) (k r b u s v : Int) : Prop where
  c1 : cs[1]? = some (.int .u8 k)
  c2 : cs[2]? = some (.int .i64 r)
  c3 : cs[3]? = some (.int .i64 b)
  c4 : cs[4]? = some (.int .i64 u)
  c5 : cs[5]? = some (.int .i64 s)
  c6 : cs[6]? = some (.int .i64 v)

set_option maxRecDepth 10000 in
set_option maxHeartbeats 1000000 in
theorem wvoid_any (cs : Array Value) (k r b u s v : Int) (h : ActC cs k r b u s v) (w : World) : Calls Try.prog 8 #[.agg cs] w fun e w' => e = .returned (.bool true) ∧ Below w.heap.size w w' := by
  have hB : Below w.heap.size w (w.alloc (.cells cs 88)) := (Below.refl _ _).alloc (Nat.le_refl _) _
  have hq := heap_alloc_new w (.cells cs 88)
  have y : ∀ w2, Below (w.alloc (.cells cs 88)).heap.size (w.alloc (.cells cs 88)) w2 → ∀ o, w2.cell? ⟨w.heap.size, o, none⟩ = cs[o]? := fun w2 hb o => by
    have h2 := (hb.block w.heap.size (Array.getElem?_eq_some_iff.1 hq).1).trans hq
    unfold World.cell?; simp only; rw [h2]; rfl
  have Y : ∀ w2, Below (w.alloc (.cells cs 88)).heap.size (w.alloc (.cells cs 88)) w2 → w2.cell? ⟨w.heap.size, 1, none⟩ = some (.int .u8 k) ∧ w2.cell? ⟨w.heap.size, 2, none⟩ = some (.int .i64 r) ∧ w2.cell? ⟨w.heap.size, 3, none⟩ = some (.int .i64 b) ∧ w2.cell? ⟨w.heap.size, 4, none⟩ = some (.int .i64 u) ∧ w2.cell? ⟨w.heap.size, 5, none⟩ = some (.int .i64 s) ∧ w2.cell? ⟨w.heap.size, 6, none⟩ = some (.int .i64 v) :=
    fun w2 hb => ⟨(y w2 hb 1).trans h.c1, (y w2 hb 2).trans h.c2, (y w2 hb 3).trans h.c3, (y w2 hb 4).trans h.c4, (y w2 hb 5).trans h.c5, (y w2 hb 6).trans h.c6⟩
  have HY := Lib.hid Y; have HB := Lib.hid hB
  obtain ⟨p1, p2, p3, p4, p5, p6⟩ := Y _ (Below.refl _ _)
  clear Y y hq hB h
  go_enter Try.func8, Try.ntmps8
  go_wp2_with (first
    | (go_at_call 42; with_reducible refine (tick_nil _).mono ?_; rintro e w2 ⟨rfl, hw⟩; obtain rfl := hw.symm)
    | (go_at_call 43; with_reducible refine (note_nil _ _ _ _ _ _ _).mono ?_; rintro e w3 ⟨rfl, b3⟩; have hv := void_new w3; clear p1 p2 p3 p4 p5 p6)
    | (go_at_call 44; with_reducible refine (steps_nil _).mono ?_; rintro e w2 ⟨rfl, hw⟩; obtain rfl := hw.symm)
    | (go_at_call 33; with_reducible refine (grows_nil _).mono ?_; rintro e w2 ⟨rfl, hw⟩; obtain rfl := hw.symm)
    | (go_at_call 35; with_reducible refine (full_nil _).mono ?_; rintro e w2 ⟨rfl, hw⟩; obtain rfl := hw.symm)
    | (go_at_call 42; with_reducible refine (tick_void hv).mono ?_; rintro e w4 ⟨rfl, b4⟩; have hv4 := hv.keep b4; have B4 := (b3.trans (((Below.refl _ w3).alloc (Nat.le_refl _) (.cells Try.zeroCells46 46)).mono b3.size)).trans (b4.mono (Nat.le_trans b3.size (by simp))); have HB4 := Lib.hid B4; obtain ⟨p1, p2, p3, p4, p5, p6⟩ := HY.out w4 B4; clear hv b3 b4 B4)
    | (go_at_call 43; with_reducible refine (note_void hv4 _ _ _ _ _ _).mono ?_; rintro e w5 ⟨rfl, b5⟩; have hv5 := hv4.keep b5; clear p1 p2 p3 p4 p5 p6; have c2 := hv5.c2; have c72 := hv5.c72)
    | (go_at_call 44; with_reducible refine (steps_void hv5).mono ?_; rintro e w2 ⟨rfl, hw⟩; obtain rfl := hw.symm)
    | (go_at_call 33; with_reducible refine (grows_void hv5).mono ?_; rintro e w6 ⟨rfl, b6⟩; have hv6 := hv5.keep b6)
    | (go_at_call 35; with_reducible refine (full_void hv6).mono ?_; rintro e w7 ⟨rfl, b7⟩; have hv7 := hv6.keep b7; clear c2 c72; have c2 := hv7.c2)
    | (go_at_call 45; with_reducible refine (ncount_nil _).mono ?_; rintro e w2 ⟨rfl, hw⟩; obtain rfl := hw.symm)
    | (go_at_call 30; with_reducible refine (lives10 _).mono ?_; rintro e w8 ⟨rfl, b8⟩))
  go_ret
  exact ⟨rfl, bnext (bnext (bnext (bnext (bnext HB.out HB4.out) b5) b6) b7) b8⟩

theorem leaves_act10 : leaves Try.prog 6 88 = some [.int .u8, .int .u8, .int .i64, .int .i64, .int .i64, .int .i64, .int .i64, .int .u64, .int .u64, .str, .str, .int .u32, .int .u64, .int .i64, .int .i64] := by kernel_rfl

set_option maxRecDepth 10000 in
theorem walkWorldsVoid {H : Type} (w : World) (enc : TypeId × Value → H) (base : Nat) (v : Value) (d : DataW H) (p : List MemPlace) (k : DataW.Trod enc Try.prog w 0 (fun _ => true) true 88 v d p) (o : Value.okWide Try.prog w .any base 88 v) :
    Calls Try.prog 8 #[v] w fun e w' => e = .returned (.bool true) ∧ Below w.heap.size w w' := by
  obtain ⟨cs, rfl⟩ := okWide_struct Try.underlying88 o
  have h := opened leaves_act10 k
  obtain ⟨c0, r, e0, g0, h⟩ := allHold_cons h
  obtain ⟨c1, r, rfl, g1, h⟩ := allHold_cons h
  obtain ⟨c2, r, rfl, g2, h⟩ := allHold_cons h
  obtain ⟨c3, r, rfl, g3, h⟩ := allHold_cons h
  obtain ⟨c4, r, rfl, g4, h⟩ := allHold_cons h
  obtain ⟨c5, r, rfl, g5, h⟩ := allHold_cons h
  obtain ⟨c6, r, rfl, g6, h⟩ := allHold_cons h
  obtain ⟨z1, rfl, -⟩ := holds_int g1
  obtain ⟨z2, rfl, -⟩ := holds_int g2
  obtain ⟨z3, rfl, -⟩ := holds_int g3
  obtain ⟨z4, rfl, -⟩ := holds_int g4
  obtain ⟨z5, rfl, -⟩ := holds_int g5
  obtain ⟨z6, rfl, -⟩ := holds_int g6
  have hc : ∀ o, cs[o]? = (c0 :: Value.int .u8 z1 :: Value.int .i64 z2 :: Value.int .i64 z3 :: Value.int .i64 z4 :: Value.int .i64 z5 :: Value.int .i64 z6 :: r)[o]? := fun o => by
    have : cs.toList = _ := e0
    rw [← Array.getElem?_toList, this]
  exact wvoid_any cs z1 z2 z3 z4 z5 z6 ⟨(hc 1).trans rfl, (hc 2).trans rfl, (hc 3).trans rfl, (hc 4).trans rfl, (hc 5).trans rfl, (hc 6).trans rfl⟩ w
end Go.Proofs.Ytccbejnonmbgnaa
