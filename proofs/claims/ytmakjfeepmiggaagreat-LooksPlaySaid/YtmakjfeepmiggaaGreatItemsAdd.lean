/-
  The walk of items.Add.
-/
import Derived.Test.YtmakjfeepmiggaaGreatItems
import Derived.Test.YtmakjfeepmiggaaGreatRegion
namespace Go.Proofs.YtmakjfeepmiggaaGreat
open Go.RowKit
set_option linter.unusedVariables false

theorem ownsRow_same {w w' : World} {base e size n cap : Nat} {g : Nat} {xs : List Value} (h : w.ownsRow base e size (.slice (some ⟨g, 0, none⟩) n cap) n xs) (hk : w'.heap[g]? = w.heap[g]?) :
    w'.ownsRow base e size (.slice (some ⟨g, 0, none⟩) n cap) n xs := by
  refine ⟨h.1, ?_⟩
  rcases h.2 with hn | ⟨g', c, cur, hv, hg, hh, r⟩
  · exact .inl hn
  · refine .inr ⟨g', c, cur, hv, hg, ?_, r⟩
    simp only [Value.slice.injEq, Option.some.injEq, Addr.mk.injEq] at hv
    rw [← hv.1.1, hk, hv.1.1]; exact hh
theorem ownsRow_setCell_far {w : World} {base e size n cap : Nat} {g : Nat} {xs : List Value} {b o : Nat} (h : w.ownsRow base e size (.slice (some ⟨g, 0, none⟩) n cap) n xs) (hne : g ≠ b) (v : Value) :
    (w.setCell ⟨b, o, none⟩ v).ownsRow base e size (.slice (some ⟨g, 0, none⟩) n cap) n xs := by
  refine ⟨h.1, ?_⟩
  rcases h.2 with hn | ⟨g', c, cur, hv, hg, hh, r⟩
  · exact .inl hn
  · refine .inr ⟨g', c, cur, hv, hg, ?_, r⟩
    simp only [Value.slice.injEq, Option.some.injEq, Addr.mk.injEq] at hv
    rw [Below.heap_setCell _ _ _ _ (by rw [← hv.1.1]; exact hne)]; exact hh
/-- From the box of a record on: a block, a cell, the header: what the last part of Add reads and writes. -/
structure AddIn (w2 : World) (b g nb cap p n X : Nat) (cs : Array Value) (x : Itm) : Prop where
  hdr : w2.heap[b]? = some (.cells #[.slice (some ⟨g, 0, none⟩) nb cap, .int .i64 n] 242 (0, 0))
  row : w2.cell? ⟨g, n / 64, none⟩ = some (.pointer (some ⟨p, 0, none⟩))
  blk : w2.heap[p]? = some (.cells cs 250 (0, 0))
  size : cs.size = 384
  box : w2.heap[X]? = some (.cells x.cells.toArray 80 (0, 0))
  bp : b ≠ p
  bX : b ≠ X
  pX : p ≠ X
  lt : n / 64 < nb

theorem AddIn.drew {w2 : World} {b g nb cap p n X : Nat} {cs : Array Value} {x : Itm} (h : AddIn w2 b g nb cap p n X cs x) : AddIn w2.drew b g nb cap p n X cs x :=
  ⟨h.hdr, h.row, h.blk, h.size, h.box, h.bp, h.bX, h.pX, h.lt⟩

/-- The world behind six stores into a block of records. -/
def store6 (w : World) (p o : Nat) (x : Itm) : World :=
  (((((w.setCell ⟨p, o, none⟩ (.string x.key)).setCell ⟨p, o + 1, none⟩ (.string x.val)).setCell ⟨p, o + 2, none⟩ (.int .u32 x.flags)).setCell ⟨p, o + 3, none⟩ (.int .u64 x.id)).setCell ⟨p, o + 4, none⟩ (.int .i64 x.dies)).setCell ⟨p, o + 5, none⟩ (.int .i64 x.gen)
theorem store6_same {w : World} {p T : Nat} {cs : Array Value} (h : w.heap[p]? = some (.cells cs T (0, 0))) (o : Nat) (x : Itm) :
    (store6 w p o x).heap[p]? = some (.cells (put6 cs o x) T (0, 0)) := by
  unfold store6 put6
  exact setCell_same (setCell_same (setCell_same (setCell_same (setCell_same (setCell_same h _ _) _ _) _ _) _ _) _ _) _ _
theorem store6_keeps (w : World) (p o : Nat) (x : Itm) : Keeps (· = p) w (store6 w p o x) := by
  unfold store6
  exact (((((setCell_keeps _ _ _ _).again (setCell_keeps _ _ _ _)).again (setCell_keeps _ _ _ _)).again (setCell_keeps _ _ _ _)).again (setCell_keeps _ _ _ _)).again (setCell_keeps _ _ _ _)

set_option maxRecDepth 10000 in
set_option maxHeartbeats 1600000 in
theorem add_room (x : Itm) (b g nb cap p n o : Nat) (ho : n % 64 * 6 = o) (cs : Array Value) (w : World) (hA : AddIn (w.alloc (.cells x.cells.toArray 80)) b g nb cap p n w.heap.size cs x)
    (hn : n ≠ 64 * nb) (hn2 : n < 1048576) (hnb : nb ≤ 16384) :
    Calls Tryz.prog 79 #[.pointer (some ⟨b, 0, none⟩), .agg x.cells.toArray] w fun e w' => e = .returned (.tuple #[.int .i64 (n + 1 : Nat), .int .i64 0]) ∧
      Keeps (fun k => k = b ∨ k = p) w w' ∧ w'.heap[b]? = some (.cells #[.slice (some ⟨g, 0, none⟩) nb cap, .int .i64 (n + 1 : Nat)] 242 (0, 0)) ∧
      w'.heap[p]? = some (.cells (put6 cs o x) 250 (0, 0)) := by
  have e1 : ((n : Int) == 1048576) = false := by simp; omega
  have e2 : ((n : Int) == 64 * (nb : Int)) = false := by simp; omega
  have hc0 : (w.alloc (.cells x.cells.toArray 80)).cell? ⟨b, 0, none⟩ = some (.slice (some ⟨g, 0, none⟩) nb cap) := by simp [World.cell?, hA.hdr]
  have hc1 : (w.alloc (.cells x.cells.toArray 80)).cell? ⟨b, 1, none⟩ = some (.int .i64 n) := by simp [World.cell?, hA.hdr]
  have hcf : (w.alloc (.cells x.cells.toArray 80)).frozen? ⟨b, 1, none⟩ = false := by simp [World.frozen?, hA.hdr]
  go_enter Tryz.func79, Tryz.ntmps79
  go_wp2
  go_quiet (fail)
  go_wp2_with fail
  have hA2 : AddIn ((w.alloc (.cells x.cells.toArray 80)).drewN nq) b g nb cap p n w.heap.size cs x := ⟨hA.hdr, hA.row, hA.blk, hA.size, hA.box, hA.bp, hA.bX, hA.pX, hA.lt⟩
  have hK0 : Below w.heap.size w ((w.alloc (.cells x.cells.toArray 80)).drewN nq) := ((Below.refl _ _).alloc (Nat.le_refl _) _).trans ((below_drewN _ _).mono (by simp))
  have hbl : b < w.heap.size := by
    have := (Array.getElem?_eq_some_iff.1 hA.hdr).1
    have h2 := hA.bX
    simp at this; omega
  have hpl : p < w.heap.size := by
    have := (Array.getElem?_eq_some_iff.1 hA.blk).1
    have h2 := hA.pX
    simp at this; omega
  generalize hw2 : World.drewN _ nq = w2 at hA2 hK0 ⊢
  clear hw2 hA hc0 hc1 hcf
  have c0 : w2.cell? ⟨b, 0, none⟩ = some (.slice (some ⟨g, 0, none⟩) nb cap) := by simp [World.cell?, hA2.hdr]
  have c1 : w2.cell? ⟨b, 1, none⟩ = some (.int .i64 n) := by simp [World.cell?, hA2.hdr]
  have cr := hA2.row
  have hx : ∀ f, f < 6 → w2.cell? ⟨w.heap.size, f, none⟩ = x.cells[f]? := fun f hf => by simp [World.cell?, hA2.box]
  have x0 : w2.cell? ⟨w.heap.size, 0, none⟩ = some (.string x.key) := hx 0 (by omega)
  have x1 : w2.cell? ⟨w.heap.size, 1, none⟩ = some (.string x.val) := hx 1 (by omega)
  have x2 : w2.cell? ⟨w.heap.size, 2, none⟩ = some (.int .u32 x.flags) := hx 2 (by omega)
  have x3 : w2.cell? ⟨w.heap.size, 3, none⟩ = some (.int .u64 x.id) := hx 3 (by omega)
  have x4 : w2.cell? ⟨w.heap.size, 4, none⟩ = some (.int .i64 x.dies) := hx 4 (by omega)
  have x5 : w2.cell? ⟨w.heap.size, 5, none⟩ = some (.int .i64 x.gen) := hx 5 (by omega)
  clear hx
  have hlt := hA2.lt
  have y0 := fun s : ExtW w2 => s.cell c0
  have y1 := fun s : ExtW w2 => s.cell c1
  have z0 := fun s : ExtW w2 => s.cell x0
  have z1 := fun s : ExtW w2 => s.cell x1
  have z2 := fun s : ExtW w2 => s.cell x2
  have z3 := fun s : ExtW w2 => s.cell x3
  have z4 := fun s : ExtW w2 => s.cell x4
  have z5 := fun s : ExtW w2 => s.cell x5
  refine wp_region_ext_tail 8 (by kernel_rfl) (by kernel_rfl) ?_
  simp only [List.take_succ_cons, List.take_zero, List.drop_succ_cons, List.drop_zero]
  repeat (go_big_quiet_step ((go_at_call 144; refine calls_ext_same (place_any _ _ _ _ p _ o _ ho (by omega) (y0 _) hlt ((ExtW.cell _ cr))))))
  refine wpQuiet_nil ?_
  rintro W ⟨⟨W2, hW⟩, rfl⟩
  clear y0 y1 z0 z1 z2 z3 z4 z5 x0 x1 x2 x3 x4 x5
  have hos : o + 6 ≤ cs.size := by rw [hA2.size]; omega
  have hWb : W.heap[b]? = some (.cells #[.slice (some ⟨g, 0, none⟩) nb cap, .int .i64 n] 242 (0, 0)) := (hW.block b (Array.getElem?_eq_some_iff.1 hA2.hdr).1).trans hA2.hdr
  have hWp : W.heap[p]? = some (.cells cs 250 (0, 0)) := (hW.block p (Array.getElem?_eq_some_iff.1 hA2.blk).1).trans hA2.blk
  have hK1 : Below w.heap.size w W := hK0.trans (hW.mono hK0.size)
  have hbp := hA2.bp
  clear hA2 hW hK0 c0 c1 cr
  have hf : ∀ f, W.frozen? ⟨p, f, none⟩ = false := fun f => by simp [World.frozen?, hWp]
  have hp : ∀ f, f < 6 → ∃ v, W.cell? ⟨p, o + f, none⟩ = some v := fun f hf => ⟨cs[o + f]'(by omega), by simp [World.cell?, hWp]⟩
  obtain ⟨v0, p0⟩ := hp 0 (by omega)
  obtain ⟨v1, p1⟩ := hp 1 (by omega)
  obtain ⟨v2, p2⟩ := hp 2 (by omega)
  obtain ⟨v3, p3⟩ := hp 3 (by omega)
  obtain ⟨v4, p4⟩ := hp 4 (by omega)
  obtain ⟨v5, p5⟩ := hp 5 (by omega)
  simp only [Nat.add_zero] at p0
  have hbW : b < W.heap.size := (Array.getElem?_eq_some_iff.1 hWb).1
  have k0 : (store6 W p o x).cell? ⟨b, 1, none⟩ = some (.int .i64 n) := by
    have hs : (store6 W p o x).heap[b]? = W.heap[b]? := (store6_keeps W p o x).block b hbW hbp
    simp [World.cell?, hs, hWb]
  clear hp
  iterate 3 go_step
  have s0 := store6_same hWp o x
  have s1 := store6_keeps W p o x
  have s2 : (store6 W p o x).heap[b]? = some (.cells #[.slice (some ⟨g, 0, none⟩) nb cap, .int .i64 n] 242 (0, 0)) := (s1.block b hbW hbp).trans hWb
  change wpList _ _ _ [] _ (store6 W p o x)
  generalize store6 W p o x = w3 at *
  have k1 : w3.frozen? ⟨b, 1, none⟩ = false := by simp [World.frozen?, s2]
  clear p0 p1 p2 p3 p4 p5 hf
  have hKw : Below w.heap.size w W := hK1
  go_wp2
  go_ret2
  refine ⟨rfl, ?_, ?_, ?_⟩
  · have := (below_keeps hKw (fun k => k = b ∨ k = p)).again ((s1.mono (T := fun k => k = b ∨ k = p) fun k _ h => .inr h).again ((setCell_keeps w3 b 1 (.int .i64 ((n : Int) + 1))).mono fun k _ h => .inl h))
    exact this
  · rw [setCell_same s2]; rfl
  · rw [Below.heap_setCell _ _ _ _ (Ne.symm hbp)]; exact s0

set_option maxRecDepth 10000 in
set_option maxHeartbeats 1600000 in
theorem add_grow (x : Itm) (b base n : Nat) (ao : Option Addr) (cap0 : Nat) (ps : List Nat) (w : World) (hn : n = 64 * ps.length)
    (hdr0 : w.heap[b]? = some (.cells #[.slice ao ps.length cap0, .int .i64 n] 242 (0, 0))) (hnb : ps.length < 16384)
    (hown : w.ownsRow base 248 1 (.slice ao ps.length cap0) ps.length (ps.map fun p => .pointer (some ⟨p, 0, none⟩))) (hbase : base ≤ w.heap.size)
    (hno : (Value.slice ao ps.length cap0).ownBlock ≠ some b) :
    Calls Tryz.prog 79 #[.pointer (some ⟨b, 0, none⟩), .agg x.cells.toArray] w fun e w' => ∃ g cap p cs, e = .returned (.tuple #[.int .i64 (n + 1 : Nat), .int .i64 0]) ∧
      Keeps (fun k => k = b ∨ (Value.slice ao ps.length cap0).ownBlock = some k) w w' ∧ w'.heap[b]? = some (.cells #[.slice (some ⟨g, 0, none⟩) (ps.length + 1) cap, .int .i64 (n + 1 : Nat)] 242 (0, 0)) ∧
      w'.heap[p]? = some (.cells (put6 cs 0 x) 250 (0, 0)) ∧ cs.size = 384 ∧ p = w.heap.size + 1 ∧ ((Value.slice ao ps.length cap0).ownBlock = some g ∨ g = w.heap.size + 3) ∧
      w'.ownsRow base 248 1 (.slice (some ⟨g, 0, none⟩) (ps.length + 1) cap) (ps.length + 1) ((ps.map fun p => .pointer (some ⟨p, 0, none⟩)) ++ [.pointer (some ⟨p, 0, none⟩)]) := by
  have hb : b < w.heap.size := (Array.getElem?_eq_some_iff.1 hdr0).1
  have h1 : w.cell? ⟨b, 0, none⟩ = some (.slice ao ps.length cap0) := by simp [World.cell?, hdr0]
  have h2 : w.cell? ⟨b, 1, none⟩ = some (.int .i64 n) := by simp [World.cell?, hdr0]
  have hb1 : b < w.heap.size + 1 := by omega
  have hb2 : b < w.heap.size + 2 := by omega
  have e1 : ((n : Int) == 1048576) = false := by simp; omega
  have e2 : ((n : Int) == 64 * (ps.length : Int)) = true := by simp [hn]
  have ho : n % 64 * 6 = 0 := by omega
  have hnd : n / 64 = ps.length := by omega
  have hn2 : n < 1048576 := by omega
  have HN := Lib.hid hn
  have HND := Lib.hid hnd
  clear hn hnd
  obtain ⟨z, hz, hzr⟩ := zero_block
  obtain ⟨i0, hi0, hz0, hz1, hz2⟩ := info_parts info_pblk
  have HI := Lib.hid hi0; have HZ0 := Lib.hid hz0; have HZ1 := Lib.hid hz1; have HZ2 := Lib.hid hz2; have HZZ := Lib.hid hz; have HO := Lib.hid ho; have HDR := Lib.hid hdr0
  clear hi0 hz0 hz1 hz2 hz ho hdr0
  go_enter Tryz.func79, Tryz.ntmps79
  go_wp2
  go_quiet (fail)
  go_wp2_with (at_builtin; refine wpList_append_lies _ rfl _ _ 240 rfl base 248 i0 (.pointer none) 1 8 Tryz.underlying240 HI.out HZ0.out HZ1.out HZ2.out rfl (by omega) _ _ _ rfl (((hown.alloc _).alloc _).alloc _) ⟨w.heap.size + 2, 0, none⟩ 1 1 [.pointer (some ⟨w.heap.size + 1, 0, none⟩)] rfl rfl ?c1 ?c2 (by omega) ?c3 ?c4 ?c5 (w.heap.size + 3) ?c6 ?_)
  case c1 => exact news_one _ _ _ _ (by simp)
  case c2 => simp [Value.oneCell']
  case c3 => unfold maxLen; omega
  case c4 => omega
  case c5 => simp; omega
  case c6 => simp
  intro g cap w1 hown1 hgrow hat hlt1
  have hL := hown.lt
  have hW0 : Below w.heap.size w ((((w.alloc (.cells x.cells.toArray 80)).drewN nq).alloc (.cells z 250)).alloc (.cells #[.pointer (some ⟨w.heap.size + 1, 0, none⟩)] 248)) :=
    ((((Below.refl _ _).alloc (Nat.le_refl _) _).trans ((below_drewN _ _).mono (by simp))).alloc (by simp) _).alloc (by simp; omega) _
  have q0 : w1.heap[b]? = some (.cells #[.slice ao ps.length cap0, .int .i64 n] 242 (0, 0)) := by
    rw [hgrow.block b (by simp; omega) (Ne.symm hno), hW0.block b hb]; exact HDR.out
  have q1 : w1.heap[w.heap.size]? = some (.cells x.cells.toArray 80 (0, 0)) := by
    rw [hgrow.block _ (by simp; omega) (fun c => by have := (hL _ c.symm).2; omega), Below.heap_alloc _ _ _ (by simp; omega), Below.heap_alloc _ _ _ (by simp)]
    exact heap_alloc_new w _
  have q2 : w1.heap[w.heap.size + 1]? = some (.cells z 250 (0, 0)) := by
    rw [hgrow.block _ (by simp) (fun c => by have := (hL _ c.symm).2; omega), Below.heap_alloc _ _ _ (by simp)]
    have := heap_alloc_new ((w.alloc (.cells x.cells.toArray 80)).drewN nq) (.cells z 250)
    simpa using this
  have hK1 : Keeps (fun k => k = b ∨ (Value.slice ao ps.length cap0).ownBlock = some k) w w1 :=
    (below_keeps hW0 _).again ⟨hgrow.os, hgrow.tape, hgrow.output, hgrow.size, fun k hk hn => hgrow.block k hk (fun c => hn (.inr c.symm))⟩
  have hgb : g ≠ b := by rcases hat with h | h; exact (fun c => hno (c ▸ h)); omega
  have hgp0 : g ≠ w.heap.size + 1 := by rcases hat with h | h; exact (fun c => by have := (hL _ h).2; omega); omega
  have hcell : w1.cell? ⟨g, ps.length, none⟩ = some (.pointer (some ⟨w.heap.size + 1, 0, none⟩)) := by
    rw [hown1.cellAt _ (by omega)]; simp
  have t0 : w1.cell? ⟨b, 0, none⟩ = some (.slice ao ps.length cap0) := by simp [World.cell?, q0]
  have t1 : w1.frozen? ⟨b, 0, none⟩ = false := by simp [World.frozen?, q0]
  have hown2 := ownsRow_setCell_far (b := b) (o := 0) hown1 hgb (.slice (some ⟨g, 0, none⟩) (ps.length + 1) cap)
  have q3 := setCell_same q0 0 (.slice (some ⟨g, 0, none⟩) (ps.length + 1) cap)
  have q4 := setCell_keeps w1 b 0 (.slice (some ⟨g, 0, none⟩) (ps.length + 1) cap)
  have hsz1 : w.heap.size + 1 < w1.heap.size := (Array.getElem?_eq_some_iff.1 q2).1
  clear hgrow hW0 h1 h2 hL hown hown1
  have hK2 := hK1.again (q4.mono (T := fun k => k = b ∨ (Value.slice ao ps.length cap0).ownBlock = some k) fun k _ h => .inl h)
  obtain ⟨p, hp⟩ : ∃ p, p = w.heap.size + 1 := ⟨_, rfl⟩
  have hA2 : AddIn (w1.setCell ⟨b, 0, none⟩ (.slice (some ⟨g, 0, none⟩) (ps.length + 1) cap)) b g (ps.length + 1) cap p n w.heap.size z x := by
    refine ⟨by simpa using q3, ?_, ?_, HZZ.out, ?_, by omega, by omega, by omega, by rw [HND.out]; omega⟩
    · rw [World.cell?_setCell_other _ _ _ _ (by simp <;> (intro c; exact (hgb c).elim)), HND.out, hp]; exact hcell
    · rw [Below.heap_setCell _ _ _ _ (by show p ≠ b; omega), hp]; exact q2
    · rw [Below.heap_setCell _ _ _ _ (by show w.heap.size ≠ b; omega)]; exact q1
  have HP := Lib.hid hp
  have hpb : p ≠ b := by omega
  have hpg : w.heap.size < p := by omega
  have hgp : g ≠ p := by omega
  clear hcell q0 q1 q2 q3 q4 hK1 hp
  go_wp2
  generalize hw2 : World.setCell w1 _ _ = w2 at hA2 hK2 hown2 ⊢
  clear hw2 t0 t1
  generalize z = cs at *
  have c0 : w2.cell? ⟨b, 0, none⟩ = some (.slice (some ⟨g, 0, none⟩) (ps.length + 1) cap) := by simp [World.cell?, hA2.hdr]
  have c1 : w2.cell? ⟨b, 1, none⟩ = some (.int .i64 n) := by simp [World.cell?, hA2.hdr]
  have cr := hA2.row
  have hx : ∀ f, f < 6 → w2.cell? ⟨w.heap.size, f, none⟩ = x.cells[f]? := fun f hf => by simp [World.cell?, hA2.box]
  have x0 : w2.cell? ⟨w.heap.size, 0, none⟩ = some (.string x.key) := hx 0 (by omega)
  have x1 : w2.cell? ⟨w.heap.size, 1, none⟩ = some (.string x.val) := hx 1 (by omega)
  have x2 : w2.cell? ⟨w.heap.size, 2, none⟩ = some (.int .u32 x.flags) := hx 2 (by omega)
  have x3 : w2.cell? ⟨w.heap.size, 3, none⟩ = some (.int .u64 x.id) := hx 3 (by omega)
  have x4 : w2.cell? ⟨w.heap.size, 4, none⟩ = some (.int .i64 x.dies) := hx 4 (by omega)
  have x5 : w2.cell? ⟨w.heap.size, 5, none⟩ = some (.int .i64 x.gen) := hx 5 (by omega)
  clear hx
  have hlt := hA2.lt
  have y0 := fun s : ExtW w2 => s.cell c0
  have y1 := fun s : ExtW w2 => s.cell c1
  have z0 := fun s : ExtW w2 => s.cell x0
  have z1 := fun s : ExtW w2 => s.cell x1
  have z2 := fun s : ExtW w2 => s.cell x2
  have z3 := fun s : ExtW w2 => s.cell x3
  have z4 := fun s : ExtW w2 => s.cell x4
  have z5 := fun s : ExtW w2 => s.cell x5
  refine wp_region_ext_tail 8 (by kernel_rfl) (by kernel_rfl) ?_
  simp only [List.take_succ_cons, List.take_zero, List.drop_succ_cons, List.drop_zero]
  repeat (go_big_quiet_step ((go_at_call 144; refine calls_ext_same (place_any _ _ _ _ p _ 0 _ HO.out (by omega) (y0 _) hlt ((ExtW.cell _ cr))))))
  refine wpQuiet_nil ?_
  rintro W ⟨⟨W2, hW⟩, rfl⟩
  clear y0 y1 z0 z1 z2 z3 z4 z5 x0 x1 x2 x3 x4 x5
  have hos : 0 + 6 ≤ cs.size := by rw [hA2.size]; omega
  have hWb : W.heap[b]? = some (.cells #[.slice (some ⟨g, 0, none⟩) (ps.length + 1) cap, .int .i64 n] 242 (0, 0)) := (hW.block b (Array.getElem?_eq_some_iff.1 hA2.hdr).1).trans hA2.hdr
  have hWp : W.heap[p]? = some (.cells cs 250 (0, 0)) := (hW.block p (Array.getElem?_eq_some_iff.1 hA2.blk).1).trans hA2.blk
  have hK3 := hK2.again (below_keeps hW _)
  have hbp := hA2.bp
  have hWb2 := hW
  clear hA2 hW hK2 c0 c1 cr
  have hf : ∀ f, W.frozen? ⟨p, f, none⟩ = false := fun f => by simp [World.frozen?, hWp]
  have hp : ∀ f, f < 6 → ∃ v, W.cell? ⟨p, 0 + f, none⟩ = some v := fun f hf => ⟨cs[0 + f]'(by omega), by simp [World.cell?, hWp]⟩
  obtain ⟨v0, p0⟩ := hp 0 (by omega)
  obtain ⟨v1, p1⟩ := hp 1 (by omega)
  obtain ⟨v2, p2⟩ := hp 2 (by omega)
  obtain ⟨v3, p3⟩ := hp 3 (by omega)
  obtain ⟨v4, p4⟩ := hp 4 (by omega)
  obtain ⟨v5, p5⟩ := hp 5 (by omega)
  simp only [Nat.zero_add] at p0 p1 p2 p3 p4 p5
  have hbW : b < W.heap.size := (Array.getElem?_eq_some_iff.1 hWb).1
  have k0 : (store6 W p 0 x).cell? ⟨b, 1, none⟩ = some (.int .i64 n) := by
    have hs : (store6 W p 0 x).heap[b]? = W.heap[b]? := (store6_keeps W p 0 x).block b hbW hbp
    simp [World.cell?, hs, hWb]
  clear hp
  iterate 3 go_step
  have s0 := store6_same hWp 0 x
  have s1 := store6_keeps W p 0 x
  have s2 : (store6 W p 0 x).heap[b]? = some (.cells #[.slice (some ⟨g, 0, none⟩) (ps.length + 1) cap, .int .i64 n] 242 (0, 0)) := (s1.block b hbW hbp).trans hWb
  change wpList _ _ _ [] _ (store6 W p 0 x)
  generalize store6 W p 0 x = w3 at *
  have k1 : w3.frozen? ⟨b, 1, none⟩ = false := by simp [World.frozen?, s2]
  clear p0 p1 p2 p3 p4 p5 hf
  go_wp2
  go_ret2
  have s5 := setCell_same s2 1 (.int .i64 ((n : Int) + 1))
  have hgl : g < w2.heap.size := by
    rcases hown2.2 with ⟨h, _⟩ | ⟨g', c, cur, hv, hg, hh, r⟩
    · cases h
    · simp only [Value.slice.injEq, Option.some.injEq, Addr.mk.injEq] at hv
      rw [hv.1.1]; exact (Array.getElem?_eq_some_iff.1 hh).1
  refine ⟨g, cap, p, cs, rfl, ?_, by simpa using s5, ?_, HZZ.out, HP.out, hat, ?_⟩
  · have hk := (hK3.trans s1).mono (T := fun k => k = b ∨ (Value.slice ao ps.length cap0).ownBlock = some k) fun k hk hh => hh.elim id fun c => by omega
    exact hk.again ((setCell_keeps w3 b 1 (.int .i64 ((n : Int) + 1))).mono fun k _ h => .inl h)
  · rw [Below.heap_setCell _ _ _ _ (by show p ≠ b; omega)]; exact s0
  · refine ownsRow_setCell_far ?_ hgb _
    have hW2 : W.heap[g]? = w2.heap[g]? := hWb2.block g hgl
    have hgW : g < W.heap.size := Nat.lt_of_lt_of_le hgl hWb2.size
    have h32 := (s1.block g hgW hgp).trans hW2
    rw [HP.out]
    exact ownsRow_same hown2 h32
end Go.Proofs.YtmakjfeepmiggaaGreat
