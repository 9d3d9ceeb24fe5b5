import Derived.Test.YtmakjfeepmiggaaGreatZ18
import Derived.Test.YtmakjfeepmiggaaGreatZ13
import Derived.Deep.RegionHeld2
namespace Go.Proofs.YtmakjfeepmiggaaGreat
open Go.RowKit Go.Maps TagPure
set_option linter.unusedVariables false
theorem vof_in64h {l : List (Int × Int)} : ∀ x ∈ vof l, 64 ≤ x ∧ x < 128 := by
  have key : ∀ (l : List (Int × Int)) (o : List Int), (∀ x ∈ o, 64 ≤ x ∧ x < 128) → ∀ x ∈ l.foldl vstep o, 64 ≤ x ∧ x < 128 := by
    intro l
    induction l with
    | nil => intro o h; exact h
    | cons p l ih =>
      intro o h
      refine ih _ fun x hx => ?_
      unfold vstep at hx
      split at hx
      · exact h x hx
      · split at hx
        · exact h x hx
        · rename_i hz _
          rcases List.mem_append.1 hx with hx | hx
          · exact h x hx
          · simp only [List.mem_singleton] at hx
            subst hx
            unfold ver at hz ⊢
            unfold stripe at hz ⊢
            split
            · omega
            · rename_i hh; rw [if_neg hh] at hz; exact absurd rfl hz
  exact key l [] (by simp)
theorem vof_wf {l : List (Int × Int)} : ∀ a ∈ vof l, (Lit.int .u64 a).wf = true := fun a ha => by
  have := vof_in64h a ha
  have h : 0 ≤ a ∧ a ≤ 18446744073709551615 := by omega
  simpa [Lit.wf, IntKind.min, IntKind.max, IntKind.bits, IntKind.signed] using h
theorem newput_zero (b u s g r : Int) (h : g < 1 ∨ 255 < g ∨ r < 1) (w : World) : Calls Tryz.prog 82 #[.agg #[.int .i64 b, .int .i64 u, .int .i64 s], .int .i64 g, .int .i64 r] w
    fun e w' => ∃ q, e = .returned (.pointer (some ⟨q, 0, none⟩)) ∧ SlotAt w' q 261 ⟨0, 0, 0, 0, 0⟩ [.int .i64 0, .int .i64 0] ∧ w.heap.size ≤ q ∧ Below w.heap.size w w' := by
  have hb := below_alloc w (.cells #[.int .i64 b, .int .i64 u, .int .i64 s] 71)
  have e : (w.alloc (.cells #[.int .i64 b, .int .i64 u, .int .i64 s] 71)).heap.size = w.heap.size + 1 := by simp
  have fin : SlotAt ((w.alloc (.cells #[.int .i64 b, .int .i64 u, .int .i64 s] 71)).alloc (.cells #[.int .u64 0, .int .u64 0, .int .i64 0, .int .u64 0, .int .i64 0, .int .i64 0, .int .i64 0] 261)) (w.heap.size + 1) 261 ⟨0, 0, 0, 0, 0⟩ [.int .i64 0, .int .i64 0] ∧ Below w.heap.size w ((w.alloc (.cells #[.int .i64 b, .int .i64 u, .int .i64 s] 71)).alloc (.cells #[.int .u64 0, .int .u64 0, .int .i64 0, .int .u64 0, .int .i64 0, .int .i64 0, .int .i64 0] 261)) :=
    ⟨heap_alloc_at _ _ e.symm, hb.trans ((below_alloc _ _).mono hb.size)⟩
  have F := Lib.hid fin
  clear fin e hb
  by_cases h1 : g < 1
  · have d1 : decide (g < 1) = true := decide_eq_true h1
    clear h h1
    go_enter Tryz.func82, Tryz.ntmps82
    go_wp2
    go_ret
    exact ⟨w.heap.size + 1, rfl, F.out.1, by omega, F.out.2⟩
  have d1 : decide (g < 1) = false := decide_eq_false h1
  by_cases h2 : 255 < g
  · have d2 : decide (255 < g) = true := decide_eq_true h2
    clear h h1 h2
    go_enter Tryz.func82, Tryz.ntmps82
    go_wp2
    go_ret
    exact ⟨w.heap.size + 1, rfl, F.out.1, by omega, F.out.2⟩
  have d2 : decide (255 < g) = false := decide_eq_false h2
  have d3 : decide (r < 1) = true := decide_eq_true ((h.resolve_left h1).resolve_left h2)
  clear h h1 h2
  go_enter Tryz.func82, Tryz.ntmps82
  go_wp2
  go_ret
  exact ⟨w.heap.size + 1, rfl, F.out.1, by omega, F.out.2⟩
def hsput (p : Int × Int × Int) (g r : Int) : Dg := if g < 1 ∨ 255 < g ∨ r < 1 then .put ⟨0, 0, 0, 0, 0⟩ 0 0 else .put (sof p.1 p.2.1 p.2.2) g r
def HP.row (x : HP) (p q : Int × Int × Int) (ref : Int) : List Dg := [.mark (vof [(p.1, p.2.1), (q.1, q.2.1)]), .out (sof p.1 p.2.1 p.2.2), hsput q x.tag ref, .mark (vof [(p.1, p.2.1), (q.1, q.2.1)])]
theorem sof_ok (b u s : Int) : SOk (sof b u s) := by
  unfold sof
  split
  · exact ⟨by decide, by decide, by decide, .inl rfl⟩
  · exact ⟨tagsA_wf _ _, itemA_wf _ _ _, (by show (0 : Int) ≤ 0 ∧ (0 : Int) < _; decide), .inl rfl⟩
theorem hsput_ok (p : Int × Int × Int) (g r : Int) (hr : r < 9223372036854775808) : (hsput p g r).ok := by
  unfold hsput
  split
  · exact ⟨⟨by decide, by decide, by decide, .inl rfl⟩, by decide, by decide⟩
  · exact ⟨sof_ok _ _ _, by omega, hr⟩
theorem newput_s (p : Int × Int × Int) (g r : Int) (hs : (Lit.int .i64 p.2.2).wf = true) (w : World) : Calls Tryz.prog 82 #[.agg #[.int .i64 p.1, .int .i64 p.2.1, .int .i64 p.2.2], .int .i64 g, .int .i64 r] w
    fun e w' => ∃ q, e = .returned (.pointer (some ⟨q, 0, none⟩)) ∧ DgAt w' q (hsput p g r) ∧ w.heap.size ≤ q ∧ Below w.heap.size w w' := by
  by_cases h : g < 1 ∨ 255 < g ∨ r < 1
  · have e : hsput p g r = .put ⟨0, 0, 0, 0, 0⟩ 0 0 := by unfold hsput; rw [if_pos h]
    rw [e]
    exact newput_zero _ _ _ g r h w
  · have e : hsput p g r = .put (sof p.1 p.2.1 p.2.2) g r := by unfold hsput; rw [if_neg h]
    rw [e]
    exact newput_in _ _ _ g r hs (by omega) (by omega) w
abbrev TwoS (pa pb : Nat) (p q : Int × Int × Int) (W : World) : Prop := (W.cell? ⟨pa, 0, none⟩ = some (.int .i64 p.1) ∧ W.cell? ⟨pa, 1, none⟩ = some (.int .i64 p.2.1) ∧ W.cell? ⟨pa, 2, none⟩ = some (.int .i64 p.2.2)) ∧ W.cell? ⟨pb, 0, none⟩ = some (.int .i64 q.1) ∧ W.cell? ⟨pb, 1, none⟩ = some (.int .i64 q.2.1) ∧ W.cell? ⟨pb, 2, none⟩ = some (.int .i64 q.2.2)
theorem hpmark {pa pb : Nat} {p q : Int × Int × Int} {W : World} (h : TwoS pa pb p q W) : Calls Tryz.prog 250 #[.pointer (some ⟨pa, 0, none⟩), .pointer (some ⟨pb, 0, none⟩)] W fun e w' => ∃ mb, e = .returned (.iface 350 (.pointer (some ⟨mb, 0, none⟩))) ∧ DgAt w' mb (.mark (vof [(p.1, p.2.1), (q.1, q.2.1)])) ∧ W.heap.size ≤ mb ∧ Below W.heap.size W w' := by
  obtain ⟨⟨a0, a1, -⟩, b0, b1, -⟩ := h
  have hb := below_alloc W (.cells #[.int .i64 p.1, .int .i64 p.2.1, .int .i64 q.1, .int .i64 q.2.1] 69)
  have hz := heap_alloc_new W (.cells #[.int .i64 p.1, .int .i64 p.2.1, .int .i64 q.1, .int .i64 q.2.1] 69)
  have hm := newmark_any [(p.1, p.2.1), (q.1, q.2.1)] (some ⟨W.heap.size, 0, none⟩) 2 _ (plc_blk2 hz) (by simp)
  have HB := Lib.hid hb
  clear hz hb
  go_enter Tryz.func250, Tryz.ntmps250
  go_wp2_with (go_at_call 251; refine hm.mono ?_; intro e w2 hh; obtain ⟨mb, hh1, m2, l2, b2⟩ := hh; subst hh1; have M2 := Lib.hid m2; have L2 := Lib.hid l2; have B2 := Lib.hid b2; clear m2 l2 b2 hm)
  go_ret
  exact ⟨mb, rfl, M2.out, Nat.le_trans HB.out.size L2.out, HB.out.trans (B2.out.mono HB.out.size)⟩
theorem own_some {w : World} {base e size n : Nat} {v : Value} {xs : List Value} (h : w.ownsRow base e size v n xs) (hn : 0 < n) : ∃ g cap, v = .slice (some ⟨g, 0, none⟩) n cap ∧ n ≤ cap := by
  obtain ⟨-, ⟨-, h0⟩ | ⟨g, cap, cur, rfl, -, -, h3, -⟩⟩ := h
  · omega
  · exact ⟨g, cap, rfl, h3⟩
theorem hsput_ty (p : Int × Int × Int) (g r : Int) : (hsput p g r).ty = 181 := by unfold hsput; split <;> rfl
abbrev TRow (hb pa pb : Nat) (p q : Int × Int × Int) (tg : Int) (W : World) : Prop := TwoS pa pb p q W ∧ W.cell? ⟨hb, 2, none⟩ = some (.int .i64 tg)
structure HRow (w0 w W : World) (B : WB) (V : WV) (s : CS) (S : List Nat) (hb pa pb : Nat) (x : HP) (p q : Int × Int × Int) : Prop where
  m : HMB w0 w W B V s S hb x []
  a : W.heap[pa]? = some (.cells #[.int .i64 p.1, .int .i64 p.2.1, .int .i64 p.2.2] 71 (0, 0))
  b : W.heap[pb]? = some (.cells #[.int .i64 q.1, .int .i64 q.2.1, .int .i64 q.2.2] 71 (0, 0))
section
variable {w0 w W W' : World} {B : WB} {V : WV} {s : CS} {S : List Nat} {hb pa pb : Nat} {x : HP} {p q : Int × Int × Int}
theorem HRow.below (h : HRow w0 w W B V s S hb pa pb x p q) (k : Below W.heap.size W W') : HRow w0 w W' B V s S hb pa pb x p q := ⟨h.m.below k, (k.block _ (Array.getElem?_eq_some_iff.1 h.a).1).trans h.a, (k.block _ (Array.getElem?_eq_some_iff.1 h.b).1).trans h.b⟩
theorem HRow.t (h : HRow w0 w W B V s S hb pa pb x p q) : TRow hb pa pb p q x.tag W := ⟨⟨⟨hcell h.a 0, hcell h.a 1, hcell h.a 2⟩, hcell h.b 0, hcell h.b 1, hcell h.b 2⟩, h.m.hp.c.2.1⟩
theorem HRow.t4 (h : HRow w0 w W B V s S hb pa pb x p q) (v : Value) : TRow hb pa pb p q x.tag (W.setCell ⟨hb, 4, none⟩ v) := by
  obtain ⟨vw, vd, g1, -, -⟩ := h.m.hp.ex
  have ne : ∀ {i : Nat} {cs : Array Value}, W.heap[i]? = some (.cells cs 71 (0, 0)) → i ≠ hb := fun hi c => by
    subst c
    rw [hi] at g1
    simp only [Option.some.injEq, Obj.cells.injEq] at g1
    exact absurd g1.2.1 (by decide)
  have ha := (Below.heap_setCell W ⟨hb, 4, none⟩ v pa (ne h.a)).trans h.a
  have hq := (Below.heap_setCell W ⟨hb, 4, none⟩ v pb (ne h.b)).trans h.b
  exact ⟨⟨⟨hcell ha 0, hcell ha 1, hcell ha 2⟩, hcell hq 0, hcell hq 1, hcell hq 2⟩, hcell (setCell_same g1 4 v) 2⟩
theorem HRow.fin {ref : Int} {m1 o1 u1 m2 : Nat} (h : HRow w0 w W B V s S hb pa pb x p q) (hrf : ref < 9223372036854775808) (hs : w.heap.size ≤ m1) (hs0 : w0.heap.size ≤ w.heap.size) (n1 : m1 < o1) (n2 : o1 < u1) (n3 : u1 < m2)
    (d1 : DgAt W m1 (.mark (vof [(p.1, p.2.1), (q.1, q.2.1)]))) (d2 : DgAt W o1 (.out (sof p.1 p.2.1 p.2.2))) (d3 : DgAt W u1 (hsput q x.tag ref)) (d4 : DgAt W m2 (.mark (vof [(p.1, p.2.1), (q.1, q.2.1)]))) :
    ∃ qs', HMB w0 w ((W.alloc (.cells #[.iface 350 (.pointer (some ⟨m1, 0, none⟩)), .iface 353 (.pointer (some ⟨o1, 0, none⟩)), .iface 181 (.pointer (some ⟨u1, 0, none⟩)), .iface 350 (.pointer (some ⟨m2, 0, none⟩))] 344)).setCell ⟨hb, 4, none⟩ (.slice (some ⟨W.heap.size, 0, none⟩) 4 4)) B V s S hb { x with l := x.row p q ref } qs' := by
  have hb1 := below_alloc W (.cells #[.iface 350 (.pointer (some ⟨m1, 0, none⟩)), .iface 353 (.pointer (some ⟨o1, 0, none⟩)), .iface 181 (.pointer (some ⟨u1, 0, none⟩)), .iface 350 (.pointer (some ⟨m2, 0, none⟩))] 344)
  have hz := heap_alloc_new W (.cells #[.iface 350 (.pointer (some ⟨m1, 0, none⟩)), .iface 353 (.pointer (some ⟨o1, 0, none⟩)), .iface 181 (.pointer (some ⟨u1, 0, none⟩)), .iface 350 (.pointer (some ⟨m2, 0, none⟩))] 344)
  have hm := (h.below hb1).m
  refine ⟨[(m1, .mark (vof [(p.1, p.2.1), (q.1, q.2.1)])), (o1, .out (sof p.1 p.2.1 p.2.2)), (u1, hsput q x.tag ref), (m2, .mark (vof [(p.1, p.2.1), (q.1, q.2.1)]))], hm.setl (v := .slice (some ⟨W.heap.size, 0, none⟩) 4 4) (qs' := [(m1, .mark (vof [(p.1, p.2.1), (q.1, q.2.1)])), (o1, .out (sof p.1 p.2.1 p.2.2)), (u1, hsput q x.tag ref), (m2, .mark (vof [(p.1, p.2.1), (q.1, q.2.1)]))]) ?_ ?_ ?_ ?_⟩
  · refine ⟨_, 4, rfl, Nat.le_refl _, by unfold maxLen; decide, .inr ⟨W.heap.size, 0, _, rfl, hz, fun i hi => ?_⟩⟩
    have hi4 : i < 4 := hi
    rcases (show i = 0 ∨ i = 1 ∨ i = 2 ∨ i = 3 by omega) with rfl | rfl | rfl | rfl
    · rfl
    · rfl
    · show _ = some (Value.iface (hsput q x.tag ref).ty (.pointer (some ⟨u1, 0, none⟩)))
      rw [hsput_ty]; rfl
    · rfl
  · intro y hy
    simp only [List.mem_cons, List.not_mem_nil, or_false] at hy
    rcases hy with rfl | rfl | rfl | rfl
    · exact ⟨by show _ ≤ m1; omega, d1.below hb1, vof_wf⟩
    · exact ⟨by show _ ≤ o1; omega, d2.below hb1, sof_ok _ _ _⟩
    · exact ⟨by show _ ≤ u1; omega, d3.below hb1, hsput_ok _ _ _ hrf⟩
    · exact ⟨by show _ ≤ m2; omega, d4.below hb1, vof_wf⟩
  · show [m1, o1, u1, m2].Nodup
    simp only [List.nodup_cons, List.mem_cons, List.not_mem_nil, or_false, not_false_eq_true, List.nodup_nil, and_true]
    omega
  · intro y hy
    simp only [List.mem_cons, List.not_mem_nil, or_false] at hy
    rcases hy with rfl | rfl | rfl | rfl
    · exact .inr (by show _ ≤ m1; omega)
    · exact .inr (by show _ ≤ o1; omega)
    · exact .inr (by show _ ≤ u1; omega)
    · exact .inr (by show _ ≤ m2; omega)
end
set_option maxRecDepth 10000 in
set_option maxHeartbeats 2000000 in
theorem hprow {w0 w W : World} {B : WB} {V : WV} {s : CS} {S : List Nat} {hb : Nat} {x : HP} {p q : Int × Int × Int} (h : HMB w0 w W B V s S hb x []) (k : Nat) (hl : x.left = k + 1) (hp : x.way[k]? = some p) (hq : x.way[x.left]? = some q) (hps : (Lit.int .i64 p.2.2).wf = true) (hqs : (Lit.int .i64 q.2.2).wf = true) (ref : Int) (hrf : ref < 9223372036854775808) (hs0 : w0.heap.size ≤ w.heap.size) :
    Calls Tryz.prog 241 #[.pointer (some ⟨hb, 0, none⟩), .int .i64 ref] W fun e w' => e = .returned (.tuple #[]) ∧ ∃ qs', HMB w0 w w' B V s S hb { x with l := x.row p q ref } qs' := by
  have hmf : ∀ (fn : Fn) (first cap : Array Value) (w : World), (Instr.makeFunc fn first cap).run Tryz.prog w = .ok (.func fn first cap) w := fun _ _ _ _ => rfl
  have hfew := h.hp.few
  have hlt := h.hp.lt
  obtain ⟨vw, vd, g1, g2, g3⟩ := h.hp.ex
  have c0 : W.cell? ⟨hb, 0, none⟩ = some vw := hcell g1 0
  have c1 : W.cell? ⟨hb, 1, none⟩ = some (.int .i64 x.left) := hcell g1 1
  obtain ⟨g, cap, rfl, hnc⟩ := own_some g2 (by omega)
  obtain ⟨p0, p1, p2, -⟩ := own_cell3 g2 k p hp
  obtain ⟨q0, q1, q2, -⟩ := own_cell3 g2 x.left q hq
  have hw1 : wrap64 ((x.left : Int) - 1) = (k : Int) := by rw [IntWalk.wrap64_in _ (by omega)]; omega
  have hk1 : (k : Int) < x.way.length := by omega
  have hk2 : (x.left : Int) < x.way.length := by omega
  have hk3 : k < x.way.length := by omega
  have hk4 : x.left < x.way.length := by omega
  have al : ∀ (ob : Obj) {q j : Nat} {u : Value} {w : World}, w.cell? ⟨q, j, none⟩ = some u → (w.alloc ob).cell? ⟨q, j, none⟩ = some u := fun ob q j u w hu => by rw [World.cell?_alloc_past _ _ _ (World.block_lt_of_cell? _ _ hu)]; exact hu
  have c0' := fun ob => al ob c0; have c0'' := fun ob ob2 => al ob2 (al ob c0)
  have c1' := fun ob => al ob c1; have c1'' := fun ob ob2 => al ob2 (al ob c1)
  have p0' := fun ob => al ob p0; have p0'' := fun ob ob2 => al ob2 (al ob p0)
  have p1' := fun ob => al ob p1; have p1'' := fun ob ob2 => al ob2 (al ob p1)
  have p2' := fun ob => al ob p2; have p2'' := fun ob ob2 => al ob2 (al ob p2)
  have q0' := fun ob => al ob q0; have q0'' := fun ob ob2 => al ob2 (al ob q0)
  have q1' := fun ob => al ob q1; have q1'' := fun ob ob2 => al ob2 (al ob q1)
  have q2' := fun ob => al ob q2; have q2'' := fun ob ob2 => al ob2 (al ob q2)
  have H := Lib.hid h; have HRF := Lib.hid hrf; have HS0 := Lib.hid hs0
  clear h hl hp hq hrf hs0 hfew hlt g1 g2 g3 hnc al
  go_enter Tryz.func241, Tryz.ntmps241
  go_upto_region 0 with (fail)
  go_cut [4, 5] (fun v4 v5 wx => ∃ pa pb, v4 = .pointer (some ⟨pa, 0, none⟩) ∧ v5 = .pointer (some ⟨pb, 0, none⟩) ∧ HMB w0 w wx B V s S hb x [] ∧ wx.heap[pa]? = some (.cells #[.int .i64 p.1, .int .i64 p.2.1, .int .i64 p.2.2] 71 (0, 0)) ∧ wx.heap[pb]? = some (.cells #[.int .i64 q.1, .int .i64 q.2.1, .int .i64 q.2.2] 71 (0, 0)))
  case first =>
    have key : ∀ (p q : Int × Int × Int), HMB w0 w ((W.alloc (.cells #[.int .i64 p.1, .int .i64 p.2.1, .int .i64 p.2.2] 71)).alloc (.cells #[.int .i64 q.1, .int .i64 q.2.1, .int .i64 q.2.2] 71)).drew B V s S hb x [] ∧ ((W.alloc (.cells #[.int .i64 p.1, .int .i64 p.2.1, .int .i64 p.2.2] 71)).alloc (.cells #[.int .i64 q.1, .int .i64 q.2.1, .int .i64 q.2.2] 71)).drew.heap[W.heap.size]? = some (.cells #[.int .i64 p.1, .int .i64 p.2.1, .int .i64 p.2.2] 71 (0, 0)) ∧ ((W.alloc (.cells #[.int .i64 p.1, .int .i64 p.2.1, .int .i64 p.2.2] 71)).alloc (.cells #[.int .i64 q.1, .int .i64 q.2.1, .int .i64 q.2.2] 71)).drew.heap[W.heap.size + 1]? = some (.cells #[.int .i64 q.1, .int .i64 q.2.1, .int .i64 q.2.2] 71 (0, 0)) := fun p q =>
      have b1 := below_alloc W (.cells #[.int .i64 p.1, .int .i64 p.2.1, .int .i64 p.2.2] 71)
      have b2 := below_alloc (W.alloc (.cells #[.int .i64 p.1, .int .i64 p.2.1, .int .i64 p.2.2] 71)) (.cells #[.int .i64 q.1, .int .i64 q.2.1, .int .i64 q.2.2] 71)
      ⟨H.out.below (b1.trans (b2.mono b1.size)).drew, heap_alloc_old (heap_alloc_new W _), heap_alloc_at _ _ (by simp)⟩
    have K1 := Lib.hid (key p q); have K2 := Lib.hid (key q p)
    clear key H
    go_region
    all_goals
      try go_wp2_with (fail)
      go_meet
      case rel =>
        first
          | exact ⟨_, _, rfl, rfl, K1.out.1, K1.out.2.1, K1.out.2.2⟩
          | exact ⟨_, _, rfl, rfl, K2.out.1, K2.out.2.2, K2.out.2.1⟩
  case rest =>
    obtain ⟨pa, pb, rfl, rfl, h1, ha, hbq⟩ := hcut
    have h0 := HS0.out
    have hsz := h1.fs.size
    have hb0 : Below wc.heap.size wc wc.drew := (Below.refl _ _).drew
    have R2 := Lib.hid ((HRow.mk h1 ha hbq).below hb0)
    have L2 := Lib.hid (show w.heap.size ≤ wc.drew.heap.size from hsz)
    have s2 := R2.out.t
    have k2 := hpmark s2.1
    clear h1 ha hbq hb0 hsz h0
    go_upto_region 2 with (fail)
    go_region_held2 (fun W => TRow hb pa pb p q x.tag W) (first | assumption | exact s7 _ | exact s8 _ _) (first
      | (go_at_call 250; refine k2.mono ?_; intro e w3 hh; obtain ⟨m1, hh1, d3, l3, b3⟩ := hh; subst hh1; have R3 := Lib.hid (R2.out.below b3); have D3 := Lib.hid d3; have L3 := Lib.hid (Nat.le_trans L2.out l3); have s3 : TRow hb pa pb p q x.tag w3 := R3.out.t; have k3 := newout_any p.1 p.2.1 p.2.2 hps w3; clear d3 l3 b3 s2 k2 R2 L2)
      | (go_at_call 252; refine k3.mono ?_; intro e w4 hh; obtain ⟨o1, hh1, d4, l4, b4⟩ := hh; subst hh1; have R4 := Lib.hid (R3.out.below b4); have D4 := Lib.hid (And.intro (D3.out.below b4) (And.intro (show DgAt w4 o1 (.out (sof p.1 p.2.1 p.2.2)) from d4) (show m1 < o1 from Nat.lt_of_lt_of_le D3.out.lt l4))); have s4 : TRow hb pa pb p q x.tag w4 := R4.out.t; have k4 := newput_s q x.tag ref hqs w4; clear d4 l4 b4 s3 k3 R3 D3)
      | (go_at_call 82; refine k4.mono ?_; intro e w5 hh; obtain ⟨u1, hh1, d5, l5, b5⟩ := hh; subst hh1; have R5 := Lib.hid (R4.out.below b5); have D5 := Lib.hid (And.intro (D4.out.1.below b5) (And.intro (D4.out.2.1.below b5) (And.intro d5 (And.intro D4.out.2.2 (show o1 < u1 from Nat.lt_of_lt_of_le D4.out.2.1.lt l5))))); have s5 : TRow hb pa pb p q x.tag w5 := R5.out.t; have k5 := hpmark s5.1; clear d5 l5 b5 s4 k4 R4 D4)
      | (go_at_call 250; refine k5.mono ?_; intro e w6 hh; obtain ⟨m2, hh1, d6, l6, b6⟩ := hh; subst hh1; have R6 := Lib.hid (R5.out.below b6); have F6 := Lib.hid (R6.out.fin HRF.out L3.out HS0.out D5.out.2.2.2.1 D5.out.2.2.2.2 (Nat.lt_of_lt_of_le D5.out.2.2.1.lt l6) (D5.out.1.below b6) (D5.out.2.1.below b6) (D5.out.2.2.1.below b6) d6); have s6 : TRow hb pa pb p q x.tag w6 := R6.out.t; have s7 : ∀ ob, TRow hb pa pb p q x.tag (w6.alloc ob) := fun ob => (R6.out.below (below_alloc w6 ob)).t; have s8 : ∀ ob v, TRow hb pa pb p q x.tag ((w6.alloc ob).setCell ⟨hb, 4, none⟩ v) := fun ob v => (R6.out.below (below_alloc w6 ob)).t4 v; obtain ⟨vw6, vd6, g6, -, -⟩ := R6.out.m.hp.ex; have f6 : ∀ ob, (w6.alloc ob).frozen? ⟨hb, 4, none⟩ = false := fun ob => (R6.out.below (below_alloc w6 ob)).m.hp.f 4; have c6 : ∀ ob, (w6.alloc ob).cell? ⟨hb, 4, none⟩ = some vd6 := fun ob => ((below_alloc w6 ob).cell (show hb < w6.heap.size from R6.out.m.hp.ltb)).trans (hcell g6 4); clear d6 l6 b6 s5 k5 R5 D5 g6))
    go_wp2_with (fail)
    go_end0
    exact ⟨rfl, F6.out⟩
end Go.Proofs.YtmakjfeepmiggaaGreat