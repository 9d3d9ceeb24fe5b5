/-
  CellsApart.
-/
import Derived.Test.YtgjngagbgnahjaaCellsActs
namespace Go.Proofs.Ytgjngagbgnahjaa
open Go.RowKit Go.Maps
set_option linter.unusedVariables false

theorem leaves_acts : leaves Try.prog 5 138 = some [.sl acLeaves] := by kernel_rfl

theorem new_one {w0 : World} (w : World) (hB : Below w0.heap.size w0 w) (a v : Int) (ha : (Lit.int .u64 a).wf = true) (hv : (Lit.int .u64 v).wf = true) :
    Calls Try.prog 70 #[.slice (some ⟨w.heap.size, 0, none⟩) 1 1] (w.alloc (.cells #[.int .u64 a, .int .u64 v] 139)) fun e w' => ∃ b, e = .returned (.pointer (some ⟨b, 0, none⟩)) ∧ Own w0 w' b (CS.init [(a, v)]) := by
  have hq := heap_alloc_new w (.cells #[.int .u64 a, .int .u64 v] 139)
  refine (new_words (w.alloc (.cells #[.int .u64 a, .int .u64 v] 139)) w.heap.size 0 1 [(a, v)] (by simp) (by unfold maxLen; omega) (by unfold lim; simp) (fun k hk => ?_) (fun p hp => ?_)).mono fun e w' ⟨b, S, he, h1, h2⟩ => ⟨b, he, Own.new (hB.alloc hB.size _) h1 h2⟩
  · have hk0 : k = 0 := by simpa using hk
    subst hk0
    have c : ∀ o, (w.alloc (.cells #[.int .u64 a, .int .u64 v] 139)).cell? ⟨w.heap.size, o, none⟩ = (#[.int .u64 a, .int .u64 v] : Array Value)[o]? := fun o => by
      unfold World.cell?
      simp only
      rw [hq]
      rfl
    exact ⟨c 0, c 1⟩
  · simp only [List.mem_singleton] at hp
    rw [hp]; exact ⟨ha, hv⟩

theorem goes_far {s s' : CS} {xa : Int} (h : Goes s xa s') (a : Int) : (s'.val a != s.val a) = false ∨ (xa != a) = false := by
  by_cases hxa : xa = a
  · right; simp [hxa]
  · left; rw [h.far a (fun c => hxa c.symm)]; simp
theorem apart_tail {w w3 w4 : World} {b q : Nat} {s' : CS} {x : Ac} (h1 : Own w w3 b s') (h4 : Below w3.heap.size w3 w4) (hq : w3.heap[q]? = some (.cells #[.int .u8 x.k, .int .u64 x.a, .int .u64 x.v, .int .u64 x.i] 141 (0, 0))) (c0 c1 c2 c3 : Value) :
    let w5 := w4.alloc (.cells #[c0, c1, c2, c3] 55)
    Own w w5 b s' ∧ w5.cell? ⟨q, 1, none⟩ = some (.int .u64 x.a) ∧ w5.cell? ⟨w4.heap.size, 1, none⟩ = some c1 ∧ w5.cell? ⟨w4.heap.size, 2, none⟩ = some c2 ∧ w5.cell? ⟨w4.heap.size, 3, none⟩ = some c3 := by
  have hq4 := below_rest h4 _ _ _ _ hq rfl rfl
  have hB : Below w4.heap.size w4 (w4.alloc (.cells #[c0, c1, c2, c3] 55)) := (Below.refl _ _).alloc (Nat.le_refl _) _
  have hq5 := below_rest hB _ _ _ _ hq4 rfl rfl
  have hn := heap_alloc_new w4 (.cells #[c0, c1, c2, c3] 55)
  have c : ∀ o, (w4.alloc (.cells #[c0, c1, c2, c3] 55)).cell? ⟨w4.heap.size, o, none⟩ = (#[c0, c1, c2, c3] : Array Value)[o]? := fun o => by
    unfold World.cell?; simp only; rw [hn]; rfl
  have d : (w4.alloc (.cells #[c0, c1, c2, c3] 55)).cell? ⟨q, 1, none⟩ = (#[.int .u8 x.k, .int .u64 x.a, .int .u64 x.v, .int .u64 x.i] : Array Value)[1]? := by
    unfold World.cell?; simp only; rw [hq5]; rfl
  exact ⟨(h1.keep h4).keep hB, d, c 1, c 2, c 3⟩

set_option maxRecDepth 10000 in
set_option maxHeartbeats 4000000 in
theorem apart_any (a0 : Option Addr) (cap : Nat) (l : List Ac) (a v : Int) (w : World) (hl : Acts w a0 cap l) (ha : (Lit.int .u64 a).wf = true) (hv : (Lit.int .u64 v).wf = true) :
    Calls Try.prog 14 #[.slice a0 l.length cap, .int .u64 a, .int .u64 v] w fun e w' => e = .returned (.bool true) ∧ Below w.heap.size w w' := by
  by_cases hbig : 300 < l.length
  · have hbig' : (300 : Int) < (l.length : Int) := by omega
    go_enter Try.func14, Try.ntmps14
    go_wp2_with (go_at_call 73; refine (lives05 _).mono ?_; rintro e W' ⟨rfl, hb⟩)
    go_ret
    exact ⟨rfl, hb⟩
  · have hbig' : (l.length : Int) ≤ 300 := by omega
    have hn1 := new_one w (Below.refl _ w) a v ha hv
    go_enter Try.func14, Try.ntmps14
    go_wp2_with (go_at_call 70; refine hn1.mono ?_; rintro e w1 ⟨b, rfl, hO⟩)
    go_loopw [8] (fun i wr => ∃ (k : Nat) (s : CS), k ≤ l.length ∧ i = .int .i64 k ∧ Own w wr b s ∧ s.cnt = k ∧ s.n = k + 1) (fun i _ => l.length - (intOf i).toNat)
    case atStart => exact ⟨0, _, by omega, rfl, hO, (CS.init_n _).2.1, (CS.init_n _).1⟩
    case round =>
      clear hO hn1
      obtain ⟨k, s, hk, rfl, hO, hc, hn⟩ := hrel
      by_cases hlt : k < l.length
      · obtain ⟨g, off, x, rfl, hx, hxw, q0, q1, q2, q3⟩ := hl.at k hlt
        have hB := hO.below
        have hg : g < w.heap.size := World.block_lt_of_cell? _ _ q0
        replace q0 := (hB.cell (p := ⟨g, _, none⟩) hg).trans q0
        replace q1 := (hB.cell (p := ⟨g, _, none⟩) hg).trans q1
        replace q2 := (hB.cell (p := ⟨g, _, none⟩) hg).trans q2
        replace q3 := (hB.cell (p := ⟨g, _, none⟩) hg).trans q3
        have hO2 := hO.keep ((Below.refl wr.heap.size wr).alloc (Nat.le_refl _) (.cells #[.int .u8 x.k, .int .u64 x.a, .int .u64 x.v, .int .u64 x.i] 141))
        have hq := heap_alloc_new wr (.cells #[.int .u8 x.k, .int .u64 x.a, .int .u64 x.v, .int .u64 x.i] 141)
        have hr : s.room := by unfold CS.room lim; omega
        have hg2 : g < wr.heap.size := Nat.lt_of_lt_of_le hg hB.size
        have d1 : (k : Int) < (l.length : Int) := by omega
        have HX := Lib.hid hx; have HW := Lib.hid hxw; have HB := Lib.hid hB; have HC := Lib.hid hc; have HN := Lib.hid hn; have HR := Lib.hid hr; have HL := Lib.hid hl; have HO := Lib.hid hO; have HA := Lib.hid ha; have HQ := Lib.hid hq
        clear hx hxw hc hn hr hl hO hv ha hq
        have hpa := (peek_own hO2 x.a HW.out.a)
        have hpb := (peek_own hO2 a HA.out)
        go_wp2_with (first
          | (go_at_call 41; refine hpa.mono ?_; rintro e w2 ⟨rfl, rfl⟩; clear hpa)
          | (go_at_call 41; refine hpb.mono ?_; rintro e w2 ⟨rfl, rfl⟩)
          | (go_at_call 23; refine (load_told hO2 HR.out x.a HW.out.a).mono ?_; rintro e w3 ⟨rfl, ⟨s', h1, h2⟩, h3⟩; obtain ⟨hq, p0, p1, p2, p3⟩ := box4 HQ.out h3 rfl rfl)
          | (go_at_call 34; refine (store_told hO2 HR.out x.a HW.out.a x.v HW.out.v).mono ?_; rintro e w3 ⟨rfl, ⟨s', h1, h2⟩, h3⟩; obtain ⟨hq, p0, p1, p2, p3⟩ := box4 HQ.out h3 rfl rfl)
          | (go_at_call 74; refine (swap_told hO2 HR.out x.a HW.out.a x.v HW.out.v).mono ?_; rintro e w3 ⟨rfl, ⟨s', h1, h2⟩, h3⟩; obtain ⟨hq, p0, p1, p2, p3⟩ := box4 HQ.out h3 rfl rfl)
          | (go_at_call 71; refine (cas_told hO2 HR.out x.a HW.out.a x.v x.i HW.out.i).mono ?_; rintro e w3 ⟨⟨dn, rfl⟩, ⟨s', h1, h2⟩, h3⟩; obtain ⟨hq, p0, p1, p2, p3⟩ := box4 HQ.out h3 rfl rfl)
          | (go_at_call 72; refine (add_told hO2 HR.out x.a HW.out.a x.v).mono ?_; rintro e w3 ⟨rfl, ⟨s', h1, h2⟩, h3⟩; obtain ⟨hq, p0, p1, p2, p3⟩ := box4 HQ.out h3 rfl rfl)
          | (go_at_call 27; refine (last_goes h1 h2).mono ?_; rintro e w4 ⟨rfl, h4⟩))
        all_goals (obtain ⟨h5, y0, y1, y2, y3⟩ := apart_tail h1 h4 hq (.int .u8 s'.kind) (.int .u64 x.a) (.int .u64 (s.val x.a)) (.int .u64 (s'.val x.a)))
        all_goals (have HG := Lib.hid h2; have HB4 := Lib.hid h4; clear h1 h2 h3 h4 hq p0 p1 p2 p3 q0 q1 q2 q3 hpb hO2)
        all_goals (generalize World.alloc w4 _ = w5 at h5 y0 y1 y2 y3 ⊢)
        all_goals (have z0 := fun st : ExtW w5 => st.cell y0; have z1 := fun st : ExtW w5 => st.cell y1; have z2 := fun st : ExtW w5 => st.cell y2; have z3 := fun st : ExtW w5 => st.cell y3)
        all_goals (have ha1 : ∀ st : ExtW w5, Calls Try.prog 41 #[.pointer (some ⟨b, 0, none⟩), .int .u64 x.a] st.val fun e w' => e = .returned (.int .u64 (s'.val x.a)) ∧ st.val = w' := fun st => ((peek_own (h5.keep st.below) x.a HW.out.a).mono fun e w' ⟨he, hw⟩ => ⟨he, hw.symm⟩))
        all_goals (have ha2 : ∀ st : ExtW w5, Calls Try.prog 41 #[.pointer (some ⟨b, 0, none⟩), .int .u64 a] st.val fun e w' => e = .returned (.int .u64 (s'.val a)) ∧ st.val = w' := fun st => ((peek_own (h5.keep st.below) a HA.out).mono fun e w' ⟨he, hw⟩ => ⟨he, hw.symm⟩))
        all_goals (have ha3 : ∀ st : ExtW w5, Calls Try.prog 75 #[.pointer (some ⟨b, 0, none⟩)] st.val fun e w' => e = .returned (.int .i64 ((k : Int) + 1)) ∧ st.val = w' := fun st => ((count_own (h5.keep st.below)).mono fun e w' ⟨he, hw⟩ => ⟨by rw [he, HG.out.cnt, HC.out]; rfl, hw.symm⟩))
        all_goals (have hy := goes_far HG.out a)
        all_goals (have hkw : wrap64 ((k : Int) + 1) = k + 1 := IntWalk.wrap64_in _ (by omega))
        all_goals (clear y0 y1 y2 y3)
        all_goals (cases hxa : (x.a != a))
        all_goals (have hz : (x.a != a) = true → (s'.val a != s.val a) = false := fun c => hy.elim id fun d => by rw [d] at c; cases c)
        all_goals (simp only [hxa, Bool.false_eq_true, false_implies, true_implies] at hz; clear hy)
        all_goals (refine wp_region_ext (by kernel_rfl) (by kernel_rfl) ?_)
        all_goals (repeat (go_big_quiet_step (first | (go_at_call 41; with_reducible refine calls_ext_same (ha1 _)) | (go_at_call 41; with_reducible refine calls_ext_same (ha2 _)) | (go_at_call 75; with_reducible refine calls_ext_same (ha3 _)))))
        all_goals (refine wpQuiet_nil ?_)
        all_goals (rintro W ⟨⟨W2, hW⟩, rfl⟩)
        all_goals (clear z0 z1 z2 z3 ha1 ha2 ha3)
        all_goals go_wp2
        all_goals go_roundw
        all_goals (first | (show (_ : Nat) < _; simp [intOf] <;> omega) | exact ⟨k + 1, s', by omega, by go_num, h5.keep hW, by rw [HG.out.cnt, HC.out], by rw [HG.out.n, HN.out]⟩)
      · obtain rfl : k = l.length := by omega
        go_wp2_with (go_at_call 73; refine (lives05 _).mono ?_; rintro e W' ⟨rfl, hb⟩)
        go_ret
        exact ⟨rfl, hO.below.trans (hb.mono hO.below.size)⟩

set_option maxRecDepth 10000 in
theorem walkCellsApart {H : Type} (w : World) (enc : TypeId × Value → H) (base : Nat) (vl : Value) (d : DataW H) (p : List MemPlace) (k : DataW.Trod enc Try.prog w 0 (fun _ => true) true 138 vl d p) (o : Value.okWide Try.prog w .any base 138 vl)
    (a : Int) (ha : (Lit.int .u64 a).wf = true) (v : Int) (hv : (Lit.int .u64 v).wf = true) :
    Calls Try.prog 14 #[vl, .int .u64 a, .int .u64 v] w fun e w' => e = .returned (.bool true) ∧ Below w.heap.size w w' := by
  obtain ⟨a0, n, cap, rfl⟩ := Go.WideShapes.okWide_slice Try.underlying138 o
  obtain ⟨l, rfl, hl⟩ := acts_of (opened leaves_acts k).1
  exact apart_any a0 cap l a v w hl ha hv
end Go.Proofs.Ytgjngagbgnahjaa
