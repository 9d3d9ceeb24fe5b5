/-
  Texts of this prover, merged: HopStep, HopRun, HopLives, HopVoid.
-/
import Derived.Test.YtomllmlieeaaiaaGreatPA
import Derived.Test.YtomllmlieeaaiaaGreatP2
import Derived.Test.YtomllmlieeaaiaaGreatP1
import Derived.Test.YtomllmlieeaaiaaGreatOpen
import Derived.Deep.DeepCutAuto
import Derived.Deep.CutBlock
/-
  Hops: a step.
-/
namespace Go.Proofs.YtomllmlieeaaiaaGreat
open Go.RowKit Go.Maps TagPure
set_option linter.unusedVariables false

theorem wrap64_lt (v : Int) : wrap64 v < 9223372036854775808 := by
  unfold wrap64; omega
/-- A step of Hops that are not over. -/
def HP.next (s : CS) (x : HP) : CS × HP := match x.l with
  | d :: r => ((d.step s).1, ({ x with l := (d.step s).2 :: r } : HP).on)
  | [] => match x.way[x.left - 1]?, x.way[x.left]? with
    | some p, some q =>
      if x.load = false then (s.acc 1 (tagsA p.1 p.2.1) (s.val (tagsA p.1 p.2.1)), { x with tag := tagOf (s.val (tagsA p.1 p.2.1)) p.2.2, load := true })
      else (s.acc 1 (itemA p.1 p.2.1 p.2.2) (s.val (itemA p.1 p.2.1 p.2.2)), ({ x with l := x.row p q (wrap64 (s.val (itemA p.1 p.2.1 p.2.2))) } : HP).on)
    | _, _ => (s, x)
/-- Hops, and a hop's first spot. -/
structure HSt (w0 w W : World) (B : WB) (V : WV) (s : CS) (S : List Nat) (hb pa : Nat) (x : HP) (qs : List (Nat × Dg)) (p : Int × Int × Int) : Prop where
  m : HMB w0 w W B V s S hb x qs
  a : W.heap[pa]? = some (.cells #[.int .i64 p.1, .int .i64 p.2.1, .int .i64 p.2.2] 71 (0, 0))
abbrev TSt (wb cb pa : Nat) (p : Int × Int × Int) (W : World) : Prop := W.cell? ⟨wb, 0, none⟩ = some (.pointer (some ⟨cb, 0, none⟩)) ∧ W.cell? ⟨pa, 0, none⟩ = some (.int .i64 p.1) ∧ W.cell? ⟨pa, 1, none⟩ = some (.int .i64 p.2.1) ∧ W.cell? ⟨pa, 2, none⟩ = some (.int .i64 p.2.2)
section
variable {w0 w W W' : World} {B : WB} {V : WV} {s s' : CS} {S : List Nat} {hb pa : Nat} {x : HP} {qs : List (Nat × Dg)} {p : Int × Int × Int}
theorem HSt.below (h : HSt w0 w W B V s S hb pa x qs p) (k : Below W.heap.size W W') : HSt w0 w W' B V s S hb pa x qs p := ⟨h.m.below k, (k.block _ (Array.getElem?_eq_some_iff.1 h.a).1).trans h.a⟩
theorem HSt.move (h : HSt w0 w W B V s S hb pa x qs p) (h2 : WS w0 W' B V s') (hf : Fr wTy true W W') : HSt w0 w W' B V s' S hb pa x qs p := ⟨h.m.move h2 hf, hf.cells _ _ _ _ h.a rfl⟩
theorem HSt.t (h : HSt w0 w W B V s S hb pa x qs p) : TSt B.wb B.cb pa p W := ⟨h.m.ws.c0, hcell h.a 0, hcell h.a 1, hcell h.a 2⟩
theorem HSt.t2 (h : HSt w0 w W B V s S hb pa x qs p) (v : Value) : TSt B.wb B.cb pa p (W.setCell ⟨hb, 2, none⟩ v) := by
  obtain ⟨cs, g1⟩ := h.m.hp.blk
  have hne : pa ≠ hb := fun c => by
    have := h.a
    rw [c, g1] at this
    simp only [Option.some.injEq, Obj.cells.injEq] at this
    exact absurd this.2.1 (by decide)
  have ha := (Below.heap_setCell W ⟨hb, 2, none⟩ v pa hne).trans h.a
  exact ⟨(set_take h.m.ws g1 rfl h.m.hp.low v).c0, hcell ha 0, hcell ha 1, hcell ha 2⟩
end
theorem HMB.self {w0 w W : World} {B : WB} {V : WV} {s : CS} {S : List Nat} {hb : Nat} {x : HP} (h : HMB w0 w W B V s S hb x []) : HMB w0 W W B V s [hb] hb x [] := ⟨h.ws, h.hp, FS.refl _ _, .inl (List.mem_singleton.2 rfl), fun q hq => by cases hq⟩
theorem HMB.re {w0 w W W' : World} {B : WB} {V : WV} {s s' : CS} {S : List Nat} {hb : Nat} {x y : HP} {qs qs' : List (Nat × Dg)} (h : HMB w0 w W B V s S hb x qs) (h2 : HMB w0 W W' B V s' [hb] hb y qs') : HMB w0 w W' B V s' S hb y qs' := by
  refine ⟨h2.ws, h2.hp, ⟨Nat.le_trans h.fs.size h2.fs.size, fun k cs T fr g1 g2 g3 => h2.fs.cells k cs T fr (h.fs.cells k cs T fr g1 g2 g3) g2 ?_⟩, h.own, fun q hq => ?_⟩
  · intro c
    have c := List.mem_singleton.1 c
    subst c
    rcases h.own with c | c
    · exact g3 c
    · have := (Array.getElem?_eq_some_iff.1 g1).1; omega
  · rcases h2.owns q hq with c | c
    · have c := List.mem_singleton.1 c
      rw [c]; exact h.own
    · exact .inr (Nat.le_trans h.fs.size c)
theorem HSt.row {w0 w W W' : World} {B : WB} {V : WV} {s s' : CS} {S : List Nat} {hb pa : Nat} {x y : HP} {qs qs' : List (Nat × Dg)} {p : Int × Int × Int} (h : HSt w0 w W B V s S hb pa x qs p) (h2 : HMB w0 W W' B V s' [hb] hb y qs') : HSt w0 w W' B V s' S hb pa y qs' p := by
  obtain ⟨cs, g1⟩ := h.m.hp.blk
  refine ⟨h.m.re h2, h2.fs.cells _ _ _ _ h.a rfl fun c => ?_⟩
  have c := List.mem_singleton.1 c
  have := h.a
  rw [c, g1] at this
  simp only [Option.some.injEq, Obj.cells.injEq] at this
  exact absurd this.2.1 (by decide)
set_option maxRecDepth 10000 in
set_option maxHeartbeats 4000000 in
theorem hpstep {w0 w W : World} {B : WB} {V : WV} {s : CS} {S : List Nat} {hb : Nat} {x : HP} {qs : List (Nat × Dg)} (h : HMB w0 w W B V s S hb x qs) (hr : s.room) (hs0 : w0.heap.size ≤ w.heap.size) (hl0 : x.left ≠ 0) (hwf : ∀ p ∈ x.way, (Lit.int .i64 p.2.2).wf = true) (hh : ∀ d r, x.l = d :: r → d.over = false) :
    Calls Tryz.prog 37 #[.pointer (some ⟨hb, 0, none⟩), .pointer (some ⟨B.wb, 0, none⟩)] W fun e w' => ∃ qs', e = .returned (.bool (((x.next s).2.left : Int) == 0)) ∧ HMB w0 w w' B V (x.next s).1 S hb (x.next s).2 qs' := by
  obtain ⟨k, hl⟩ : ∃ k, x.left = k + 1 := ⟨x.left - 1, by omega⟩
  have hov := hpover h.hp
  rw [show ((x.left : Int) == 0) = false from beq_eq_false_iff_ne.2 (by omega)] at hov
  have hfew := h.hp.few
  have hlt := h.hp.lt
  obtain ⟨p, hp⟩ : ∃ p, x.way[k]? = some p := ⟨x.way[k]'(by omega), List.getElem?_eq_getElem (by omega)⟩
  obtain ⟨q, hq⟩ : ∃ q, x.way[x.left]? = some q := ⟨x.way[x.left]'(by omega), List.getElem?_eq_getElem (by omega)⟩
  have hps := hwf p (List.mem_of_getElem? hp)
  have hqs := hwf q (List.mem_of_getElem? hq)
  obtain ⟨vw, vd, g1, g2, g3⟩ := h.hp.ex
  have c0 : W.cell? ⟨hb, 0, none⟩ = some vw := hcell g1 0
  have c1 : W.cell? ⟨hb, 1, none⟩ = some (.int .i64 x.left) := hcell g1 1
  obtain ⟨g, cap, rfl, hnc⟩ := own_some g2 (by omega)
  obtain ⟨p0, p1, p2, -⟩ := own_cell3 g2 k p hp
  have hw1 : wrap64 ((x.left : Int) - 1) = (k : Int) := by rw [IntWalk.wrap64_in _ (by omega)]; omega
  have hk1 : (k : Int) < x.way.length := by omega
  have hk3 : k < x.way.length := by omega
  have al : ∀ (ob : Obj) {q j : Nat} {u : Value} {w : World}, w.cell? ⟨q, j, none⟩ = some u → (w.alloc ob).cell? ⟨q, j, none⟩ = some u := fun ob q j u w hu => by rw [World.cell?_alloc_past _ _ _ (World.block_lt_of_cell? _ _ hu)]; exact hu
  have c0' := fun ob => al ob c0; have c1' := fun ob => al ob c1; have p0' := fun ob => al ob p0; have p1' := fun ob => al ob p1; have p2' := fun ob => al ob p2
  have hst : HSt w0 w (W.alloc (.cells #[.int .i64 p.1, .int .i64 p.2.1, .int .i64 p.2.2] 71)).drew B V s S hb W.heap.size x qs p := ⟨h.below (below_alloc W _).drew, heap_alloc_new W _⟩
  have H1 := Lib.hid hst; have HR := Lib.hid hr; have HS0 := Lib.hid hs0; have HH := Lib.hid hh; have HP1 := Lib.hid hp; have HQ1 := Lib.hid hq; have HL := Lib.hid hl; have HPS := Lib.hid hps; have HQS := Lib.hid hqs
  clear h hr hs0 hl0 hwf hh hl hfew hlt hp hq hps hqs g1 g2 g3 hnc al hst
  go_enter Tryz.func37, Tryz.ntmps37
  go_upto_region 3 with (go_at_call 36; refine hov.mono ?_; intro e w2 hh; obtain ⟨hh1, hh2⟩ := hh; subst hh1; obtain rfl := hh2.symm; clear hov)
  go_region
  go_upto_region 5 with (fail)
  clear c0 c1 p0 p1 p2 c0' c1' p0' p1' p2'
  change Code.wp _ _ _ _ (W.alloc (.cells #[.int .i64 p.1, .int .i64 p.2.1, .int .i64 p.2.2] 71)).drew
  generalize (W.alloc (.cells #[.int .i64 p.1, .int .i64 p.2.1, .int .i64 p.2.2] 71)).drew = w1 at *
  generalize W.heap.size = pa at *
  obtain ⟨vw1, vd1, g1, -, g3⟩ := H1.out.m.hp.ex
  have c3 : w1.cell? ⟨hb, 3, none⟩ = some (.bool x.load) := hcell g1 3
  have c4 : w1.cell? ⟨hb, 4, none⟩ = some vd1 := hcell g1 4
  clear g1
  rcases qs with _ | ⟨⟨b, d⟩, r⟩
  · obtain ⟨a, c, rfl⟩ := do_nil g3
    clear g3
    have hxl : x.l = [] := H1.out.m.hp.eq
    have hbd := wf_bd (H1.out.m.ws.own.wf (tagsA p.1 p.2.1))
    have hkl : x.left - 1 = k := by have := HL.out; omega
    have hnx : x.next s = if x.load = false then (s.acc 1 (tagsA p.1 p.2.1) (s.val (tagsA p.1 p.2.1)), { x with tag := tagOf (s.val (tagsA p.1 p.2.1)) p.2.2, load := true })
      else (s.acc 1 (itemA p.1 p.2.1 p.2.2) (s.val (itemA p.1 p.2.1 p.2.2)), ({ x with l := x.row p q (wrap64 (s.val (itemA p.1 p.2.1 p.2.2))) } : HP).on) := by
      unfold HP.next
      rw [hxl]
      dsimp only
      rw [hkl, HP1.out, HQ1.out]
    have HXL := Lib.hid hxl; have HNX := Lib.hid hnx
    clear hxl hkl hnx
    obtain hld | hld : x.load = false ∨ x.load = true := by cases x.load <;> simp
    all_goals
      rw [hld] at c3
      have HLD0 := Lib.hid hld
      clear hld
    · have HNX : Hid (x.next s = (s.acc 1 (tagsA p.1 p.2.1) (s.val (tagsA p.1 p.2.1)), { x with tag := tagOf (s.val (tagsA p.1 p.2.1)) p.2.2, load := true })) := by have := HNX.out; rw [if_pos HLD0.out] at this; exact this
      have hTG := fun W => tags_any p.1 p.2.1 W
      have hAw := tagsA_wf p.1 p.2.1
      have hto := fun W => tag_any (s.val (tagsA p.1 p.2.1)) p.2.2 W hbd.1 hbd.2
      have hld2 := fun W (h : HSt w0 w W B V s S hb pa x [] p) => h.m.ws.load HR.out (tagsA p.1 p.2.1) hAw
      generalize tagsA p.1 p.2.1 = A at *
      generalize s.val A = v at *
      generalize tagOf v p.2.2 = tg at *
      have HTO := Lib.hid hto; have HTG := Lib.hid hTG; have HLD := Lib.hid hld2
      have s1 : TSt B.wb B.cb pa p w1 := H1.out.t
      clear hto hTG hAw hbd hld2
      go_upto_region 8 with (fail)
      clear s1 c3 c4
      have H2 := Lib.hid (H1.out.below (show Below w1.heap.size w1 w1.drew from (Below.refl _ _).drew))
      have s2 : TSt B.wb B.cb pa p w1.drew := H2.out.t
      clear H1
      go_region_held2 (fun W => TSt B.wb B.cb pa p W) (first | assumption | exact s8 _) (first
        | (go_at_call 74; refine (HTG.out _).mono ?_; intro e w3 hh; obtain ⟨hh1, b3⟩ := hh; subst hh1; have H3 := Lib.hid (H2.out.below b3); have s3 : TSt B.wb B.cb pa p w3 := H3.out.t; have hl3 := HLD.out _ H3.out; clear b3 s2 H2)
        | (go_at_call 94; refine hl3.mono ?_; intro e w4 hh; obtain ⟨hh1, h4, f4⟩ := hh; subst hh1; have H4 := Lib.hid (H3.out.move h4 f4); have s4 : TSt B.wb B.cb pa p w4 := H4.out.t; clear h4 f4 hl3 s3 H3)
        | (go_at_call 98; refine (HTO.out _).mono ?_; intro e w5 hh; obtain ⟨hh1, b5⟩ := hh; subst hh1; have H5 := Lib.hid (H4.out.below b5); have s5 : TSt B.wb B.cb pa p w5 := H5.out.t; have s8 : ∀ v, TSt B.wb B.cb pa p (w5.setCell ⟨hb, 2, none⟩ v) := H5.out.t2; have ff := H5.out.m.hp.f; obtain ⟨-, c2, c3⟩ := H5.out.m.hp.c; clear b5 s4 H4))
      have H6 := Lib.hid ((H5.out.m.set (y := { x with tag := tg }) 2 (.int .i64 tg) rfl rfl H5.out.m.hp.lt (fun _ _ => rfl)).set (y := { x with tag := tg, load := true }) 3 (.bool true) rfl rfl H5.out.m.hp.lt (fun _ _ => rfl))
      clear s8 s5 H5
      go_wp2_with (fail)
      go_ret
      refine ⟨[], ?_, ?_⟩
      · rw [HNX.out]
        show _ = Ending.returned (.bool ((x.left : Int) == 0))
        rw [show ((x.left : Int) == 0) = false from beq_eq_false_iff_ne.2 (by have := HL.out; omega)]
        try rfl
      · rw [HNX.out]
        exact H6.out
    · have HNX : Hid (x.next s = (s.acc 1 (itemA p.1 p.2.1 p.2.2) (s.val (itemA p.1 p.2.1 p.2.2)), ({ x with l := x.row p q (wrap64 (s.val (itemA p.1 p.2.1 p.2.2))) } : HP).on)) := by have := HNX.out; rw [if_neg (by rw [HLD0.out]; decide)] at this; exact this
      have hIT := fun W => item_any p.1 p.2.1 p.2.2 HPS.out W
      have hAw := itemA_wf p.1 p.2.1 p.2.2
      have hld2 := fun W (h : HSt w0 w W B V s S hb pa x [] p) => h.m.ws.load HR.out (itemA p.1 p.2.1 p.2.2) hAw
      generalize itemA p.1 p.2.1 p.2.2 = A at *
      have hvb := wf_bd (H1.out.m.ws.own.wf A)
      obtain ⟨s2, hs2⟩ : ∃ s2, s2 = s.acc 1 A (s.val A) := ⟨_, rfl⟩
      rw [← hs2] at hld2 HNX
      generalize s.val A = v at *
      have hrv := wrap64_lt v
      have HIT := Lib.hid hIT; have HLD := Lib.hid hld2; have HRV := Lib.hid hrv
      have s1 : TSt B.wb B.cb pa p w1 := H1.out.t
      clear hIT hAw hbd hld2 hrv hvb hs2
      go_upto_region 4 with (fail)
      clear s1 c3 c4
      have H2 := Lib.hid (H1.out.below (show Below w1.heap.size w1 w1.drew from (Below.refl _ _).drew))
      have s2' : TSt B.wb B.cb pa p w1.drew := H2.out.t
      clear H1
      go_region_held2 (fun W => TSt B.wb B.cb pa p W) (first | assumption | exact s8 _) (first
        | (go_at_call 130; refine (HIT.out _).mono ?_; intro e w3 hh; obtain ⟨hh1, b3⟩ := hh; subst hh1; have H3 := Lib.hid (H2.out.below b3); have s3 : TSt B.wb B.cb pa p w3 := H3.out.t; have hl3 := HLD.out _ H3.out; clear b3 s2' H2)
        | (go_at_call 94; refine hl3.mono ?_; intro e w4 hh; obtain ⟨hh1, h4, f4⟩ := hh; subst hh1; have H4 := Lib.hid (H3.out.move h4 f4); have s4 : TSt B.wb B.cb pa p w4 := H4.out.t; have hrw := hprow H4.out.m.self k HL.out HP1.out HQ1.out HPS.out HQS.out (wrap64 v) HRV.out H4.out.m.ws.below.size; clear h4 f4 hl3 s3 H3)
        | (go_at_call 129; rw [IntWalk.i64_left]; refine hrw.mono ?_; intro e w5 hh; obtain ⟨hh1, qs5, h5⟩ := hh; subst hh1; have H5 := Lib.hid (H4.out.row h5); have s5 : TSt B.wb B.cb pa p w5 := H5.out.t; have hon5 := hpon H5.out.m (by show x.left ≠ 0; have := HL.out; omega); clear h5 s4 hrw H4))
      clear s5 H5
      go_upto_region 12 with (go_at_call 131; refine hon5.mono ?_; intro e w6 hh; obtain ⟨hh1, qs6, h6⟩ := hh; subst hh1; have H6 := Lib.hid h6; have ho6 := hpover h6.hp; clear h6 hon5)
      go_wp2_with (go_at_call 36; refine ho6.mono ?_; intro e w7 hh; obtain ⟨hh1, hh2⟩ := hh; subst hh1; obtain rfl := hh2.symm; clear ho6)
      go_ret
      rw [HNX.out]
      exact ⟨qs6, rfl, H6.out⟩
  · obtain ⟨g', o', k', rfl, hc, hrk, hkm, -⟩ := do_pop g3
    have hxl : x.l = d :: r.map Prod.snd := H1.out.m.hp.eq
    have hdo := HH.out d _ hxl
    have hnx : x.next s = ((d.step s).1, ({ x with l := (d.step s).2 :: r.map Prod.snd } : HP).on) := by
      unfold HP.next
      rw [hxl]
    have hda := (H1.out.m.hp.dos (b, d) (List.mem_cons_self)).2
    have hlo := (H1.out.m.hp.dos (b, d) (List.mem_cons_self)).1
    have hz0 : (0 : Int) < (r.length : Int) + 1 := by omega
    have hstp : ∀ (W' : World), WS w0 W' B V (d.step s).1 → DgAt W' b (d.step s).2 → Fx wTy true b w1 W' → HMB w0 w W' B V (d.step s).1 S hb { x with l := (d.step s).2 :: r.map Prod.snd } ((b, (d.step s).2) :: r) := fun W' h2 h3 hf => H1.out.m.step h2 h3 hf
    have HNX := Lib.hid hnx; have HST := Lib.hid hstp; have HW1 := Lib.hid H1.out.m.ws
    have hon : ∀ (W' : World), HMB w0 w W' B V (d.step s).1 S hb { x with l := (d.step s).2 :: r.map Prod.snd } ((b, (d.step s).2) :: r) → Calls Tryz.prog 131 #[.pointer (some ⟨hb, 0, none⟩)] W' fun e w' => e = .returned (.tuple #[]) ∧ ∃ qs', HMB w0 w w' B V (d.step s).1 S hb ({ x with l := (d.step s).2 :: r.map Prod.snd } : HP).on qs' := fun W' h => hpon h (by show x.left ≠ 0; have := HL.out; omega)
    have HON := Lib.hid hon
    clear g3 hxl hnx hrk hkm hstp hon c3 H1
    cases d with
    | mark xs =>
      have hk := dgstep_mark HW1.out HR.out hlo hda.1 hdo hda.2
      have hc2 : w1.cell? ⟨g', o', none⟩ = some (.iface 272 (.pointer (some ⟨b, 0, none⟩))) := hc
      clear hc hda hlo hdo
      go_upto_region 11 with (go_at_call 318; refine hk.mono ?_; intro e w3 hh; obtain ⟨⟨rv, hh1⟩, h3, d3, f3⟩ := hh; subst hh1; have H3 := Lib.hid (HST.out _ h3 d3 f3); have hon3 := HON.out _ H3.out; clear h3 d3 f3 hk hc2 c4)
      go_upto_region 12 with (go_at_call 131; refine hon3.mono ?_; intro e w6 hh; obtain ⟨hh1, qs6, h6⟩ := hh; subst hh1; have H6 := Lib.hid h6; have ho6 := hpover h6.hp; clear h6 hon3)
      go_wp2_with (go_at_call 36; refine ho6.mono ?_; intro e w7 hh; obtain ⟨hh1, hh2⟩ := hh; subst hh1; obtain rfl := hh2.symm; clear ho6)
      go_ret
      rw [HNX.out]
      exact ⟨qs6, rfl, H6.out⟩
    | out σ =>
      have hk := dgstep_out HW1.out HR.out hlo hda.1 hdo hda.2
      have hc2 : w1.cell? ⟨g', o', none⟩ = some (.iface 270 (.pointer (some ⟨b, 0, none⟩))) := hc
      clear hc hda hlo hdo
      go_upto_region 11 with (go_at_call 312; refine hk.mono ?_; intro e w3 hh; obtain ⟨⟨rv, hh1⟩, h3, d3, f3⟩ := hh; subst hh1; have H3 := Lib.hid (HST.out _ h3 d3 f3); have hon3 := HON.out _ H3.out; clear h3 d3 f3 hk hc2 c4)
      go_upto_region 12 with (go_at_call 131; refine hon3.mono ?_; intro e w6 hh; obtain ⟨hh1, qs6, h6⟩ := hh; subst hh1; have H6 := Lib.hid h6; have ho6 := hpover h6.hp; clear h6 hon3)
      go_wp2_with (go_at_call 36; refine ho6.mono ?_; intro e w7 hh; obtain ⟨hh1, hh2⟩ := hh; subst hh1; obtain rfl := hh2.symm; clear ho6)
      go_ret
      rw [HNX.out]
      exact ⟨qs6, rfl, H6.out⟩
    | put σ gg rr =>
      have hk := dgstep_put HW1.out HR.out hlo hda.1 hdo hda.2
      have hc2 : w1.cell? ⟨g', o', none⟩ = some (.iface 222 (.pointer (some ⟨b, 0, none⟩))) := hc
      clear hc hda hlo hdo
      go_upto_region 11 with (go_at_call 302; refine hk.mono ?_; intro e w3 hh; obtain ⟨⟨rv, hh1⟩, h3, d3, f3⟩ := hh; subst hh1; have H3 := Lib.hid (HST.out _ h3 d3 f3); have hon3 := HON.out _ H3.out; clear h3 d3 f3 hk hc2 c4)
      go_upto_region 12 with (go_at_call 131; refine hon3.mono ?_; intro e w6 hh; obtain ⟨hh1, qs6, h6⟩ := hh; subst hh1; have H6 := Lib.hid h6; have ho6 := hpover h6.hp; clear h6 hon3)
      go_wp2_with (go_at_call 36; refine ho6.mono ?_; intro e w7 hh; obtain ⟨hh1, hh2⟩ := hh; subst hh1; obtain rfl := hh2.symm; clear ho6)
      go_ret
      rw [HNX.out]
      exact ⟨qs6, rfl, H6.out⟩
end Go.Proofs.YtomllmlieeaaiaaGreat

/-
  Hops, run in a world by themselves.
-/
namespace Go.Proofs.YtomllmlieeaaiaaGreat
open Go.RowKit Go.Maps TagPure
set_option linter.unusedVariables false

def hpit (q : CS × HP) : CS × HP := q.2.next q.1
def hpits (q : CS × HP) : Nat → CS × HP
  | 0 => q
  | n + 1 => hpit (hpits q n)
/-- May it make a step? -/
def hpgo (x : HP) : Bool := !(x.left == 0) && match x.l with
  | d :: _ => !d.over
  | [] => true
def hpchk (q : CS × HP) : Nat → Bool
  | 0 => true
  | n + 1 => hpchk q n && hpgo (hpits q n).2
theorem hpchk_at {q : CS × HP} {n k : Nat} (h : hpchk q n = true) (hk : k < n) : hpgo (hpits q k).2 = true := by
  induction n with
  | zero => omega
  | succ n ih =>
    simp only [hpchk, Bool.and_eq_true] at h
    rcases Nat.lt_or_ge k n with h1 | h1
    · exact ih h.1 h1
    · obtain rfl : k = n := by omega
      exact h.2
theorem hpgo_is {x : HP} (h : hpgo x = true) : x.left ≠ 0 ∧ ∀ d r, x.l = d :: r → d.over = false := by
  simp only [hpgo, Bool.and_eq_true, Bool.not_eq_true', beq_eq_false_iff_ne] at h
  refine ⟨h.1, fun d r e => ?_⟩
  have := h.2
  rw [e] at this
  simpa using this
theorem on_way (x : HP) : x.on.way = x.way := by unfold HP.on; split <;> rfl
theorem next_way (s : CS) (x : HP) : (x.next s).2.way = x.way := by
  unfold HP.next
  split
  · exact on_way _
  · split
    · split
      · rfl
      · exact on_way _
    · rfl
theorem hpits_way (q : CS × HP) (n : Nat) : (hpits q n).2.way = q.2.way := by
  induction n with
  | zero => rfl
  | succ n ih => exact (next_way _ _).trans ih
theorem dgstep_le (s : CS) (d : Dg) : (d.step s).1.n ≤ s.n + 1 ∧ (d.step s).1.cnt ≤ s.cnt + 1 := by
  have ha : ∀ k a i, (s.acc k a i).n = s.n + 1 ∧ (s.acc k a i).cnt = s.cnt + 1 := fun _ _ _ => ⟨rfl, rfl⟩
  cases d with
  | mark xs => cases xs with
    | nil => exact ⟨Nat.le_succ _, by show s.cnt ≤ s.cnt + 1; omega⟩
    | cons a r => exact ⟨Nat.le_refl _, Nat.le_refl _⟩
  | out σ =>
    unfold Dg.step
    dsimp only
    split
    · exact ⟨Nat.le_refl _, Nat.le_refl _⟩
    · split <;> exact ⟨Nat.le_refl _, Nat.le_refl _⟩
  | put σ g r =>
    unfold Dg.step
    dsimp only
    split
    · exact ⟨Nat.le_refl _, Nat.le_refl _⟩
    · split <;> exact ⟨Nat.le_refl _, Nat.le_refl _⟩
theorem next_le (s : CS) (x : HP) : (x.next s).1.n ≤ s.n + 1 ∧ (x.next s).1.cnt ≤ s.cnt + 1 := by
  unfold HP.next
  split
  · exact dgstep_le _ _
  · split
    · split <;> exact ⟨Nat.le_refl _, Nat.le_refl _⟩
    · exact ⟨Nat.le_succ _, by show s.cnt ≤ s.cnt + 1; omega⟩
theorem hpits_le (q : CS × HP) (n : Nat) : (hpits q n).1.n ≤ q.1.n + n ∧ (hpits q n).1.cnt ≤ q.1.cnt + n := by
  induction n with
  | zero => exact ⟨Nat.le_refl _, Nat.le_refl _⟩
  | succ n ih =>
    have h := next_le (hpits q n).1 (hpits q n).2
    exact ⟨by show ((hpits q n).2.next (hpits q n).1).1.n ≤ _; omega, by show ((hpits q n).2.next (hpits q n).1).1.cnt ≤ _; omega⟩
set_option maxRecDepth 10000 in
set_option maxHeartbeats 2000000 in
theorem hprun {w0 w : World} {B : WB} {V : WV} {s : CS} {hb : Nat} {x : HP} {qs0 : List (Nat × Dg)} (n m c : Nat) (hn : n < m) (hm : m ≤ 1000) (hc : s.n ≤ c ∧ s.cnt ≤ c) (hcl : c + m < lim) (hB : HMB w0 w w B V s [hb] hb x qs0) (hgo : hpchk (s, x) n = true) (hwf : ∀ p ∈ x.way, (Lit.int .i64 p.2.2).wf = true) (hend : (hpits (s, x) n).2.left = 0) :
    Calls Tryz.prog 60 #[.pointer (some ⟨B.wb, 0, none⟩), .iface 96 (.pointer (some ⟨hb, 0, none⟩)), .int .i64 m] w fun e w' => ∃ qs, e = .returned (.int .i64 n) ∧ HMB w0 w w' B V (hpits (s, x) n).1 [hb] hb (hpits (s, x) n).2 qs := by
  have HB := Lib.hid hB; have HGO := Lib.hid hgo; have HEND := Lib.hid hend; have HN := Lib.hid hn; have HC := Lib.hid hc; have HCL := Lib.hid hcl; have HWF := Lib.hid hwf; have HM := Lib.hid hm
  have HS := Lib.hid hB.ws.below.size
  clear hB hgo hend hn hc hcl hwf
  go_enter Tryz.func60, Tryz.ntmps60
  go_wp2
  go_loopw [7] (fun i wr => ∃ k : Nat, k ≤ n ∧ i = .int .i64 k ∧ ∃ qs, HMB w0 w wr B V (hpits (s, x) k).1 [hb] hb (hpits (s, x) k).2 qs) (fun i _ => n - (intOf i).toNat)
  case atStart => exact ⟨0, Nat.zero_le _, rfl, qs0, HB.out⟩
  case round =>
    clear HB
    obtain ⟨k, hk, rfl, qs, hb⟩ := hrel
    have hkm : (k : Int) < m := by have := HN.out; omega
    have hov := hpover hb.hp
    by_cases hlt : k < n
    · obtain ⟨hl0, hh⟩ := hpgo_is (hpchk_at HGO.out hlt)
      rw [show (((hpits (s, x) k).2.left : Int) == 0) = false from beq_eq_false_iff_ne.2 (by omega)] at hov
      have hle := hpits_le (s, x) k
      have hst := hpstep hb (CS.room_of (c + k) (by have := HC.out; dsimp only at hle; omega) (by have := HCL.out; have := HN.out; omega)) HS.out hl0 (by rw [hpits_way]; exact HWF.out) hh
      obtain ⟨d, hd⟩ : ∃ d, d = (((((hpits (s, x) k).2.next (hpits (s, x) k).1).2.left : Int)) == 0) := ⟨_, rfl⟩
      rw [← hd] at hst
      have HLT := Lib.hid hlt
      clear hb hl0 hh hle hd hlt hk
      go_wp2_with (first
        | (go_at_call 36; refine hov.mono ?_; intro e w2 hh; obtain ⟨hh1, hh2⟩ := hh; subst hh1; obtain rfl := hh2.symm; clear hov)
        | (go_at_call 37; refine hst.mono ?_; intro e w3 hh; obtain ⟨qs3, hh1, h3⟩ := hh; subst hh1; have H3 := Lib.hid h3; clear h3 hst))
      go_roundw
      case measure => have := HLT.out; simp [intOf]; omega
      case rel => exact ⟨k + 1, HLT.out, by have := HLT.out; go_num, qs3, H3.out⟩
    · obtain rfl : k = n := by omega
      rw [show (((hpits (s, x) k).2.left : Int) == 0) = true by rw [HEND.out]; rfl] at hov
      have HBB := Lib.hid hb
      clear hb hk hlt
      go_wp2_with (go_at_call 36; refine hov.mono ?_; intro e w2 hh; obtain ⟨hh1, hh2⟩ := hh; subst hh1; obtain rfl := hh2.symm; clear hov)
      go_ret
      exact ⟨qs, rfl, HBB.out⟩
end Go.Proofs.YtomllmlieeaaiaaGreat

/-
  Hops: layer 17's example.
-/
namespace Go.Proofs.YtomllmlieeaaiaaGreat
open Go.RowKit Go.Maps TagPure
set_option linter.unusedVariables false

def s17 : CS := CS.init [(2, tword 2 0)]
def p17 : CS := pst s17 (tagsA 2 1) (itemA 2 1 3) 3 9 5 3
def x17 : HP := hpnew [(2, 1, 3), (2, 0, 0)]
def f17 : CS := (hpits (p17, x17) 12).1
theorem sof213 : sof 2 1 3 = ⟨tagsA 2 1, itemA 2 1 3, 3, 0, 0⟩ := by kernel_rfl
theorem ex17a : hpchk (p17, x17) 12 = true := by kernel_rfl
theorem ex17b : (hpits (p17, x17) 12).2.left = 0 := by kernel_rfl
theorem ex17c : tagOf (f17.val (tagsA 2 1)) 3 = 0 := by kernel_rfl
theorem ex17d : f17.val (itemA 2 1 3) = 0 := by kernel_rfl
theorem ex17e : tagOf (f17.val (tagsA 2 0)) 0 = 9 := by kernel_rfl
theorem ex17f : f17.val (itemA 2 0 0) = 5 := by kernel_rfl
theorem s17_n : s17.n ≤ 10 ∧ s17.cnt ≤ 10 := by
  have a : s17.n = 1 := by kernel_rfl
  have b : s17.cnt = 0 := by kernel_rfl
  omega
theorem p17_n : p17.n ≤ 20 ∧ p17.cnt ≤ 20 := by
  have a : p17.n = 4 := by kernel_rfl
  have b : p17.cnt = 3 := by kernel_rfl
  omega
theorem spot17 (u k : Int) (h : u = 1 ∧ k = 3 ∨ u = 0 ∧ k = 0) (w : World) : Calls Tryz.prog 132 #[.int .i64 2, .int .i64 u, .int .i64 k] w fun e w' => e = .returned (.agg #[.int .i64 2, .int .i64 u, .int .i64 k]) ∧ Below w.heap.size w w' := by
  have hsz := fun w => size_any 2 w
  have e0 : tsize 2 = 4 := by decide
  simp only [e0] at hsz
  rcases h with ⟨rfl, rfl⟩ | ⟨rfl, rfl⟩
  all_goals
    go_enter Tryz.func132, Tryz.ntmps132
    go_wp2_with (go_at_call 81; refine (hsz _).mono ?_; rintro e w1 ⟨rfl, hw⟩; obtain rfl := hw.symm)
    refine bodyPost_ret (v := .agg #[.int .i64 2, .int .i64 _, .int .i64 _]) (by simp [results, Tryz.results132, go_sem]) rfl ⟨rfl, ?_⟩
    exact below_alloc' _ _
/-- Spots, just laid. -/
theorem own_spots {w : World} {base : Nat} (l : List (Int × Int × Int)) (hb : base ≤ w.heap.size) (hl : l.length ≤ 100000) : (w.alloc (.cells (flat3 l).toArray 71)).ownsRow base 71 3 (.slice (some ⟨w.heap.size, 0, none⟩) l.length l.length) l.length (flat3 l) :=
  ⟨flat3_len l, .inr ⟨w.heap.size, l.length, _, rfl, hb, heap_alloc_new w _, Nat.le_refl _, by unfold maxLen; omega, by simp [flat3_len], by rw [show (flat3 l).toArray.toList = flat3 l from by simp, List.take_of_length_le (by rw [flat3_len]; exact Nat.le_refl _)]⟩⟩
set_option maxRecDepth 10000 in
set_option maxHeartbeats 4000000 in
theorem lives17 (w : World) : Calls Tryz.prog 39 #[] w fun e w' => e = .returned (.bool true) ∧ Below w.heap.size w w' := by
  have hS1 := Lib.hid (fun W => spot17 1 3 (.inl ⟨rfl, rfl⟩) W)
  have hS2 := Lib.hid (fun W => spot17 0 0 (.inr ⟨rfl, rfl⟩) W)
  have hNP := Lib.hid (fun W => newput_in 2 1 3 9 5 (by decide) (by decide) (by decide) W)
  go_enter Tryz.func39, Tryz.ntmps39
  go_upto_region 4 with (go_at_call 71; refine (world12v 2 (by decide) w).mono ?_; intro e w1 hh; obtain ⟨B, hh1, h1⟩ := hh; subst hh1; have H1 : Hid (WS w w1 B (v0 ⟨2, 8, 3, 1, 16⟩) s17) := h1; clear h1)
  go_upto_region 5 with (go_at_call 132; refine (hS1.out _).mono ?_; intro e w2 hh; obtain ⟨hh1, b2⟩ := hh; subst hh1; have H2 := Lib.hid (H1.out.keep b2); clear b2 H1)
  have b3 := below_alloc w2 (.cells #[.int .i64 2, .int .i64 1, .int .i64 3] 71)
  have Z3 := Lib.hid (heap_alloc_new w2 (.cells #[.int .i64 2, .int .i64 1, .int .i64 3] 71))
  have H3 := Lib.hid (H2.out.keep b3)
  clear b3 H2
  change Code.wp _ _ _ _ (w2.alloc (.cells #[.int .i64 2, .int .i64 1, .int .i64 3] 71))
  generalize w2.alloc (.cells #[.int .i64 2, .int .i64 1, .int .i64 3] 71) = w3 at *
  generalize w2.heap.size = pa at *
  go_upto_region 6 with (go_at_call 132; refine (hS2.out _).mono ?_; intro e w4 hh; obtain ⟨hh1, b4⟩ := hh; subst hh1; have H4 := Lib.hid (H3.out.keep b4); have Z4 := Lib.hid ((b4.block _ (Array.getElem?_eq_some_iff.1 Z3.out).1).trans Z3.out); clear b4 H3 Z3)
  have b5 := below_alloc w4 (.cells #[.int .i64 2, .int .i64 0, .int .i64 0] 71)
  have Y5 := Lib.hid (heap_alloc_new w4 (.cells #[.int .i64 2, .int .i64 0, .int .i64 0] 71))
  have Z5 := Lib.hid ((b5.block _ (Array.getElem?_eq_some_iff.1 Z4.out).1).trans Z4.out)
  have H5 := Lib.hid (H4.out.keep b5)
  clear b5 H4 Z4
  change Code.wp _ _ _ _ (w4.alloc (.cells #[.int .i64 2, .int .i64 0, .int .i64 0] 71))
  generalize w4.alloc (.cells #[.int .i64 2, .int .i64 0, .int .i64 0] 71) = w5 at *
  generalize w4.heap.size = pb at *
  have a0 := hcell Z5.out 0; have a1 := hcell Z5.out 1; have a2 := hcell Z5.out 2
  have np := hNP.out w5
  rw [sof213] at np
  go_upto_region 7 with (first
    | (go_at_call 108; refine np.mono ?_; intro e w6 hh; obtain ⟨ub, hh1, d6, l6, b6⟩ := hh; subst hh1; have H6 := Lib.hid (H5.out.keep b6); have Z6 := Lib.hid ((b6.block _ (Array.getElem?_eq_some_iff.1 Z5.out).1).trans Z5.out); have Y6 := Lib.hid ((b6.block _ (Array.getElem?_eq_some_iff.1 Y5.out).1).trans Y5.out); have D6 := Lib.hid (And.intro (show pa ≠ ub from Nat.ne_of_lt (Nat.lt_of_lt_of_le (Array.getElem?_eq_some_iff.1 Z5.out).1 l6)) (show pb ≠ ub from Nat.ne_of_lt (Nat.lt_of_lt_of_le (Array.getElem?_eq_some_iff.1 Y5.out).1 l6))); have hr6 := run_put (m := 10) s17_n (by unfold lim; decide) (Nat.le_trans H5.out.slow l6) (by decide) (tagsA_wf _ _) (itemA_wf _ _ _) (by decide) H6.out d6; clear d6 l6 b6 H5 Z5 Y5 a0 a1 a2 np)
    | (go_at_call 60; refine hr6.mono ?_; intro e w7 hh; obtain ⟨hh1, h7, -, f7⟩ := hh; subst hh1; have H7 : Hid (WS w w7 B (v0 ⟨2, 8, 3, 1, 16⟩) p17) := h7; have Z7 := Lib.hid (f7.cells _ _ _ _ Z6.out rfl D6.out.1); have Y7 := Lib.hid (f7.cells _ _ _ _ Y6.out rfl D6.out.2); clear h7 f7 hr6 H6 Z6 Y6 D6))
  have a0 := hcell Z7.out 0; have a1 := hcell Z7.out 1; have a2 := hcell Z7.out 2
  have e0 := hcell Y7.out 0; have e1 := hcell Y7.out 1; have e2 := hcell Y7.out 2
  have nh := newhops (own_spots (w := w7) (base := w7.heap.size) [(2, 1, 3), (2, 0, 0)] (Nat.le_refl _) (by decide)) (by decide)
  have e8 : (flat3 [(2, 1, 3), (2, 0, 0)]).toArray = #[.int .i64 2, .int .i64 1, .int .i64 3, .int .i64 2, .int .i64 0, .int .i64 0] := rfl
  rw [e8] at nh
  have b8 := below_alloc w7 (.cells #[.int .i64 2, .int .i64 1, .int .i64 3, .int .i64 2, .int .i64 0, .int .i64 0] 71)
  clear e8
  have H8 := Lib.hid (H7.out.keep b8)
  have Z8 := Lib.hid ((b8.block _ (Array.getElem?_eq_some_iff.1 Z7.out).1).trans Z7.out)
  have Y8 := Lib.hid ((b8.block _ (Array.getElem?_eq_some_iff.1 Y7.out).1).trans Y7.out)
  clear b8 H7 Z7 Y7
  go_upto_region 8 with (first
    | (go_at_call 35; refine nh.mono ?_; intro e w9 hh; obtain ⟨hb, hh1, d9, b9⟩ := hh; subst hh1; have H9 := Lib.hid (H8.out.keep b9); have Z9 := Lib.hid ((b9.block _ (Array.getElem?_eq_some_iff.1 Z8.out).1).trans Z8.out); have Y9 := Lib.hid ((b9.block _ (Array.getElem?_eq_some_iff.1 Y8.out).1).trans Y8.out); have D9 := Lib.hid (And.intro (show pa ≠ hb from Nat.ne_of_lt (Nat.lt_of_lt_of_le (Array.getElem?_eq_some_iff.1 Z8.out).1 d9.low)) (show pb ≠ hb from Nat.ne_of_lt (Nat.lt_of_lt_of_le (Array.getElem?_eq_some_iff.1 Y8.out).1 d9.low))); have hm9 : HMB w w9 w9 B (v0 ⟨2, 8, 3, 1, 16⟩) p17 [hb] hb x17 [] := ⟨H9.out, d9.lower H8.out.slow, FS.refl _ _, .inl (List.mem_singleton.2 rfl), fun q hq => by cases hq⟩; have hr9 := hprun 12 40 20 (by decide) (by decide) p17_n (by unfold lim; decide) hm9 ex17a (by intro p hp; simp only [x17, hpnew, List.mem_cons, List.not_mem_nil, or_false] at hp; rcases hp with rfl | rfl <;> decide) ex17b; clear d9 b9 hm9 H8 Z8 Y8 a0 a1 a2 e0 e1 e2 nh)
    | (go_at_call 60; refine hr9.mono ?_; intro e w10 hh; obtain ⟨qs10, hh1, h10⟩ := hh; subst hh1; have H10 : Hid (WS w w10 B (v0 ⟨2, 8, 3, 1, 16⟩) f17) := h10.ws; have Z10 := Lib.hid (h10.fs.cells _ _ _ _ Z9.out rfl (by simpa using D9.out.1)); have Y10 := Lib.hid (h10.fs.cells _ _ _ _ Y9.out rfl (by simpa using D9.out.2)); clear h10 hr9 H9 Z9 Y9 D9))
  have a0 := hcell Z10.out 0; have a1 := hcell Z10.out 1; have a2 := hcell Z10.out 2
  have sl1 := slot_any H10.out 2 1 3 (by decide)
  rw [ex17c, ex17d] at sl1
  go_upto_region 9 with (go_at_call 133; refine sl1.mono ?_; intro e w11 hh; obtain ⟨hh1, b11⟩ := hh; subst hh1; have H11 := Lib.hid (H10.out.keep b11); have Y11 := Lib.hid ((b11.block _ (Array.getElem?_eq_some_iff.1 Y10.out).1).trans Y10.out); clear b11 H10 Z10 Y10 sl1 a0 a1 a2)
  have e0 := hcell Y11.out 0; have e1 := hcell Y11.out 1; have e2 := hcell Y11.out 2
  have sl2 := slot_any H11.out 2 0 0 (by decide)
  rw [ex17e, ex17f] at sl2
  go_wp2_with (go_at_call 133; refine sl2.mono ?_; intro e w12 hh; obtain ⟨hh1, b12⟩ := hh; subst hh1; have H12 := Lib.hid (H11.out.keep b12); clear b12 H11 Y11 sl2 e0 e1 e2)
  go_ret
  exact ⟨rfl, H12.out.below⟩
end Go.Proofs.YtomllmlieeaaiaaGreat

/-
  HopsVoid.
-/
namespace Go.Proofs.YtomllmlieeaaiaaGreat
open Go.RowKit Go.Maps TagPure
set_option linter.unusedVariables false

/-- Hops that do nothing. -/
def VHop (w : World) (v : Value) : Prop := v = .pointer none ∨ ∃ hb x qs, v = .pointer (some ⟨hb, 0, none⟩) ∧ HopsAt w 0 hb x qs ∧ x.left = 0
section
variable {w w' : World} {v : Value}
theorem VHop.below (h : VHop w v) (hb : Below w.heap.size w w') : VHop w' v := h.imp id fun ⟨rb, x, qs, h1, h2, h3⟩ => ⟨rb, x, qs, h1, h2.below hb, h3⟩
theorem VHop.over (h : VHop w v) : Calls Tryz.prog 36 #[v] w fun e w' => e = .returned (.bool true) ∧ w = w' := by
  rcases h with rfl | ⟨rb, x, qs, rfl, h, h0⟩
  · exact (hpover_nil w).mono fun e w' ⟨h1, h2⟩ => ⟨h1, h2.symm⟩
  · exact (hpover h).mono fun e w' ⟨h1, h2⟩ => ⟨by rw [h1, h0]; rfl, h2.symm⟩
theorem VHop.step (h : VHop w v) (u : Value) : Calls Tryz.prog 37 #[v, u] w fun e w' => e = .returned (.bool true) ∧ w = w' := by
  rcases h with rfl | ⟨rb, x, qs, rfl, h, h0⟩
  · exact (hpstep_nil u w).mono fun e w' ⟨h1, h2⟩ => ⟨h1, h2.symm⟩
  · exact (hpstep_over h h0 u).mono fun e w' ⟨h1, h2⟩ => ⟨h1, h2.symm⟩
theorem VHop.left (h : VHop w v) : Calls Tryz.prog 38 #[v] w fun e w' => e = .returned (.int .i64 0) ∧ w = w' := by
  rcases h with rfl | ⟨rb, x, qs, rfl, h, h0⟩
  · exact (hpleft_nil w).mono fun e w' ⟨h1, h2⟩ => ⟨h1, h2.symm⟩
  · exact (hpleft h).mono fun e w' ⟨h1, h2⟩ => ⟨by rw [h1, h0]; rfl, h2.symm⟩
end
abbrev TSp1 (pa : Nat) (b u k : Int) (W : World) : Prop := W.cell? ⟨pa, 0, none⟩ = some (.int .i64 b) ∧ W.cell? ⟨pa, 1, none⟩ = some (.int .i64 u) ∧ W.cell? ⟨pa, 2, none⟩ = some (.int .i64 k)
theorem tsp1 {w : World} {pa : Nat} {b u k : Int} (h : w.heap[pa]? = some (.cells #[.int .i64 b, .int .i64 u, .int .i64 k] 71 (0, 0))) : TSp1 pa b u k w := ⟨hcell h 0, hcell h 1, hcell h 2⟩
theorem vhop_of {w : World} {lo hb : Nat} {l : List (Int × Int × Int)} (h : HopsAt w lo hb (hpnew l) []) (hl : l.length ≤ 1) : VHop w (.pointer (some ⟨hb, 0, none⟩)) := .inr ⟨hb, _, _, rfl, h.lower (Nat.zero_le _), by show l.length - 1 = 0; omega⟩
set_option maxRecDepth 100000 in
set_option maxHeartbeats 600000 in
theorem hpvoid_any (b u k : Int) (w : World) : Calls Tryz.prog 6 #[.agg #[.int .i64 b, .int .i64 u, .int .i64 k]] w fun e w' => e = .returned (.bool true) ∧ Below w.heap.size w w' := by
  have hb0 := below_alloc w (.cells #[.int .i64 b, .int .i64 u, .int .i64 k] 71)
  have hz0 := heap_alloc_new w (.cells #[.int .i64 b, .int .i64 u, .int .i64 k] 71)
  have HB0 := Lib.hid hb0; have HZ0 := Lib.hid hz0
  clear hb0 hz0
  go_enter Tryz.func6, Tryz.ntmps6
  go_upto_region 1 with (fail)
  change Code.wp _ _ _ _ (w.alloc (.cells #[.int .i64 b, .int .i64 u, .int .i64 k] 71))
  generalize w.alloc (.cells #[.int .i64 b, .int .i64 u, .int .i64 k] 71) = w1 at *
  have HS0 : Hid (w.heap.size < w1.heap.size) := (Array.getElem?_eq_some_iff.1 HZ0.out).1
  obtain ⟨pa, hpa⟩ : ∃ pa, pa = w.heap.size := ⟨_, rfl⟩
  rw [← hpa] at HZ0
  try simp only [← hpa]
  have HPA := Lib.hid hpa
  clear hpa
  go_upto_region 2 with (go_at_call 14; refine (begin_zero w1).mono ?_; rintro e w3 ⟨B, R, V, s, x, rfl, hpr, hV, hfar, -, -⟩; have HPR := Lib.hid hpr; have HFAR := Lib.hid hfar; have HV : Hid (V.its = [] ∧ V.nts = []) := ⟨by rw [hV]; rfl, by rw [hV]; rfl⟩; clear hpr hV hfar)
  have hq0 := heap_alloc_new w3 (.cells #[.pointer (some ⟨B.wb, 0, none⟩), .pointer (some ⟨R.wb, 0, none⟩)] 34)
  have hB4 := below_alloc w3 (.cells #[.pointer (some ⟨B.wb, 0, none⟩), .pointer (some ⟨R.wb, 0, none⟩)] 34)
  have HP4 := Lib.hid (HPR.out.keep hB4)
  change Code.wp _ _ _ _ (w3.alloc (.cells #[.pointer (some ⟨B.wb, 0, none⟩), .pointer (some ⟨R.wb, 0, none⟩)] 34))
  generalize w3.alloc (.cells #[.pointer (some ⟨B.wb, 0, none⟩), .pointer (some ⟨R.wb, 0, none⟩)] 34) = w4 at *
  generalize w3.heap.size = q at *
  have HQ4 := Lib.hid hq0
  clear hq0 hB4 HPR
  have HZ4 := Lib.hid ((HP4.out.ws.below.block _ (Array.getElem?_eq_some_iff.1 HZ0.out).1).trans HZ0.out)
  go_upto_region 4 with (fail)
  have hb5 := below_alloc w4 (.cells ((⟨[], 0, 0, false, []⟩ : HP).cells (.slice none 0 0) (.slice none 0 0)) 95)
  have hv5 : VHop (w4.alloc (.cells ((⟨[], 0, 0, false, []⟩ : HP).cells (.slice none 0 0) (.slice none 0 0)) 95)) (.pointer (some ⟨w4.heap.size, 0, none⟩)) := .inr ⟨_, ⟨[], 0, 0, false, []⟩, [], rfl, ⟨Nat.zero_le _, rfl, Nat.zero_le _, .inr rfl, ⟨_, _, heap_alloc_new w4 _, World.ownsRow_nil _ _ _ _, none, 0, rfl, Nat.le_refl _, Nat.zero_le _, .inl rfl⟩, (fun q hq => by cases hq), List.nodup_nil⟩, rfl⟩
  have HP5 := Lib.hid (HP4.out.keep hb5)
  have HQ5 := Lib.hid ((hb5.block _ (Array.getElem?_eq_some_iff.1 HQ4.out).1).trans HQ4.out)
  have HZ5 := Lib.hid ((hb5.block _ (Array.getElem?_eq_some_iff.1 HZ4.out).1).trans HZ4.out)
  have HV5 := Lib.hid hv5
  change Code.wp _ _ _ _ (w4.alloc (.cells ((⟨[], 0, 0, false, []⟩ : HP).cells (.slice none 0 0) (.slice none 0 0)) 95))
  generalize w4.alloc (.cells ((⟨[], 0, 0, false, []⟩ : HP).cells (.slice none 0 0) (.slice none 0 0)) 95) = w5 at *
  generalize w4.heap.size = pb at *
  clear hb5 hv5 HP4 HQ4 HZ4
  have hA0 : Below w5.heap.size w5 w5.drew := (Below.refl _ _).drew
  have hB0 : Below w5.heap.size w5 (w5.alloc (.cells #[.int .i64 b, .int .i64 u, .int .i64 k] 71)).drew := (below_alloc w5 _).drew
  have z5 := HZ5.out
  have N0 : Hid (∀ W, Below w5.heap.size w5 W → Calls Tryz.prog 35 #[.slice none 0 0] W fun e w' => ∃ h1, e = .returned (.pointer (some ⟨h1, 0, none⟩)) ∧ Below w5.heap.size w5 w' ∧ Below W.heap.size W w' ∧ VHop w' (.pointer (some ⟨h1, 0, none⟩)) ∧ w'.heap[pa]? = some (.cells #[.int .i64 b, .int .i64 u, .int .i64 k] 71 (0, 0))) := fun W hW =>
    (newhops (l := []) (World.ownsRow_nil W 0 71 3) (by decide)).mono fun e w' ⟨h1, he, hd, hb⟩ => have hB := hW.trans (hb.mono hW.size); ⟨h1, he, hB, hb, vhop_of hd (by decide), (hB.block _ (Array.getElem?_eq_some_iff.1 z5).1).trans z5⟩
  have N1 : Hid (∀ (W : World) (g : Nat), Below w5.heap.size w5 W → W.heap[g]? = some (.cells #[.int .i64 b, .int .i64 u, .int .i64 k] 71 (0, 0)) → Calls Tryz.prog 35 #[.slice (some ⟨g, 0, none⟩) 1 1] W fun e w' => ∃ h1, e = .returned (.pointer (some ⟨h1, 0, none⟩)) ∧ Below w5.heap.size w5 w' ∧ Below W.heap.size W w' ∧ VHop w' (.pointer (some ⟨h1, 0, none⟩)) ∧ w'.heap[pa]? = some (.cells #[.int .i64 b, .int .i64 u, .int .i64 k] 71 (0, 0))) := fun W g hW hg =>
    (newhops (w := W) (base := 0) (l := [(b, u, k)]) (v := .slice (some ⟨g, 0, none⟩) 1 1) ⟨rfl, .inr ⟨g, 1, _, rfl, Nat.zero_le _, hg, Nat.le_refl _, by unfold maxLen; decide, rfl, rfl⟩⟩ (by simp)).mono fun e w' ⟨h1, he, hd, hb⟩ => have hB := hW.trans (hb.mono hW.size); ⟨h1, he, hB, hb, vhop_of hd (by simp), (hB.block _ (Array.getElem?_eq_some_iff.1 z5).1).trans z5⟩
  clear z5
  have hs5 : TSp1 pa b u k w5.drew := tsp1 HZ5.out
  have hs5' : TSp1 pa b u k (w5.alloc (.cells #[.int .i64 b, .int .i64 u, .int .i64 k] 71)).drew := tsp1 ((hB0.block _ (Array.getElem?_eq_some_iff.1 HZ5.out).1).trans HZ5.out)
  have hg5 : (w5.alloc (.cells #[.int .i64 b, .int .i64 u, .int .i64 k] 71)).drew.heap[w5.heap.size]? = some (.cells #[.int .i64 b, .int .i64 u, .int .i64 k] 71 (0, 0)) := heap_alloc_new w5 _
  have HG5 := Lib.hid hg5; have HL5 := Lib.hid (Array.getElem?_eq_some_iff.1 hg5).1
  clear hg5
  have HA0 := Lib.hid hA0; have HBB0 := Lib.hid hB0
  clear hA0 hB0
  go_cut [6] (fun v wx => ∃ xs, Below w5.heap.size w5 wx ∧ wx.ownsRow w5.heap.size 96 1 v 4 xs ∧ ∀ y ∈ xs, VHop wx y)
  case first =>
    go_region_held2 (fun W => TSp1 pa b u k W) (first | assumption | exact s7' _ | exact s9' _) (first
      | (go_at_call 35; with_reducible refine (N0.out _ (by first | with_reducible exact HA0.out | with_reducible exact HBB0.out)).mono ?_; intro e w7 hh; obtain ⟨h1, hh1, B7, b7, D7, z7⟩ := hh; subst hh1; have HB7 := Lib.hid B7; have HBb7 := Lib.hid b7; have HD7 := Lib.hid D7; have s7 : TSp1 pa b u k w7 := tsp1 z7; have s7' : ∀ ob, TSp1 pa b u k (w7.alloc ob) := fun ob => tsp1 (heap_alloc_old z7); have HA7 := Lib.hid (fun (ob : Obj) => B7.trans ((below_alloc w7 ob).mono B7.size)); clear B7 b7 D7 z7 hs5 hs5')
      | (go_at_call 35; with_reducible refine (N1.out _ _ (by first | with_reducible exact HB7.out | with_reducible exact HA7.out _) (by first | with_reducible exact heap_alloc_new w7 _ | exact (HBb7.out.block _ HL5.out).trans HG5.out)).mono ?_; intro e w9 hh; obtain ⟨h2, hh1, B9, b9, D9, z9⟩ := hh; subst hh1; have HB9 := Lib.hid B9; have HD9 := Lib.hid D9; have hd79 : VHop w9 (.pointer (some ⟨h1, 0, none⟩)) := (by first | with_reducible exact HD7.out.below b9 | with_reducible exact (HD7.out.below (below_alloc w7 _)).below b9); have HD79 := Lib.hid hd79; have s9 : TSp1 pa b u k w9 := tsp1 z9; have s9' : ∀ ob, TSp1 pa b u k (w9.alloc ob) := fun ob => tsp1 (heap_alloc_old z9); clear hd79 B9 b9 D9 z9 s7 s7' HD7 HB7 HBb7 HA7))
    all_goals
      try go_wp2_with (fail)
      go_meet
      case rel =>
        have hb := below_alloc w9 (.cells #[.pointer none, .pointer (some ⟨pb, 0, none⟩), .pointer (some ⟨h1, 0, none⟩), .pointer (some ⟨h2, 0, none⟩)] 96)
        have hv5 : VHop w9 (.pointer (some ⟨pb, 0, none⟩)) := HV5.out.below HB9.out
        exact ⟨_, HB9.out.trans (hb.mono HB9.out.size), own_lit w9 w5.heap.size 96 [.pointer none, .pointer (some ⟨pb, 0, none⟩), .pointer (some ⟨h1, 0, none⟩), .pointer (some ⟨h2, 0, none⟩)] HB9.out.size (by unfold maxLen; simp), fun y hy => by
          simp only [List.mem_cons, List.not_mem_nil, or_false] at hy
          rcases hy with rfl | rfl | rfl | rfl
          · exact .inl rfl
          · exact hv5.below hb
          · exact HD79.out.below hb
          · exact HD9.out.below hb⟩
  case rest =>
  obtain ⟨xs, hbA, hrow, hvm⟩ := hcut
  obtain ⟨al, cap, rfl⟩ : ∃ a cap, u6 = .slice a 4 cap := own_sl2 hrow
  have HP := Lib.hid (HP5.out.keep hbA); have HQ := Lib.hid ((hbA.block _ (Array.getElem?_eq_some_iff.1 HQ5.out).1).trans HQ5.out); have HZA := Lib.hid ((hbA.block _ (Array.getElem?_eq_some_iff.1 HZ5.out).1).trans HZ5.out); have HROW := Lib.hid hrow; have HVS := Lib.hid hvm
  clear hbA hrow hvm HP5 HQ5 HZ5 HV5 HA0 HBB0 N0 N1 hs5 hs5'
  generalize wc = wA at *
  obtain ⟨n, hn⟩ : ∃ n : Nat, n = 4 := ⟨_, rfl⟩
  rw [← hn] at HROW
  simp only [← hn]
  have HN := Lib.hid hn
  clear hn
  go_wp2_with fail
  go_loopw [7] (fun i7 wr => ∃ i : Nat, i ≤ n ∧ i7 = .int .i64 i ∧ Below wA.heap.size wA wr) (fun i7 _ => n - (intOf i7).toNat)
  case atStart => exact ⟨0, by omega, rfl, Below.refl _ _⟩
  case round =>
    obtain ⟨i, hi, rfl, hB⟩ := hrel
    have hn5 : n ≤ 5 := by have := HN.out; omega
    by_cases hlt : i < n
    · have hlt' : (i : Int) < n := by omega
      obtain ⟨g', cap', y, hv, hy, hyc, -⟩ := own_at (own_fr HROW.out (below_fr hB (fun _ => false) false) rfl) i hlt
      simp only [Value.slice.injEq, true_and] at hv
      obtain ⟨rfl, rfl⟩ := hv
      have hvy := (HVS.out y (List.mem_of_getElem? hy)).below hB
      have uq := (hB.block _ (Array.getElem?_eq_some_iff.1 HQ.out).1).trans HQ.out
      have xq : ∀ st : ExtW wr, st.val.cell? ⟨q, 0, none⟩ = some (.pointer (some ⟨B.wb, 0, none⟩)) := fun st => st.cell (hcell uq 0)
      have x0 : ∀ st : ExtW wr, st.val.cell? ⟨g', i, none⟩ = some y := fun st => st.cell hyc
      have m1 := fun st : ExtW wr => (hvy.below st.below).over
      have m2 := fun st : ExtW wr => (hvy.below st.below).step (.pointer (some ⟨B.wb, 0, none⟩))
      have m3 := fun st : ExtW wr => (hvy.below st.below).step (.pointer none)
      have m4 := fun st : ExtW wr => (hvy.below st.below).left
      have HB := Lib.hid hB
      clear uq hyc hvy hy hB
      go_upto_region 8 with (fail)
      refine wp_region_ext (by kernel_rfl) (by kernel_rfl) ?_
      repeat (go_big_quiet_step (first
        | (go_at_call 36; with_reducible refine calls_ext_same (m1 _))
        | (go_at_call 37; with_reducible refine calls_ext_same (m2 _))
        | (go_at_call 37; with_reducible refine calls_ext_same (m3 _))
        | (go_at_call 38; with_reducible refine calls_ext_same (m4 _))))
      refine wpQuiet_nil ?_
      rintro W ⟨⟨W2, hW⟩, rfl⟩
      have HW := Lib.hid hW
      clear x0 xq m1 m2 m3 m4 hW
      go_wp2_with fail
      go_roundw
      case rel => exact ⟨i + 1, by omega, by go_num, HB.out.trans (HW.out.mono HB.out.size)⟩
      case measure => simp [intOf]; omega
    · obtain rfl : i = n := by omega
      have HP6 := Lib.hid (HP.out.keep hB)
      have HQ6 := Lib.hid ((hB.block _ (Array.getElem?_eq_some_iff.1 HQ.out).1).trans HQ.out)
      have hz := (hB.block _ (Array.getElem?_eq_some_iff.1 HZA.out).1).trans HZA.out
      have a0 := hcell hz 0; have a1 := hcell hz 1; have a2 := hcell hz 2
      clear hB hlt HROW HVS hz
      have key2 : ∀ W, Below wr.heap.size wr W → Calls Tryz.prog 22 #[.agg #[.pointer (some ⟨B.wb, 0, none⟩), .pointer (some ⟨R.wb, 0, none⟩)]] W fun e w' => e = .returned (.bool true) ∧ Below W.heap.size W w' := fun W hW => psall_any (HP6.out.keep hW) HV.out.2 (by rw [HV.out.1]; simp) (by have := HFAR.out.1; omega)
      have KEY := Lib.hid key2
      clear key2
      have nh := newhops (own_spots (w := wr) (base := wr.heap.size) [(b, u, k), (b, u, k), (b, u, k)] (Nat.le_refl _) (by simp)) (by simp)
      have e8 : (flat3 [(b, u, k), (b, u, k), (b, u, k)]).toArray = #[.int .i64 b, .int .i64 u, .int .i64 k, .int .i64 b, .int .i64 u, .int .i64 k, .int .i64 b, .int .i64 u, .int .i64 k] := rfl
      rw [e8] at nh
      have HB8 := Lib.hid (below_alloc wr (.cells #[.int .i64 b, .int .i64 u, .int .i64 k, .int .i64 b, .int .i64 u, .int .i64 k, .int .i64 b, .int .i64 u, .int .i64 k] 71))
      clear e8
      go_upto_region 11 with (go_at_call 35; refine nh.mono ?_; intro e w7 hh; obtain ⟨rb, hh1, a7, b7⟩ := hh; subst hh1; have B7 := Lib.hid (HB8.out.trans (b7.mono HB8.out.size)); have hst := hpstep_no a7 (show (2 : Nat) ≠ 0 by decide); have hov := hpover a7; have hlf := hpleft a7; rw [show (((hpnew [(b, u, k), (b, u, k), (b, u, k)]).left : Int) == 0) = false from rfl] at hov; rw [show ((hpnew [(b, u, k), (b, u, k), (b, u, k)]).left : Int) = 2 from rfl] at hlf; clear a7 b7 nh a0 a1 a2)
      have hsm := KEY.out _ B7.out
      have hq10 := (B7.out.block _ (Array.getElem?_eq_some_iff.1 HQ6.out).1).trans HQ6.out
      have p0 := hcell hq10 0
      have p1 := hcell hq10 1
      clear hq10
      go_wp2_with (first
        | (go_at_call 37; refine hst.mono ?_; intro e w8 hh; obtain ⟨hh1, hh2⟩ := hh; subst hh1; obtain rfl := hh2.symm; clear hst)
        | (go_at_call 36; refine hov.mono ?_; intro e w8 hh; obtain ⟨hh1, hh2⟩ := hh; subst hh1; obtain rfl := hh2.symm; clear hov)
        | (go_at_call 38; refine hlf.mono ?_; intro e w8 hh; obtain ⟨hh1, hh2⟩ := hh; subst hh1; obtain rfl := hh2.symm; clear hlf)
        | (go_at_call 22; refine hsm.mono ?_; intro e w12 hh; obtain ⟨hh1, b12⟩ := hh; subst hh1; have B12 := Lib.hid (B7.out.trans (b12.mono B7.out.size)); clear hsm b12 p0 p1)
        | (go_at_call 39; refine (lives17 _).mono ?_; intro e w13 hh; obtain ⟨hh1, b13⟩ := hh; subst hh1; have B13 := Lib.hid (B12.out.trans (b13.mono B12.out.size)); clear b13))
      go_ret
      have h0 := HP6.out.ws.below
      have h1 := h0.trans (B13.out.mono h0.size)
      rw [show w.heap.size = pa from HPA.out.symm] at HS0
      exact ⟨rfl, HB0.out.trans (h1.mono (Nat.le_of_lt (by have := HS0.out; have := HPA.out; omega)))⟩
set_option maxRecDepth 10000 in
theorem walkHopsVoid {H1 : Type} (w : World) (enc : TypeId × Value → H1) (base : Nat) (v : Value) (d : DataW H1) (p : List MemPlace) (k : DataW.Trod enc Tryz.prog w 0 (fun _ => true) true 71 v d p) (o : Value.okWide Tryz.prog w .any base 71 v) :
    Calls Tryz.prog 6 #[v] w fun e w' => e = .returned (.bool true) ∧ Below w.heap.size w w' := by
  have hl : leaves Tryz.prog 4 71 = some [.int .i64, .int .i64, .int .i64] := by kernel_rfl
  obtain ⟨cs, rfl, -⟩ := Go.WideShapes.okWide_struct Tryz.underlying71 o
  have h : Leaf.allHold w [.int .i64, .int .i64, .int .i64] cs.toList := opened hl k
  obtain ⟨c0, r0, e0, g0, h⟩ := allHold_cons h
  obtain ⟨c1, r1, e1, g1, h⟩ := allHold_cons h
  obtain ⟨c2, r2, e2, g2, h⟩ := allHold_cons h
  obtain rfl := allHold_nil h
  obtain ⟨b, rfl, -⟩ := holds_int g0
  obtain ⟨u, rfl, -⟩ := holds_int g1
  obtain ⟨sl, rfl, -⟩ := holds_int g2
  have : cs = #[.int .i64 b, .int .i64 u, .int .i64 sl] := Array.toList_inj.1 (by rw [e0, e1, e2])
  rw [this]
  exact hpvoid_any b u sl w
end Go.Proofs.YtomllmlieeaaiaaGreat
