import Derived.Test.YtmakjfeepmiggaaGreatZ19
import Derived.Test.YtmakjfeepmiggaaGreatB1
import Derived.Test.YtmakjfeepmiggaaGreatZ9
import Derived.Test.YtmakjfeepmiggaaGreatZ1
import Derived.Test.YtmakjfeepmiggaaGreatZ13
import Derived.Test.YtmakjfeepmiggaaGreatZ6
namespace Go.Proofs.YtmakjfeepmiggaaGreat
open Go.RowKit Go.Maps TagPure
set_option linter.unusedVariables false
theorem wrap64_lt (v : Int) : wrap64 v < 9223372036854775808 := by
  unfold wrap64; omega
def HP.next (s : CS) (x : HP) : CS × HP := match x.l with
  | d :: r => ((d.step s).1, ({ x with l := (d.step s).2 :: r } : HP).on)
  | [] => match x.way[x.left - 1]?, x.way[x.left]? with
    | some p, some q =>
      if x.load = false then (s.acc 1 (tagsA p.1 p.2.1) (s.val (tagsA p.1 p.2.1)), { x with tag := tagOf (s.val (tagsA p.1 p.2.1)) p.2.2, load := true })
      else (s.acc 1 (itemA p.1 p.2.1 p.2.2) (s.val (itemA p.1 p.2.1 p.2.2)), ({ x with l := x.row p q (wrap64 (s.val (itemA p.1 p.2.1 p.2.2))) } : HP).on)
    | _, _ => (s, x)
structure HSt (w0 w W : World) (B : WB) (V : WV) (s : CS) (S : List Nat) (hb pa : Nat) (x : HP) (qs : List (Nat × Dg)) (p : Int × Int × Int) : Prop where
  m : HMB w0 w W B V s S hb x qs
  a : W.heap[pa]? = some (.cells #[.int .i64 p.1, .int .i64 p.2.1, .int .i64 p.2.2] 71 (0, 0))
abbrev TSt (wb cb pa : Nat) (p : Int × Int × Int) (W : World) : Prop := W.cell? ⟨wb, 0, none⟩ = some (.pointer (some ⟨cb, 0, none⟩)) ∧ W.cell? ⟨pa, 0, none⟩ = some (.int .i64 p.1) ∧ W.cell? ⟨pa, 1, none⟩ = some (.int .i64 p.2.1) ∧ W.cell? ⟨pa, 2, none⟩ = some (.int .i64 p.2.2)
section
variable {w0 w W W' : World} {B : WB} {V : WV} {s s' : CS} {S : List Nat} {hb pa : Nat} {x : HP} {qs : List (Nat × Dg)} {p : Int × Int × Int}
theorem HSt.below (h : HSt w0 w W B V s S hb pa x qs p) (k : Below W.heap.size W W') : HSt w0 w W' B V s S hb pa x qs p := ⟨h.m.below k, (k.block _ (Array.getElem?_eq_some_iff.1 h.a).1).trans h.a⟩
theorem HSt.move (h : HSt w0 w W B V s S hb pa x qs p) (h2 : WS w0 W' B V s') (hf : Fr wTy true W W') : HSt w0 w W' B V s' S hb pa x qs p := ⟨h.m.move h2 hf, hf.cells _ _ _ _ h.a rfl⟩
theorem HSt.t (h : HSt w0 w W B V s S hb pa x qs p) : TSt B.wb B.cb pa p W := ⟨h.m.ws.c0, hcell h.a 0, hcell h.a 1, hcell h.a 2⟩
theorem HSt.t2 (h : HSt w0 w W B V s S hb pa x qs p) (v : Value) : TSt B.wb B.cb pa p (W.setCell ⟨hb, 2, none⟩ v) := by
  obtain ⟨cs, g1⟩ := h.m.hp.blk
  have hne : pa ≠ hb := fun c => by
    have := h.a
    rw [c, g1] at this
    simp only [Option.some.injEq, Obj.cells.injEq] at this
    exact absurd this.2.1 (by decide)
  have ha := (Below.heap_setCell W ⟨hb, 2, none⟩ v pa hne).trans h.a
  exact ⟨(set_take h.m.ws g1 rfl h.m.hp.low v).c0, hcell ha 0, hcell ha 1, hcell ha 2⟩
end
theorem HMB.self {w0 w W : World} {B : WB} {V : WV} {s : CS} {S : List Nat} {hb : Nat} {x : HP} (h : HMB w0 w W B V s S hb x []) : HMB w0 W W B V s [hb] hb x [] := ⟨h.ws, h.hp, FS.refl _ _, .inl (List.mem_singleton.2 rfl), fun q hq => by cases hq⟩
theorem HMB.re {w0 w W W' : World} {B : WB} {V : WV} {s s' : CS} {S : List Nat} {hb : Nat} {x y : HP} {qs qs' : List (Nat × Dg)} (h : HMB w0 w W B V s S hb x qs) (h2 : HMB w0 W W' B V s' [hb] hb y qs') : HMB w0 w W' B V s' S hb y qs' := by
  refine ⟨h2.ws, h2.hp, ⟨Nat.le_trans h.fs.size h2.fs.size, fun k cs T fr g1 g2 g3 => h2.fs.cells k cs T fr (h.fs.cells k cs T fr g1 g2 g3) g2 ?_⟩, h.own, fun q hq => ?_⟩
  · intro c
    have c := List.mem_singleton.1 c
    subst c
    rcases h.own with c | c
    · exact g3 c
    · have := (Array.getElem?_eq_some_iff.1 g1).1; omega
  · rcases h2.owns q hq with c | c
    · have c := List.mem_singleton.1 c
      rw [c]; exact h.own
    · exact .inr (Nat.le_trans h.fs.size c)
theorem HSt.row {w0 w W W' : World} {B : WB} {V : WV} {s s' : CS} {S : List Nat} {hb pa : Nat} {x y : HP} {qs qs' : List (Nat × Dg)} {p : Int × Int × Int} (h : HSt w0 w W B V s S hb pa x qs p) (h2 : HMB w0 W W' B V s' [hb] hb y qs') : HSt w0 w W' B V s' S hb pa y qs' p := by
  obtain ⟨cs, g1⟩ := h.m.hp.blk
  refine ⟨h.m.re h2, h2.fs.cells _ _ _ _ h.a rfl fun c => ?_⟩
  have c := List.mem_singleton.1 c
  have := h.a
  rw [c, g1] at this
  simp only [Option.some.injEq, Obj.cells.injEq] at this
  exact absurd this.2.1 (by decide)
set_option maxRecDepth 10000 in
set_option maxHeartbeats 4000000 in
theorem hpstep {w0 w W : World} {B : WB} {V : WV} {s : CS} {S : List Nat} {hb : Nat} {x : HP} {qs : List (Nat × Dg)} (h : HMB w0 w W B V s S hb x qs) (hr : s.room) (hs0 : w0.heap.size ≤ w.heap.size) (hl0 : x.left ≠ 0) (hwf : ∀ p ∈ x.way, (Lit.int .i64 p.2.2).wf = true) (hh : ∀ d r, x.l = d :: r → d.over = false) :
    Calls Tryz.prog 228 #[.pointer (some ⟨hb, 0, none⟩), .pointer (some ⟨B.wb, 0, none⟩)] W fun e w' => ∃ qs', e = .returned (.bool (((x.next s).2.left : Int) == 0)) ∧ HMB w0 w w' B V (x.next s).1 S hb (x.next s).2 qs' := by
  obtain ⟨k, hl⟩ : ∃ k, x.left = k + 1 := ⟨x.left - 1, by omega⟩
  have hov := hpover h.hp
  rw [show ((x.left : Int) == 0) = false from beq_eq_false_iff_ne.2 (by omega)] at hov
  have hfew := h.hp.few
  have hlt := h.hp.lt
  obtain ⟨p, hp⟩ : ∃ p, x.way[k]? = some p := ⟨x.way[k]'(by omega), List.getElem?_eq_getElem (by omega)⟩
  obtain ⟨q, hq⟩ : ∃ q, x.way[x.left]? = some q := ⟨x.way[x.left]'(by omega), List.getElem?_eq_getElem (by omega)⟩
  have hps := hwf p (List.mem_of_getElem? hp)
  have hqs := hwf q (List.mem_of_getElem? hq)
  obtain ⟨vw, vd, g1, g2, g3⟩ := h.hp.ex
  have c0 : W.cell? ⟨hb, 0, none⟩ = some vw := hcell g1 0
  have c1 : W.cell? ⟨hb, 1, none⟩ = some (.int .i64 x.left) := hcell g1 1
  obtain ⟨g, cap, rfl, hnc⟩ := own_some g2 (by omega)
  obtain ⟨p0, p1, p2, -⟩ := own_cell3 g2 k p hp
  have hw1 : wrap64 ((x.left : Int) - 1) = (k : Int) := by rw [IntWalk.wrap64_in _ (by omega)]; omega
  have hk1 : (k : Int) < x.way.length := by omega
  have hk3 : k < x.way.length := by omega
  have al : ∀ (ob : Obj) {q j : Nat} {u : Value} {w : World}, w.cell? ⟨q, j, none⟩ = some u → (w.alloc ob).cell? ⟨q, j, none⟩ = some u := fun ob q j u w hu => by rw [World.cell?_alloc_past _ _ _ (World.block_lt_of_cell? _ _ hu)]; exact hu
  have c0' := fun ob => al ob c0; have c1' := fun ob => al ob c1; have p0' := fun ob => al ob p0; have p1' := fun ob => al ob p1; have p2' := fun ob => al ob p2
  have hst : HSt w0 w (W.alloc (.cells #[.int .i64 p.1, .int .i64 p.2.1, .int .i64 p.2.2] 71)).drew B V s S hb W.heap.size x qs p := ⟨h.below (below_alloc W _).drew, heap_alloc_new W _⟩
  have H1 := Lib.hid hst; have HR := Lib.hid hr; have HS0 := Lib.hid hs0; have HH := Lib.hid hh; have HP1 := Lib.hid hp; have HQ1 := Lib.hid hq; have HL := Lib.hid hl; have HPS := Lib.hid hps; have HQS := Lib.hid hqs
  clear h hr hs0 hl0 hwf hh hl hfew hlt hp hq hps hqs g1 g2 g3 hnc al hst
  go_enter Tryz.func228, Tryz.ntmps228
  go_upto_region 3 with (go_at_call 215; refine hov.mono ?_; intro e w2 hh; obtain ⟨hh1, hh2⟩ := hh; subst hh1; obtain rfl := hh2.symm; clear hov)
  go_region
  go_upto_region 5 with (fail)
  clear c0 c1 p0 p1 p2 c0' c1' p0' p1' p2'
  change Code.wp _ _ _ _ (W.alloc (.cells #[.int .i64 p.1, .int .i64 p.2.1, .int .i64 p.2.2] 71)).drew
  generalize (W.alloc (.cells #[.int .i64 p.1, .int .i64 p.2.1, .int .i64 p.2.2] 71)).drew = w1 at *
  generalize W.heap.size = pa at *
  obtain ⟨vw1, vd1, g1, -, g3⟩ := H1.out.m.hp.ex
  have c3 : w1.cell? ⟨hb, 3, none⟩ = some (.bool x.load) := hcell g1 3
  have c4 : w1.cell? ⟨hb, 4, none⟩ = some vd1 := hcell g1 4
  clear g1
  rcases qs with _ | ⟨⟨b, d⟩, r⟩
  · obtain ⟨a, c, rfl⟩ := do_nil g3
    clear g3
    have hxl : x.l = [] := H1.out.m.hp.eq
    have hbd := wf_bd (H1.out.m.ws.own.wf (tagsA p.1 p.2.1))
    have hkl : x.left - 1 = k := by have := HL.out; omega
    have hnx : x.next s = if x.load = false then (s.acc 1 (tagsA p.1 p.2.1) (s.val (tagsA p.1 p.2.1)), { x with tag := tagOf (s.val (tagsA p.1 p.2.1)) p.2.2, load := true })
      else (s.acc 1 (itemA p.1 p.2.1 p.2.2) (s.val (itemA p.1 p.2.1 p.2.2)), ({ x with l := x.row p q (wrap64 (s.val (itemA p.1 p.2.1 p.2.2))) } : HP).on) := by
      unfold HP.next
      rw [hxl]
      dsimp only
      rw [hkl, HP1.out, HQ1.out]
    have HXL := Lib.hid hxl; have HNX := Lib.hid hnx
    clear hxl hkl hnx
    obtain hld | hld : x.load = false ∨ x.load = true := by cases x.load <;> simp
    all_goals
      rw [hld] at c3
      have HLD0 := Lib.hid hld
      clear hld
    · have HNX : Hid (x.next s = (s.acc 1 (tagsA p.1 p.2.1) (s.val (tagsA p.1 p.2.1)), { x with tag := tagOf (s.val (tagsA p.1 p.2.1)) p.2.2, load := true })) := by have := HNX.out; rw [if_pos HLD0.out] at this; exact this
      have hTG := fun W => tags_any p.1 p.2.1 W
      have hAw := tagsA_wf p.1 p.2.1
      have hto := fun W => tag_any (s.val (tagsA p.1 p.2.1)) p.2.2 W hbd.1 hbd.2
      have hld2 := fun W (h : HSt w0 w W B V s S hb pa x [] p) => h.m.ws.load HR.out (tagsA p.1 p.2.1) hAw
      generalize tagsA p.1 p.2.1 = A at *
      generalize s.val A = v at *
      generalize tagOf v p.2.2 = tg at *
      have HTO := Lib.hid hto; have HTG := Lib.hid hTG; have HLD := Lib.hid hld2
      have s1 : TSt B.wb B.cb pa p w1 := H1.out.t
      clear hto hTG hAw hbd hld2
      go_upto_region 8 with (fail)
      clear s1 c3 c4
      have H2 := Lib.hid (H1.out.below (show Below w1.heap.size w1 w1.drew from (Below.refl _ _).drew))
      have s2 : TSt B.wb B.cb pa p w1.drew := H2.out.t
      clear H1
      go_region_held2 (fun W => TSt B.wb B.cb pa p W) (first | assumption | exact s8 _) (first
        | (go_at_call 42; refine (HTG.out _).mono ?_; intro e w3 hh; obtain ⟨hh1, b3⟩ := hh; subst hh1; have H3 := Lib.hid (H2.out.below b3); have s3 : TSt B.wb B.cb pa p w3 := H3.out.t; have hl3 := HLD.out _ H3.out; clear b3 s2 H2)
        | (go_at_call 62; refine hl3.mono ?_; intro e w4 hh; obtain ⟨hh1, h4, f4⟩ := hh; subst hh1; have H4 := Lib.hid (H3.out.move h4 f4); have s4 : TSt B.wb B.cb pa p w4 := H4.out.t; clear h4 f4 hl3 s3 H3)
        | (go_at_call 66; refine (HTO.out _).mono ?_; intro e w5 hh; obtain ⟨hh1, b5⟩ := hh; subst hh1; have H5 := Lib.hid (H4.out.below b5); have s5 : TSt B.wb B.cb pa p w5 := H5.out.t; have s8 : ∀ v, TSt B.wb B.cb pa p (w5.setCell ⟨hb, 2, none⟩ v) := H5.out.t2; have ff := H5.out.m.hp.f; obtain ⟨-, c2, c3⟩ := H5.out.m.hp.c; clear b5 s4 H4))
      have H6 := Lib.hid ((H5.out.m.set (y := { x with tag := tg }) 2 (.int .i64 tg) rfl rfl H5.out.m.hp.lt (fun _ _ => rfl)).set (y := { x with tag := tg, load := true }) 3 (.bool true) rfl rfl H5.out.m.hp.lt (fun _ _ => rfl))
      clear s8 s5 H5
      go_wp2_with (fail)
      go_ret
      refine ⟨[], ?_, ?_⟩
      · rw [HNX.out]
        show _ = Ending.returned (.bool ((x.left : Int) == 0))
        rw [show ((x.left : Int) == 0) = false from beq_eq_false_iff_ne.2 (by have := HL.out; omega)]
        try rfl
      · rw [HNX.out]
        exact H6.out
    · have HNX : Hid (x.next s = (s.acc 1 (itemA p.1 p.2.1 p.2.2) (s.val (itemA p.1 p.2.1 p.2.2)), ({ x with l := x.row p q (wrap64 (s.val (itemA p.1 p.2.1 p.2.2))) } : HP).on)) := by have := HNX.out; rw [if_neg (by rw [HLD0.out]; decide)] at this; exact this
      have hIT := fun W => item_any p.1 p.2.1 p.2.2 HPS.out W
      have hAw := itemA_wf p.1 p.2.1 p.2.2
      have hld2 := fun W (h : HSt w0 w W B V s S hb pa x [] p) => h.m.ws.load HR.out (itemA p.1 p.2.1 p.2.2) hAw
      generalize itemA p.1 p.2.1 p.2.2 = A at *
      have hvb := wf_bd (H1.out.m.ws.own.wf A)
      obtain ⟨s2, hs2⟩ : ∃ s2, s2 = s.acc 1 A (s.val A) := ⟨_, rfl⟩
      rw [← hs2] at hld2 HNX
      generalize s.val A = v at *
      have hrv := wrap64_lt v
      have HIT := Lib.hid hIT; have HLD := Lib.hid hld2; have HRV := Lib.hid hrv
      have s1 : TSt B.wb B.cb pa p w1 := H1.out.t
      clear hIT hAw hbd hld2 hrv hvb hs2
      go_upto_region 4 with (fail)
      clear s1 c3 c4
      have H2 := Lib.hid (H1.out.below (show Below w1.heap.size w1 w1.drew from (Below.refl _ _).drew))
      have s2' : TSt B.wb B.cb pa p w1.drew := H2.out.t
      clear H1
      go_region_held2 (fun W => TSt B.wb B.cb pa p W) (first | assumption | exact s8 _) (first
        | (go_at_call 192; refine (HIT.out _).mono ?_; intro e w3 hh; obtain ⟨hh1, b3⟩ := hh; subst hh1; have H3 := Lib.hid (H2.out.below b3); have s3 : TSt B.wb B.cb pa p w3 := H3.out.t; have hl3 := HLD.out _ H3.out; clear b3 s2' H2)
        | (go_at_call 62; refine hl3.mono ?_; intro e w4 hh; obtain ⟨hh1, h4, f4⟩ := hh; subst hh1; have H4 := Lib.hid (H3.out.move h4 f4); have s4 : TSt B.wb B.cb pa p w4 := H4.out.t; have hrw := hprow H4.out.m.self k HL.out HP1.out HQ1.out HPS.out HQS.out (wrap64 v) HRV.out H4.out.m.ws.below.size; clear h4 f4 hl3 s3 H3)
        | (go_at_call 241; rw [IntWalk.i64_left]; refine hrw.mono ?_; intro e w5 hh; obtain ⟨hh1, qs5, h5⟩ := hh; subst hh1; have H5 := Lib.hid (H4.out.row h5); have s5 : TSt B.wb B.cb pa p w5 := H5.out.t; have hon5 := hpon H5.out.m (by show x.left ≠ 0; have := HL.out; omega); clear h5 s4 hrw H4))
      clear s5 H5
      go_upto_region 12 with (go_at_call 242; refine hon5.mono ?_; intro e w6 hh; obtain ⟨hh1, qs6, h6⟩ := hh; subst hh1; have H6 := Lib.hid h6; have ho6 := hpover h6.hp; clear h6 hon5)
      go_wp2_with (go_at_call 215; refine ho6.mono ?_; intro e w7 hh; obtain ⟨hh1, hh2⟩ := hh; subst hh1; obtain rfl := hh2.symm; clear ho6)
      go_ret
      rw [HNX.out]
      exact ⟨qs6, rfl, H6.out⟩
  · obtain ⟨g', o', k', rfl, hc, hrk, hkm, -⟩ := do_pop g3
    have hxl : x.l = d :: r.map Prod.snd := H1.out.m.hp.eq
    have hdo := HH.out d _ hxl
    have hnx : x.next s = ((d.step s).1, ({ x with l := (d.step s).2 :: r.map Prod.snd } : HP).on) := by
      unfold HP.next
      rw [hxl]
    have hda := (H1.out.m.hp.dos (b, d) (List.mem_cons_self)).2
    have hlo := (H1.out.m.hp.dos (b, d) (List.mem_cons_self)).1
    have hz0 : (0 : Int) < (r.length : Int) + 1 := by omega
    have hstp : ∀ (W' : World), WS w0 W' B V (d.step s).1 → DgAt W' b (d.step s).2 → Fx wTy true b w1 W' → HMB w0 w W' B V (d.step s).1 S hb { x with l := (d.step s).2 :: r.map Prod.snd } ((b, (d.step s).2) :: r) := fun W' h2 h3 hf => H1.out.m.step h2 h3 hf
    have HNX := Lib.hid hnx; have HST := Lib.hid hstp; have HW1 := Lib.hid H1.out.m.ws
    have hon : ∀ (W' : World), HMB w0 w W' B V (d.step s).1 S hb { x with l := (d.step s).2 :: r.map Prod.snd } ((b, (d.step s).2) :: r) → Calls Tryz.prog 242 #[.pointer (some ⟨hb, 0, none⟩)] W' fun e w' => e = .returned (.tuple #[]) ∧ ∃ qs', HMB w0 w w' B V (d.step s).1 S hb ({ x with l := (d.step s).2 :: r.map Prod.snd } : HP).on qs' := fun W' h => hpon h (by show x.left ≠ 0; have := HL.out; omega)
    have HON := Lib.hid hon
    clear g3 hxl hnx hrk hkm hstp hon c3 H1
    cases d with
    | mark xs =>
      have hk := dgstep_mark HW1.out HR.out hlo hda.1 hdo hda.2
      have hc2 : w1.cell? ⟨g', o', none⟩ = some (.iface 350 (.pointer (some ⟨b, 0, none⟩))) := hc
      clear hc hda hlo hdo
      go_upto_region 11 with (go_at_call 281; refine hk.mono ?_; intro e w3 hh; obtain ⟨⟨rv, hh1⟩, h3, d3, f3⟩ := hh; subst hh1; have H3 := Lib.hid (HST.out _ h3 d3 f3); have hon3 := HON.out _ H3.out; clear h3 d3 f3 hk hc2 c4)
      go_upto_region 12 with (go_at_call 242; refine hon3.mono ?_; intro e w6 hh; obtain ⟨hh1, qs6, h6⟩ := hh; subst hh1; have H6 := Lib.hid h6; have ho6 := hpover h6.hp; clear h6 hon3)
      go_wp2_with (go_at_call 215; refine ho6.mono ?_; intro e w7 hh; obtain ⟨hh1, hh2⟩ := hh; subst hh1; obtain rfl := hh2.symm; clear ho6)
      go_ret
      rw [HNX.out]
      exact ⟨qs6, rfl, H6.out⟩
    | out σ =>
      have hk := dgstep_out HW1.out HR.out hlo hda.1 hdo hda.2
      have hc2 : w1.cell? ⟨g', o', none⟩ = some (.iface 353 (.pointer (some ⟨b, 0, none⟩))) := hc
      clear hc hda hlo hdo
      go_upto_region 11 with (go_at_call 288; refine hk.mono ?_; intro e w3 hh; obtain ⟨⟨rv, hh1⟩, h3, d3, f3⟩ := hh; subst hh1; have H3 := Lib.hid (HST.out _ h3 d3 f3); have hon3 := HON.out _ H3.out; clear h3 d3 f3 hk hc2 c4)
      go_upto_region 12 with (go_at_call 242; refine hon3.mono ?_; intro e w6 hh; obtain ⟨hh1, qs6, h6⟩ := hh; subst hh1; have H6 := Lib.hid h6; have ho6 := hpover h6.hp; clear h6 hon3)
      go_wp2_with (go_at_call 215; refine ho6.mono ?_; intro e w7 hh; obtain ⟨hh1, hh2⟩ := hh; subst hh1; obtain rfl := hh2.symm; clear ho6)
      go_ret
      rw [HNX.out]
      exact ⟨qs6, rfl, H6.out⟩
    | put σ gg rr =>
      have hk := dgstep_put HW1.out HR.out hlo hda.1 hdo hda.2
      have hc2 : w1.cell? ⟨g', o', none⟩ = some (.iface 181 (.pointer (some ⟨b, 0, none⟩))) := hc
      clear hc hda hlo hdo
      go_upto_region 11 with (go_at_call 272; refine hk.mono ?_; intro e w3 hh; obtain ⟨⟨rv, hh1⟩, h3, d3, f3⟩ := hh; subst hh1; have H3 := Lib.hid (HST.out _ h3 d3 f3); have hon3 := HON.out _ H3.out; clear h3 d3 f3 hk hc2 c4)
      go_upto_region 12 with (go_at_call 242; refine hon3.mono ?_; intro e w6 hh; obtain ⟨hh1, qs6, h6⟩ := hh; subst hh1; have H6 := Lib.hid h6; have ho6 := hpover h6.hp; clear h6 hon3)
      go_wp2_with (go_at_call 215; refine ho6.mono ?_; intro e w7 hh; obtain ⟨hh1, hh2⟩ := hh; subst hh1; obtain rfl := hh2.symm; clear ho6)
      go_ret
      rw [HNX.out]
      exact ⟨qs6, rfl, H6.out⟩
end Go.Proofs.YtmakjfeepmiggaaGreat
namespace Go.Proofs.YtmakjfeepmiggaaGreat
open Go.RowKit
set_option linter.unusedVariables false
theorem take_contains {xs : List Int} {k : Nat} {y a : Int} (h : xs[k]? = some y) : (xs.take (k + 1)).contains a = ((xs.take k).contains a || (a == y)) := by
  rw [List.take_add_one, h]
  simp only [List.contains_append, Option.toList_some, List.contains_cons, List.contains_nil, Bool.or_false]
set_option maxHeartbeats 1000000 in
theorem rof_any (l : List (Int × Int)) (ao : Option Addr) (cap : Nat) (w : World) (h : Plc w ao cap l) (hsz : l.length ≤ 1000000) : Calls Tryz.prog 103 #[.slice ao l.length cap] w fun e w' => ∃ v, e = .returned v ∧ w'.ownsRow w.heap.size 39 1 v (vof l).length (cu (vof l)) ∧ Below w.heap.size w w' := by
  have hml : l.length ≤ maxLen := Nat.le_trans h.le h.most
  obtain ⟨i0, hi0, hz0, hz1, hz2⟩ := info_parts info_addr
  have HI := Lib.hid hi0; have HZ0 := Lib.hid hz0; have HZ1 := Lib.hid hz1; have HZ2 := Lib.hid hz2; have HP := Lib.hid h; have HM := Lib.hid hsz
  unfold maxLen at hml
  clear hi0 hz0 hz1 hz2 h hsz
  go_enter Tryz.func103, Tryz.ntmps103
  go_wp2
  go_loopw [3, 4] (fun v i wr => ∃ k : Nat, k ≤ l.length ∧ i = .int .i64 k ∧ wr.ownsRow w.heap.size 39 1 v (vof (l.take k)).length (cu (vof (l.take k))) ∧ Below w.heap.size w wr) (fun _ i _ => l.length - (intOf i).toNat)
  case atStart => exact ⟨0, by omega, rfl, World.ownsRow_nil _ _ _ _, Below.refl _ _⟩
  case round =>
    obtain ⟨k, hk, rfl, hown, hbl⟩ := hrel
    by_cases hlt : k < l.length
    · obtain ⟨b, off, x, y, rfl, hx, c0, c1⟩ := (HP.out.below hbl).at k hlt
      have hl := vof_len (l.take k)
      rw [List.length_take] at hl
      have hst := vof_take hx
      have hlt' : (k : Int) < l.length := by omega
      have HO := Lib.hid hown; have HL := Lib.hid hbl; have HS := Lib.hid hst
      clear hown hbl hst hx
      generalize vof (l.take k) = out at *
      have hv : vstep out (x, y) = if ver x y = 0 then out else if out.contains (ver x y) then out else out ++ [ver x y] := rfl
      have hver := fun w => rver_any x y w
      generalize ver x y = vv at *
      have HV := Lib.hid hv
      clear hv
      go_wp2_with (go_at_call 163; refine (hver _).mono ?_; rintro e w1 ⟨rfl, b1⟩; have O1 := own_below HO.out b1; have L1 := HL.out.trans (b1.mono HL.out.size); have OO := Lib.hid O1; have LL := Lib.hid L1; clear O1 L1 b1)
      obtain ⟨ad, cap2, hu, r1, r2, r3, r4⟩ := Lst.rd (Lst.of_own OO.out)
      subst hu
      go_loopw [6, 7] (fun v i wr => ∃ j : Nat, j ≤ out.length ∧ i = .int .i64 j ∧ v = .bool ((vv == 0) || (out.take j).contains vv) ∧ wr = w1) (fun _ i _ => out.length - (intOf i).toNat)
      case atStart => exact ⟨0, by omega, rfl, by simp, rfl⟩
      case round =>
        obtain ⟨j, hj, rfl, rfl, rfl⟩ := hrel
        by_cases hlj : j < out.length
        · rcases r4 with r4 | ⟨g, o2, rfl, r5⟩
          · exfalso; have : (cu out).length = 0 := by rw [r4]; rfl
            simp [cu] at this; rw [this] at hlj; simp at hlj
          have hc := r5 j (by simpa [cu] using hlj)
          rw [show (cu out)[j]? = some (.int .u64 out[j]) by simp [cu, hlj]] at hc
          have ht := take_contains (a := vv) (List.getElem?_eq_getElem hlj)
          have hj1 : (j : Int) < out.length := by omega
          generalize out[j] = z at hc ht
          cases hy : (z == vv)
          · have HT : Hid (((vv == 0) || (out.take (j + 1)).contains vv) = ((vv == 0) || (out.take j).contains vv)) := by
              show _ = _; rw [ht, BEq.comm (a := vv) (b := z), hy, Bool.or_false]
            clear ht r5
            generalize ((vv == 0) || (out.take j).contains vv) = hd at *
            go_wp2
            go_roundw
            case rel => exact ⟨j + 1, by omega, by go_num, by rw [HT.out], trivial⟩
            case measure => simp [intOf]; omega
          · have HT : Hid (((vv == 0) || (out.take (j + 1)).contains vv) = true) := by
              show _ = _; rw [ht, BEq.comm (a := vv) (b := z), hy, Bool.or_true, Bool.or_true]
            clear ht r5
            generalize ((vv == 0) || (out.take j).contains vv) = hd at *
            go_wp2
            go_roundw
            case rel => exact ⟨j + 1, by omega, by go_num, by rw [HT.out], trivial⟩
            case measure => simp [intOf]; omega
        · obtain rfl : j = out.length := by omega
          rw [List.take_length]
          cases hd : ((vv == 0) || out.contains vv)
          · have HN : Hid (vstep out (x, y) = out ++ [vv]) := by
              show _ = _
              rw [Bool.or_eq_false_iff] at hd
              rw [HV.out, if_neg (beq_eq_false_iff_ne.1 hd.1), hd.2]; rfl
            clear hd r4
            go_wp2_with (at_builtin; refine wpList_append_own _ rfl _ _ 90 rfl w.heap.size 39 i0 (.int .u64 0) 1 8 Tryz.underlying90 HI.out HZ0.out HZ1.out HZ2.out rfl (by decide) _ _ _ rfl (OO.out.alloc _) ⟨_, 0, none⟩ 1 1 [.int .u64 vv] rfl rfl ?c1 ?c2 ?c3 ?c4 ?c5 ?_)
            case c1 => exact cell_one_new _ _ _
            case c2 => simp [Value.oneCell']
            case c3 => unfold maxLen; omega
            case c4 => have := HM.out; omega
            case c5 => simp; have := LL.out.size; omega
            intro v' w2 hown' hgrow _
            go_wp2
            go_roundw
            case rel =>
              refine ⟨k + 1, by omega, by go_num, ?_, (LL.out.alloc LL.out.size _).grown hgrow (by simp; have := LL.out.size; omega) (fun j hj => (OO.out.lt j hj).1)⟩
              rw [HS.out, HN.out]; simpa [cu] using hown'
            case measure => simp [intOf]; omega
          · have HN : Hid (vstep out (x, y) = out) := by
              show _ = _
              rw [HV.out]
              split
              · rfl
              · rename_i hne
                rw [beq_eq_false_iff_ne.2 hne, Bool.false_or] at hd
                rw [hd]; rfl
            clear hd r4
            go_wp2
            go_roundw
            case rel => exact ⟨k + 1, by omega, by go_num, by rw [HS.out, HN.out]; exact OO.out, LL.out⟩
            case measure => simp [intOf]; omega
    · obtain rfl : k = l.length := by omega
      rw [List.take_length] at hown
      have HL := Lib.hid hbl
      have HO := Lib.hid hown
      clear hown hbl
      go_wp2
      go_ret
      exact ⟨_, rfl, HO.out, HL.out⟩
end Go.Proofs.YtmakjfeepmiggaaGreat
namespace Go.Proofs.YtmakjfeepmiggaaGreat
open Go.RowKit Go.Maps
set_option linter.unusedVariables false
theorem mover_nil (w : World) : Calls Tryz.prog 280 #[.pointer none] w fun e w' => e = .returned (.bool true) ∧ w' = w := by
  go_enter Tryz.func280, Tryz.ntmps280
  go_wp2
  go_ret
  exact ⟨rfl, rfl⟩
theorem mstep_nil (v : Value) (w : World) : Calls Tryz.prog 281 #[.pointer none, v] w fun e w' => e = .returned (.bool true) ∧ w' = w := by
  go_enter Tryz.func281, Tryz.ntmps281
  go_wp2_with (go_at_call 280; refine (mover_nil _).mono ?_; rintro e w1 ⟨rfl, hw⟩; obtain rfl := hw.symm)
  go_ret
  exact ⟨rfl, rfl⟩
theorem mstep_void {w : World} {mb : Nat} (h : MarkAt w mb []) (v : Value) : Calls Tryz.prog 281 #[.pointer (some ⟨mb, 0, none⟩), v] w fun e w' => e = .returned (.bool true) ∧ w' = w := by
  have ho := over_any h
  rw [show decide (([] : List Int) = []) = true from rfl] at ho
  clear h
  go_enter Tryz.func281, Tryz.ntmps281
  go_wp2_with (go_at_call 280; refine ho.mono ?_; rintro e w1 ⟨rfl, hw⟩; obtain rfl := hw.symm)
  go_ret
  exact ⟨rfl, rfl⟩
def VMark (w : World) (v : Value) : Prop := v = .pointer none ∨ ∃ b, v = .pointer (some ⟨b, 0, none⟩) ∧ MarkAt w b []
theorem VMark.below {w w' : World} {v : Value} (h : VMark w v) (hb : Below w.heap.size w w') : VMark w' v := by
  rcases h with rfl | ⟨b, rfl, h⟩
  · exact .inl rfl
  · exact .inr ⟨b, rfl, h.keep hb⟩
theorem VMark.fr {K : TypeId → Bool} {mp : Bool} {w w' : World} {v : Value} (h : VMark w v) (hf : Fr K mp w w') (h1 : K 358 = false) (h2 : K 39 = false) : VMark w' v := by
  rcases h with rfl | ⟨b, rfl, h⟩
  · exact .inl rfl
  · exact .inr ⟨b, rfl, h.fr hf h1 h2⟩
theorem VMark.over {w : World} {v : Value} (h : VMark w v) : Calls Tryz.prog 280 #[v] w fun e w' => e = .returned (.bool true) ∧ w' = w := by
  rcases h with rfl | ⟨b, rfl, h⟩
  · exact mover_nil w
  · exact over_any h
theorem VMark.step {w : World} {v : Value} (u : Value) (h : VMark w v) : Calls Tryz.prog 281 #[v, u] w fun e w' => e = .returned (.bool true) ∧ w' = w := by
  rcases h with rfl | ⟨b, rfl, h⟩
  · exact mstep_nil u w
  · exact mstep_void h u
def RMarkAt (w : World) (base rb : Nat) (all : List Int) (at_ : Nat) : Prop := ∃ v, w.heap[rb]? = some (.cells #[.int .i64 (if at_ < all.length then 1 else 0), v, .int .i64 at_] 319 (0, 0)) ∧ w.ownsRow base 39 1 v all.length (cu all)
theorem RMarkAt.fr {K : TypeId → Bool} {mp : Bool} {w w' : World} {base rb : Nat} {all : List Int} {at_ : Nat} (h : RMarkAt w base rb all at_) (hf : Fr K mp w w') (h1 : K 319 = false) (h2 : K 39 = false) : RMarkAt w' base rb all at_ := by
  obtain ⟨v, h3, h4⟩ := h
  exact ⟨v, hf.cells _ _ _ _ h3 h1, own_fr h4 hf h2⟩
theorem rnewmark_any (l : List (Int × Int)) (ao : Option Addr) (cap : Nat) (w : World) (h : Plc w ao cap l) (hsz : l.length ≤ 1000000) : Calls Tryz.prog 169 #[.slice ao l.length cap] w
    fun e w' => ∃ rb, e = .returned (.pointer (some ⟨rb, 0, none⟩)) ∧ RMarkAt w' w.heap.size rb (vof l) 0 ∧ w.heap.size ≤ rb ∧ Below w.heap.size w w' := by
  have ho := rof_any l ao cap w h hsz
  have hl := vof_len l
  generalize vof l = xs at *
  have HL : Hid (xs.length ≤ 1000000) := Nat.le_trans hl hsz
  clear h hl hsz
  go_enter Tryz.func169, Tryz.ntmps169
  go_upto_region 2 with (go_at_call 103; refine ho.mono ?_; rintro e w1 ⟨v, rfl, h1, h2⟩; obtain ⟨a1, cap1, hv⟩ := own_sl h1; subst hv; have H1 := Lib.hid h1; have H2 := Lib.hid h2; clear h1 h2 ho)
  have hb := below_alloc w1 (.cells #[.int .i64 0, .slice a1 xs.length cap1, .int .i64 0] 319)
  have z := heap_alloc_new w1 (.cells #[.int .i64 0, .slice a1 xs.length cap1, .int .i64 0] 319)
  have HR := Lib.hid (own_fr H1.out (below_fr hb (fun _ => false) false) rfl)
  have HB : Hid (Below w.heap.size w (w1.alloc (.cells #[.int .i64 0, .slice a1 xs.length cap1, .int .i64 0] 319))) := H2.out.trans (hb.mono H2.out.size)
  have HSZ : Hid (w.heap.size ≤ w1.heap.size) := H2.out.size
  change Code.wp _ _ _ _ (w1.alloc (.cells #[.int .i64 0, .slice a1 xs.length cap1, .int .i64 0] 319))
  generalize w1.alloc (.cells #[.int .i64 0, .slice a1 xs.length cap1, .int .i64 0] 319) = w2 at *
  generalize w1.heap.size = rb at *
  have c0 := hcell z 0
  have c1 := hcell z 1
  have cf := hfrz z 0
  have Z := Lib.hid z
  clear hb z H1 H2
  by_cases h0 : 0 < xs.length
  · have d0 : decide ((0 : Int) < xs.length) = true := decide_eq_true (by omega)
    have hl := HL.out
    go_wp2
    go_ret
    have hk := setCell_keeps w2 rb 0 (.int .i64 1)
    have hf : Fr (fun T => T == 319) false w2 (w2.setCell ⟨rb, 0, none⟩ (.int .i64 1)) := keeps_fr hk _ _ fun k e => ⟨_, _, _, e ▸ Z.out, rfl⟩
    refine ⟨rb, rfl, ⟨.slice a1 xs.length cap1, ?_, own_fr HR.out hf rfl⟩, HSZ.out, keeps_below hk HB.out HB.out.size fun k e => e ▸ HSZ.out⟩
    rw [if_pos h0]
    exact setCell_same Z.out 0 (.int .i64 1)
  · have d0 : decide ((0 : Int) < xs.length) = false := decide_eq_false (by omega)
    have hl := HL.out
    go_wp2
    go_ret
    refine ⟨rb, rfl, ⟨.slice a1 xs.length cap1, ?_, HR.out⟩, HSZ.out, HB.out⟩
    rw [if_neg h0]
    exact Z.out
end Go.Proofs.YtmakjfeepmiggaaGreat