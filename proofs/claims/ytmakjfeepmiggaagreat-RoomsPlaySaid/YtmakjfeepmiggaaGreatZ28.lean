import Derived.Test.YtmakjfeepmiggaaGreatZ27
import Derived.Maps.AppendAt
namespace Go.Proofs.YtmakjfeepmiggaaGreat
open Go.RowKit Go.Maps TagPure
set_option linter.unusedVariables false
theorem info_spot17 : (Tryz.prog.info? 71).map (fun i => (i.zero, i.size, i.bytes)) = some (some (.agg #[.int .i64 0, .int .i64 0, .int .i64 0]), 3, 24) := by kernel_rfl
set_option maxRecDepth 10000 in
set_option maxHeartbeats 2000000 in
theorem rhnew {w : World} {base : Nat} {v : Value} {l : List (Int × Int × Int)} (h : w.ownsRow base 71 3 v l.length (flat3 l)) (hl : l.length ≤ 100000) (h0 : l ≠ []) : Calls Tryz.prog 168 #[v] w fun e w' => ∃ b, e = .returned (.pointer (some ⟨b, 0, none⟩)) ∧ RHopsAt w' w.heap.size b (hpnew l) [] ∧ Below w.heap.size w w' := by
  have hpos : 0 < l.length := List.length_pos_iff.2 h0
  obtain ⟨i6, hi6, hz0, hz1, hz2⟩ := info_parts info_spot17
  have HI := Lib.hid hi6; have HZ0 := Lib.hid hz0; have HZ1 := Lib.hid hz1; have HZ2 := Lib.hid hz2
  obtain ⟨g, cap, rfl, -⟩ := own_some h hpos
  have hnews : ∀ j u, (flat3 l)[j]? = some u → w.cell? ((⟨g, 0, none⟩ : Addr).add j) = some u := h.cells rfl
  have HN := Lib.hid hnews; have HL := Lib.hid hl; have HPO := Lib.hid hpos; have HF1 := Lib.hid (flat3_one l); have HFL := Lib.hid (flat3_len l)
  obtain ⟨K, hK⟩ : ∃ K, K = (l.length : Int) - 2 := ⟨_, rfl⟩
  have e8 : wrap64 ((l.length : Int) - 2) = K := by rw [hK]; exact IntWalk.wrap64_in _ (by omega)
  have HKK := Lib.hid hK
  clear h hl hnews hi6 hz0 hz1 hz2 hpos h0 hK
  go_enter Tryz.func168, Tryz.ntmps168
  go_upto_region 2 with (at_builtin; refine wpList_append_own_at _ rfl _ _ 54 rfl w.heap.size 71 i6 (.agg #[.int .i64 0, .int .i64 0, .int .i64 0]) 3 24 Tryz.underlying54 HI.out HZ0.out HZ1.out HZ2.out rfl (by decide) (.slice none 0 0) 0 [] rfl (World.ownsRow_nil _ _ _ _) ⟨g, 0, none⟩ l.length cap (flat3 l) rfl HFL.out HN.out HF1.out ?c3 ?c4 ?c5 ?_)
  case c3 => have := HL.out; unfold maxLen; omega
  case c4 => have := HL.out; omega
  case c5 => exact Nat.le_refl _
  intro v' w2 hown hgrow _ _
  obtain ⟨va, vc, rfl⟩ := own_sl2 hown
  have hB : Below w.heap.size w w2 := ⟨hgrow.os, hgrow.tape, hgrow.output, hgrow.size, fun k hk => hgrow.block k hk (by simp [Value.ownBlock])⟩
  have HO := Lib.hid hown; have HB := Lib.hid hB
  clear hown hgrow hB
  go_upto_region 2 with (fail)
  have kA := below_alloc w2 (.cells #[.int .i64 0, .int .i64 K, .slice va l.length vc, .int .i64 0, .pointer none, .pointer none, .pointer none, .pointer none] 212)
  have n1 := heap_alloc_new w2 (.cells #[.int .i64 0, .int .i64 K, .slice va l.length vc, .int .i64 0, .pointer none, .pointer none, .pointer none, .pointer none] 212)
  have N3 := Lib.hid n1; have HB3 := Lib.hid (HB.out.trans (kA.mono HB.out.size)); have HO3 := Lib.hid (own_fr HO.out (below_fr kA (fun _ => false) false) rfl)
  change Code.wp _ _ _ _ (w2.alloc (.cells #[.int .i64 0, .int .i64 K, .slice va l.length vc, .int .i64 0, .pointer none, .pointer none, .pointer none, .pointer none] 212))
  clear kA n1
  generalize w2.alloc (.cells #[.int .i64 0, .int .i64 K, .slice va l.length vc, .int .i64 0, .pointer none, .pointer none, .pointer none, .pointer none] 212) = w3 at *
  obtain ⟨b, hb⟩ : ∃ b, b = w2.heap.size := ⟨_, rfl⟩
  have HLB : Hid (w.heap.size ≤ b) := Lib.hid (by rw [hb]; exact HB.out.size)
  rw [← hb] at N3
  try simp only [← hb]
  clear hb HO HB e8
  have HM : Hid (RHm w3 w.heap.size b 0 K l 0 []) := Lib.hid ⟨HLB.out, HL.out, by simp, ⟨_, none, none, none, none, N3.out, HO3.out, rfl⟩, rfl, fun q hq => (by cases hq), by simp⟩
  have c0 := hcell N3.out 0
  have f0 := hfrz N3.out 0
  have ek : K = (((hpnew l).left : Nat) : Int) - 1 := by
    have := HPO.out
    rw [HKK.out]
    show (l.length : Int) - 2 = ((l.length - 1 : Nat) : Int) - 1
    omega
  have HEK := Lib.hid ek
  clear ek
  by_cases h1 : 1 < l.length
  · have d1 : decide ((1 : Int) < l.length) = true := decide_eq_true (by omega)
    have d1n : decide (1 < l.length) = true := decide_eq_true h1
    have HX := Lib.hid h1
    clear h1
    go_wp2_with (fail)
    go_ret
    refine ⟨b, rfl, ⟨?_, rfl, ?_, fun _ => rfl, fun d r e => by cases e⟩, set_below HB3.out HB3.out.size HLB.out 0 _⟩
    · have e : (hpnew l).rln = 1 := by
        unfold HP.rln hpnew
        have := HX.out
        rw [if_neg (show ¬ l.length - 1 = 0 by omega)]; rfl
      rw [e, ← HEK.out]
      exact HM.out.set0 1
    · left; show l.length - 1 < l.length; have := HPO.out; omega
  · have d1 : decide ((1 : Int) < l.length) = false := decide_eq_false (by omega)
    have d1n : decide (1 < l.length) = false := decide_eq_false h1
    have HX := Lib.hid h1
    clear h1
    go_wp2_with (fail)
    go_ret
    refine ⟨b, rfl, ⟨?_, rfl, ?_, fun _ => rfl, fun d r e => by cases e⟩, HB3.out⟩
    · have e : (hpnew l).rln = 0 := by
        unfold HP.rln hpnew
        have := HX.out
        rw [if_pos (show l.length - 1 = 0 by omega)]
      rw [e, ← HEK.out]
      exact HM.out
    · right; show l.length - 1 = 0; have := HX.out; omega
theorem rhpstep {w0 w : World} {R : WB} {V : WV} {xr : RS} {s : CS} {b : Nat} {x : HP} {qs : List (Nat × Dg)} (h : RD w0 w R V xr) (hr : xr.room) (hv : s.val = rlook xr.l) (hsv : ∀ a, 0 ≤ s.val a ∧ s.val a < 18446744073709551616) (hx : RHopsAt w w0.heap.size b x qs) (hl0 : x.left ≠ 0) (hwf : ∀ p ∈ x.way, (Lit.int .i64 p.2.2).wf = true) :
    Calls Tryz.prog 117 #[.pointer (some ⟨b, 0, none⟩), .pointer (some ⟨R.wb, 0, none⟩)] w fun e w' => e = .returned (.tuple #[]) ∧ RHPost w0 w R V (x.nextR s xr) b (x.next s).2 qs w' := by
  have h4 := hx.m.four
  have hk := hx.m.kinds
  match qs, hx, h4, hk with
  | [], hx, _, _ =>
    obtain ⟨k, hk⟩ : ∃ k, x.left = k + 1 := ⟨x.left - 1, by omega⟩
    have hlt := hx.lt
    obtain ⟨p, hp⟩ : ∃ p, x.way[k]? = some p := ⟨x.way[k]'(by omega), List.getElem?_eq_getElem (by omega)⟩
    obtain ⟨q, hq⟩ : ∃ q, x.way[k + 1]? = some q := ⟨x.way[k + 1]'(by omega), List.getElem?_eq_getElem (by omega)⟩
    obtain ⟨b0, b1, b2⟩ := p
    obtain ⟨q0, q1, q2⟩ := q
    cases hld : x.load
    · exact rhpstep1 h hr hv hsv hx hk hp hld
    · exact rhpstep2 h hr hv hx hk hp hq (hwf _ (List.mem_of_getElem? hp)) (hwf _ (List.mem_of_getElem? hq)) hld
  | [(q, d)], hx, _, hk =>
    cases d with
    | mark xs => exact rhpstep6 h hr hv hsv hx hl0 rfl
    | out σ => exact absurd hk (by simp [Dg.kind])
    | put σ g r => exact absurd hk (by simp [Dg.kind])
  | [(q, d), y], hx, _, hk =>
    cases d with
    | mark xs => exact absurd hk (by simp [Dg.kind])
    | out σ => exact absurd hk (by simp [Dg.kind])
    | put σ g r => exact rhpstep5 h hr hv hsv hx hl0 rfl
  | [(q, d), y, z], hx, _, hk =>
    cases d with
    | mark xs => exact absurd hk (by simp [Dg.kind])
    | out σ => exact rhpstep4 h hr hv hsv hx hl0 rfl
    | put σ g r => exact absurd hk (by simp [Dg.kind])
  | [(q, d), y, z, u], hx, _, hk =>
    cases d with
    | mark xs => exact rhpstep3 h hr hv hsv hx hl0 rfl
    | out σ => exact absurd hk (by simp [Dg.kind])
    | put σ g r => exact absurd hk (by simp [Dg.kind])
  | _ :: _ :: _ :: _ :: _ :: _, _, h4, _ => simp only [List.length_cons] at h4; omega
section
variable {w w' : World} {lo lo' b : Nat} {x : HP} {qs : List (Nat × Dg)}
theorem RHopsAt.below (h : RHopsAt w lo b x qs) (hb : Below w.heap.size w w') : RHopsAt w' lo b x qs := ⟨h.m.below hb, h.eq, h.lt, h.off, h.hd⟩
theorem RHopsAt.lower (h : RHopsAt w lo b x qs) (hl : lo' ≤ lo) : RHopsAt w lo' b x qs := ⟨h.m.lower hl, h.eq, h.lt, h.off, h.hd⟩
theorem RHopsAt.fr {X : TypeId → Bool} {mp : Bool} (h : RHopsAt w lo b x qs) (hf : Fr X mp w w') (h0 : X 212 = false) (h1 : X 319 = false) (h2 : X 321 = false) (h3 : X 39 = false) (h4 : X 71 = false) : RHopsAt w' lo b x qs := ⟨h.m.fr hf h0 h1 h2 h3 h4, h.eq, h.lt, h.off, h.hd⟩
theorem RHopsAt.keep (h : RHopsAt w lo b x qs) (hb : w'.heap[b]? = w.heap[b]?) (hq : ∀ q ∈ qs, w'.heap[q.1]? = w.heap[q.1]?) (ha : ∀ (k : Nat) (cs : Array Value) (fr : Nat × Nat), w.heap[k]? = some (.cells cs 39 fr) → w'.heap[k]? = some (.cells cs 39 fr)) (hs : ∀ (k : Nat) (cs : Array Value) (fr : Nat × Nat), w.heap[k]? = some (.cells cs 71 fr) → w'.heap[k]? = some (.cells cs 71 fr)) : RHopsAt w' lo b x qs := by
  obtain ⟨m1, m2, m3, ⟨vw, p0, p1, p2, p3, g1, g2, g3⟩, m5, m6, m7⟩ := h.m
  refine ⟨⟨m1, m2, m3, ⟨vw, p0, p1, p2, p3, hb.trans g1, ?_, g3⟩, m5, fun q hq2 => ⟨(m6 q hq2).1.keep (hq q hq2) ha, (m6 q hq2).2⟩, m7⟩, h.eq, h.lt, h.off, h.hd⟩
  obtain ⟨c1, c2 | ⟨g, cap, cur, hv, hb2, hg, r2⟩⟩ := g2
  · exact ⟨c1, .inl c2⟩
  · exact ⟨c1, .inr ⟨g, cap, cur, hv, hb2, hs _ _ _ hg, r2⟩⟩
theorem RHopsAt.line (h : RHopsAt w lo b x qs) : w.cell? ⟨b, 0, none⟩ = some (.int .i64 x.rln) := h.m.c.1
theorem RHopsAt.over (h : RHopsAt w lo b x qs) : (x.rln == 0) = decide (x.left = 0) := by
  unfold HP.rln
  by_cases h0 : x.left = 0
  · rw [if_pos h0, decide_eq_true h0]; rfl
  · rw [if_neg h0, decide_eq_false h0]
    have h4 := h.m.four
    have he := h.eq
    split
    · split <;> rfl
    · refine beq_eq_false_iff_ne.2 ?_
      rw [he, List.length_map]; omega
end
end Go.Proofs.YtmakjfeepmiggaaGreat