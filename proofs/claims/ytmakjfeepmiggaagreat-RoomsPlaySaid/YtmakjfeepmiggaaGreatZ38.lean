import Derived.Test.YtmakjfeepmiggaaGreatZ20
import Derived.Test.YtmakjfeepmiggaaGreatZ35
import Derived.Test.YtmakjfeepmiggaaGreatZ7
import Derived.Test.YtmakjfeepmiggaaGreatZ37
namespace Go.Proofs.YtmakjfeepmiggaaGreat
open Go.RowKit Go.Maps TagPure
set_option linter.unusedVariables false
def SpRow (w : World) (v : Value) (n : Nat) (xs : List Value) : Prop :=
  xs.length = n * 3 ∧ ((v = .slice none 0 0 ∧ n = 0) ∨ ∃ g cap cur, v = .slice (some ⟨g, 0, none⟩) n cap ∧ w.heap[g]? = some (.cells cur 71 (0, 0)) ∧ cur.toList.take (n * 3) = xs)
theorem sprow_sl {w : World} {v : Value} {n : Nat} {xs : List Value} (h : SpRow w v n xs) : ∃ a c, v = .slice a n c := by
  obtain ⟨-, ⟨rfl, rfl⟩ | ⟨g, cap, cur, rfl, -⟩⟩ := h
  · exact ⟨_, _, rfl⟩
  · exact ⟨_, _, rfl⟩
def way3 (bits : Int) (l : List (Int × Int)) : List (Int × Int × Int) := l.map fun p => (bits, p.1, p.2)
theorem flat3_way (bits : Int) (l : List (Int × Int)) : flat3 (way3 bits l) = flatS bits l := by
  induction l with
  | nil => rfl
  | cons p r ih => show enc3 (bits, p.1, p.2) ++ flat3 (way3 bits r) = _; rw [ih]; rfl
theorem spn_row {w : World} {base : Nat} {v : Value} {bits : Int} {l : List (Int × Int)} (h : SpN w base v bits l) : SpRow w v (way3 bits l).length (flat3 (way3 bits l)) := by
  refine ⟨flat3_len _, ?_⟩
  rw [flat3_way, show (way3 bits l).length = l.length from List.length_map _]
  rcases h with ⟨rfl, rfl⟩ | ⟨g, cur, rfl, h1, h2, h3, h4⟩
  · exact .inl ⟨rfl, rfl⟩
  · exact .inr ⟨g, _, cur, rfl, h2, h4⟩
set_option maxRecDepth 10000 in
theorem sclone4 {w : World} {n : Nat} {v : Value} {xs : List Value} (h : SpRow w v n xs) (hl : n ≤ 100000) (h1 : ∀ u ∈ xs, u.oneCell' = true) : Calls Tryz.prog 119 #[v] w fun e w' => ∃ v', e = .returned v' ∧ w'.ownsRow w.heap.size 71 3 v' n xs ∧ Below w.heap.size w w' := by
  obtain ⟨i0, hi0, hz0, hz1, hz2⟩ := info_parts info_spot3
  have HI := Lib.hid hi0; have HZ0 := Lib.hid hz0; have HZ1 := Lib.hid hz1; have HZ2 := Lib.hid hz2; have H1 := Lib.hid h1
  clear hi0 hz0 hz1 hz2 h1
  obtain ⟨hx, ⟨rfl, h0⟩ | ⟨g, cap, cur, rfl, hg, ht⟩⟩ := h
  · subst h0
    have : xs = [] := List.length_eq_zero_iff.1 (by omega)
    subst this
    clear hx hl
    have q22 : ∀ (w : World) (a : Option Addr) (n c n' c' : Nat), (binOp .eql 54 (.slice a n c) (.slice none n' c')).run Tryz.prog w = .ok (.bool a.isNone) w := fun w a n c n' c' => Go.Lib.run_eql_slice_nil w _ _ a n c n' c' Tryz.underlying54
    go_enter Tryz.func119, Tryz.ntmps119
    go_wp2
    go_ret
    exact ⟨_, rfl, World.ownsRow_nil _ _ _ _, Below.refl _ _⟩
  · have hcs : ∀ j u, xs[j]? = some u → w.cell? ⟨g, j, none⟩ = some u := fun j u hj => by
      have hj2 : j < xs.length := (List.getElem?_eq_some_iff.1 hj).1
      rw [hx] at hj2
      rw [← ht, List.getElem?_take, if_pos hj2] at hj
      rw [hcell hg, ← hj]; simp
    have hglt := (Array.getElem?_eq_some_iff.1 hg).1
    have HC := Lib.hid hcs; have HL := Lib.hid hl; have HG := Lib.hid hglt; have HX := Lib.hid hx
    clear hx hg ht hcs hl hglt
    have q22 : ∀ (w : World) (a : Option Addr) (n c n' c' : Nat), (binOp .eql 54 (.slice a n c) (.slice none n' c')).run Tryz.prog w = .ok (.bool a.isNone) w := fun w a n c n' c' => Go.Lib.run_eql_slice_nil w _ _ a n c n' c' Tryz.underlying54
    go_enter Tryz.func119, Tryz.ntmps119
    go_wp2_with (at_builtin; refine wpList_append_own _ rfl _ _ 54 rfl w.heap.size 71 i0 (.agg #[.int .i64 0, .int .i64 0, .int .i64 0]) 3 24 Tryz.underlying54 HI.out HZ0.out HZ1.out HZ2.out rfl (by decide) _ _ _ rfl (World.ownsRow_made w #[] 0 (Nat.le_refl _) (Nat.zero_le _) (by simp)) ⟨g, 0, none⟩ n cap xs rfl ?c1 ?c2 ?c3 ?c4 ?c5 ?c6 ?_)
    case c1 => exact HX.out
    case c2 =>
      intro j u hj
      have ea : (⟨g, 0, none⟩ : Addr).add j = ⟨g, 0 + j, none⟩ := by simp [Addr.add]; omega
      rw [ea]
      rw [World.cell?_alloc_past _ _ _ (show g < _ from HG.out), Nat.zero_add]
      exact HC.out j u hj
    case c3 => exact H1.out
    case c4 => have := HL.out; unfold maxLen; omega
    case c5 => have := HL.out; omega
    case c6 => simp
    intro v' w2 hown hgr _
    have hb1 := below_alloc w (.cells #[] 71)
    have hB : Below w.heap.size w w2 := ((Below.refl w.heap.size w).trans hb1).grown hgr (by simp) (fun k hk => by simp [Value.ownBlock] at hk; omega)
    have HO := Lib.hid hown; have HB := Lib.hid hB
    clear hown hgr hb1 hB
    go_wp2
    go_ret
    have := HO.out
    first
      | exact ⟨_, rfl, this, HB.out⟩
      | (simp only [Nat.zero_add, List.nil_append] at this; exact ⟨_, rfl, this, HB.out⟩)
theorem newhops4 {w : World} {v : Value} {l : List (Int × Int × Int)} (h : SpRow w v l.length (flat3 l)) (hl : l.length ≤ 100000) : Calls Tryz.prog 214 #[v] w fun e w' => ∃ hb, e = .returned (.pointer (some ⟨hb, 0, none⟩)) ∧ HopsAt w' w.heap.size hb (hpnew l) [] ∧ Below w.heap.size w w' := by
  have hc := sclone4 h hl (flat3_one l)
  obtain ⟨a, c, rfl⟩ := sprow_sl h
  have hmx : max ((l.length : Int) - 1) 0 = ((l.length - 1 : Nat) : Int) := by omega
  have hmy : (if (l.length : Int) - 1 < 0 then (0 : Int) else (l.length : Int) - 1) = ((l.length - 1 : Nat) : Int) := by split <;> omega
  have hw : wrap64 ((l.length : Int) - 1) = (l.length : Int) - 1 := IntWalk.wrap64_in _ (by omega)
  have HL := Lib.hid hl; have HMX := Lib.hid hmx; have HMY := Lib.hid hmy
  clear h hl hmx hmy
  go_enter Tryz.func214, Tryz.ntmps214
  go_wp2_with (go_at_call 119; refine hc.mono ?_; intro e w2 hh; obtain ⟨v2, hh1, o2, b2⟩ := hh; subst hh1; obtain ⟨a2, c2, hv2⟩ := own_sl2 o2; subst hv2; have O2 := Lib.hid o2; have B2 := Lib.hid b2; clear o2 b2 hc)
  simp only [HMX.out]
  go_ret
  have b3 := below_alloc w2 (.cells ((hpnew l).cells (.slice a2 l.length c2) (.slice none 0 0)) 334)
  have z3 := heap_alloc_new w2 (.cells ((hpnew l).cells (.slice a2 l.length c2) (.slice none 0 0)) 334)
  refine ⟨w2.heap.size, rfl, ⟨B2.out.size, rfl, HL.out, ?_, ⟨_, _, z3, own_fr O2.out (below_fr b3 (fun _ => false) false) rfl, none, 0, rfl, Nat.le_refl _, Nat.zero_le _, .inl rfl⟩, (fun q hq => by cases hq), List.nodup_nil⟩, B2.out.trans (b3.mono B2.out.size)⟩
  show l.length - 1 < l.length ∨ l.length - 1 = 0
  omega
end Go.Proofs.YtmakjfeepmiggaaGreat
namespace Go.Proofs.YtmakjfeepmiggaaGreat
open Go.RowKit Go.Maps TagPure
set_option linter.unusedVariables false
theorem Fy.fs {b c : Nat} {w w' : World} (h : Fy b c w w') : FS [b, c] w w' := ⟨h.size, fun k cs T fr h1 h2 h3 => h.cells k cs T fr h1 h2 (fun e => h3 (by rw [e]; simp)) (fun e => h3 (by rw [e]; simp))⟩
theorem FS.sub {S S2 : List Nat} {w0 w w' : World} (h : FS S w0 w) (k : FS S2 w w') (hs : ∀ i ∈ S2, i ∈ S ∨ w0.heap.size ≤ i) : FS S w0 w' := ⟨Nat.le_trans h.size k.size, fun i cs T fr h1 h2 h3 => k.cells i cs T fr (h.cells i cs T fr h1 h2 h3) h2 fun c => by
  rcases hs i c with c | c
  · exact h3 c
  · have := (Array.getElem?_eq_some_iff.1 h1).1; omega⟩
theorem RoomAt.fs0 {w w' : World} {lo rb : Nat} {x : RM} {S : List Nat} (h : RoomAt w lo rb x) (hl : x.l = []) (hf : FS S w w') (hn : rb ∉ S) : RoomAt w' lo rb x := by
  obtain ⟨l0, v, b1, ⟨a, c, h1, h2, h3, h4⟩⟩ := h
  exact ⟨l0, v, hf.cells _ _ _ _ b1 rfl hn, a, c, h1, h2, h3, .inl hl⟩
structure RSB (w0 w W : World) (B : WB) (V : WV) (s : CS) (S : List Nat) (rb : Nat) (x : RM) (xb m : Nat) (y : WY) : Prop where
  ws : WS w0 W B V s
  rm : RoomAt W w0.heap.size rb x
  wy : WayAt W w0.heap.size xb y
  bs : Besd W B V m
  fs : FS S w W
  own : ∀ k, (k = rb ∨ k = xb ∨ k = y.kb) → k ∈ S ∨ w.heap.size ≤ k
section
variable {w0 w W W' : World} {B : WB} {V : WV} {s : CS} {S : List Nat} {rb xb m : Nat} {x : RM} {y : WY}
theorem RSB.ne (h : RSB w0 w W B V s S rb x xb m y) : rb ≠ xb ∧ rb ≠ y.kb := by
  obtain ⟨cs, b1⟩ := h.rm.blk
  refine ⟨fun c => ?_, fun c => ?_⟩
  · obtain ⟨vb, vw, b2, -⟩ := h.wy.ex
    rw [← c, b1] at b2
    simp only [Option.some.injEq, Obj.cells.injEq] at b2
    exact absurd b2.2.1 (by decide)
  · obtain ⟨vb, vw, b2, b3, -, hk⟩ := h.wy.ex
    rcases hk with hk | ⟨-, hk⟩
    · obtain ⟨-, ⟨rfl, -⟩ | ⟨g, cap, cur, rfl, -, b4, -⟩⟩ := b3
      · cases hk
      · simp only [Value.ownBlock, Option.some.injEq] at hk
        rw [hk, ← c, b1] at b4
        simp only [Option.some.injEq, Obj.cells.injEq] at b4
        exact absurd b4.2.1 (by decide)
    · rw [← c] at hk
      rw [← hk, b1] at b2
      simp only [Option.some.injEq, Obj.cells.injEq] at b2
      exact absurd b2.2.1 (by decide)
theorem rsway (h : RSB w0 w W B V s S rb x xb m y) (hr : s.room) (hm : y.mo = some m) (hk : WyOk y) (ho : y.over = false) (hl : x.l = []) : Calls Tryz.prog 15 #[.pointer (some ⟨xb, 0, none⟩), .pointer (some ⟨B.wb, 0, none⟩)] W fun e w' => ∃ kb, e = .returned (.bool (y.next (s.val (wyA y))).over) ∧ RSB w0 w w' B V (s.acc 1 (wyA y) (s.val (wyA y))) S rb x xb m { y.next (s.val (wyA y)) with kb := kb } := by
  refine (wstep_any h.ws hr h.wy hm h.bs hk ho).mono ?_
  rintro e w' ⟨kb, he, h1, h2, h3, h4, h5⟩
  refine ⟨kb, he, h1, h.rm.fs0 hl h4.fs ?_, h2, h3, h.fs.sub h4.fs ?_, ?_⟩
  · intro c
    simp only [List.mem_cons, List.not_mem_nil, or_false] at c
    rcases c with c | c
    · exact h.ne.1 c
    · exact h.ne.2 c
  · intro i hi
    simp only [List.mem_cons, List.not_mem_nil, or_false] at hi
    rcases hi with rfl | rfl
    · exact h.own _ (.inr (.inl rfl))
    · exact h.own _ (.inr (.inr rfl))
  · rintro k (rfl | rfl | rfl)
    · exact h.own _ (.inl rfl)
    · exact h.own _ (.inr (.inl rfl))
    · rcases h5 with h5 | h5
      · rw [h5]; exact h.own _ (.inr (.inr rfl))
      · exact .inr (Nat.le_trans h.fs.size h5)
theorem besd_below {m : Nat} (h : Besd W B V m) (hc : B.cb < W.heap.size) (hb : Below W.heap.size W W') : Besd W' B V m := ⟨by rw [hb.cell hc]; exact h.ne, h.fm⟩
theorem RSB.below (h : RSB w0 w W B V s S rb x xb m y) (hb : Below W.heap.size W W') : RSB w0 w W' B V s S rb x xb m y := ⟨h.ws.keep hb, h.rm.below hb, h.wy.below hb, besd_below h.bs (by obtain ⟨⟨S2, mo, f, hc, -⟩, -⟩ := h.ws.own; exact (Array.getElem?_eq_some_iff.1 hc.hdr).1) hb, h.fs.trans (below_fs S hb), h.own⟩
end
set_option maxRecDepth 10000 in
set_option maxHeartbeats 2000000 in
theorem rmsearch_on {w0 w W : World} {B : WB} {V : WV} {s : CS} {S : List Nat} {rb xb m : Nat} {x : RM} {y : WY} (h : RSB w0 w W B V s S rb x xb m y) (hr : s.room) (hm : y.mo = some m) (hk : WyOk y) (ho : y.over = false) (hl : x.l = []) (hx : x.way = some ⟨xb, 0, none⟩) (hn : (y.next (s.val (wyA y))).over = false) :
    Calls Tryz.prog 167 #[.pointer (some ⟨rb, 0, none⟩), .pointer (some ⟨B.wb, 0, none⟩)] W fun e w' => e = .returned (.tuple #[]) ∧ ∃ kb, RSB w0 w w' B V (s.acc 1 (wyA y) (s.val (wyA y))) S rb x xb m { y.next (s.val (wyA y)) with kb := kb } := by
  have hst := rsway h hr hm hk ho hl
  rw [hn] at hst
  obtain ⟨-, -, -, -, c5, -⟩ := h.rm.c
  rw [hx] at c5
  clear h hr hm hk ho hl hx hn
  go_enter Tryz.func167, Tryz.ntmps167
  go_wp2_with (go_at_call 15; refine hst.mono ?_; intro e w2 hh; obtain ⟨kb, hh1, h2⟩ := hh; subst hh1; have H2 := Lib.hid h2; clear h2 hst c5)
  first
    | (go_ret; exact ⟨rfl, kb, H2.out⟩)
    | (refine bodyPost_ret (v := .tuple #[]) (by simp [results, Tryz.results167, go_sem]) rfl ⟨rfl, kb, H2.out⟩)
theorem RSB.rmb {w0 w W : World} {B : WB} {V : WV} {s : CS} {S : List Nat} {rb xb m : Nat} {x : RM} {y : WY} (h : RSB w0 w W B V s S rb x xb m y) : RMB w0 W W B V s rb x := ⟨h.ws, h.rm, (below_fr (Below.refl _ _) wTy true).fx rb⟩
set_option maxRecDepth 10000 in
set_option maxHeartbeats 2000000 in
theorem rmsearch_full {w0 w W : World} {B : WB} {V : WV} {s : CS} {S : List Nat} {rb xb m : Nat} {x : RM} {y : WY} (h : RSB w0 w W B V s S rb x xb m y) (hr : s.room) (hm : y.mo = some m) (hk : WyOk y) (ho : y.over = false) (hl : x.l = []) (hx : x.way = some ⟨xb, 0, none⟩) (hp : x.ph = .search) (hn : (y.next (s.val (wyA y))).over = true) (hw : (y.next (s.val (wyA y))).way = []) (hnl : V.nts.length < 1048576) (hns : Nsteps V.nts (s.cnt + 1)) :
    Calls Tryz.prog 167 #[.pointer (some ⟨rb, 0, none⟩), .pointer (some ⟨B.wb, 0, none⟩)] W fun e w' => e = .returned (.tuple #[]) ∧ WS w0 w' B { V with nts := nadd V.nts ⟨s.cnt + 1, V.hd, 3, 0, 0, 0, 0, 0⟩ } (s.acc 1 (wyA y) (s.val (wyA y))) ∧ RoomAt w' w0.heap.size rb { x with ph := .off } ∧ FS S w w' := by
  have hst := rsway h hr hm hk ho hl
  rw [hn] at hst
  obtain ⟨-, -, -, -, c5, -⟩ := h.rm.c
  rw [hx] at c5
  obtain ⟨y2, hy2⟩ : ∃ y2, y2 = y.next (s.val (wyA y)) := ⟨_, rfl⟩
  rw [← hy2] at hst hw
  obtain ⟨s2, hs2⟩ : ∃ s2, s2 = s.acc 1 (wyA y) (s.val (wyA y)) := ⟨_, rfl⟩
  have hcn : (s2.cnt : Int) = (s.cnt : Int) + 1 := by rw [hs2]; rfl
  rw [← hs2] at hst ⊢
  rw [← hcn] at hns ⊢
  have HW := Lib.hid hw; have HX := Lib.hid hx; have HNL := Lib.hid hnl; have HNS := Lib.hid hns; have HP := Lib.hid hp; have HOW := Lib.hid (h.own rb (.inl rfl))
  clear h hr hm hk ho hl hx hn hw hy2 hs2 hcn hnl hns hp
  go_enter Tryz.func167, Tryz.ntmps167
  go_upto_region 1 with (go_at_call 15; refine hst.mono ?_; intro e w2 hh; obtain ⟨kb, hh1, h2⟩ := hh; subst hh1; have H2 := Lib.hid h2; obtain ⟨-, -, -, -, c5, -⟩ := h2.rm.c; rw [HX.out] at c5; have hg := wgot h2.wy (by show y2.way.length ≤ 100000; rw [HW.out]; exact Nat.zero_le _); clear h2 hst)
  go_upto_region 2 with (go_at_call 40; refine hg.mono ?_; intro e w3 hh; obtain ⟨v, hh1, g3, b3⟩ := hh; subst hh1; have H3 := Lib.hid (H2.out.below b3); have g3 : SpN w3 w2.heap.size v y2.bits y2.way := g3; rw [HW.out] at g3; obtain ⟨av, hv, -⟩ := g3.sl; subst hv; clear g3 b3 hg c5)
  have R3 := Lib.hid H3.out.rmb
  have c4 := R3.out.rm.c.2.2.2.1
  rw [HP.out] at c4
  simp only [RPh.fn] at c4
  have ff := R3.out.rm.f
  have R4 := Lib.hid (R3.out.set (y := { x with ph := .off }) 4 (.nilFunc) rfl (fun _ => rfl))
  have hnt := wnote_any R4.out.ws 3 0 0 0 0 0 HNL.out (by decide) HNS.out
  go_wp2_with (go_at_call 212; refine hnt.mono ?_; intro e w5 hh; obtain ⟨hh1, h5, f5⟩ := hh; subst hh1; have H5 := Lib.hid h5; have F5 := Lib.hid f5; clear h5 f5 hnt c4 ff)
  have hfin := And.intro H5.out (And.intro (R4.out.rm.fr F5.out rfl rfl) ((F5.out.fx rb).fs2 (R4.out.fx.fs2 H3.out.fs HOW.out) HOW.out))
  first
    | (go_ret; exact ⟨rfl, hfin⟩)
    | exact bodyPost_ret (v := .tuple #[]) (by simp [results, Tryz.results167, go_sem]) rfl ⟨rfl, hfin⟩
def RM.found (x : RM) (bits : Int) (p : Int × Int) (r : List (Int × Int)) (hb : Nat) : RM := { x with sb := bits, su := p.1, sk := p.2, hops := some ⟨hb, 0, none⟩, ph := if r = [] then .off else .hop, is := if r = [] then true else x.is }
theorem SpRow.set {w : World} {rb : Nat} {cs : Array Value} {v : Value} {n : Nat} {xs : List Value} (h : SpRow w v n xs) (hb : w.heap[rb]? = some (.cells cs 206 (0, 0))) (o : Nat) (u : Value) : SpRow (w.setCell ⟨rb, o, none⟩ u) v n xs := by
  obtain ⟨h1, h2 | ⟨g, cap, cur, h3, h4, h5⟩⟩ := h
  · exact ⟨h1, .inl h2⟩
  · refine ⟨h1, .inr ⟨g, cap, cur, h3, (Below.heap_setCell _ _ _ _ fun c => ?_).trans h4, h5⟩⟩
    have c : g = rb := c
    rw [c, hb] at h4
    simp only [Option.some.injEq, Obj.cells.injEq] at h4
    exact absurd h4.2.1 (by decide)
theorem HopsAt.setr {w : World} {lo hb rb : Nat} {x : HP} {qs : List (Nat × Dg)} {cs : Array Value} (h : HopsAt w lo hb x qs) (hbk : w.heap[rb]? = some (.cells cs 206 (0, 0))) (hq : qs = []) (o : Nat) (u : Value) : HopsAt (w.setCell ⟨rb, o, none⟩ u) lo hb x qs := by
  refine h.fs (S := [rb]) ((set_fx wTy true w rb o u).fs (List.mem_singleton.2 rfl)) (fun k hk => ?_) (fun c => ?_) (fun q hq2 => by rw [hq] at hq2; cases hq2)
  · obtain rfl := List.mem_singleton.1 hk
    exact ⟨_, _, _, hbk, by decide, by decide, by decide⟩
  · have c := List.mem_singleton.1 c
    obtain ⟨cs2, b2⟩ := h.blk
    rw [c, hbk] at b2
    simp only [Option.some.injEq, Obj.cells.injEq] at b2
    exact absurd b2.2.1 (by decide)
set_option maxRecDepth 10000 in
set_option maxHeartbeats 2000000 in
theorem rmsearch_way {w0 w W : World} {B : WB} {V : WV} {s : CS} {S : List Nat} {rb xb m : Nat} {x : RM} {y : WY} (h : RSB w0 w W B V s S rb x xb m y) (hr : s.room) (hm : y.mo = some m) (hk : WyOk y) (ho : y.over = false) (hl : x.l = []) (hx : x.way = some ⟨xb, 0, none⟩) (hp : x.ph = .search) (hn : (y.next (s.val (wyA y))).over = true) (p : Int × Int) (r : List (Int × Int)) (hw : (y.next (s.val (wyA y))).way = p :: r) (hrl : r.length ≤ 10000) :
    Calls Tryz.prog 167 #[.pointer (some ⟨rb, 0, none⟩), .pointer (some ⟨B.wb, 0, none⟩)] W fun e w' => e = .returned (.tuple #[]) ∧ ∃ hb, RHB w0 w w' B V (s.acc 1 (wyA y) (s.val (wyA y))) S rb (x.found (y.next (s.val (wyA y))).bits p r hb) hb (hpnew (way3 (y.next (s.val (wyA y))).bits (p :: r))) [] := by
  have hst := rsway h hr hm hk ho hl
  rw [hn] at hst
  obtain ⟨-, -, -, -, c5, -⟩ := h.rm.c
  rw [hx] at c5
  obtain ⟨y2, hy2⟩ : ∃ y2, y2 = y.next (s.val (wyA y)) := ⟨_, rfl⟩
  rw [← hy2] at hst hw ⊢
  obtain ⟨s2, hs2⟩ : ∃ s2, s2 = s.acc 1 (wyA y) (s.val (wyA y)) := ⟨_, rfl⟩
  rw [← hs2] at hst ⊢
  obtain ⟨bits, hbt⟩ : ∃ bits, bits = y2.bits := ⟨_, rfl⟩
  rw [← hbt]
  have hz0 : ((r.length : Int) + 1 == 0) = false := beq_eq_false_iff_ne.2 (by omega)
  have HW := Lib.hid hw; have HX := Lib.hid hx; have HP := Lib.hid hp; have HOW := Lib.hid (h.own rb (.inl rfl)); have HRL := Lib.hid hrl; have HBT := Lib.hid hbt; have HZ0 := Lib.hid hz0; have HS0 := Lib.hid h.ws.below.size
  clear h hr hm hk ho hl hx hn hw hy2 hs2 hp hbt hz0 hrl
  go_enter Tryz.func167, Tryz.ntmps167
  go_upto_region 1 with (go_at_call 15; refine hst.mono ?_; intro e w2 hh; obtain ⟨kb, hh1, h2⟩ := hh; subst hh1; have H2 := Lib.hid h2; obtain ⟨-, -, -, -, c5, -⟩ := h2.rm.c; rw [HX.out] at c5; have hg := wgot h2.wy (by show y2.way.length ≤ 100000; rw [HW.out]; have := HRL.out; simp only [List.length_cons]; omega); clear h2 hst)
  go_upto_region 2 with (go_at_call 40; refine hg.mono ?_; intro e w3 hh; obtain ⟨v, hh1, g3, b3⟩ := hh; subst hh1; have H3 := Lib.hid (H2.out.below b3); have g3 : SpN w3 w2.heap.size v y2.bits y2.way := g3; rw [HW.out, ← HBT.out] at g3; obtain ⟨g, hv, -, -, q0, q1, q2, -⟩ := g3.at 0 (by simp); subst hv; have G3 := Lib.hid (spn_row g3); clear g3 b3 hg c5)
  have q0 : w3.cell? ⟨g, 0, none⟩ = some (.int .i64 bits) := q0
  have q1 : w3.cell? ⟨g, 1, none⟩ = some (.int .i64 p.1) := q1
  have q2 : w3.cell? ⟨g, 2, none⟩ = some (.int .i64 p.2) := q2
  have R3 := Lib.hid H3.out.rmb
  obtain ⟨-, -, -, c4, -, c6, c7, c8, c9, -⟩ := R3.out.rm.c
  rw [HP.out] at c4
  simp only [RPh.fn] at c4
  have ff := R3.out.rm.f
  have hz0 := HZ0.out
  have hz1 : (0 : Int) < (r.length : Int) + 1 := by omega
  have hz2 : 0 < r.length + 1 := by omega
  have R3a := Lib.hid (R3.out.set (y := { x with sb := bits }) 7 (.int .i64 bits) rfl (fun _ => rfl))
  have R3b := Lib.hid (R3a.out.set (y := { x with sb := bits, su := p.1 }) 8 (.int .i64 p.1) rfl (fun _ => rfl))
  have R3c := Lib.hid (R3b.out.set (y := { x with sb := bits, su := p.1, sk := p.2 }) 9 (.int .i64 p.2) rfl (fun _ => rfl))
  have R4 := Lib.hid (R3c.out.set (y := { x with sb := bits, su := p.1, sk := p.2, ph := .hop }) 4 (.func (.func 213) #[] #[]) rfl (fun _ => rfl))
  obtain ⟨k3, e3⟩ := R3.out.rm.blk
  obtain ⟨k3a, e3a⟩ := R3a.out.rm.blk
  obtain ⟨k3b, e3b⟩ := R3b.out.rm.blk
  obtain ⟨k3c, e3c⟩ := R3c.out.rm.blk
  have G4 := Lib.hid ((((G3.out.set e3 7 (.int .i64 bits)).set e3a 8 (.int .i64 p.1)).set e3b 9 (.int .i64 p.2)).set e3c 4 (.func (.func 213) #[] #[]))
  clear e3 e3a e3b e3c R3 R3a R3b R3c G3
  go_upto_region 6 with (fail)
  clear q0 q1 q2 c4 c6 c7 c8 c9 ff hz0 hz1 hz2
  change Code.wp _ _ _ _ ((((w3.setCell ⟨rb, 7, none⟩ (.int .i64 bits)).setCell ⟨rb, 8, none⟩ (.int .i64 p.1)).setCell ⟨rb, 9, none⟩ (.int .i64 p.2)).setCell ⟨rb, 4, none⟩ (.func (.func 213) #[] #[]))
  generalize (((w3.setCell ⟨rb, 7, none⟩ (.int .i64 bits)).setCell ⟨rb, 8, none⟩ (.int .i64 p.1)).setCell ⟨rb, 9, none⟩ (.int .i64 p.2)).setCell ⟨rb, 4, none⟩ (.func (.func 213) #[] #[]) = w4 at *
  have hlen : (way3 bits (p :: r)).length = r.length + 1 := by simp [way3]
  have n4 := newhops4 G4.out (by rw [hlen]; have := HRL.out; omega)
  rw [show (p :: r).length = r.length + 1 from rfl] at n4
  have HLEN := Lib.hid hlen
  clear hlen G4
  go_upto_region 7 with (go_at_call 214; refine n4.mono ?_; intro e w5 hh; obtain ⟨hb, hh1, d5, b5⟩ := hh; subst hh1; have R5 := Lib.hid (R4.out.below b5); have D5 := Lib.hid d5; obtain ⟨-, -, -, -, -, c6, -⟩ := R5.out.rm.c; have ff := R5.out.rm.f; clear d5 b5 n4)
  obtain ⟨k5, e5⟩ := R5.out.rm.blk
  have R6 := Lib.hid (R5.out.set (y := { x with sb := bits, su := p.1, sk := p.2, ph := .hop, hops := some ⟨hb, 0, none⟩ }) 6 (.pointer (some ⟨hb, 0, none⟩)) rfl (fun _ => rfl))
  have hw4 : w0.heap.size ≤ w4.heap.size := R4.out.ws.below.size
  have D6 := Lib.hid ((D5.out.setr e5 rfl 6 (.pointer (some ⟨hb, 0, none⟩))).lower hw4)
  have hown : w.heap.size ≤ hb := Nat.le_trans (Nat.le_trans H3.out.fs.size R4.out.fx.size) D5.out.low
  have HOWN := Lib.hid hown
  clear e5 hw4 hown D5 R5 c6 ff
  change Code.wp _ _ _ _ (w5.setCell ⟨rb, 6, none⟩ (.pointer (some ⟨hb, 0, none⟩)))
  generalize w5.setCell ⟨rb, 6, none⟩ (.pointer (some ⟨hb, 0, none⟩)) = w6 at *
  have hov := hpover D6.out
  have hll : (hpnew (way3 bits (p :: r))).left = r.length := by show (way3 bits (p :: r)).length - 1 = r.length; rw [HLEN.out]; omega
  rw [hll] at hov
  obtain ⟨-, -, -, c4, -, c6, c7, c8, c9, -⟩ := R6.out.rm.c
  clear hll R4
  by_cases hr : r = []
  · have hle : ((r.length : Int) == 0) = true := by rw [hr]; rfl
    rw [hle] at hov
    have hen := ends_any (RMB.mk R6.out.ws R6.out.rm ((below_fr (Below.refl _ _) wTy true).fx rb)) bits p.1 p.2
    have hfd : x.found bits p r hb = { x with sb := bits, su := p.1, sk := p.2, hops := some ⟨hb, 0, none⟩, ph := .off, is := true } := by unfold RM.found; rw [if_pos hr, if_pos hr]
    have HFD := Lib.hid hfd
    clear hr hle hfd c4
    go_wp2_with (first
      | (go_at_call 215; refine hov.mono ?_; intro e w7 hh; obtain ⟨hh1, hh2⟩ := hh; subst hh1; obtain rfl := hh2.symm; clear hov)
      | (go_at_call 166; refine hen.mono ?_; intro e w8 hh; obtain ⟨hh1, h8⟩ := hh; subst hh1; have R8 := Lib.hid h8; clear h8 hen c6 c7 c8 c9))
    have hm6 : RHB w0 w w6 B V s2 S rb _ hb (hpnew (way3 bits (p :: r))) [] := ⟨⟨R6.out.ws, D6.out, R6.out.fx.fs2 H3.out.fs HOW.out, .inr HOWN.out, fun q hq => by cases hq⟩, R6.out.rm, HOW.out⟩
    have hfin := hm6.ends R8.out
    have hfin : RHB w0 w w8 B V s2 S rb (x.found bits p r hb) hb (hpnew (way3 bits (p :: r))) [] := by rw [HFD.out]; exact hfin
    first
      | (go_end0; exact ⟨rfl, hb, hfin⟩)
      | (go_ret; exact ⟨rfl, hb, hfin⟩)
      | exact bodyPost_ret (v := .tuple #[]) (by simp [results, Tryz.results167, go_sem]) rfl ⟨rfl, hb, hfin⟩
  · have hle : ((r.length : Int) == 0) = false := by
      have : r.length ≠ 0 := fun c => hr (List.eq_nil_of_length_eq_zero c)
      exact beq_eq_false_iff_ne.2 (by omega)
    rw [hle] at hov
    have hfd : x.found bits p r hb = { x with sb := bits, su := p.1, sk := p.2, hops := some ⟨hb, 0, none⟩, ph := .hop } := by unfold RM.found; rw [if_neg hr, if_neg hr]
    have HFD := Lib.hid hfd
    clear hr hle hfd c4 c7 c8 c9
    go_wp2_with (go_at_call 215; refine hov.mono ?_; intro e w7 hh; obtain ⟨hh1, hh2⟩ := hh; subst hh1; obtain rfl := hh2.symm; clear hov)
    have hm6 : RHB w0 w w6 B V s2 S rb _ hb (hpnew (way3 bits (p :: r))) [] := ⟨⟨R6.out.ws, D6.out, R6.out.fx.fs2 H3.out.fs HOW.out, .inr HOWN.out, fun q hq => by cases hq⟩, R6.out.rm, HOW.out⟩
    have hm6 : RHB w0 w w6 B V s2 S rb (x.found bits p r hb) hb (hpnew (way3 bits (p :: r))) [] := by rw [HFD.out]; exact hm6
    first
      | (go_end0; exact ⟨rfl, hb, hm6⟩)
      | (go_ret; exact ⟨rfl, hb, hm6⟩)
      | exact bodyPost_ret (v := .tuple #[]) (by simp [results, Tryz.results167, go_sem]) rfl ⟨rfl, hb, hm6⟩
theorem rmstep_search {W : World} {lo rb : Nat} {x : RM} {wb : Nat} (h : RoomAt W lo rb x) (hp : x.ph = .search) (D : Bool) {Q : World → Prop} (hf : Calls Tryz.prog 167 #[.pointer (some ⟨rb, 0, none⟩), .pointer (some ⟨wb, 0, none⟩)] W fun e w' => e = .returned (.tuple #[]) ∧ Q w') (hq : ∀ w', Q w' → ∃ lo' x', RoomAt w' lo' rb x' ∧ decide (x'.ph = .off) = D) :
    Calls Tryz.prog 37 #[.pointer (some ⟨rb, 0, none⟩), .pointer (some ⟨wb, 0, none⟩)] W fun e w' => e = .returned (.bool D) ∧ Q w' := by
  have hov := rmover h
  rw [decide_eq_false (show x.ph ≠ .off by rw [hp]; decide)] at hov
  obtain ⟨-, -, -, c4, -⟩ := h.c
  rw [hp] at c4
  simp only [RPh.fn] at c4
  have HQ := Lib.hid hq
  clear h hp hq
  go_enter Tryz.func37, Tryz.ntmps37
  go_upto_region 2 with (go_at_call 113; refine hov.mono ?_; intro e w2 hh; obtain ⟨hh1, hh2⟩ := hh; subst hh1; obtain rfl := hh2.symm; clear hov)
  go_upto_region 3 with (go_at_call 167; refine hf.mono ?_; intro e w3 hh; obtain ⟨hh1, h3⟩ := hh; subst hh1; have H3 := Lib.hid h3; obtain ⟨lo3, x3, r3, d3⟩ := HQ.out w3 h3; have ho3 := rmover r3; rw [d3] at ho3; clear h3 r3 d3 hf c4)
  go_wp2_with (go_at_call 113; refine ho3.mono ?_; intro e w4 hh; obtain ⟨hh1, hh2⟩ := hh; subst hh1; obtain rfl := hh2.symm; clear ho3)
  go_ret
  exact ⟨rfl, H3.out⟩
end Go.Proofs.YtmakjfeepmiggaaGreat
namespace Go.Proofs.YtmakjfeepmiggaaGreat
open Go.RowKit Go.Maps TagPure
set_option linter.unusedVariables false
theorem room_not_y (T : TypeId) (h : yTy T = true) : (T == 206) = false := by
  cases hT : (T == 206)
  · rfl
  · rw [beq_iff_eq] at hT; subst hT; cases h
theorem besd_set {w0 w : World} {B : WB} {V : WV} {s : CS} {m rb : Nat} {cs : Array Value} (h : Besd w B V m) (hw : WS w0 w B V s) (hb : w.heap[rb]? = some (.cells cs 206 (0, 0))) (o : Nat) (v : Value) : Besd (w.setCell ⟨rb, o, none⟩ v) B V m := by
  refine ⟨?_, h.fm⟩
  have hne : B.cb ≠ rb := fun c => by
    obtain ⟨⟨S2, mo, f, hc, -⟩, -⟩ := hw.own
    have := hc.hdr
    rw [c, hb] at this
    simp only [Option.some.injEq, Obj.cells.injEq] at this
    exact absurd this.2.1 (by decide)
  have e : (w.setCell ⟨rb, o, none⟩ v).cell? ⟨B.cb, 0, none⟩ = w.cell? ⟨B.cb, 0, none⟩ := by
    unfold World.cell?
    simp only
    rw [Below.heap_setCell _ _ _ _ hne]
  rw [e]; exact h.ne
abbrev TNw (rb wb : Nat) (bits a b way : Int) (W : World) : Prop := W.cell? ⟨rb, 0, none⟩ = some (.int .i64 bits) ∧ W.cell? ⟨rb, 2, none⟩ = some (.int .i64 a) ∧ W.cell? ⟨rb, 3, none⟩ = some (.int .i64 b) ∧ W.cell? ⟨wb, 7, none⟩ = some (.int .i64 way)
theorem RMB.tnw {w0 w W : World} {B : WB} {V : WV} {s : CS} {rb : Nat} {x : RM} (h : RMB w0 w W B V s rb x) {bits : Int} (hb : x.bits = bits) : TNw rb B.wb bits x.a x.b V.c.way W := by
  obtain ⟨c0, c2, c3, -⟩ := h.rm.c
  rw [hb] at c0
  exact ⟨c0, c2, c3, (h.ws.cell 7).trans rfl⟩
theorem RMB.tnw5 {w0 w W : World} {B : WB} {V : WV} {s : CS} {rb : Nat} {x : RM} (h : RMB w0 w W B V s rb x) {bits : Int} (hb : x.bits = bits) (v : Value) : TNw rb B.wb bits x.a x.b V.c.way (W.setCell ⟨rb, 5, none⟩ v) := by
  obtain ⟨-, u, b1, -⟩ := h.rm
  obtain ⟨c0, c2, c3, -⟩ := h.rm.c
  have hs := setCell_same b1 5 v
  refine ⟨(hcell hs 0).trans ?_, hcell hs 2, hcell hs 3, ?_⟩
  · rw [← hb]; rfl
  · exact ((set_take h.ws b1 rfl h.rm.low v).cell 7).trans rfl
theorem rmstep_lookd {W : World} {lo rb : Nat} {x : RM} {wb : Nat} (h : RoomAt W lo rb x) (hp : x.ph = .look) (D : Bool) {Q : World → Prop} (hf : Calls Tryz.prog 109 #[.pointer (some ⟨rb, 0, none⟩), .pointer (some ⟨wb, 0, none⟩)] W fun e w' => e = .returned (.tuple #[]) ∧ Q w') (hq : ∀ w', Q w' → ∃ lo' x', RoomAt w' lo' rb x' ∧ decide (x'.ph = .off) = D) :
    Calls Tryz.prog 37 #[.pointer (some ⟨rb, 0, none⟩), .pointer (some ⟨wb, 0, none⟩)] W fun e w' => e = .returned (.bool D) ∧ Q w' := by
  have hov := rmover h
  rw [decide_eq_false (show x.ph ≠ .off by rw [hp]; decide)] at hov
  obtain ⟨-, -, -, c4, -⟩ := h.c
  rw [hp] at c4
  simp only [RPh.fn] at c4
  have HQ := Lib.hid hq
  clear h hp hq
  go_enter Tryz.func37, Tryz.ntmps37
  go_upto_region 2 with (go_at_call 113; refine hov.mono ?_; intro e w2 hh; obtain ⟨hh1, hh2⟩ := hh; subst hh1; obtain rfl := hh2.symm; clear hov)
  go_upto_region 3 with (go_at_call 109; refine hf.mono ?_; intro e w3 hh; obtain ⟨hh1, h3⟩ := hh; subst hh1; have H3 := Lib.hid h3; obtain ⟨lo3, x3, r3, d3⟩ := HQ.out w3 h3; have ho3 := rmover r3; rw [d3] at ho3; clear h3 r3 d3 hf c4)
  go_wp2_with (go_at_call 113; refine ho3.mono ?_; intro e w4 hh; obtain ⟨hh1, hh2⟩ := hh; subst hh1; obtain rfl := hh2.symm; clear ho3)
  go_ret
  exact ⟨rfl, H3.out⟩
end Go.Proofs.YtmakjfeepmiggaaGreat