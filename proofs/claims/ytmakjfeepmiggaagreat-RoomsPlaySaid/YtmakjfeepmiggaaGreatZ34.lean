import Derived.Test.YtmakjfeepmiggaaGreatZ33
namespace Go.Proofs.YtmakjfeepmiggaaGreat
open Go.RowKit Go.Maps TagPure
set_option linter.unusedVariables false
section
variable {P : Program} {ops : Array Oper} {D : World → Prop}
theorem tailM_callW {Q : Exit → Act → World → Prop} {i : Nat} {r t2 : List Nat} {o : Oper} {a : Act} {w : World} (hi : ops[i]? = some o) (hg : o.guard = none) (f : FuncId) (args : Array Value) (hrun : (execOp a.eval o).run P w = .ok (.enter f args) w)
    (h : Calls P f args w fun e w' => ∃ v, e = .returned v ∧ D w' ∧ tailM P ops D Q t2 r (a.put o.dst v) w') : tailM P ops D Q t2 (i :: r) a w := by
  refine tailM_op hi hg ?_
  unfold Oper.wp
  rw [hrun]
  simp only [Oper.upon]
  refine h.mono fun e w' ⟨v, he, hD, ht⟩ => ?_
  subst he
  exact ⟨hD, ht⟩
end
def wtl (l : List Nd) (n i : Nat) : List (Int × Int) := if (nd l i).2.1 = -1 then [] else wpath l n (nd l i).2.1.toNat (nd l i).2.2
def RWhole (l : List Nd) (P : List (Int × Int)) (i : Nat) (acc : List (Int × Int)) : Prop := i < l.length ∧ ∃ n, i ≤ n ∧ P = (wtl l n i).reverse ++ acc
theorem rw_start {l : List Nd} {k : Nat} (hk : k < l.length) (s : Int) : RWhole l (wway l k s) k [((nd l k).1, s)] := by
  obtain ⟨n, hn⟩ : ∃ n, l.length = n + 1 := ⟨l.length - 1, by omega⟩
  refine ⟨hk, n, by omega, ?_⟩
  unfold wway
  rw [hn]
  show (((nd l k).1, s) :: wtl l n k).reverse = _
  simp
theorem rw_step {l : List Nd} {P acc : List (Int × Int)} {i : Nat} (ha : Ahead l) (h : RWhole l P i acc) (hf : (nd l i).2.1 ≠ -1) : ∃ f : Nat, (nd l i).2.1 = f ∧ f < i ∧ f < l.length ∧ RWhole l P f (((nd l f).1, (nd l i).2.2) :: acc) := by
  obtain ⟨hi, n, hn, hP⟩ := h
  rcases ha i hi with e | ⟨e1, e2⟩
  · exact absurd e hf
  · obtain ⟨f, hfe⟩ := Int.eq_ofNat_of_zero_le e1
    obtain ⟨n', rfl⟩ : ∃ n', n = n' + 1 := ⟨n - 1, by omega⟩
    refine ⟨f, hfe, by omega, by omega, by omega, n', by omega, ?_⟩
    rw [hP]
    have : wtl l (n' + 1) i = ((nd l f).1, (nd l i).2.2) :: wtl l n' f := by
      conv => lhs; unfold wtl
      rw [if_neg hf, hfe, Int.toNat_natCast]
      rfl
    rw [this]
    simp
theorem rw_end {l : List Nd} {P acc : List (Int × Int)} {i : Nat} (h : RWhole l P i acc) (hf : (nd l i).2.1 = -1) : acc = P := by
  obtain ⟨hi, n, hn, hP⟩ := h
  rw [hP]
  unfold wtl
  rw [if_pos hf]; rfl
theorem rw_len {l : List Nd} {P acc : List (Int × Int)} {i : Nat} (h : RWhole l P i acc) : acc.length ≤ P.length := by
  obtain ⟨hi, n, hn, hP⟩ := h
  rw [hP, List.length_append]; omega
def fmsrN (v : Value) (w : World) : Nat := match v with
  | .pointer (some a) => match w.cell? ⟨a.block, 1, none⟩ with
    | some (.int .i64 i) => (i + 1).toNat
    | _ => 0
  | _ => 0
def ndC (l : List Nd) (i : Nat) : Array Value := #[.int .i64 (nd l i).1, .int .i64 (nd l i).2.1, .int .i64 (if (nd l i).2.1 = -1 then 0 else (nd l i).2.2)]
structure RFS (w0 w W : World) (R : WB) (V : WV) (xr : RS) (b kr nb : Nat) (x : WY) (acc : List (Int × Int)) (nc : Array Value) : Prop where
  rd : RD w0 W R V xr
  way : RWayAt W w0.heap.size b kr { x with way := acc }
  nb : W.heap[nb]? = some (.cells nc 141 (0, 0))
  fz : Fz b kr w W
section
variable {w0 w W W' : World} {R : WB} {V : WV} {xr : RS} {b kr nb : Nat} {x : WY} {acc : List (Int × Int)} {nc : Array Value}
theorem RFS.below (h : RFS w0 w W R V xr b kr nb x acc nc) (hb : Below W.heap.size W W') : RFS w0 w W' R V xr b kr nb x acc nc :=
  ⟨h.rd.keep hb, h.way.below hb, (hb.block _ (Array.getElem?_eq_some_iff.1 h.nb).1).trans h.nb, h.fz.trans (kz_below hb b kr) (.inl rfl)⟩
theorem RFS.ne (h : RFS w0 w W R V xr b kr nb x acc nc) : b ≠ nb := fun e => by
  obtain ⟨_, vl, vw, h1, -⟩ := h.way
  have := h.nb.symm.trans (e ▸ h1)
  simp only [Option.some.injEq, Obj.cells.injEq] at this
  exact absurd this.2.1 (by decide)
theorem RFS.setway (h : RFS w0 w W R V xr b kr nb x acc nc) {vw' : Value} {acc' : List (Int × Int)} (ho : W.ownsRow w0.heap.size 71 3 vw' acc'.length (flatS x.bits acc')) : RFS w0 w (W.setCell ⟨b, 5, none⟩ vw') R V xr b kr nb x acc' nc := by
  have hne := h.ne
  obtain ⟨hrd, ⟨h0, vl, vw, h1, h2, h3, h4⟩, hnb, hfz⟩ := h
  have sk := setCell_keeps W b 5 vw'
  have g := setCell_same h1 5 vw'
  refine ⟨rd_set16 hrd h1 (by decide) h0 _, ⟨h0, vl, vw', g, own_keepsS h2 sk fun k hk c => ?_, own_keepsS ho sk fun k hk c => ?_, h4⟩, (sk.block nb (Array.getElem?_eq_some_iff.1 hnb).1 (fun c => hne c.symm)).trans hnb, hfz.trans (kz_set h1 kr) (.inl rfl)⟩
  · obtain ⟨cur, hc2⟩ := own_blk h2 hk
    exact cells_ne hc2 h1 (by decide) c
  · obtain ⟨cur, hc2⟩ := own_blk ho hk
    exact cells_ne hc2 h1 (by decide) c
theorem fz_new {c nb o : Nat} {u : Value} (h : Fz b c w W) (hn : w.heap.size ≤ nb) : Fz b c w (W.setCell ⟨nb, o, none⟩ u) := by
  have sk := setCell_keeps W nb o u
  refine ⟨Nat.le_trans h.size sk.size, fun k cs T fr h1 h2 h3 h4 => ?_, fun k es cl h1 => ?_⟩
  · have := (Array.getElem?_eq_some_iff.1 h1).1
    have g := h.cells k cs T fr h1 h2 h3 h4
    exact (sk.block k (Array.getElem?_eq_some_iff.1 g).1 (by omega)).trans g
  · have := (Array.getElem?_eq_some_iff.1 h1).1
    have g := h.map k es cl h1
    exact (sk.block k (Array.getElem?_eq_some_iff.1 g).1 (by omega)).trans g
theorem RFS.setn (h : RFS w0 w W R V xr b kr nb x acc nc) (o : Nat) (u : Value) (hn : w.heap.size ≤ nb) (hkr : kr < w.heap.size) (hw : w0.heap.size ≤ w.heap.size) : RFS w0 w (W.setCell ⟨nb, o, none⟩ u) R V xr b kr nb x acc (nc.setIfInBounds o u) := by
  have hne := h.ne
  obtain ⟨hrd, ⟨h0, vl, vw, h1, h2, h3, h4⟩, hnb, hfz⟩ := h
  have sk := setCell_keeps W nb o u
  have g := setCell_same hnb o u
  refine ⟨rd_set16 hrd hnb (by decide) (by omega) _, ⟨h0, vl, vw, (sk.block b (Array.getElem?_eq_some_iff.1 h1).1 hne).trans h1, own_keepsS h2 sk fun k hk c => ?_, own_keepsS h3 sk fun k hk c => ?_, h4⟩, g, fz_new hfz hn⟩
  · obtain ⟨a, cap, rfl, -⟩ := own_sl3 h2
    have e := kb_of h4 hk
    have c : k = nb := c
    omega
  · obtain ⟨cur, hc2⟩ := own_blk h3 hk
    exact cells_ne hc2 hnb (by decide) c
end
set_option maxRecDepth 10000 in
set_option maxHeartbeats 4000000 in
theorem rstep_free {w0 w : World} {B : WB} {V : WV} {xr : RS} {b kr : Nat} {x : WY} (h : RD w0 w B V xr) (hr : xr.room) (hx : RWayAt w w0.heap.size b kr x) (hk : WyOk x) (hov : x.over = false) (v : Int) (hv : v = rlook xr.l (wyA x)) (hvb : 0 ≤ v ∧ v < 18446744073709551616) (hfe : 0 ≤ frW v) :
    Calls Tryz.prog 14 #[.pointer (some ⟨b, 0, none⟩), .pointer (some ⟨B.wb, 0, none⟩)] w fun e w' => e = .returned (.tuple #[]) ∧ ∃ kr', RD w0 w' B V (xr.acc 1 (wyA x) v) ∧ RWayAt w' w0.heap.size b kr' (x.next v) ∧ (kr' = kr ∨ w.heap.size ≤ kr') ∧ Fz b kr w w' := by
  have hat := hk.at_ hov
  obtain ⟨u, hu⟩ : ∃ u, u = (nd x.l x.at_).1 := ⟨_, rfl⟩
  obtain ⟨h0, vl, vw, h1, h2, h3, h4⟩ := id hx
  obtain ⟨g, cap, hvl, z0, z1, z2⟩ := row3_all h2 x.at_ hat
  obtain ⟨c0, c1, c2, c3, c4, c5⟩ := rwy_cells h1
  rw [hk.made, hov] at c0
  have c0 : w.cell? ⟨b, 0, none⟩ = some (.int .i64 1) := c0
  rw [hvl] at c1
  rw [← hu] at z0
  obtain ⟨nf, hnf⟩ : ∃ nf, nf = (nd x.l x.at_).2.1 := ⟨_, rfl⟩
  obtain ⟨ns, hns⟩ : ∃ ns : Int, ns = (if (nd x.l x.at_).2.1 = -1 then 0 else (nd x.l x.at_).2.2) := ⟨_, rfl⟩
  rw [← hnf] at z1
  rw [← hns] at z2
  have i0 : (0 : Int) ≤ x.at_ := by omega
  have i1 : (x.at_ : Int) < x.l.length := by omega
  have H := Lib.hid h; have HR := Lib.hid hr; have HX := Lib.hid hx; have HK := Lib.hid hk; have HV := Lib.hid hv; have HVB := Lib.hid hvb; have HU := Lib.hid hu; have HNF := Lib.hid hnf; have HNS := Lib.hid hns; have HAT := Lib.hid hat; have HOV := Lib.hid hov; have HVL := Lib.hid hvl
  have HFE0 := Lib.hid hfe; have HKW : Hid (kr < w.heap.size) := (by { rcases h4 with e | ⟨-, e⟩; obtain ⟨cur, hc⟩ := own_blk h2 e; exact (Array.getElem?_eq_some_iff.1 hc).1; rw [e]; exact (Array.getElem?_eq_some_iff.1 h1).1 }); have HC0 := Lib.hid c0; have HC1 := Lib.hid c1; have HC2 := Lib.hid c2; have HZ0 := Lib.hid z0; have HZ1 := Lib.hid z1; have HZ2 := Lib.hid z2
  clear hfe h hr hx hk hv hvb hu hnf hns hat hov hvl h0 h1 h2 h3 h4 c1 c2 c3 c4 c5 z0 z1 z2
  go_enter Tryz.func14, Tryz.ntmps14
  go_upto_region 1 with (fail)
  clear c0
  have al : ∀ (o : Obj) {q j : Nat} {u : Value}, w.cell? ⟨q, j, none⟩ = some u → (w.alloc o).cell? ⟨q, j, none⟩ = some u := fun o q j u hu => by rw [World.cell?_alloc_past _ _ _ (World.block_lt_of_cell? _ _ hu)]; exact hu
  have d1 : w.cell? ⟨b, 1, none⟩ = _ := HC1.out
  have d2 : w.cell? ⟨b, 2, none⟩ = _ := HC2.out
  have e0 : w.cell? ⟨g, x.at_ * 3, none⟩ = _ := HZ0.out
  have e1 : w.cell? ⟨g, x.at_ * 3 + 1, none⟩ = _ := HZ1.out
  have e2 : w.cell? ⟨g, x.at_ * 3 + 2, none⟩ = _ := HZ2.out
  have d1' := fun o => al o d1
  have d2' := fun o => al o d2
  have e0' := fun o => al o e0
  have e1' := fun o => al o e1
  have e2' := fun o => al o e2
  clear al
  go_region
  go_wp2_with (fail)
  have n1 := heap_alloc_new w (.cells #[.int .i64 u, .int .i64 nf, .int .i64 ns] 141)
  have k1 := (below_alloc w (.cells #[.int .i64 u, .int .i64 nf, .int .i64 ns] 141)).drew
  have n2 : (w.alloc (.cells #[.int .i64 u, .int .i64 nf, .int .i64 ns] 141)).drew.heap[w.heap.size]? = some (.cells #[.int .i64 u, .int .i64 nf, .int .i64 ns] 141 (0, 0)) := n1
  have H2 := Lib.hid (H.out.keep k1); have X2 := Lib.hid (HX.out.below k1); have K1 := Lib.hid k1; have N2 := Lib.hid n2
  clear d1 d2 e0 e1 e2 d1' d2' e0' e1' e2' i0 i1 n1 k1 n2
  generalize (w.alloc (.cells #[.int .i64 u, .int .i64 nf, .int .i64 ns] 141)).drew = w2 at *
  obtain ⟨nb, hnb⟩ : ∃ nb, nb = w.heap.size := ⟨_, rfl⟩
  rw [← hnb] at N2
  have NB := Lib.hid hnb
  try simp only [← hnb]
  clear hnb
  have hs2 : RTs b nb x.bits u w2.drew := by
    obtain ⟨va, vc, hz, -⟩ := X2.out.ex
    exact ⟨hcell hz 3, hcell N2.out 0⟩
  have hA : wyA x = tagsA x.bits u := by unfold wyA; rw [HU.out]
  have htg := fun W => rtags_any x.bits u W
  rw [← hA] at htg
  have hld := Lib.hid (fun W (hW : Below w2.heap.size w2 W) => rwload (H2.out.keep hW) HR.out (wyA x) (tagsA_wf _ _))
  clear hA
  go_region_held2 (fun W => RTs b nb x.bits u W) (assumption) (first
    | (go_at_call 56; refine (htg _).mono ?_; intro e w3 hh; obtain ⟨hh1, b3⟩ := hh; subst hh1; have b3' := (Below.refl w2.heap.size w2).drew.trans b3; have X3 := Lib.hid (X2.out.below b3'); have N3 := Lib.hid ((b3'.block _ (Array.getElem?_eq_some_iff.1 N2.out).1).trans N2.out); have K3 := Lib.hid (K1.out.trans (b3'.mono K1.out.size)); have s3 : RTs b nb x.bits u w3 := (by { obtain ⟨va, vc, hz, -⟩ := X3.out.ex; exact ⟨hcell hz 3, hcell N3.out 0⟩ }); have hld3 := hld.out w3 b3'; rw [← HV.out] at hld3; clear b3 b3' hs2 htg X2 N2)
    | (go_at_call 55; refine hld3.mono ?_; intro e w4 hh; obtain ⟨hh1, h4, f4⟩ := hh; subst hh1; have H4 := Lib.hid h4; have X4 := Lib.hid (X3.out.fr f4 r_not_ry); have N4 := Lib.hid (f4.cells _ _ _ _ N3.out rfl); have F4 := Lib.hid f4; have s4 : RTs b nb x.bits u w4 := (by { obtain ⟨va, vc, hz, -⟩ := X4.out.ex; exact ⟨hcell hz 3, hcell N4.out 0⟩ }); clear h4 f4 hld3 s3 X3 N3))
  have hfree := fun W => rfree_anyF v W HVB.out.1 HVB.out.2
  obtain ⟨fv, hfv⟩ : ∃ fv, fv = frW v := ⟨_, rfl⟩
  have hfw : fv = freeFrom v 0 4 := hfv
  rw [← hfw] at hfree
  have HFV := Lib.hid hfv
  have hfc := free_casesW v
  rw [← hfw] at hfc
  clear hfv hfw s4 hld
  have hf0 : 0 ≤ fv := by rw [HFV.out]; exact HFE0.out
  have hfb4 : fv ≤ 3 := by rcases hfc with h | ⟨q, h1, h2, _⟩ <;> omega
  have hspot := rspot X4.out u fv
  have PW : Hid (∃ P : List (Int × Int), P = wway x.l x.at_ fv ∧ RWhole x.l P x.at_ [(u, fv)] ∧ P.length ≤ 4200) := Lib.hid ⟨_, rfl, by rw [HU.out]; exact rw_start HAT.out fv, by
    unfold wway; rw [List.length_reverse]
    have := wpath_len x.l x.l.length x.at_ fv
    have := HK.out.len
    omega⟩
  have HS4 := Lib.hid (RFS.mk H4.out (show RWayAt w4 w0.heap.size b kr { x with way := x.way } from X4.out) N4.out ((kz_below K3.out b kr).trans (kz_fr F4.out b kr) (.inl rfl)))
  have HWW : Hid (w0.heap.size ≤ w.heap.size) := Lib.hid H.out.below.size
  clear hfc X4 N4 H4 F4 K3 K1 H2
  go_wp2_with (first
    | (go_at_call 57; refine (hfree _).mono ?_; intro e w5 hh; obtain ⟨hh1, hh2⟩ := hh; subst hh1; obtain rfl := hh2; clear hfree)
    | (go_at_call 58; refine hspot.mono ?_; intro e w6 hh; obtain ⟨hh1, hb6⟩ := hh; subst hh1; have HS6 := Lib.hid (HS4.out.below (hb6.trans ((below_alloc w6 (.cells #[.int .i64 x.bits, .int .i64 u, .int .i64 fv] 71)).mono hb6.size))); have HA6 := heap_alloc_new w6 (.cells #[.int .i64 x.bits, .int .i64 u, .int .i64 fv] 71); have hq6 := HS6.out.way; obtain ⟨-, vl6, vw6, hz6, -⟩ := hq6; have t5 := hcell hz6 5; have tf := hfrz hz6 5; have HNA := Lib.hid HA6; have HSZ6 := Lib.hid (Nat.le_trans HWW.out (Nat.le_trans HS4.out.fz.size hb6.size)); clear hb6 hspot HA6 hz6 HS4))
  have HO6 : Hid ((w6.alloc (.cells #[.int .i64 x.bits, .int .i64 u, .int .i64 fv] 71)).ownsRow w0.heap.size 71 3 (.slice (some ⟨w6.heap.size, 0, none⟩) 1 1) [(u, fv)].length (flatS x.bits [(u, fv)])) := Lib.hid ⟨rfl, .inr ⟨w6.heap.size, 1, _, rfl, HSZ6.out, HNA.out, Nat.le_refl _, by unfold maxLen; omega, rfl, rfl⟩⟩
  have HS7 := Lib.hid (HS6.out.setway HO6.out)
  obtain ⟨P, hP, hRW, hPl⟩ := PW.out
  have hnd : ndC x.l x.at_ = #[.int .i64 u, .int .i64 nf, .int .i64 ns] := by unfold ndC; rw [HU.out, HNF.out, HNS.out]
  have hs8 := HS7.out
  rw [← hnd] at hs8
  have HS8 := Lib.hid hs8; have HPE := Lib.hid hP; have HRW := Lib.hid hRW; have HPL := Lib.hid hPl
  have HOFF : Hid (frW v ≠ -1) := Lib.hid (by have := HFE0.out; omega)
  have hnbw : Hid (w.heap.size ≤ nb) := Lib.hid (Nat.le_of_eq NB.out.symm)
  clear hP hRW hPl hnd hs8 HS7 HS6 HO6 HNA t5 tf PW hf0 hfb4 HSZ6
  generalize (w6.alloc (.cells #[.int .i64 x.bits, .int .i64 u, .int .i64 fv] 71)).setCell ⟨b, 5, none⟩ (.slice (some ⟨w6.heap.size, 0, none⟩) 1 1) = w7 at *
  obtain ⟨i0, hi0, hz0, hz1, hz2⟩ := info_parts info_spot3
  have HI := Lib.hid hi0; have HZ0 := Lib.hid hz0; have HZ1 := Lib.hid hz1; have HZ2 := Lib.hid hz2
  clear hi0 hz0 hz1 hz2
  go_loopw [49] (fun v49 wr => ∃ (i : Nat) (acc : List (Int × Int)), RFS w0 w wr B V (xr.acc 1 (wyA x) v) b kr nb x acc (ndC x.l i) ∧ RWhole x.l P i acc ∧ 0 < acc.length) (fun v49 wr => fmsrN (.pointer (some ⟨nb, 0, none⟩)) wr)
  case atStart => exact ⟨x.at_, [(u, fv)], HS8.out, HRW.out, by simp⟩
  case round =>
    clear HS8 HRW
    obtain ⟨i, acc, hs, hw, hap⟩ := hrel
    obtain ⟨fr, hfr⟩ : ∃ fr, fr = (nd x.l i).2.1 := ⟨_, rfl⟩
    have n1 : wr.cell? ⟨nb, 1, none⟩ = some (.int .i64 fr) := by rw [hcell hs.nb, hfr]; rfl
    by_cases hm : fr = -1
    · subst hm
      have hacc := rw_end hw hfr.symm
      have c0 : wr.cell? ⟨b, 0, none⟩ = some (.int .i64 (if (!x.made || x.over) = true then 0 else 1)) := by obtain ⟨_, vl, vw, h1, -⟩ := hs.way; exact hcell h1 0
      have f0 : wr.frozen? ⟨b, 0, none⟩ = false := by obtain ⟨_, vl, vw, h1, -⟩ := hs.way; exact hfrz h1 0
      have x9 := rway_cellset (y := { x with way := acc, over := true }) hs.way 0 (.int .i64 0) ⟨rfl, rfl, rfl⟩ (fun vl vw => by
        unfold WY.rcells
        simp only
        rw [if_pos (show (!x.made || true) = true from by simp)]; rfl)
      have h9 : RD w0 (wr.setCell ⟨b, 0, none⟩ (.int .i64 0)) B V (xr.acc 1 (wyA x) v) := by obtain ⟨l0, vl, vw, h1, -⟩ := hs.way; exact rd_set16 hs.rd h1 (by decide) l0 _
      have z9 : Fz b kr w (wr.setCell ⟨b, 0, none⟩ (.int .i64 0)) := by obtain ⟨l0, vl, vw, h1, -⟩ := hs.way; exact hs.fz.trans (kz_set h1 kr) (.inl rfl)
      have PP := Lib.hid (And.intro h9 (And.intro x9 z9))
      have HAC := Lib.hid hacc
      clear hs hw hfr hacc x9 h9 z9
      go_wp2_with (fail)
      refine bodyPost_ret (v := .tuple #[]) (by simp [results, Tryz.results14, go_sem]) rfl ⟨rfl, kr, PP.out.1, ?_, .inl rfl, PP.out.2.2⟩
      have e : x.next v = { x with way := acc, over := true } := by
        unfold WY.next
        rw [if_neg HOFF.out, HAC.out, HPE.out, HFV.out]
      rw [e]
      exact PP.out.2.1
    · obtain ⟨f, hff, hfi, hfl, hw2⟩ := rw_step HK.out.ahead hw (by rw [← hfr]; exact hm)
      obtain ⟨sl, hsl⟩ : ∃ sl, sl = (nd x.l i).2.2 := ⟨_, rfl⟩
      have n2 : wr.cell? ⟨nb, 2, none⟩ = some (.int .i64 sl) := by
        rw [hcell hs.nb, hsl]
        show some (Value.int .i64 (if (nd x.l i).2.1 = -1 then 0 else (nd x.l i).2.2)) = _
        rw [if_neg (by rw [← hfr]; exact hm)]
      obtain rfl : fr = (f : Int) := hfr.trans hff
      obtain ⟨bu, hbu⟩ : ∃ bu, bu = (nd x.l f).1 := ⟨_, rfl⟩
      rw [← hbu, ← hsl] at hw2
      obtain ⟨h0, vl7, vw7, h1, h2, h3, h4⟩ := hs.way
      obtain ⟨g7, cap7, hvl7, z0, z1, z2⟩ := row3_all h2 f hfl
      have hrow : ∃ gw cw, vw7 = .slice (some ⟨gw, 0, none⟩) acc.length cw ∧ gw < wr.heap.size ∧ ∀ j u, (flatS x.bits acc)[j]? = some u → wr.cell? ⟨gw, j, none⟩ = some u := by
        obtain ⟨-, ⟨-, e0⟩ | ⟨gw, cw, cur, hvw, hbw, hgw, hnw, hmw, hsw, htw⟩⟩ := h3
        · simp only at e0; omega
        · refine ⟨gw, cw, hvw, (Array.getElem?_eq_some_iff.1 hgw).1, fun j u hj => ?_⟩
          have hj2 : j < (flatS x.bits acc).length := (List.getElem?_eq_some_iff.1 hj).1
          rw [flatS_len] at hj2
          simp only at htw
          rw [← htw, List.getElem?_take, if_pos hj2] at hj
          rw [hcell hgw, ← hj]; simp
      obtain ⟨gw, cw, hvw, hgw, hnews⟩ := hrow
      have c1 : wr.cell? ⟨b, 1, none⟩ = some (.slice (some ⟨g7, 0, none⟩) x.l.length cap7) := by rw [← hvl7]; exact hcell h1 1
      have c5 : wr.cell? ⟨b, 5, none⟩ = some (.slice (some ⟨gw, 0, none⟩) acc.length cw) := by rw [← hvw]; exact hcell h1 5
      have z0 : wr.cell? ⟨g7, f * 3, none⟩ = some (.int .i64 bu) := by rw [hbu]; exact z0
      have hf0 : (0 : Int) ≤ f := by omega
      have hf1 : (f : Int) < x.l.length := by omega
      have hacl := rw_len hw
      have HS := Lib.hid hs; have HW2 := Lib.hid hw2; have HACL := Lib.hid hacl; have HBU := Lib.hid hbu; have HSL := Lib.hid hsl; have HFI := Lib.hid hfi; have HFL := Lib.hid hfl; have HGW := Lib.hid hgw; have HNEWS := Lib.hid hnews; have HFF := Lib.hid hff; have HAP := Lib.hid hap
      have HWL : Hid (w0.heap.size ≤ wr.heap.size) := Lib.hid (Nat.le_trans HWW.out hs.fz.size)
      have y1 := fun st : ExtW wr => st.cell c1
      have y5 := fun st : ExtW wr => st.cell c5
      have yg := fun st : ExtW wr => st.cell z0
      have yn1 := fun st : ExtW wr => st.cell n1
      have yn2 := fun st : ExtW wr => st.cell n2
      clear hs hw hw2 hacl hbu hsl hfi hfl hvw hgw hnews hap hff hfr hm h0 h1 h2 h3 h4 z0 z1 z2 hvl7
      go_upto_region 7 with (fail)
      clear n1 n2 c1 c5
      refine wp_region_any (by kernel_rfl) ?_
      try (change wpAny _ _ _ _ _ _ _ (World.drew _))
      refine wpAny_take (i := 2) (v := .pointer (some ⟨b, 0, none⟩)) rfl (by kernel_rfl) (by kernel_rfl) (by kernel_rfl) (fun _ _ _ h => h) (Or.inl ⟨by rfl, by intro w; go_simp⟩) ?_
      refine wpAny_take (i := 3) (v := .pointer (some ⟨b, 0, none⟩)) rfl (by kernel_rfl) (by kernel_rfl) (by kernel_rfl) (fun _ _ _ h => h) (Or.inl ⟨by rfl, by intro w; go_simp⟩) ?_
      refine wpAny_take (i := 15) (v := .pointer (some ⟨b, 0, none⟩)) rfl (by kernel_rfl) (by kernel_rfl) (by kernel_rfl) (fun _ _ _ h => h) (Or.inl ⟨by rfl, by intro w; go_simp⟩) ?_
      refine wpAny_take (i := 16) (v := .pointer (some ⟨b, 0, none⟩)) rfl (by kernel_rfl) (by kernel_rfl) (by kernel_rfl) (fun _ _ _ h => h) (Or.inl ⟨by rfl, by intro w; go_simp⟩) ?_
      refine wpAny_take (i := 0) (v := .pointer (some ⟨b, 0, none⟩)) rfl (by kernel_rfl) (by kernel_rfl) (by kernel_rfl) (fun _ _ _ h => h) (Or.inl ⟨by rfl, by intro w; go_simp⟩) ?_
      (try simp only [List.getElem_toArray, List.getElem_cons_succ, List.getElem_cons_zero])
      (try go_frame)
      refine any_of_mix (D := fun W => ∃ s : ExtW wr, W = s.val) [1, 4, 5, 6, 7, 8, 9, 10, 11, 12, 17, 18] [13, 14] 19 [20, 21, 22] (by kernel_rfl) (by kernel_rfl) (by kernel_rfl) (by kernel_rfl) (by decide) (by kernel_rfl) (fun c d v a w h => by cases d <;> exact h) ⟨⟨_, (Below.refl _ _).drew⟩, rfl⟩ ?_
      simp only [pickL_cons, pickL_nil, List.drop_succ_cons, List.drop_zero, List.take_succ_cons, List.take_zero, List.cons_append, List.nil_append]
      repeat (go_big_quiet_step (fail))
      refine wpQuiet_nil ?_
      clear y1 y5 yg yn1 yn2 hf0 hf1
      have HBD := Lib.hid (show Below wr.heap.size wr wr.drew from (Below.refl _ _).drew)
      have hsp := rspot (HS.out.way.below HBD.out) bu sl
      refine tailM_callW rfl rfl 58 #[.pointer (some ⟨b, 0, none⟩), .int .i64 bu, .int .i64 sl] (by kernel_rfl) ?_
      refine hsp.mono ?_
      intro e w4 hh
      obtain ⟨hh1, hb4⟩ := hh
      subst hh1
      have HB4 := Lib.hid (HBD.out.trans hb4)
      clear hb4 hsp
      refine ⟨_, rfl, ⟨⟨_, HB4.out⟩, rfl⟩, ?_⟩
      (try simp only [List.getElem_toArray, List.getElem_cons_succ, List.getElem_cons_zero])
      (try go_frame)
      refine tailM_op rfl rfl ?_
      go_simp
      refine ⟨⟨⟨_, HB4.out.alloc HB4.out.size _⟩, rfl⟩, ?_⟩
      (try simp only [List.getElem_toArray, List.getElem_cons_succ, List.getElem_cons_zero])
      (try go_frame)
      change tailE Tryz.prog _ _ [19, 20, 21, 22] _ _
      refine tailE_op rfl rfl ?_
      have own1 : (w4.alloc (.cells #[.int .i64 x.bits, .int .i64 bu, .int .i64 sl] 71)).ownsRow w0.heap.size 71 3 (.slice (some ⟨w4.heap.size, 0, none⟩) 1 1) 1 [.int .i64 x.bits, .int .i64 bu, .int .i64 sl] := ⟨rfl, .inr ⟨w4.heap.size, 1, _, rfl, Nat.le_trans HWL.out HB4.out.size, heap_alloc_new w4 _, Nat.le_refl _, by unfold maxLen; omega, rfl, rfl⟩⟩
      have news2 : ∀ j u, (flatS x.bits acc)[j]? = some u → (w4.alloc (.cells #[.int .i64 x.bits, .int .i64 bu, .int .i64 sl] 71)).cell? ((⟨gw, 0, none⟩ : Addr).add j) = some u := fun j u hj => by
        have ea : (⟨gw, 0, none⟩ : Addr).add j = ⟨gw, 0 + j, none⟩ := by simp [Addr.add]; omega
        rw [ea, Nat.zero_add]
        exact ((HB4.out.alloc HB4.out.size _).cell (p := ⟨gw, j, none⟩) HGW.out).trans (HNEWS.out j u hj)
      have hacb : acc.length ≤ 4200 := Nat.le_trans HACL.out HPL.out
      refine wp_append_lies _ (.tmp 64) (.tmp 68) 54 rfl w0.heap.size 71 i0 _ 3 24 Tryz.underlying54 HI.out HZ0.out HZ1.out HZ2.out rfl (by decide) (.slice (some ⟨w4.heap.size, 0, none⟩) 1 1) 1 [.int .i64 x.bits, .int .i64 bu, .int .i64 sl] rfl own1 ⟨gw, 0, none⟩ acc.length cw (flatS x.bits acc) rfl (flatS_len _ _) news2 (flatS_one _ _) HAP.out (by unfold maxLen; omega) (by omega) (by have := HWL.out; have := HB4.out.size; simp; omega) _ rfl ?_
      intro g2 cap2 w5 hown hgrow hat hlt5
      have hb5 : Below wr.heap.size wr w5 := (HB4.out.alloc (o := .cells #[.int .i64 x.bits, .int .i64 bu, .int .i64 sl] 71) HB4.out.size).grown hgrow (by have := HB4.out.size; simp; omega) (fun j hj => by simp only [Value.ownBlock, Option.some.injEq] at hj; have := HB4.out.size; omega)
      have hs5 := HS.out.below hb5
      have hcm : 1 + acc.length = acc.length + 1 := Nat.add_comm _ _
      rw [hcm] at hown ⊢
      have hs6 := hs5.setway (vw' := .slice (some ⟨g2, 0, none⟩) (acc.length + 1) cap2) (acc' := (bu, sl) :: acc) (by
        rw [List.length_cons]; exact hown)
      have t5 : ∃ vw8, w5.cell? ⟨b, 5, none⟩ = some vw8 := by obtain ⟨_, vl, vw, h1, -⟩ := hs5.way; exact ⟨_, hcell h1 5⟩
      obtain ⟨vw8, t5⟩ := t5
      have tf : w5.frozen? ⟨b, 5, none⟩ = false := by obtain ⟨_, vl, vw, h1, -⟩ := hs5.way; exact hfrz h1 5
      have HS6 := Lib.hid hs6
      clear hown hgrow hat hlt5 hb5 hs5 hcm hs6 own1 news2 hacb
      (try simp only [List.getElem_toArray, List.getElem_cons_succ, List.getElem_cons_zero])
      (try go_frame)
      refine tailE_op rfl rfl ?_
      go_simp
      refine tailE_op rfl rfl ?_
      go_simp
      refine tailE_op rfl rfl ?_
      go_simp
      unfold tailE
      clear t5 tf
      generalize w5.setCell ⟨b, 5, none⟩ (.slice (some ⟨g2, 0, none⟩) (acc.length + 1) cap2) = w9 at *
      obtain ⟨_, vl8, vw8, h81, h82, -⟩ := HS6.out.way
      obtain ⟨g8, cap8, hvl8, z0, z1, z2⟩ := row3_all h82 f HFL.out
      have c1 : w9.cell? ⟨b, 1, none⟩ = some (.slice (some ⟨g8, 0, none⟩) x.l.length cap8) := by rw [← hvl8]; exact hcell h81 1
      have n1 : w9.cell? ⟨nb, 1, none⟩ = some (.int .i64 f) := by
        rw [hcell HS6.out.nb]
        show some (Value.int .i64 (nd x.l i).2.1) = _
        rw [HFF.out]
      obtain ⟨p0, hp0⟩ : ∃ p0, p0 = (nd x.l f).1 := ⟨_, rfl⟩
      obtain ⟨p1, hp1⟩ : ∃ p1, p1 = (nd x.l f).2.1 := ⟨_, rfl⟩
      obtain ⟨p2, hp2⟩ : ∃ p2 : Int, p2 = (if (nd x.l f).2.1 = -1 then 0 else (nd x.l f).2.2) := ⟨_, rfl⟩
      have hndf : ndC x.l f = #[.int .i64 p0, .int .i64 p1, .int .i64 p2] := by unfold ndC; rw [hp0, hp1, hp2]
      have z0 : w9.cell? ⟨g8, f * 3, none⟩ = some (.int .i64 p0) := by rw [hp0]; exact z0
      have z1 : w9.cell? ⟨g8, f * 3 + 1, none⟩ = some (.int .i64 p1) := by rw [hp1]; exact z1
      have z2 : w9.cell? ⟨g8, f * 3 + 2, none⟩ = some (.int .i64 p2) := by rw [hp2]; exact z2
      have hf0 : (0 : Int) ≤ f := by omega
      have hf1 : (f : Int) < x.l.length := by have := HFL.out; omega
      have y1 := fun st : ExtW w9 => st.cell c1
      have y2 := fun st : ExtW w9 => st.cell n1
      have q0 := fun st : ExtW w9 => st.cell z0
      have q1 := fun st : ExtW w9 => st.cell z1
      have q2 := fun st : ExtW w9 => st.cell z2
      have HNDF := Lib.hid hndf; have HP1 := Lib.hid hp1
      clear h81 h82 hvl8 c1 n1 hp0 hp1 hp2 hndf z0 z1 z2
      go_upto_region 8 with (fail)
      refine wp_region_ext_tail 8 (by kernel_rfl) (by kernel_rfl) ?_
      simp only [List.take_succ_cons, List.take_zero, List.drop_succ_cons, List.drop_zero]
      repeat (go_big_quiet_step (fail))
      refine wpQuiet_nil ?_
      rintro W ⟨⟨W2, hW⟩, rfl⟩
      have hs7 := HS6.out.below hW
      obtain ⟨r0, hr0⟩ : ∃ r0, r0 = (nd x.l i).1 := ⟨_, rfl⟩
      obtain ⟨r2, hr2⟩ : ∃ r2 : Int, r2 = (if (nd x.l i).2.1 = -1 then 0 else (nd x.l i).2.2) := ⟨_, rfl⟩
      have hn0 : W.cell? ⟨nb, 0, none⟩ = some (.int .i64 r0) := by rw [hr0]; exact hcell hs7.nb 0
      have hn1 : W.cell? ⟨nb, 1, none⟩ = some (.int .i64 f) := by rw [← HFF.out]; exact hcell hs7.nb 1
      have hn2 : W.cell? ⟨nb, 2, none⟩ = some (.int .i64 r2) := by rw [hr2]; exact hcell hs7.nb 2
      have hnf := hfrz hs7.nb
      have hs8 := ((hs7.setn 0 (.int .i64 p0) hnbw.out HKW.out HWW.out).setn 1 (.int .i64 p1) hnbw.out HKW.out HWW.out).setn 2 (.int .i64 p2) hnbw.out HKW.out HWW.out
      have e8 : (((ndC x.l i).setIfInBounds 0 (.int .i64 p0)).setIfInBounds 1 (.int .i64 p1)).setIfInBounds 2 (.int .i64 p2) = ndC x.l f := by rw [HNDF.out]; rfl
      rw [e8] at hs8
      have HS8 := Lib.hid hs8
      clear y1 y2 q0 q1 q2 hW hs7 hs8 e8 hr0 hr2
      go_wp2_with (fail)
      go_roundw
      case measure =>
        have e0 : wr.cell? ⟨nb, 1, none⟩ = some (.int .i64 f) := by rw [hcell HS.out.nb, ← HFF.out]; rfl
        have e1 := hcell HS8.out.nb 1
        have e2 : (ndC x.l f)[1]? = some (.int .i64 p1) := by rw [HNDF.out]; rfl
        rw [e2] at e1
        unfold fmsrN
        simp only [e0, e1]
        rcases HK.out.ahead f HFL.out with h | ⟨h, h2⟩ <;> rw [← HP1.out] at h
        · rw [h]; omega
        · rw [← HP1.out] at h2; omega
      case rel => exact ⟨f, (bu, sl) :: acc, HS8.out, HW2.out, by simp⟩
end Go.Proofs.YtmakjfeepmiggaaGreat
namespace Go.Proofs.YtmakjfeepmiggaaGreat
open Go.RowKit Go.Maps TagPure
set_option linter.unusedVariables false
theorem rstep_any {w0 w : World} {B : WB} {V : WV} {xr : RS} {b kr : Nat} {x : WY} (h : RD w0 w B V xr) (hr : xr.room) (hx : RWayAt w w0.heap.size b kr x) (hk : WyOk x) (hov : x.over = false) (v : Int) (hv : v = rlook xr.l (wyA x)) (hvb : 0 ≤ v ∧ v < 18446744073709551616) :
    Calls Tryz.prog 14 #[.pointer (some ⟨b, 0, none⟩), .pointer (some ⟨B.wb, 0, none⟩)] w fun e w' => e = .returned (.tuple #[]) ∧ ∃ kr', RD w0 w' B V (xr.acc 1 (wyA x) v) ∧ RWayAt w' w0.heap.size b kr' (x.next v) ∧ (kr' = kr ∨ w.heap.size ≤ kr') ∧ Fz b kr w w' := by
  have hc : frW v = -1 ∨ 0 ≤ frW v := by
    rcases free_casesW v with e | ⟨n, -, e, -⟩
    · exact .inl e
    · right; show 0 ≤ freeFrom v 0 4; omega
  rcases hc with hc | hc
  · exact rstep_full h hr hx hk hov v hv hvb hc
  · exact rstep_free h hr hx hk hov v hv hvb hc
end Go.Proofs.YtmakjfeepmiggaaGreat