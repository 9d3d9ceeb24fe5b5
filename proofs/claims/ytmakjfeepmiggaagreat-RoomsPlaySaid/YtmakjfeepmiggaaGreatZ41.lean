import Derived.Test.YtmakjfeepmiggaaGreatZ38
import Derived.Test.YtmakjfeepmiggaaGreatZ35
import Derived.Test.YtmakjfeepmiggaaGreatZ25
import Derived.Test.YtmakjfeepmiggaaGreatZ18
namespace Go.Proofs.YtmakjfeepmiggaaGreat
open Go.RowKit Go.Maps TagPure
set_option linter.unusedVariables false
def SlB (w : World) (lo g : Nat) (v : Value) (l : List Int) : Prop :=
  ∃ a c, v = .slice a l.length c ∧ l.length ≤ c ∧ c ≤ maxLen ∧ (l = [] ∨ (lo ≤ g ∧ ∃ o cur, a = some ⟨g, o, none⟩ ∧ w.heap[g]? = some (.cells cur 3 (0, 0)) ∧ ∀ i, (hi : i < l.length) → cur[o + i]? = some (.int .i64 l[i])))
structure RoomAtB (w : World) (lo rb : Nat) (x : RM) (g : Nat) : Prop where
  low : lo ≤ rb
  ex : ∃ v, w.heap[rb]? = some (.cells (x.cells v) 206 (0, 0)) ∧ SlB w lo g v x.l
section
variable {w w' : World} {lo lo' rb g : Nat} {x y : RM}
theorem SlB.at_ {v : Value} {l : List Int} (h : SlB w lo g v l) : SlI w v l := by
  obtain ⟨a, c, h1, h2, h3, h4⟩ := h
  exact ⟨a, c, h1, h2, h3, h4.imp id fun ⟨_, o, cur, e⟩ => ⟨g, o, cur, e⟩⟩
theorem RoomAtB.at_ (h : RoomAtB w lo rb x g) : RoomAt w lo rb x := by
  obtain ⟨l0, v, b1, b2⟩ := h
  exact ⟨l0, v, b1, b2.at_⟩
theorem SlB.fr {v : Value} {l : List Int} {K : TypeId → Bool} {mp : Bool} (h : SlB w lo g v l) (hf : Fr K mp w w') (hK : K 3 = false) : SlB w' lo g v l := by
  obtain ⟨a, c, h1, h2, h3, h4⟩ := h
  exact ⟨a, c, h1, h2, h3, h4.imp id fun ⟨h0, o, cur, h5, h6, h7⟩ => ⟨h0, o, cur, h5, hf.cells _ _ _ _ h6 hK, h7⟩⟩
theorem RoomAtB.fr {K : TypeId → Bool} {mp : Bool} (h : RoomAtB w lo rb x g) (hf : Fr K mp w w') (h1 : K 206 = false) (h2 : K 3 = false) : RoomAtB w' lo rb x g := by
  obtain ⟨l0, v, b1, b2⟩ := h
  exact ⟨l0, v, hf.cells _ _ _ _ b1 h1, b2.fr hf h2⟩
theorem RoomAtB.below (h : RoomAtB w lo rb x g) (hb : Below w.heap.size w w') : RoomAtB w' lo rb x g := h.fr (below_fr hb (fun _ => false) false) rfl rfl
theorem RoomAtB.lower (h : RoomAtB w lo rb x g) (hl : lo' ≤ lo) : RoomAtB w lo' rb x g := by
  obtain ⟨l0, v, b1, a, c, h1, h2, h3, h4⟩ := h
  exact ⟨Nat.le_trans hl l0, v, b1, a, c, h1, h2, h3, h4.imp id fun ⟨h0, r⟩ => ⟨Nat.le_trans hl h0, r⟩⟩
theorem RoomAtB.keep (h : RoomAtB w lo rb x g) (h1 : w'.heap[rb]? = w.heap[rb]?) (h2 : x.l ≠ [] → w'.heap[g]? = w.heap[g]?) : RoomAtB w' lo rb x g := by
  obtain ⟨l0, v, b1, a, c, g1, g2, g3, g4⟩ := h
  refine ⟨l0, v, h1.trans b1, a, c, g1, g2, g3, ?_⟩
  by_cases hl : x.l = []
  · exact .inl hl
  · rcases g4 with e | ⟨h0, o, cur, e1, e2, e3⟩
    · exact .inl e
    · exact .inr ⟨h0, o, cur, e1, (h2 hl).trans e2, e3⟩
theorem RoomAtB.row (h : RoomAtB w lo rb x g) (hl : x.l ≠ []) : lo ≤ g ∧ ∃ cs, w.heap[g]? = some (.cells cs 3 (0, 0)) := by
  obtain ⟨l0, v, b1, a, c, g1, g2, g3, g4⟩ := h
  rcases g4 with e | ⟨h0, o, cur, e1, e2, e3⟩
  · exact absurd e hl
  · exact ⟨h0, cur, e2⟩
theorem room_atB (h : RoomAt w lo rb x) (hl : x.l = []) (g : Nat) : RoomAtB w lo rb x g := by
  obtain ⟨l0, v, b1, a, c, g1, g2, g3, g4⟩ := h
  exact ⟨l0, v, b1, a, c, g1, g2, g3, .inl hl⟩
end
structure RMC (w0 w W : World) (B : WB) (V : WV) (s : CS) (rb : Nat) (x : RM) (g : Nat) : Prop where
  ws : WS w0 W B V s
  rb_ : RoomAtB W w0.heap.size rb x g
  fx : Fx wTy true rb w W
section
variable {w0 w W W' : World} {B : WB} {V : WV} {s s' : CS} {rb g : Nat} {x y : RM}
theorem RMC.rm (h : RMC w0 w W B V s rb x g) : RoomAt W w0.heap.size rb x := h.rb_.at_
theorem RMC.below (h : RMC w0 w W B V s rb x g) (hb : Below W.heap.size W W') : RMC w0 w W' B V s rb x g := ⟨h.ws.keep hb, h.rb_.below hb, h.fx.trans ((below_fr hb wTy true).fx rb)⟩
theorem RMC.set (h : RMC w0 w W B V s rb x g) (o : Nat) (u : Value) (hl : y.l = x.l) (hc : ∀ v, (x.cells v).setIfInBounds o u = y.cells v) : RMC w0 w (W.setCell ⟨rb, o, none⟩ u) B V s rb y g := by
  obtain ⟨l0, v, b1, b2⟩ := h.rb_
  have e := setCell_same b1 o u
  rw [hc] at e
  refine ⟨set_take h.ws b1 rfl l0 u, ⟨l0, v, e, ?_⟩, h.fx.trans (set_fx wTy true W rb o u)⟩
  rw [hl]; exact b2.fr (set_ty b1 o u) rfl
theorem RMC.setl (h : RMC w0 w W B V s rb x g) {v : Value} {l : List Int} (hv : SlB W w0.heap.size g v l) : RMC w0 w (W.setCell ⟨rb, 1, none⟩ v) B V s rb { x with l := l } g := by
  obtain ⟨l0, u, b1, b2⟩ := h.rb_
  exact ⟨set_take h.ws b1 rfl l0 v, ⟨l0, v, setCell_same b1 1 v, hv.fr (set_ty b1 1 v) rfl⟩, h.fx.trans (set_fx wTy true W rb 1 v)⟩
theorem RMC.move (h : RMC w0 w W B V s rb x g) (h2 : WS w0 W' B V s') (hf : Fr wTy true W W') : RMC w0 w W' B V s' rb x g := ⟨h2, h.rb_.fr hf rfl rfl, h.fx.trans (hf.fx rb)⟩
end
theorem slb_pop {w : World} {lo gb : Nat} {v : Value} {c : Int} {r : List Int} (h : SlB w lo gb v (c :: r)) : ∃ g o k, v = .slice (some ⟨g, o, none⟩) (r.length + 1) (k + 1) ∧ w.cell? ⟨g, o, none⟩ = some (.int .i64 c) ∧ r.length ≤ k ∧ k + 1 ≤ maxLen ∧ SlB w lo gb (.slice (some ⟨g, if k = 0 then o else o + 1, none⟩) r.length k) r := by
  obtain ⟨a, q, rfl, h1, h2, h3 | ⟨h0, o, cur, rfl, hg, hi⟩⟩ := h
  · cases h3
  · have h00 := hi 0 (by simp)
    rw [Nat.add_zero] at h00
    rw [List.length_cons] at h1
    obtain ⟨k, rfl⟩ : ∃ k, q = k + 1 := ⟨q - 1, by omega⟩
    refine ⟨gb, o, k, rfl, by rw [hcell hg]; exact h00, by omega, h2, _, k, rfl, by omega, by omega, ?_⟩
    by_cases hk : k = 0
    · exact .inl (List.eq_nil_of_length_eq_zero (by omega))
    · rw [if_neg hk]
      refine .inr ⟨h0, o + 1, cur, rfl, hg, fun i hir => ?_⟩
      have := hi (i + 1) (by simp; exact hir)
      rw [show o + 1 + i = o + (i + 1) by omega, this]
      simp
theorem ends_anyB {w0 w W : World} {B : WB} {V : WV} {s : CS} {rb gb : Nat} {x : RM} (h : RMC w0 w W B V s rb x gb) (p q k : Int) : Calls Tryz.prog 166 #[.pointer (some ⟨rb, 0, none⟩), .agg #[.int .i64 p, .int .i64 q, .int .i64 k]] W fun e w' => e = .returned (.tuple #[]) ∧ RMC w0 w w' B V s rb { x with sb := p, su := q, sk := k, is := true, ph := .off } gb := by
  have hb := below_alloc W (.cells #[.int .i64 p, .int .i64 q, .int .i64 k] 71)
  have hz := heap_alloc_new W (.cells #[.int .i64 p, .int .i64 q, .int .i64 k] 71)
  have H1 := Lib.hid (h.below hb); have HZ := Lib.hid hz
  clear h hb hz
  go_enter Tryz.func166, Tryz.ntmps166
  go_upto_region 1 with (fail)
  change Code.wp _ _ _ _ (W.alloc (.cells #[.int .i64 p, .int .i64 q, .int .i64 k] 71))
  generalize W.alloc (.cells #[.int .i64 p, .int .i64 q, .int .i64 k] 71) = W1 at *
  generalize W.heap.size = sb at *
  have m0 := hcell HZ.out 0
  have m1 := hcell HZ.out 1
  have m2 := hcell HZ.out 2
  obtain ⟨-, -, -, c4, -, -, c7, c8, c9, c10⟩ := H1.out.rm.c
  have ff := H1.out.rm.f
  have H2 := Lib.hid (((((H1.out.set (y := { x with sb := p }) 7 (.int .i64 p) rfl (fun _ => rfl)).set (y := { x with sb := p, su := q }) 8 (.int .i64 q) rfl (fun _ => rfl)).set (y := { x with sb := p, su := q, sk := k }) 9 (.int .i64 k) rfl (fun _ => rfl)).set (y := { x with sb := p, su := q, sk := k, is := true }) 10 (.bool true) rfl (fun _ => rfl)).set (y := { x with sb := p, su := q, sk := k, is := true, ph := .off }) 4 (.nilFunc) rfl (fun _ => rfl))
  generalize hph : x.ph = ph at *
  cases ph
  all_goals
    simp only [RPh.fn] at c4
    go_wp2_with fail
    go_end0
    first | exact ⟨rfl, H2.out⟩ | (rw [← hph] at H2; exact ⟨rfl, H2.out⟩)
set_option maxRecDepth 10000 in
set_option maxHeartbeats 4000000 in
theorem look_anyB {w0 w : World} {B : WB} {V : WV} {s : CS} {rb gb : Nat} {x : RM} (h : WS w0 w B V s) (hr : s.room) (hx : RoomAtB w w0.heap.size rb x gb) (c : Int) (r : List Int) (hl : x.l = c :: r) (hll : r.length ≤ 10) (hgo : 0 ≤ frW (s.val (tagsA x.bits c)) ∨ r ≠ []) :
    Calls Tryz.prog 109 #[.pointer (some ⟨rb, 0, none⟩), .pointer (some ⟨B.wb, 0, none⟩)] w fun e w' => e = .returned (.tuple #[]) ∧ RMC w0 w w' B V (s.acc 1 (tagsA x.bits c) (s.val (tagsA x.bits c))) rb (x.look (s.val (tagsA x.bits c))) gb := by
  have hB : RMC w0 w w B V s rb x gb := ⟨h, hx, ((below_fr (Below.refl _ _) wTy true).fx rb)⟩
  obtain ⟨v, hv⟩ : ∃ v, v = s.val (tagsA x.bits c) := ⟨_, rfl⟩
  have hvb := wf_bd (h.own.wf (tagsA x.bits c))
  have hfin : x.look v = if frW v = -1 then { x with l := r } else { x with l := r, sb := x.bits, su := c, sk := frW v, is := true, ph := .off } := by unfold RM.look; rw [hl]
  rw [← hv] at hvb hgo ⊢
  obtain ⟨A, hA⟩ : ∃ A, A = tagsA x.bits c := ⟨_, rfl⟩
  have hTG := fun W => tags_any x.bits c W
  have hAw : (Lit.int .u64 A).wf = true := by rw [hA]; exact tagsA_wf _ _
  rw [← hA] at hTG hv ⊢
  obtain ⟨l0, u, b1, b2⟩ := hx
  rw [hl] at b2
  obtain ⟨g, o, k, rfl, hc, hrk, hkm, hpop⟩ := slb_pop b2
  obtain ⟨c0, -⟩ := hB.rm.c
  have c1 : w.cell? ⟨rb, 1, none⟩ = some (.slice (some ⟨g, o, none⟩) (r.length + 1) (k + 1)) := hcell b1 1
  have f1 := hfrz b1 1
  obtain ⟨bits, hbt⟩ : ∃ bits, bits = x.bits := ⟨_, rfl⟩
  rw [← hbt] at c0 hTG
  unfold maxLen at hkm
  have hkm2 : (k : Int) + 1 ≤ 9223372036854775807 := by omega
  have al : ∀ (ob : Obj) {q j : Nat} {u : Value}, w.cell? ⟨q, j, none⟩ = some u → (w.alloc ob).cell? ⟨q, j, none⟩ = some u := fun ob q j u hu => by rw [World.cell?_alloc_past _ _ _ (World.block_lt_of_cell? _ _ hu)]; exact hu
  have c0' := fun ob => al ob c0
  have c1' := fun ob => al ob c1
  have hc' := fun ob => al ob hc
  have HB := Lib.hid hB; have HV := Lib.hid hv; have HVB := Lib.hid hvb; have HFIN := Lib.hid hfin; have HGO := Lib.hid hgo; have HAW := Lib.hid hAw; have HR := Lib.hid hr; have HPOP := Lib.hid hpop; have HL := Lib.hid hl; have HLL := Lib.hid hll; have HRK := Lib.hid hrk; have HBT := Lib.hid hbt; have HC1 := Lib.hid c1
  clear h hr hl hll hgo hB hv hvb hfin hA hAw b1 b2 hpop hrk hbt al f1 l0
  go_enter Tryz.func109, Tryz.ntmps109
  go_upto_region 0 with (fail)
  go_region
  go_upto_region 1 with (fail)
  have n1 : (w.alloc (.cells #[.int .i64 bits, .int .i64 c] 69)).drew.heap[w.heap.size]? = some (.cells #[.int .i64 bits, .int .i64 c] 69 (0, 0)) := heap_alloc_new w (.cells #[.int .i64 bits, .int .i64 c] 69)
  have k1 := (below_alloc w (.cells #[.int .i64 bits, .int .i64 c] 69)).drew
  have HB2 := Lib.hid (HB.out.below k1); have N1 := Lib.hid n1
  have HPOP2 := Lib.hid (HPOP.out.fr (below_fr k1 (fun _ => false) false) rfl)
  have c12 : (w.alloc (.cells #[.int .i64 bits, .int .i64 c] 69)).drew.cell? ⟨rb, 1, none⟩ = some (.slice (some ⟨g, o, none⟩) (r.length + 1) (k + 1)) := (k1.cell (World.block_lt_of_cell? _ _ HC1.out)).trans HC1.out
  have f12 := HB2.out.rm.f 1
  clear n1 k1 c0 c1 hc c0' c1' hc' HB HPOP HC1
  generalize (w.alloc (.cells #[.int .i64 bits, .int .i64 c] 69)).drew = w2 at *
  obtain ⟨nb, hnb⟩ : ∃ nb, nb = w.heap.size := ⟨_, rfl⟩
  rw [← hnb] at N1
  try simp only [← hnb]
  clear hnb
  have HB3 := Lib.hid (HB2.out.setl HPOP2.out)
  have HN3 := Lib.hid ((set_ty (show w2.heap[rb]? = some (.cells _ 206 (0, 0)) from HB2.out.rm.blk.choose_spec) 1 (.slice (some ⟨g, if k = 0 then o else o + 1, none⟩) r.length k)).cells _ _ _ _ N1.out rfl)
  clear HB2 HPOP2 N1
  go_cut [22] (fun v22 wx => RMC w0 w wx B V s rb { x with l := r } gb ∧ wx.heap[nb]? = some (.cells #[.int .i64 bits, .int .i64 c] 69 (0, 0)))
  case first =>
    have hkm3 : ¬ ((k : Int) + 1 = 0) := by omega
    rcases k with _ | k
    · go_wp2_with (fail)
      go_meet
      have h3 := HB3.out
      have n3 := HN3.out
      rw [if_pos trivial] at h3 n3
      exact ⟨h3, n3⟩
    · go_wp2_with (fail)
      go_meet
      have h3 := HB3.out
      have n3 := HN3.out
      rw [if_neg (Nat.succ_ne_zero k)] at h3 n3
      exact ⟨h3, n3⟩
  case rest =>
    obtain ⟨h3, n3⟩ := hcut
    have HB4 := Lib.hid h3; have N4 := Lib.hid n3
    clear h3 n3 HB3 HN3 c12 f12
    generalize wc = w3 at *
    have hb0 : Below w3.heap.size w3 w3.drew := (Below.refl _ _).drew
    have HB5 := Lib.hid (HB4.out.below hb0); have N5 : Hid (w3.drew.heap[nb]? = some (.cells #[.int .i64 bits, .int .i64 c] 69 (0, 0))) := N4.out
    have s1 : TLk nb B.wb B.cb bits c w3.drew := ⟨HB5.out.ws.c0, hcell N5.out 0, hcell N5.out 1⟩
    have hfree := fun W => free_any v W HVB.out.1 HVB.out.2
    have hfe : freeFrom v 0 4 = frW v := rfl
    rw [hfe] at hfree
    clear hfe hb0
    go_upto_region 2 with (fail)
    go_region_held2 (fun W => TLk nb B.wb B.cb bits c W) (assumption) (first
      | (go_at_call 42; refine (hTG _).mono ?_; intro e w4 hh; obtain ⟨hh1, b4⟩ := hh; subst hh1; have HB6 := Lib.hid (HB5.out.below b4); have n6 := (b4.block _ (Array.getElem?_eq_some_iff.1 N5.out).1).trans N5.out; have N6 := Lib.hid n6; have s4 : TLk nb B.wb B.cb bits c w4 := ⟨HB6.out.ws.c0, hcell N6.out 0, hcell N6.out 1⟩; have hld := HB6.out.ws.load HR.out A HAW.out; rw [← HV.out] at hld; clear b4 n6 s1 HB5 N5 hTG)
      | (go_at_call 62; refine hld.mono ?_; intro e w5 hh; obtain ⟨hh1, h5, f5⟩ := hh; subst hh1; have HB7 := Lib.hid (HB6.out.move h5 f5); have N7 := Lib.hid (f5.cells _ _ _ _ N6.out rfl); have s5 : TLk nb B.wb B.cb bits c w5 := ⟨HB7.out.ws.c0, hcell N7.out 0, hcell N7.out 1⟩; clear h5 f5 hld s4 HB6 N6)
      | (go_at_call 63; refine (hfree _).mono ?_; intro e w6 hh; obtain ⟨hh1, b6⟩ := hh; subst hh1; have HB8 := Lib.hid (HB7.out.below b6); have n8 := (b6.block _ (Array.getElem?_eq_some_iff.1 N7.out).1).trans N7.out; have N8 := Lib.hid n8; have s6 : TLk nb B.wb B.cb bits c w6 := ⟨HB8.out.ws.c0, hcell N8.out 0, hcell N8.out 1⟩; clear b6 n8 hfree s5 HB7 N7))
    clear s6 HB4 N4
    obtain ⟨fv, hfv⟩ : ∃ fv, fv = frW v := ⟨_, rfl⟩
    rw [← hfv] at HFIN HGO
    try rw [← hfv]
    have HFV := Lib.hid hfv
    have hfc := free_casesW v
    rw [show freeFrom v 0 4 = fv from hfv.symm] at hfc
    clear hfv
    by_cases hf : fv = -1
    · subst hf
      have hr0 : r ≠ [] := by rcases HGO.out with h | h; exact absurd h (by decide); exact h
      have hlr : 0 < r.length := List.length_pos_iff.2 hr0
      obtain ⟨_, ur, ub, ⟨ua, uc, hua, -⟩⟩ := HB8.out.rm
      have c1 : w6.cell? ⟨rb, 1, none⟩ = some (.slice ua r.length uc) := by have h := hcell ub 1; rw [hua] at h; exact h
      have hz1 : ((r.length : Int) == 0) = false := beq_eq_false_iff_ne.2 (by omega)
      have hz2 : (r.length == 0) = false := beq_eq_false_iff_ne.2 (by omega)
      clear ub hua hfc hr0 hlr
      go_wp2_with (fail)
      go_end0
      refine ⟨rfl, ?_⟩
      rw [HFIN.out, if_pos trivial]
      exact HB8.out
    · have hf0 : 0 ≤ fv := by rcases hfc with h | ⟨q, _, h, _⟩ <;> omega
      have m0 := hcell N8.out 0
      have m1 := hcell N8.out 1
      have hen := ends_anyB HB8.out bits c fv
      have HNE := Lib.hid hf
      clear hfc hf
      go_wp2_with (go_at_call 166; refine hen.mono ?_; intro e w7 hh; obtain ⟨hh1, h7⟩ := hh; subst hh1; have HB9 := Lib.hid h7; clear h7 hen m0 m1)
      go_end0
      refine ⟨rfl, ?_⟩
      rw [HFIN.out, if_neg HNE.out]
      have h9 := HB9.out
      rw [HBT.out] at h9
      exact h9
theorem rmstep_lookB {w0 w : World} {B : WB} {V : WV} {s : CS} {rb gb : Nat} {x : RM} (h : WS w0 w B V s) (hr : s.room) (hx : RoomAtB w w0.heap.size rb x gb) (hp : x.ph = .look) (c : Int) (r : List Int) (hl : x.l = c :: r) (hll : r.length ≤ 10) (hgo : 0 ≤ frW (s.val (tagsA x.bits c)) ∨ r ≠ []) :
    Calls Tryz.prog 37 #[.pointer (some ⟨rb, 0, none⟩), .pointer (some ⟨B.wb, 0, none⟩)] w fun e w' => e = .returned (.bool (decide ((x.look (s.val (tagsA x.bits c))).ph = .off))) ∧ RMC w0 w w' B V (s.acc 1 (tagsA x.bits c) (s.val (tagsA x.bits c))) rb (x.look (s.val (tagsA x.bits c))) gb := by
  have hov := rmover hx.at_
  rw [decide_eq_false (show x.ph ≠ .off by rw [hp]; decide)] at hov
  have hlk := look_anyB h hr hx c r hl hll hgo
  obtain ⟨-, -, -, c4, -⟩ := hx.at_.c
  rw [hp] at c4
  simp only [RPh.fn] at c4
  obtain ⟨y, hy⟩ : ∃ y, y = x.look (s.val (tagsA x.bits c)) := ⟨_, rfl⟩
  rw [← hy] at hlk ⊢
  clear h hr hx hp hl hll hgo hy
  go_enter Tryz.func37, Tryz.ntmps37
  go_upto_region 2 with (go_at_call 113; refine hov.mono ?_; intro e w2 hh; obtain ⟨hh1, hh2⟩ := hh; subst hh1; obtain rfl := hh2.symm; clear hov)
  go_upto_region 3 with (go_at_call 109; refine hlk.mono ?_; intro e w3 hh; obtain ⟨hh1, h3⟩ := hh; subst hh1; have H3 := Lib.hid h3; have ho3 := rmover h3.rm; clear h3 hlk c4)
  go_wp2_with (go_at_call 113; refine ho3.mono ?_; intro e w4 hh; obtain ⟨hh1, hh2⟩ := hh; subst hh1; obtain rfl := hh2.symm; clear ho3)
  go_ret
  exact ⟨rfl, H3.out⟩
set_option maxRecDepth 10000 in
set_option maxHeartbeats 1000000 in
theorem newroom_okB (bits h : Int) (hb : 1 ≤ bits ∧ bits ≤ 12) (h0 : 0 ≤ h ∧ h < 18446744073709551616) (w : World) : Calls Tryz.prog 33 #[.int .i64 bits, .int .u64 h] w fun e w' => ∃ rb gb, e = .returned (.pointer (some ⟨rb, 0, none⟩)) ∧ RoomAtB w' w.heap.size rb (rmnew bits (bk h bits) (oth (bk h bits) (tag01 h) bits)) gb ∧ Below w.heap.size w w' := by
  have hs := fun W => size_any bits W
  have hbk := fun W => bucket_fn h bits h0.1 h0.2 hb W
  have htg := fun W => tag_fn h h0.1 h0.2 W
  have hko := bk_bd h bits hb
  have hto := tag01_bd h h0.1 h0.2
  have hot := fun W => other_fn (bk h bits) (tag01 h) bits hb hko hto W
  have hsz : (tsize bits == 0) = false := beq_eq_false_iff_ne.2 (by omega)
  obtain ⟨a, ha⟩ : ∃ a, a = bk h bits := ⟨_, rfl⟩
  obtain ⟨b, hbb⟩ : ∃ b, b = oth (bk h bits) (tag01 h) bits := ⟨_, rfl⟩
  obtain ⟨tg0, htg0⟩ : ∃ tg0, tg0 = tag01 h := ⟨_, rfl⟩
  rw [← hbb] at hot ⊢
  rw [← ha] at hbk hot ⊢
  rw [← htg0] at htg hot
  obtain ⟨i0, hi0, hz0, hz1, hz2⟩ := info_parts info_int1
  have HI := Lib.hid hi0; have HZ0 := Lib.hid hz0; have HZ1 := Lib.hid hz1; have HZ2 := Lib.hid hz2
  generalize tsize bits = ts at *
  clear hb h0 hko hto ha hbb htg0 hi0 hz0 hz1 hz2
  have k1 := below_alloc w (.cells #[.int .i64 a] 3)
  have n1 := heap_alloc_new w (.cells #[.int .i64 a] 3)
  have hs1 : (w.alloc (.cells #[.int .i64 a] 3)).heap.size = w.heap.size + 1 := by simp
  have k2 := below_alloc (w.alloc (.cells #[.int .i64 a] 3)) (.cells ((⟨bits, [a], a, b, .look, none, none, 0, 0, 0, false⟩ : RM).cells (.slice (some ⟨w.heap.size, 0, none⟩) 1 1)) 206)
  have n2 := heap_alloc_new (w.alloc (.cells #[.int .i64 a] 3)) (.cells ((⟨bits, [a], a, b, .look, none, none, 0, 0, 0, false⟩ : RM).cells (.slice (some ⟨w.heap.size, 0, none⟩) 1 1)) 206)
  have n1' := (k2.block _ (Array.getElem?_eq_some_iff.1 n1).1).trans n1
  rw [hs1] at n2
  have KB := Lib.hid (k1.trans (k2.mono k1.size)); have N1 := Lib.hid n1'; have N2 := Lib.hid n2
  clear k1 n1 hs1 k2 n2 n1'
  go_enter Tryz.func33, Tryz.ntmps33
  go_upto_region 6 with (first
    | (go_at_call 49; refine (hs _).mono ?_; intro e w2 hh; obtain ⟨hh1, hh2⟩ := hh; subst hh1; obtain rfl := hh2.symm)
    | (go_at_call 108; refine (hbk _).mono ?_; intro e w2 hh; obtain ⟨hh1, hh2⟩ := hh; subst hh1; obtain rfl := hh2.symm)
    | (go_at_call 83; refine (htg _).mono ?_; intro e w2 hh; obtain ⟨hh1, hh2⟩ := hh; subst hh1; obtain rfl := hh2.symm)
    | (go_at_call 65; refine (hot _).mono ?_; intro e w2 hh; obtain ⟨hh1, hh2⟩ := hh; subst hh1; obtain rfl := hh2.symm))
  change Code.wp _ _ _ _ ((w.alloc (.cells #[.int .i64 a] 3)).alloc (.cells ((⟨bits, [a], a, b, .look, none, none, 0, 0, 0, false⟩ : RM).cells (.slice (some ⟨w.heap.size, 0, none⟩) 1 1)) 206))
  generalize (w.alloc (.cells #[.int .i64 a] 3)).alloc (.cells ((⟨bits, [a], a, b, .look, none, none, 0, 0, 0, false⟩ : RM).cells (.slice (some ⟨w.heap.size, 0, none⟩) 1 1)) 206) = w1 at *
  by_cases hba : b = a
  · subst hba
    have hq : (b != b) = false := by simp
    go_wp2
    go_ret
    refine ⟨w.heap.size + 1, w.heap.size, rfl, ⟨Nat.le_succ _, .slice (some ⟨w.heap.size, 0, none⟩) 1 1, ?_, ?_⟩, KB.out⟩
    · have e : (rmnew bits b b) = ⟨bits, [b], b, b, .look, none, none, 0, 0, 0, false⟩ := by unfold rmnew; rw [if_pos rfl]
      rw [e]; exact N2.out
    · have e : (rmnew bits b b).l = [b] := by show (if b = b then [b] else [b, b]) = [b]; rw [if_pos rfl]
      rw [e]
      exact ⟨_, 1, rfl, Nat.le_refl _, by unfold maxLen; omega, .inr ⟨Nat.le_refl _, 0, _, rfl, N1.out, fun i hi => by
        have : i = 0 := by simp at hi; omega
        subst this; rfl⟩⟩
  · have hq : (b != a) = true := bne_iff_ne.2 hba
    have HBA := Lib.hid hba
    have hs1 : Hid (w.heap.size + 1 < w1.heap.size) := Lib.hid (Array.getElem?_eq_some_iff.1 N2.out).1
    have OW : Hid (w1.ownsRow w.heap.size 3 1 (.slice (some ⟨w.heap.size, 0, none⟩) 1 1) 1 [.int .i64 a]) := Lib.hid ⟨rfl, .inr ⟨w.heap.size, 1, _, rfl, Nat.le_refl _, N1.out, Nat.le_refl _, by unfold maxLen; decide, rfl, rfl⟩⟩
    have c1 : w1.cell? ⟨w.heap.size + 1, 1, none⟩ = some (.slice (some ⟨w.heap.size, 0, none⟩) 1 1) := hcell N2.out 1
    clear hba
    go_wp2_with (at_builtin; refine wpList_append_lies _ rfl _ _ 132 rfl w.heap.size 3 i0 (.int .i64 0) 1 8 Tryz.underlying132 HI.out HZ0.out HZ1.out HZ2.out rfl (by decide) (.slice (some ⟨w.heap.size, 0, none⟩) 1 1) 1 [.int .i64 a] rfl (OW.out.alloc _) ⟨w1.heap.size, 0, none⟩ 1 1 [.int .i64 b] rfl rfl ?c1 ?c2 (by decide) ?c3 ?c4 ?c5 (w1.heap.size + 1) (by simp) ?_)
    case c1 => exact World.news_of_block (heap_alloc_new w1 _)
    case c2 => simp [Value.oneCell']
    case c3 => unfold maxLen; omega
    case c4 => omega
    case c5 => have := hs1.out; simp; omega
    intro g2 c6 w6 hown' hgrow hkb hlt6
    have kb3 := below_alloc w1 (.cells #[.int .i64 b] 3)
    have gk := grown_keeps hgrow
    have hx2 := (kb3.block _ (Array.getElem?_eq_some_iff.1 N2.out).1).trans N2.out
    have hx6 := (gk.block _ (Array.getElem?_eq_some_iff.1 hx2).1 (fun c => by simp only [Value.ownBlock, Option.some.injEq] at c; omega)).trans hx2
    have c6' : w6.cell? ⟨w.heap.size + 1, 1, none⟩ = some (.slice (some ⟨w.heap.size, 0, none⟩) 1 1) := hcell hx6 1
    have f6 : w6.frozen? ⟨w.heap.size + 1, 1, none⟩ = false := hfrz hx6 1
    have bw2 := KB.out.trans (kb3.mono KB.out.size)
    have bw6 := keeps_below gk bw2 bw2.size (fun k hk => by simp only [Value.ownBlock, Option.some.injEq] at hk; omega)
    have BW := Lib.hid (bw6.setCell (p := ⟨w.heap.size + 1, 1, none⟩) (Nat.le_succ _) (.slice (some ⟨g2, 0, none⟩) 2 c6))
    have hxE := setCell_same hx6 1 (.slice (some ⟨g2, 0, none⟩) 2 c6)
    have hge : g2 ≠ w.heap.size + 1 := by
      have := hs1.out
      rcases hkb with e | e
      · simp only [Value.ownBlock, Option.some.injEq] at e; omega
      · omega
    have hsl : SlB (w6.setCell ⟨w.heap.size + 1, 1, none⟩ (.slice (some ⟨g2, 0, none⟩) 2 c6)) w.heap.size g2 (.slice (some ⟨g2, 0, none⟩) 2 c6) [a, b] := by
      obtain ⟨-, ⟨e, -⟩ | ⟨g, cap, cur, e, h2, h3, h4, h5, h6, h7⟩⟩ := hown'
      · cases e
      · simp only [Value.slice.injEq, Option.some.injEq, Addr.mk.injEq, and_true, true_and] at e
        obtain ⟨rfl, rfl⟩ := e
        refine ⟨_, c6, rfl, h4, h5, .inr ⟨h2, 0, cur, rfl, ?_, fun i hi => ?_⟩⟩
        · exact (set_ty hx6 1 _).cells _ _ _ _ h3 rfl
        · have hi2 : i < 2 := hi
          have h8 : (cur.toList.take ((1 + 1) * 1))[i]? = ([.int .i64 a] ++ [.int .i64 b] : List Value)[i]? := by rw [h7]; rfl
          rw [List.getElem?_take, if_pos (by omega), Array.getElem?_toList] at h8
          rw [Nat.zero_add, h8]
          rcases (show i = 0 ∨ i = 1 by omega) with rfl | rfl <;> rfl
    have FIN := Lib.hid (And.intro hxE hsl)
    clear kb3 gk hx2 hx6 bw2 bw6 hxE hge hsl hown' hgrow hkb hlt6 c1
    go_wp2
    go_ret
    refine ⟨w.heap.size + 1, g2, rfl, ⟨Nat.le_succ _, .slice (some ⟨g2, 0, none⟩) 2 c6, ?_, ?_⟩, BW.out⟩
    rotate_left
    · have e : (rmnew bits a b).l = [a, b] := by show (if b = a then [a] else [a, b]) = [a, b]; rw [if_neg HBA.out]
      rw [e]; exact FIN.out.2
    · have e : (rmnew bits a b) = ⟨bits, [a, b], a, b, .look, none, none, 0, 0, 0, false⟩ := by unfold rmnew; rw [if_neg HBA.out]
      rw [e]; exact FIN.out.1
end Go.Proofs.YtmakjfeepmiggaaGreat
namespace Go.Proofs.YtmakjfeepmiggaaGreat
open Go.RowKit Go.Maps TagPure
set_option linter.unusedVariables false
def Slt (l : List Nd) : Prop := ∀ n ∈ l, -1 ≤ n.2.2 ∧ n.2.2 ≤ 3
theorem slt_first (a b : Int) : Slt (wfirst a b) := by
  unfold wfirst
  intro n hn
  split at hn <;> simp only [List.mem_cons, List.not_mem_nil, or_false] at hn
  · subst hn; simp
  · rcases hn with rfl | rfl <;> simp
theorem slt_next {x : WY} (v : Int) (h : Slt x.l) : Slt (x.next v).l := by
  unfold WY.next
  split
  · refine wexp_keeps (P := Slt) _ _ _ _ (fun l hl s hs _ _ n hn => ?_) _ h
    rcases List.mem_append.1 hn with hn | hn
    · exact hl n hn
    · obtain rfl := List.mem_singleton.1 hn
      show -1 ≤ (s : Int) ∧ (s : Int) ≤ 3
      omega
  · exact h
theorem slt_nd {l : List Nd} (h : Slt l) (i : Nat) : -1 ≤ (nd l i).2.2 ∧ (nd l i).2.2 ≤ 3 := by
  unfold nd
  rw [List.getD_eq_getElem?_getD]
  cases hi : l[i]? with
  | none => simp
  | some n => exact h n (List.mem_of_getElem? hi)
theorem slt_path {l : List Nd} (h : Slt l) : ∀ (n i : Nat) (s : Int), -1 ≤ s ∧ s ≤ 3 → ∀ p ∈ wpath l n i s, -1 ≤ p.2 ∧ p.2 ≤ 3 := by
  intro n
  induction n with
  | zero => intro i s hs p hp; cases hp
  | succ n ih =>
    intro i s hs p hp
    unfold wpath at hp
    rcases List.mem_cons.1 hp with rfl | hp
    · exact hs
    · split at hp
      · cases hp
      · exact ih _ _ (slt_nd h i) p hp
theorem frW_le (v : Int) : -1 ≤ frW v ∧ frW v ≤ 3 := by
  unfold frW
  rcases free_casesW v with h | ⟨n, h1, h, _⟩ <;> rw [h] <;> omega
theorem slt_way {x : WY} (v : Int) (h : Slt x.l) (h0 : x.way = []) : ∀ p ∈ (x.next v).way, (Lit.int .i64 p.2).wf = true := by
  have key : ∀ p ∈ (x.next v).way, -1 ≤ p.2 ∧ p.2 ≤ 3 := by
    unfold WY.next
    split
    · intro p hp; simp only at hp; rw [h0] at hp; cases hp
    · intro p hp
      simp only [wway, List.mem_reverse] at hp
      exact slt_path h _ _ _ (frW_le v) p hp
  intro p hp
  obtain ⟨h1, h2⟩ := key p hp
  simp [Lit.wf, IntKind.min, IntKind.max, IntKind.bits, IntKind.signed]
  omega
theorem slt_way3 (bits : Int) {l : List (Int × Int)} (h : ∀ p ∈ l, (Lit.int .i64 p.2).wf = true) : ∀ p ∈ (hpnew (way3 bits l)).way, (Lit.int .i64 p.2.2).wf = true := by
  intro p hp
  obtain ⟨q, hq, rfl⟩ := List.mem_map.1 hp
  exact h q hq
theorem acc_al {s : CS} {xr : RS} (h : Alike s xr) (k a i : Int) : Alike (s.acc k a i) (xr.acc k a i) ∧ (∀ m, Far s xr m → Far (s.acc k a i) (xr.acc k a i) (m + 1)) ∧ s.cnt ≤ (s.acc k a i).cnt :=
  ⟨h.acc _ _ _, fun m hf => hf.acc h _ _ _, by simp only [CS.acc]; omega⟩
theorem same_al {s : CS} {xr : RS} (h : Alike s xr) : Alike s xr ∧ (∀ m, Far s xr m → Far s xr (m + 1)) ∧ s.cnt ≤ s.cnt := ⟨h, fun m hf => ⟨Nat.le_succ_of_le hf.1, Nat.le_succ_of_le hf.2.1, Nat.le_succ_of_le hf.2.2⟩, Nat.le_refl _⟩
theorem dg_al2 {s : CS} {xr : RS} (d : Dg) (h : Alike s xr) : Alike (d.step s).1 (d.stepR s xr) ∧ (∀ m, Far s xr m → Far (d.step s).1 (d.stepR s xr) (m + 1)) ∧ s.cnt ≤ (d.step s).1.cnt := by
  cases d with
  | mark xs =>
    cases xs with
    | nil => exact same_al h
    | cons a r => exact acc_al h _ _ _
  | out σ =>
    simp only [Dg.step, Dg.stepR]
    by_cases e0 : σ.ln = 0
    · rw [if_pos e0, if_pos e0]; exact acc_al h _ _ _
    · rw [if_neg e0, if_neg e0]
      by_cases e1 : σ.ln = 1
      · rw [if_pos e1, if_pos e1]; exact acc_al h _ _ _
      · rw [if_neg e1, if_neg e1]; exact acc_al h _ _ _
  | put σ g r =>
    simp only [Dg.step, Dg.stepR]
    by_cases e0 : σ.ln = 0
    · rw [if_pos e0, if_pos e0]; exact acc_al h _ _ _
    · rw [if_neg e0, if_neg e0]
      by_cases e1 : σ.ln = 1
      · rw [if_pos e1, if_pos e1]; exact acc_al h _ _ _
      · rw [if_neg e1, if_neg e1]; exact acc_al h _ _ _
theorem hop_al {s : CS} {xr : RS} {x : HP} (h : Alike s xr) (h0 : x.left ≠ 0) (hl : x.left < x.way.length) : Alike (x.next s).1 (x.nextR s xr) ∧ (∀ m, Far s xr m → Far (x.next s).1 (x.nextR s xr) (m + 1)) ∧ s.cnt ≤ (x.next s).1.cnt := by
  unfold HP.next HP.nextR
  cases hx : x.l with
  | cons d r => exact dg_al2 d h
  | nil =>
    obtain ⟨p, hp⟩ : ∃ p, x.way[x.left - 1]? = some p := ⟨x.way[x.left - 1]'(by omega), List.getElem?_eq_getElem (by omega)⟩
    obtain ⟨q, hq⟩ : ∃ q, x.way[x.left]? = some q := ⟨x.way[x.left]'hl, List.getElem?_eq_getElem hl⟩
    simp only [hp, hq]
    split <;> exact acc_al h _ _ _
end Go.Proofs.YtmakjfeepmiggaaGreat