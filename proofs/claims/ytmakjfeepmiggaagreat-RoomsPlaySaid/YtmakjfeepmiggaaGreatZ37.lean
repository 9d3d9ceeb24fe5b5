import Derived.Test.YtmakjfeepmiggaaGreatZ36
import Derived.Test.YtmakjfeepmiggaaGreatZ31
import Derived.Test.YtmakjfeepmiggaaGreatZ20
import Derived.Deep.RegionHeld2
namespace Go.Proofs.YtmakjfeepmiggaaGreat
open Go.RowKit Go.Maps TagPure
set_option linter.unusedVariables false
structure RMB (w0 w W : World) (B : WB) (V : WV) (s : CS) (rb : Nat) (x : RM) : Prop where
  ws : WS w0 W B V s
  rm : RoomAt W w0.heap.size rb x
  fx : Fx wTy true rb w W
section
variable {w0 w W W' : World} {B : WB} {V : WV} {s s' : CS} {rb : Nat} {x y : RM}
theorem RMB.below (h : RMB w0 w W B V s rb x) (hb : Below W.heap.size W W') : RMB w0 w W' B V s rb x := ⟨h.ws.keep hb, h.rm.below hb, h.fx.trans ((below_fr hb wTy true).fx rb)⟩
theorem RMB.set (h : RMB w0 w W B V s rb x) (o : Nat) (u : Value) (hl : y.l = x.l) (hc : ∀ v, (x.cells v).setIfInBounds o u = y.cells v) : RMB w0 w (W.setCell ⟨rb, o, none⟩ u) B V s rb y := by
  obtain ⟨cs, b1⟩ := h.rm.blk
  exact ⟨set_take h.ws b1 rfl h.rm.low u, h.rm.set o u hl hc, h.fx.trans (set_fx wTy true W rb o u)⟩
theorem RMB.setl (h : RMB w0 w W B V s rb x) {v : Value} {l : List Int} (hv : SlI W v l) : RMB w0 w (W.setCell ⟨rb, 1, none⟩ v) B V s rb { x with l := l } := by
  obtain ⟨l0, u, b1, b2⟩ := h.rm
  exact ⟨set_take h.ws b1 rfl l0 v, ⟨l0, v, setCell_same b1 1 v, hv.fr (set_ty b1 1 v) rfl⟩, h.fx.trans (set_fx wTy true W rb 1 v)⟩
theorem RMB.move (h : RMB w0 w W B V s rb x) (h2 : WS w0 W' B V s') (hf : Fr wTy true W W') : RMB w0 w W' B V s' rb x := ⟨h2, h.rm.fr hf rfl rfl, h.fx.trans (hf.fx rb)⟩
end
theorem sli_pop {w : World} {v : Value} {c : Int} {r : List Int} (h : SlI w v (c :: r)) : ∃ g o k, v = .slice (some ⟨g, o, none⟩) (r.length + 1) (k + 1) ∧ w.cell? ⟨g, o, none⟩ = some (.int .i64 c) ∧ r.length ≤ k ∧ k + 1 ≤ maxLen ∧ SlI w (.slice (some ⟨g, if k = 0 then o else o + 1, none⟩) r.length k) r := by
  obtain ⟨a, q, rfl, h1, h2, h3 | ⟨g, o, cur, rfl, hg, hi⟩⟩ := h
  · cases h3
  · have h0 := hi 0 (by simp)
    rw [Nat.add_zero] at h0
    rw [List.length_cons] at h1
    obtain ⟨k, rfl⟩ : ∃ k, q = k + 1 := ⟨q - 1, by omega⟩
    refine ⟨g, o, k, rfl, by rw [hcell hg]; exact h0, by omega, h2, _, k, rfl, by omega, by omega, ?_⟩
    by_cases hk : k = 0
    · exact .inl (List.eq_nil_of_length_eq_zero (by omega))
    · rw [if_neg hk]
      refine .inr ⟨g, o + 1, cur, rfl, hg, fun i hir => ?_⟩
      have := hi (i + 1) (by simp; exact hir)
      rw [show o + 1 + i = o + (i + 1) by omega, this]
      simp
theorem ends_any {w0 w W : World} {B : WB} {V : WV} {s : CS} {rb : Nat} {x : RM} (h : RMB w0 w W B V s rb x) (p q k : Int) : Calls Tryz.prog 166 #[.pointer (some ⟨rb, 0, none⟩), .agg #[.int .i64 p, .int .i64 q, .int .i64 k]] W fun e w' => e = .returned (.tuple #[]) ∧ RMB w0 w w' B V s rb { x with sb := p, su := q, sk := k, is := true, ph := .off } := by
  have hb := below_alloc W (.cells #[.int .i64 p, .int .i64 q, .int .i64 k] 71)
  have hz := heap_alloc_new W (.cells #[.int .i64 p, .int .i64 q, .int .i64 k] 71)
  have H1 := Lib.hid (h.below hb); have HZ := Lib.hid hz
  clear h hb hz
  go_enter Tryz.func166, Tryz.ntmps166
  go_upto_region 1 with (fail)
  change Code.wp _ _ _ _ (W.alloc (.cells #[.int .i64 p, .int .i64 q, .int .i64 k] 71))
  generalize W.alloc (.cells #[.int .i64 p, .int .i64 q, .int .i64 k] 71) = W1 at *
  generalize W.heap.size = sb at *
  have m0 := hcell HZ.out 0
  have m1 := hcell HZ.out 1
  have m2 := hcell HZ.out 2
  obtain ⟨-, -, -, c4, -, -, c7, c8, c9, c10⟩ := H1.out.rm.c
  have ff := H1.out.rm.f
  have H2 := Lib.hid (((((H1.out.set (y := { x with sb := p }) 7 (.int .i64 p) rfl (fun _ => rfl)).set (y := { x with sb := p, su := q }) 8 (.int .i64 q) rfl (fun _ => rfl)).set (y := { x with sb := p, su := q, sk := k }) 9 (.int .i64 k) rfl (fun _ => rfl)).set (y := { x with sb := p, su := q, sk := k, is := true }) 10 (.bool true) rfl (fun _ => rfl)).set (y := { x with sb := p, su := q, sk := k, is := true, ph := .off }) 4 (.nilFunc) rfl (fun _ => rfl))
  generalize hph : x.ph = ph at *
  cases ph
  all_goals
    simp only [RPh.fn] at c4
    go_wp2_with fail
    go_end0
    first | exact ⟨rfl, H2.out⟩ | (rw [← hph] at H2; exact ⟨rfl, H2.out⟩)
abbrev TLk (nb wb cb : Nat) (b c : Int) (W : World) : Prop := W.cell? ⟨wb, 0, none⟩ = some (.pointer (some ⟨cb, 0, none⟩)) ∧ W.cell? ⟨nb, 0, none⟩ = some (.int .i64 b) ∧ W.cell? ⟨nb, 1, none⟩ = some (.int .i64 c)
def RM.look (x : RM) (v : Int) : RM := match x.l with
  | [] => x
  | c :: r => if frW v = -1 then { x with l := r } else { x with l := r, sb := x.bits, su := c, sk := frW v, is := true, ph := .off }
def RM.adr (x : RM) : Int := match x.l with
  | [] => 0
  | c :: _ => tagsA x.bits c
set_option maxRecDepth 10000 in
set_option maxHeartbeats 4000000 in
theorem look_any {w0 w : World} {B : WB} {V : WV} {s : CS} {rb : Nat} {x : RM} (h : WS w0 w B V s) (hr : s.room) (hx : RoomAt w w0.heap.size rb x) (c : Int) (r : List Int) (hl : x.l = c :: r) (hll : r.length ≤ 10) (hgo : 0 ≤ frW (s.val (tagsA x.bits c)) ∨ r ≠ []) :
    Calls Tryz.prog 109 #[.pointer (some ⟨rb, 0, none⟩), .pointer (some ⟨B.wb, 0, none⟩)] w fun e w' => e = .returned (.tuple #[]) ∧ RMB w0 w w' B V (s.acc 1 (tagsA x.bits c) (s.val (tagsA x.bits c))) rb (x.look (s.val (tagsA x.bits c))) := by
  have hB : RMB w0 w w B V s rb x := ⟨h, hx, ((below_fr (Below.refl _ _) wTy true).fx rb)⟩
  obtain ⟨v, hv⟩ : ∃ v, v = s.val (tagsA x.bits c) := ⟨_, rfl⟩
  have hvb := wf_bd (h.own.wf (tagsA x.bits c))
  have hfin : x.look v = if frW v = -1 then { x with l := r } else { x with l := r, sb := x.bits, su := c, sk := frW v, is := true, ph := .off } := by unfold RM.look; rw [hl]
  rw [← hv] at hvb hgo ⊢
  obtain ⟨A, hA⟩ : ∃ A, A = tagsA x.bits c := ⟨_, rfl⟩
  have hTG := fun W => tags_any x.bits c W
  have hAw : (Lit.int .u64 A).wf = true := by rw [hA]; exact tagsA_wf _ _
  rw [← hA] at hTG hv ⊢
  obtain ⟨l0, u, b1, b2⟩ := hx
  rw [hl] at b2
  obtain ⟨g, o, k, rfl, hc, hrk, hkm, hpop⟩ := sli_pop b2
  obtain ⟨c0, -⟩ := hB.rm.c
  have c1 : w.cell? ⟨rb, 1, none⟩ = some (.slice (some ⟨g, o, none⟩) (r.length + 1) (k + 1)) := hcell b1 1
  have f1 := hfrz b1 1
  obtain ⟨bits, hbt⟩ : ∃ bits, bits = x.bits := ⟨_, rfl⟩
  rw [← hbt] at c0 hTG
  unfold maxLen at hkm
  have hkm2 : (k : Int) + 1 ≤ 9223372036854775807 := by omega
  have al : ∀ (ob : Obj) {q j : Nat} {u : Value}, w.cell? ⟨q, j, none⟩ = some u → (w.alloc ob).cell? ⟨q, j, none⟩ = some u := fun ob q j u hu => by rw [World.cell?_alloc_past _ _ _ (World.block_lt_of_cell? _ _ hu)]; exact hu
  have c0' := fun ob => al ob c0
  have c1' := fun ob => al ob c1
  have hc' := fun ob => al ob hc
  have HB := Lib.hid hB; have HV := Lib.hid hv; have HVB := Lib.hid hvb; have HFIN := Lib.hid hfin; have HGO := Lib.hid hgo; have HAW := Lib.hid hAw; have HR := Lib.hid hr; have HPOP := Lib.hid hpop; have HL := Lib.hid hl; have HLL := Lib.hid hll; have HRK := Lib.hid hrk; have HBT := Lib.hid hbt; have HC1 := Lib.hid c1
  clear h hr hl hll hgo hB hv hvb hfin hA hAw b1 b2 hpop hrk hbt al f1 l0
  go_enter Tryz.func109, Tryz.ntmps109
  go_upto_region 0 with (fail)
  go_region
  go_upto_region 1 with (fail)
  have n1 : (w.alloc (.cells #[.int .i64 bits, .int .i64 c] 69)).drew.heap[w.heap.size]? = some (.cells #[.int .i64 bits, .int .i64 c] 69 (0, 0)) := heap_alloc_new w (.cells #[.int .i64 bits, .int .i64 c] 69)
  have k1 := (below_alloc w (.cells #[.int .i64 bits, .int .i64 c] 69)).drew
  have HB2 := Lib.hid (HB.out.below k1); have N1 := Lib.hid n1
  have HPOP2 := Lib.hid (HPOP.out.fr (below_fr k1 (fun _ => false) false) rfl)
  have c12 : (w.alloc (.cells #[.int .i64 bits, .int .i64 c] 69)).drew.cell? ⟨rb, 1, none⟩ = some (.slice (some ⟨g, o, none⟩) (r.length + 1) (k + 1)) := (k1.cell (World.block_lt_of_cell? _ _ HC1.out)).trans HC1.out
  have f12 := HB2.out.rm.f 1
  clear n1 k1 c0 c1 hc c0' c1' hc' HB HPOP HC1
  generalize (w.alloc (.cells #[.int .i64 bits, .int .i64 c] 69)).drew = w2 at *
  obtain ⟨nb, hnb⟩ : ∃ nb, nb = w.heap.size := ⟨_, rfl⟩
  rw [← hnb] at N1
  try simp only [← hnb]
  clear hnb
  have HB3 := Lib.hid (HB2.out.setl HPOP2.out)
  have HN3 := Lib.hid ((set_ty (show w2.heap[rb]? = some (.cells _ 206 (0, 0)) from HB2.out.rm.blk.choose_spec) 1 (.slice (some ⟨g, if k = 0 then o else o + 1, none⟩) r.length k)).cells _ _ _ _ N1.out rfl)
  clear HB2 HPOP2 N1
  go_cut [22] (fun v22 wx => RMB w0 w wx B V s rb { x with l := r } ∧ wx.heap[nb]? = some (.cells #[.int .i64 bits, .int .i64 c] 69 (0, 0)))
  case first =>
    have hkm3 : ¬ ((k : Int) + 1 = 0) := by omega
    rcases k with _ | k
    · go_wp2_with (fail)
      go_meet
      have h3 := HB3.out
      have n3 := HN3.out
      rw [if_pos trivial] at h3 n3
      exact ⟨h3, n3⟩
    · go_wp2_with (fail)
      go_meet
      have h3 := HB3.out
      have n3 := HN3.out
      rw [if_neg (Nat.succ_ne_zero k)] at h3 n3
      exact ⟨h3, n3⟩
  case rest =>
    obtain ⟨h3, n3⟩ := hcut
    have HB4 := Lib.hid h3; have N4 := Lib.hid n3
    clear h3 n3 HB3 HN3 c12 f12
    generalize wc = w3 at *
    have hb0 : Below w3.heap.size w3 w3.drew := (Below.refl _ _).drew
    have HB5 := Lib.hid (HB4.out.below hb0); have N5 : Hid (w3.drew.heap[nb]? = some (.cells #[.int .i64 bits, .int .i64 c] 69 (0, 0))) := N4.out
    have s1 : TLk nb B.wb B.cb bits c w3.drew := ⟨HB5.out.ws.c0, hcell N5.out 0, hcell N5.out 1⟩
    have hfree := fun W => free_any v W HVB.out.1 HVB.out.2
    have hfe : freeFrom v 0 4 = frW v := rfl
    rw [hfe] at hfree
    clear hfe hb0
    go_upto_region 2 with (fail)
    go_region_held2 (fun W => TLk nb B.wb B.cb bits c W) (assumption) (first
      | (go_at_call 42; refine (hTG _).mono ?_; intro e w4 hh; obtain ⟨hh1, b4⟩ := hh; subst hh1; have HB6 := Lib.hid (HB5.out.below b4); have n6 := (b4.block _ (Array.getElem?_eq_some_iff.1 N5.out).1).trans N5.out; have N6 := Lib.hid n6; have s4 : TLk nb B.wb B.cb bits c w4 := ⟨HB6.out.ws.c0, hcell N6.out 0, hcell N6.out 1⟩; have hld := HB6.out.ws.load HR.out A HAW.out; rw [← HV.out] at hld; clear b4 n6 s1 HB5 N5 hTG)
      | (go_at_call 62; refine hld.mono ?_; intro e w5 hh; obtain ⟨hh1, h5, f5⟩ := hh; subst hh1; have HB7 := Lib.hid (HB6.out.move h5 f5); have N7 := Lib.hid (f5.cells _ _ _ _ N6.out rfl); have s5 : TLk nb B.wb B.cb bits c w5 := ⟨HB7.out.ws.c0, hcell N7.out 0, hcell N7.out 1⟩; clear h5 f5 hld s4 HB6 N6)
      | (go_at_call 63; refine (hfree _).mono ?_; intro e w6 hh; obtain ⟨hh1, b6⟩ := hh; subst hh1; have HB8 := Lib.hid (HB7.out.below b6); have n8 := (b6.block _ (Array.getElem?_eq_some_iff.1 N7.out).1).trans N7.out; have N8 := Lib.hid n8; have s6 : TLk nb B.wb B.cb bits c w6 := ⟨HB8.out.ws.c0, hcell N8.out 0, hcell N8.out 1⟩; clear b6 n8 hfree s5 HB7 N7))
    clear s6 HB4 N4
    obtain ⟨fv, hfv⟩ : ∃ fv, fv = frW v := ⟨_, rfl⟩
    rw [← hfv] at HFIN HGO
    try rw [← hfv]
    have HFV := Lib.hid hfv
    have hfc := free_casesW v
    rw [show freeFrom v 0 4 = fv from hfv.symm] at hfc
    clear hfv
    by_cases hf : fv = -1
    · subst hf
      have hr0 : r ≠ [] := by rcases HGO.out with h | h; exact absurd h (by decide); exact h
      have hlr : 0 < r.length := List.length_pos_iff.2 hr0
      obtain ⟨_, ur, ub, ⟨ua, uc, hua, -⟩⟩ := HB8.out.rm
      have c1 : w6.cell? ⟨rb, 1, none⟩ = some (.slice ua r.length uc) := by have h := hcell ub 1; rw [hua] at h; exact h
      have hz1 : ((r.length : Int) == 0) = false := beq_eq_false_iff_ne.2 (by omega)
      have hz2 : (r.length == 0) = false := beq_eq_false_iff_ne.2 (by omega)
      clear ub hua hfc hr0 hlr
      go_wp2_with (fail)
      go_end0
      refine ⟨rfl, ?_⟩
      rw [HFIN.out, if_pos trivial]
      exact HB8.out
    · have hf0 : 0 ≤ fv := by rcases hfc with h | ⟨q, _, h, _⟩ <;> omega
      have m0 := hcell N8.out 0
      have m1 := hcell N8.out 1
      have hen := ends_any HB8.out bits c fv
      have HNE := Lib.hid hf
      clear hfc hf
      go_wp2_with (go_at_call 166; refine hen.mono ?_; intro e w7 hh; obtain ⟨hh1, h7⟩ := hh; subst hh1; have HB9 := Lib.hid h7; clear h7 hen m0 m1)
      go_end0
      refine ⟨rfl, ?_⟩
      rw [HFIN.out, if_neg HNE.out]
      have h9 := HB9.out
      rw [HBT.out] at h9
      exact h9
theorem rmstep_look {w0 w : World} {B : WB} {V : WV} {s : CS} {rb : Nat} {x : RM} (h : WS w0 w B V s) (hr : s.room) (hx : RoomAt w w0.heap.size rb x) (hp : x.ph = .look) (c : Int) (r : List Int) (hl : x.l = c :: r) (hll : r.length ≤ 10) (hgo : 0 ≤ frW (s.val (tagsA x.bits c)) ∨ r ≠ []) :
    Calls Tryz.prog 37 #[.pointer (some ⟨rb, 0, none⟩), .pointer (some ⟨B.wb, 0, none⟩)] w fun e w' => e = .returned (.bool (decide ((x.look (s.val (tagsA x.bits c))).ph = .off))) ∧ RMB w0 w w' B V (s.acc 1 (tagsA x.bits c) (s.val (tagsA x.bits c))) rb (x.look (s.val (tagsA x.bits c))) := by
  have hov := rmover hx
  rw [decide_eq_false (show x.ph ≠ .off by rw [hp]; decide)] at hov
  have hlk := look_any h hr hx c r hl hll hgo
  obtain ⟨-, -, -, c4, -⟩ := hx.c
  rw [hp] at c4
  simp only [RPh.fn] at c4
  obtain ⟨y, hy⟩ : ∃ y, y = x.look (s.val (tagsA x.bits c)) := ⟨_, rfl⟩
  rw [← hy] at hlk ⊢
  clear h hr hx hp hl hll hgo hy
  go_enter Tryz.func37, Tryz.ntmps37
  go_upto_region 2 with (go_at_call 113; refine hov.mono ?_; intro e w2 hh; obtain ⟨hh1, hh2⟩ := hh; subst hh1; obtain rfl := hh2.symm; clear hov)
  go_upto_region 3 with (go_at_call 109; refine hlk.mono ?_; intro e w3 hh; obtain ⟨hh1, h3⟩ := hh; subst hh1; have H3 := Lib.hid h3; have ho3 := rmover h3.rm; clear h3 hlk c4)
  go_wp2_with (go_at_call 113; refine ho3.mono ?_; intro e w4 hh; obtain ⟨hh1, hh2⟩ := hh; subst hh1; obtain rfl := hh2.symm; clear ho3)
  go_ret
  exact ⟨rfl, H3.out⟩
def rmit (q : CS × RM) : CS × RM := (q.1.acc 1 q.2.adr (q.1.val q.2.adr), q.2.look (q.1.val q.2.adr))
def rmits (q : CS × RM) : Nat → CS × RM
  | 0 => q
  | n + 1 => rmit (rmits q n)
def RmGo (q : CS × RM) : Prop := q.2.ph = .look ∧ q.1.room ∧ ∃ c r, q.2.l = c :: r ∧ r.length ≤ 10 ∧ (0 ≤ frW (q.1.val (tagsA q.2.bits c)) ∨ r ≠ [])
set_option maxRecDepth 10000 in
set_option maxHeartbeats 2000000 in
theorem rmrun {w0 w : World} {B : WB} {V : WV} {s : CS} {rb : Nat} {x : RM} (n m : Nat) (hn : n < m) (hm : m ≤ 1000) (hB : RMB w0 w w B V s rb x) (hgo : ∀ k, k < n → RmGo (rmits (s, x) k)) (hend : (rmits (s, x) n).2.ph = .off) :
    Calls Tryz.prog 39 #[.pointer (some ⟨B.wb, 0, none⟩), .iface 99 (.pointer (some ⟨rb, 0, none⟩)), .int .i64 m] w fun e w' => e = .returned (.int .i64 n) ∧ RMB w0 w w' B V (rmits (s, x) n).1 rb (rmits (s, x) n).2 := by
  have HB := Lib.hid hB; have HGO := Lib.hid hgo; have HEND := Lib.hid hend; have HN := Lib.hid hn
  clear hB hgo hend hn
  go_enter Tryz.func39, Tryz.ntmps39
  go_wp2
  go_loopw [7] (fun i wr => ∃ k : Nat, k ≤ n ∧ i = .int .i64 k ∧ RMB w0 w wr B V (rmits (s, x) k).1 rb (rmits (s, x) k).2) (fun i _ => n - (intOf i).toNat)
  case atStart => exact ⟨0, Nat.zero_le _, rfl, HB.out⟩
  case round =>
    clear HB
    obtain ⟨k, hk, rfl, hb⟩ := hrel
    have hkm : (k : Int) < m := by have := HN.out; omega
    have hov := rmover hb.rm
    by_cases hlt : k < n
    · obtain ⟨hp, hr, c, r, hl, hll, hg⟩ := HGO.out k hlt
      rw [decide_eq_false (show (rmits (s, x) k).2.ph ≠ .off by rw [hp]; decide)] at hov
      have hst := rmstep_look hb.ws hr hb.rm hp c r hl hll hg
      have had : (rmits (s, x) k).2.adr = tagsA (rmits (s, x) k).2.bits c := by unfold RM.adr; rw [hl]
      rw [← had] at hst
      obtain ⟨d, hd⟩ : ∃ d, d = decide (((rmits (s, x) k).2.look ((rmits (s, x) k).1.val (rmits (s, x) k).2.adr)).ph = .off) := ⟨_, rfl⟩
      rw [← hd] at hst
      have hfx := hb.fx
      have HLT := Lib.hid hlt; have HFX := Lib.hid hfx
      clear hb hp hr hl hll hg had hd hlt hk hfx
      go_wp2_with (first
        | (go_at_call 113; refine hov.mono ?_; intro e w2 hh; obtain ⟨hh1, hh2⟩ := hh; subst hh1; obtain rfl := hh2.symm; clear hov)
        | (go_at_call 37; refine hst.mono ?_; intro e w3 hh; obtain ⟨hh1, h3⟩ := hh; subst hh1; have H3 := Lib.hid h3; clear h3 hst))
      go_roundw
      case measure => have := HLT.out; simp [intOf]; omega
      case rel => exact ⟨k + 1, HLT.out, by have := HLT.out; go_num, H3.out.ws, H3.out.rm, HFX.out.trans H3.out.fx⟩
    · obtain rfl : k = n := by omega
      rw [decide_eq_true HEND.out] at hov
      have HBB := Lib.hid hb
      clear hb hk hlt
      go_wp2_with (go_at_call 113; refine hov.mono ?_; intro e w2 hh; obtain ⟨hh1, hh2⟩ := hh; subst hh1; obtain rfl := hh2.symm; clear hov)
      go_ret
      exact ⟨rfl, HBB.out⟩
end Go.Proofs.YtmakjfeepmiggaaGreat
namespace Go.Proofs.YtmakjfeepmiggaaGreat
open Go.RowKit Go.Maps TagPure
set_option linter.unusedVariables false
theorem RoomAt.fs {w w' : World} {lo rb : Nat} {x : RM} {S : List Nat} (h : RoomAt w lo rb x) (hf : FS S w w') (hS : ∀ k ∈ S, ∃ cs T fr, w.heap[k]? = some (.cells cs T fr) ∧ T ≠ 206 ∧ T ≠ 3) : RoomAt w' lo rb x := by
  obtain ⟨l0, v, b1, ⟨a, c, h1, h2, h3, h4⟩⟩ := h
  have k : ∀ (T : TypeId), wTy T = false → (T = 206 ∨ T = 3) → ∀ (g : Nat) (cur : Array Value), w.heap[g]? = some (.cells cur T (0, 0)) → w'.heap[g]? = some (.cells cur T (0, 0)) := fun T hT hT2 g cur hg => by
    refine hf.cells _ _ _ _ hg hT fun hm => ?_
    obtain ⟨cs, T2, fr, e, n1, n2⟩ := hS g hm
    rw [hg] at e
    simp only [Option.some.injEq, Obj.cells.injEq] at e
    rcases hT2 with rfl | rfl
    · exact n1 e.2.1.symm
    · exact n2 e.2.1.symm
  exact ⟨l0, v, k _ rfl (.inl rfl) _ _ b1, a, c, h1, h2, h3, h4.imp id fun ⟨g, o, cur, e1, e2, e3⟩ => ⟨g, o, cur, e1, k _ rfl (.inr rfl) _ _ e2, e3⟩⟩
abbrev hpS (hb : Nat) (qs : List (Nat × Dg)) : List Nat := hb :: qs.map Prod.fst
theorem HMB.here {w0 w W : World} {B : WB} {V : WV} {s : CS} {S : List Nat} {hb : Nat} {x : HP} {qs : List (Nat × Dg)} (h : HMB w0 w W B V s S hb x qs) : HMB w0 W W B V s (hpS hb qs) hb x qs := ⟨h.ws, h.hp, FS.refl _ _, .inl (List.mem_cons_self), fun q hq => .inl (List.mem_cons_of_mem _ (List.mem_map.2 ⟨q, hq, rfl⟩))⟩
theorem HMB.mem {w0 w W : World} {B : WB} {V : WV} {s : CS} {S : List Nat} {hb : Nat} {x : HP} {qs : List (Nat × Dg)} (h : HMB w0 w W B V s S hb x qs) : ∀ k ∈ hpS hb qs, k ∈ S ∨ w.heap.size ≤ k := fun k hk => by
  rcases List.mem_cons.1 hk with rfl | hk
  · exact h.own
  · obtain ⟨q, hq, rfl⟩ := List.mem_map.1 hk
    exact h.owns q hq
theorem HMB.re2 {w0 w W W' : World} {B : WB} {V : WV} {s s' : CS} {S : List Nat} {hb : Nat} {x y : HP} {qs qs' : List (Nat × Dg)} (h : HMB w0 w W B V s S hb x qs) (h2 : HMB w0 W W' B V s' (hpS hb qs) hb y qs') : HMB w0 w W' B V s' S hb y qs' := by
  refine ⟨h2.ws, h2.hp, ⟨Nat.le_trans h.fs.size h2.fs.size, fun k cs T fr g1 g2 g3 => h2.fs.cells k cs T fr (h.fs.cells k cs T fr g1 g2 g3) g2 ?_⟩, h.own, fun q hq => ?_⟩
  · intro c
    rcases h.mem k c with c | c
    · exact g3 c
    · have := (Array.getElem?_eq_some_iff.1 g1).1; omega
  · rcases h2.owns q hq with c | c
    · exact h.mem _ c
    · exact .inr (Nat.le_trans h.fs.size c)
theorem HMB.blks {w0 w W : World} {B : WB} {V : WV} {s : CS} {S : List Nat} {hb : Nat} {x : HP} {qs : List (Nat × Dg)} (h : HMB w0 w W B V s S hb x qs) : ∀ k ∈ hpS hb qs, ∃ cs T fr, W.heap[k]? = some (.cells cs T fr) ∧ T ≠ 206 ∧ T ≠ 3 := fun k hk => by
  rcases List.mem_cons.1 hk with rfl | hk
  · obtain ⟨cs, b1⟩ := h.hp.blk
    exact ⟨cs, _, _, b1, by decide, by decide⟩
  · obtain ⟨q, hq, rfl⟩ := List.mem_map.1 hk
    obtain ⟨cs, T, b1, hT⟩ := (h.hp.dos q hq).2.1.blk
    refine ⟨cs, T, _, b1, ?_, ?_⟩ <;> (rcases hT with rfl | rfl | rfl <;> decide)
structure RHB (w0 w W : World) (B : WB) (V : WV) (s : CS) (S : List Nat) (rb : Nat) (x : RM) (hb : Nat) (y : HP) (qs : List (Nat × Dg)) : Prop where
  m : HMB w0 w W B V s S hb y qs
  rm : RoomAt W w0.heap.size rb x
  own : rb ∈ S ∨ w.heap.size ≤ rb
section
variable {w0 w W W' : World} {B : WB} {V : WV} {s s' : CS} {S : List Nat} {rb hb : Nat} {x x' : RM} {y y' : HP} {qs qs' : List (Nat × Dg)}
theorem RHB.step (h : RHB w0 w W B V s S rb x hb y qs) (h2 : HMB w0 W W' B V s' (hpS hb qs) hb y' qs') : RHB w0 w W' B V s' S rb x hb y' qs' := ⟨h.m.re2 h2, h.rm.fs h2.fs h.m.blks, h.own⟩
theorem RHB.ends (h : RHB w0 w W B V s S rb x hb y qs) (h2 : RMB w0 W W' B V s rb x') : RHB w0 w W' B V s S rb x' hb y qs := by
  obtain ⟨cs, b1⟩ := h.rm.blk
  have nr : ∀ k ∈ hpS hb qs, k ≠ rb := fun k hk c => by
    obtain ⟨cs2, T, fr, b2, n1, -⟩ := h.m.blks k hk
    rw [c, b1] at b2
    simp only [Option.some.injEq, Obj.cells.injEq] at b2
    exact n1 b2.2.1.symm
  have hf : FS [rb] W W' := h2.fx.fs (List.mem_singleton.2 rfl)
  refine ⟨⟨h2.ws, h.m.hp.fs hf (fun k hk => ?_) ?_ fun q hq => ?_, h2.fx.fs2 h.m.fs h.own, h.m.own, h.m.owns⟩, h2.rm, h.own⟩
  · obtain rfl := List.mem_singleton.1 hk
    exact ⟨cs, _, _, b1, by decide, by decide, by decide⟩
  · intro c; exact nr hb (List.mem_cons_self) (List.mem_singleton.1 c)
  · intro c; exact nr q.1 (List.mem_cons_of_mem _ (List.mem_map.2 ⟨q, hq, rfl⟩)) (List.mem_singleton.1 c)
end
set_option maxRecDepth 10000 in
set_option maxHeartbeats 2000000 in
theorem rmhop {w0 w W : World} {B : WB} {V : WV} {s : CS} {S : List Nat} {rb hb : Nat} {x : RM} {y : HP} {qs : List (Nat × Dg)} (h : RHB w0 w W B V s S rb x hb y qs) (hr : s.room) (hx : x.hops = some ⟨hb, 0, none⟩) (hl0 : y.left ≠ 0) (hwf : ∀ p ∈ y.way, (Lit.int .i64 p.2.2).wf = true) (hh : ∀ d r, y.l = d :: r → d.over = false) :
    Calls Tryz.prog 213 #[.pointer (some ⟨rb, 0, none⟩), .pointer (some ⟨B.wb, 0, none⟩)] W fun e w' => e = .returned (.tuple #[]) ∧ ∃ qs', RHB w0 w w' B V (y.next s).1 S rb (if (y.next s).2.left = 0 then { x with is := true, ph := .off } else x) hb (y.next s).2 qs' := by
  have hst := hpstep h.m.here hr h.m.ws.below.size hl0 hwf hh
  obtain ⟨-, -, -, -, -, c6, -⟩ := h.rm.c
  rw [hx] at c6
  obtain ⟨s2, hs2⟩ : ∃ s2, s2 = (y.next s).1 := ⟨_, rfl⟩
  obtain ⟨y2, hy2⟩ : ∃ y2, y2 = (y.next s).2 := ⟨_, rfl⟩
  rw [← hs2, ← hy2] at hst ⊢
  obtain ⟨z, hz⟩ : ∃ z, z = (if y2.left = 0 then { x with is := true, ph := .off } else x) := ⟨_, rfl⟩
  rw [← hz]
  have H := Lib.hid h; have HZ := Lib.hid hz
  clear h hr hx hl0 hwf hh hs2 hy2 hz
  by_cases hl : y2.left = 0
  · rw [show ((y2.left : Int) == 0) = true by rw [hl]; rfl] at hst
    have HL := Lib.hid hl
    clear hl
    go_enter Tryz.func213, Tryz.ntmps213
    go_upto_region 1 with (go_at_call 228; refine hst.mono ?_; intro e w2 hh; obtain ⟨qs2, hh1, h2⟩ := hh; subst hh1; have H2 := Lib.hid (H.out.step h2); clear h2 hst c6)
    have hen := ends_any (RMB.mk H2.out.m.ws H2.out.rm ((below_fr (Below.refl _ _) wTy true).fx rb)) x.sb x.su x.sk
    obtain ⟨-, -, -, -, -, -, c7, c8, c9, -⟩ := H2.out.rm.c
    go_wp2_with (go_at_call 166; refine hen.mono ?_; intro e w3 hh; obtain ⟨hh1, h3⟩ := hh; subst hh1; have H3 := Lib.hid (H2.out.ends h3); clear h3 hen c7 c8 c9)
    go_end0
    refine ⟨rfl, qs2, ?_⟩
    have hz := HZ.out
    rw [if_pos HL.out] at hz
    rw [hz]
    exact H3.out
  · rw [show ((y2.left : Int) == 0) = false from beq_eq_false_iff_ne.2 (by omega)] at hst
    have HL := Lib.hid hl
    clear hl
    go_enter Tryz.func213, Tryz.ntmps213
    go_wp2_with (go_at_call 228; refine hst.mono ?_; intro e w2 hh; obtain ⟨qs2, hh1, h2⟩ := hh; subst hh1; have H2 := Lib.hid (H.out.step h2); clear h2 hst c6)
    go_end0
    refine ⟨rfl, qs2, ?_⟩
    have hz := HZ.out
    rw [if_neg HL.out] at hz
    rw [hz]
    exact H2.out
theorem rmstep_hop {w0 w W : World} {B : WB} {V : WV} {s : CS} {S : List Nat} {rb hb : Nat} {x : RM} {y : HP} {qs : List (Nat × Dg)} (h : RHB w0 w W B V s S rb x hb y qs) (hr : s.room) (hp : x.ph = .hop) (hx : x.hops = some ⟨hb, 0, none⟩) (hl0 : y.left ≠ 0) (hwf : ∀ p ∈ y.way, (Lit.int .i64 p.2.2).wf = true) (hh : ∀ d r, y.l = d :: r → d.over = false) :
    Calls Tryz.prog 37 #[.pointer (some ⟨rb, 0, none⟩), .pointer (some ⟨B.wb, 0, none⟩)] W fun e w' => e = .returned (.bool (decide ((if (y.next s).2.left = 0 then { x with is := true, ph := .off } else x).ph = .off))) ∧ ∃ qs', RHB w0 w w' B V (y.next s).1 S rb (if (y.next s).2.left = 0 then { x with is := true, ph := .off } else x) hb (y.next s).2 qs' := by
  have hov := rmover h.rm
  rw [decide_eq_false (show x.ph ≠ .off by rw [hp]; decide)] at hov
  have hlk := rmhop h hr hx hl0 hwf hh
  obtain ⟨-, -, -, c4, -⟩ := h.rm.c
  rw [hp] at c4
  simp only [RPh.fn] at c4
  obtain ⟨z, hz⟩ : ∃ z, z = (if (y.next s).2.left = 0 then { x with is := true, ph := .off } else x) := ⟨_, rfl⟩
  rw [← hz] at hlk ⊢
  clear h hr hx hp hl0 hwf hh hz
  go_enter Tryz.func37, Tryz.ntmps37
  go_upto_region 2 with (go_at_call 113; refine hov.mono ?_; intro e w2 hh; obtain ⟨hh1, hh2⟩ := hh; subst hh1; obtain rfl := hh2.symm; clear hov)
  go_upto_region 3 with (go_at_call 213; refine hlk.mono ?_; intro e w3 hh; obtain ⟨hh1, qs3, h3⟩ := hh; subst hh1; have H3 := Lib.hid h3; have ho3 := rmover h3.rm; clear h3 hlk c4)
  go_wp2_with (go_at_call 113; refine ho3.mono ?_; intro e w4 hh; obtain ⟨hh1, hh2⟩ := hh; subst hh1; obtain rfl := hh2.symm; clear ho3)
  go_ret
  exact ⟨rfl, qs3, H3.out⟩
end Go.Proofs.YtmakjfeepmiggaaGreat