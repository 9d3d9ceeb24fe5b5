import Derived.Test.YtmakjfeepmiggaaGreatZ44
import Derived.Test.YtmakjfeepmiggaaGreatZ39
import Derived.Test.YtmakjfeepmiggaaGreatB2
namespace Go.Proofs.YtmakjfeepmiggaaGreat
open Go.RowKit Go.Maps TagPure
set_option linter.unusedVariables false
theorem eql_spotR (a b c : Int) (W : World) : (binOp .eql 71 (.agg #[.int .i64 a, .int .i64 b, .int .i64 c]) (.agg #[.int .i64 a, .int .i64 b, .int .i64 c])).run Tryz.prog W = .ok (.bool true) W := by
  have e : ∀ z : Int, (z == z) = true := fun z => beq_iff_eq.2 rfl
  have h1 := e a; have h2 := e b; have h3 := e c
  go_simp
theorem rm_tells {w : World} {lo : Nat} {o : PO RPd} {S : Nat → Prop} (h : RmP w lo o S) : (o.a.y.line == 0) = decide (o.a.x.ph = .off) := by
  cases hp : o.a.x.ph with
  | look =>
    rw [decide_eq_false (by decide)]
    rcases h.look hp with ⟨e, -⟩ | ⟨e, -⟩ <;> rw [e] <;> rfl
  | search => rw [(h.srch hp).line]; rfl
  | hop => rw [(h.hop hp).line]; rfl
  | off => rw [h.off hp]; rfl
set_option maxRecDepth 10000 in
set_option maxHeartbeats 4000000 in
theorem osameR {w : World} {lo : Nat} {o : PO RPd} {S : Nat → Prop} (h : RmP w lo o S) : Calls Tryz.prog 35 #[.agg #[.pointer (some ⟨o.pb, 0, none⟩), .pointer (some ⟨o.rb, 0, none⟩)]] w fun e w' => e = .returned (.bool true) ∧ Below w.heap.size w w' := by
  obtain ⟨pb, rb, d⟩ := o
  have hb1 := below_alloc w (.cells #[.pointer (some ⟨pb, 0, none⟩), .pointer (some ⟨rb, 0, none⟩)] 104)
  have hz1 := heap_alloc_new w (.cells #[.pointer (some ⟨pb, 0, none⟩), .pointer (some ⟨rb, 0, none⟩)] 104)
  have ht1 := rm_tells h
  have hp : RoomAt w lo pb d.x := h.p.at_
  have hr : RRoomAt w lo rb d.y := h.r
  have his := h.is
  simp only at ht1 his
  obtain ⟨x, hx⟩ : ∃ x, x = d.x := ⟨_, rfl⟩
  obtain ⟨y, hy⟩ : ∃ y, y = d.y := ⟨_, rfl⟩
  rw [← hx] at ht1 hp his
  rw [← hy] at ht1 hr his
  obtain ⟨ov, hov⟩ : ∃ ov, ov = decide (x.ph = .off) := ⟨_, rfl⟩
  obtain ⟨fb, hfb⟩ : ∃ fb, fb = (if x.is = true then x.sb else 0) := ⟨_, rfl⟩
  obtain ⟨fu, hfu⟩ : ∃ fu, fu = (if x.is = true then x.su else 0) := ⟨_, rfl⟩
  obtain ⟨fk, hfk⟩ : ∃ fk, fk = (if x.is = true then x.sk else 0) := ⟨_, rfl⟩
  obtain ⟨is, hi⟩ : ∃ is, is = x.is := ⟨_, rfl⟩
  have e1 : (if x.is = true then #[Value.agg #[.int .i64 x.sb, .int .i64 x.su, .int .i64 x.sk], .bool true] else #[.agg #[.int .i64 0, .int .i64 0, .int .i64 0], .bool false]) = #[Value.agg #[.int .i64 fb, .int .i64 fu, .int .i64 fk], .bool is] := by
    rw [hfb, hfu, hfk, hi]
    cases x.is <;> rfl
  have e2 : (if y.is = true then #[Value.agg #[.int .i64 y.sb, .int .i64 y.su, .int .i64 y.sk], .bool true] else #[.agg #[.int .i64 0, .int .i64 0, .int .i64 0], .bool false]) = #[Value.agg #[.int .i64 fb, .int .i64 fu, .int .i64 fk], .bool is] := by
    rw [his.1]
    by_cases hc : x.is = true
    · obtain ⟨i1, i2, i3⟩ := his.2 hc
      rw [i1, i2, i3]; exact e1
    · have hf : x.is = false := by cases hb : x.is <;> simp_all
      rw [hfb, hfu, hfk, hi, hf]; rfl
  have hg := fun W (hW : Below w.heap.size w W) => rmgot (hp.below hW)
  have hg2 := fun W (hW : Below w.heap.size w W) => rrgot (hr.below hW)
  have ho := fun W (hW : Below w.heap.size w W) => rmover (hp.below hW)
  rw [e1] at hg
  rw [e2] at hg2
  rw [← hov] at ho ht1
  obtain ⟨c0, -⟩ := hr.c
  have HB1 := Lib.hid hb1; have HZ1 := Lib.hid hz1; have HG := Lib.hid hg; have HG2 := Lib.hid hg2; have HO := Lib.hid ho; have HC0 := Lib.hid c0
  clear h hp hr his hb1 hz1 hg hg2 ho c0 hov e1 e2 hfb hfu hfk hi
  generalize y.line = ln at *
  clear hx hy x y
  go_enter Tryz.func35, Tryz.ntmps35
  go_upto_region 1 with (fail)
  change Code.wp _ _ _ _ (w.alloc (.cells #[.pointer (some ⟨pb, 0, none⟩), .pointer (some ⟨rb, 0, none⟩)] 104))
  generalize w.alloc (.cells #[.pointer (some ⟨pb, 0, none⟩), .pointer (some ⟨rb, 0, none⟩)] 104) = w1 at *
  obtain ⟨ob, hob⟩ : ∃ ob, ob = w.heap.size := ⟨_, rfl⟩
  rw [← hob] at HZ1
  simp only [← hob]
  clear hob
  have a0 := hcell HZ1.out 0
  have hg := HG.out w1 HB1.out
  go_upto_region 2 with (go_at_call 106; refine hg.mono ?_; intro e w2 hh; obtain ⟨hh1, b2⟩ := hh; subst hh1; have B2 := Lib.hid (HB1.out.trans (b2.mono HB1.out.size)); have hz2 := (b2.block _ (Array.getElem?_eq_some_iff.1 HZ1.out).1).trans HZ1.out; have HZ2 := Lib.hid hz2; clear b2 hg a0 hz2)
  have k3 := below_alloc w2 (.cells #[.int .i64 fb, .int .i64 fu, .int .i64 fk] 71)
  have n3 := heap_alloc_new w2 (.cells #[.int .i64 fb, .int .i64 fu, .int .i64 fk] 71)
  have B3 := Lib.hid (B2.out.trans (k3.mono B2.out.size)); have HZ3 := Lib.hid ((k3.block _ (Array.getElem?_eq_some_iff.1 HZ2.out).1).trans HZ2.out); have N3 := Lib.hid n3
  change Code.wp _ _ _ _ (w2.alloc (.cells #[.int .i64 fb, .int .i64 fu, .int .i64 fk] 71))
  clear k3 n3
  generalize w2.alloc (.cells #[.int .i64 fb, .int .i64 fu, .int .i64 fk] 71) = w3 at *
  obtain ⟨sb, hsb⟩ : ∃ sb, sb = w2.heap.size := ⟨_, rfl⟩
  rw [← hsb] at N3
  try simp only [← hsb]
  clear hsb
  have a1 := hcell HZ3.out 1
  have hg2 := HG2.out w3 B3.out
  go_upto_region 3 with (go_at_call 112; refine hg2.mono ?_; intro e w4 hh; obtain ⟨hh1, b4⟩ := hh; subst hh1; have B4 := Lib.hid (B3.out.trans (b4.mono B3.out.size)); have HZ4 := Lib.hid ((b4.block _ (Array.getElem?_eq_some_iff.1 HZ3.out).1).trans HZ3.out); have N4 := Lib.hid ((b4.block _ (Array.getElem?_eq_some_iff.1 N3.out).1).trans N3.out); clear b4 hg2 a1)
  have k5 := below_alloc w4 (.cells #[.int .i64 fb, .int .i64 fu, .int .i64 fk] 71)
  have n5 := heap_alloc_new w4 (.cells #[.int .i64 fb, .int .i64 fu, .int .i64 fk] 71)
  have B5 := Lib.hid (B4.out.trans (k5.mono B4.out.size)); have HZ5 := Lib.hid ((k5.block _ (Array.getElem?_eq_some_iff.1 HZ4.out).1).trans HZ4.out); have N5 := Lib.hid ((k5.block _ (Array.getElem?_eq_some_iff.1 N4.out).1).trans N4.out); have M5 := Lib.hid n5
  change Code.wp _ _ _ _ (w4.alloc (.cells #[.int .i64 fb, .int .i64 fu, .int .i64 fk] 71))
  clear k5 n5
  generalize w4.alloc (.cells #[.int .i64 fb, .int .i64 fu, .int .i64 fk] 71) = w5 at *
  obtain ⟨tb, htb⟩ : ∃ tb, tb = w4.heap.size := ⟨_, rfl⟩
  rw [← htb] at M5
  try simp only [← htb]
  clear htb
  have o0 := fun st : ExtW w5 => st.cell (hcell HZ5.out 0)
  have o1 := fun st : ExtW w5 => st.cell (hcell HZ5.out 1)
  have s0 := fun st : ExtW w5 => st.cell (hcell N5.out 0)
  have s1 := fun st : ExtW w5 => st.cell (hcell N5.out 1)
  have s2 := fun st : ExtW w5 => st.cell (hcell N5.out 2)
  have t0 := fun st : ExtW w5 => st.cell (hcell M5.out 0)
  have t1 := fun st : ExtW w5 => st.cell (hcell M5.out 1)
  have t2 := fun st : ExtW w5 => st.cell (hcell M5.out 2)
  have c5 : w5.cell? ⟨rb, 0, none⟩ = some (.int .i64 ln) := (B5.out.cell (World.block_lt_of_cell? _ _ HC0.out)).trans HC0.out
  have l0 := fun st : ExtW w5 => st.cell c5
  have ho' : ∀ st : ExtW w5, Calls Tryz.prog 113 #[.pointer (some ⟨pb, 0, none⟩)] st.val fun e w' => e = .returned (.bool ov) ∧ st.val = w' := fun st => (HO.out _ (B5.out.trans (st.below.mono B5.out.size))).mono fun e w' ⟨h1, h2⟩ => ⟨h1, h2.symm⟩
  have heq := fun W => eql_spotR fb fu fk W
  clear c5
  cases ov <;> cases is
  all_goals
    refine wp_region_ext (by kernel_rfl) (by kernel_rfl) ?_
    repeat (go_big_quiet_step (first | (go_at_call 113; with_reducible refine calls_ext_same (ho' _))))
    refine wpQuiet_nil ?_
    rintro W ⟨⟨W2, hW⟩, rfl⟩
    have HW := Lib.hid hW
    clear hW o0 o1 s0 s1 s2 t0 t1 t2 l0 ho'
    go_wp2_with fail
    go_ret
    exact ⟨rfl, B5.out.trans (HW.out.mono B5.out.size)⟩
end Go.Proofs.YtmakjfeepmiggaaGreat
namespace Go.Proofs.YtmakjfeepmiggaaGreat
open Go.RowKit Go.Maps TagPure
set_option linter.unusedVariables false
def rrv (bits : Int) : RR := ⟨0, bits, 0, 0, none, none, 0, 0, 0, false⟩
def rrn (bits a b : Int) : RR := ⟨1, bits, a, b, none, none, 0, 0, 0, false⟩
set_option maxRecDepth 10000 in
set_option maxHeartbeats 2000000 in
theorem rrnew_no (bits h : Int) (hb : tsize bits = 0) (w : World) : Calls Tryz.prog 34 #[.int .i64 bits, .int .u64 h] w fun e w' => ∃ b, e = .returned (.pointer (some ⟨b, 0, none⟩)) ∧ RRoomAt w' w.heap.size b (rrv bits) ∧ Below w.heap.size w w' := by
  have hs := fun W => rsize_any bits W
  rw [hb] at hs
  have b1 := below_alloc w (.cells (rrv bits).cells 107)
  have z1 := heap_alloc_new w (.cells (rrv bits).cells 107)
  have HB := Lib.hid b1; have HZ := Lib.hid z1
  clear hb b1 z1
  go_enter Tryz.func34, Tryz.ntmps34
  go_wp2_with (go_at_call 51; refine (hs _).mono ?_; intro e w2 hh; obtain ⟨hh1, hh2⟩ := hh; subst hh1; obtain rfl := hh2.symm)
  go_ret
  exact ⟨_, rfl, ⟨Nat.le_refl _, HZ.out⟩, HB.out⟩
abbrev TNn (b : Nat) (a : Int) (W : World) : Prop := W.cell? ⟨b, 2, none⟩ = some (.int .i64 a)
set_option maxRecDepth 10000 in
set_option maxHeartbeats 2000000 in
theorem rrnew_ok (bits h : Int) (hb : 1 ≤ bits ∧ bits ≤ 12) (h0 : 0 ≤ h ∧ h < 18446744073709551616) (w : World) : Calls Tryz.prog 34 #[.int .i64 bits, .int .u64 h] w fun e w' => ∃ b, e = .returned (.pointer (some ⟨b, 0, none⟩)) ∧ RRoomAt w' w.heap.size b (rrn bits (bk h bits) (oth (bk h bits) (tag01 h) bits)) ∧ Below w.heap.size w w' := by
  have hs := fun W => rsize_any bits W
  have hbk := fun W => rbucket_eq h bits h0.1 h0.2 hb W
  have htg := fun W => rtag01_any h h0.1 h0.2 W
  have hko := bk_bd h bits hb
  have hto := tag01_bd h h0.1 h0.2
  have hot := fun W => rother01_any (bk h bits) (tag01 h) bits W
  rw [oth_eq _ _ _ hb hko hto] at hot
  have hsz : decide (0 < tsize bits) = true := decide_eq_true (by omega)
  obtain ⟨a, ha⟩ : ∃ a, a = bk h bits := ⟨_, rfl⟩
  obtain ⟨b, hbb⟩ : ∃ b, b = oth (bk h bits) (tag01 h) bits := ⟨_, rfl⟩
  obtain ⟨tg0, htg0⟩ : ∃ tg0, tg0 = tag01 h := ⟨_, rfl⟩
  rw [← hbb] at hot ⊢
  rw [← ha] at hbk hot ⊢
  rw [← htg0] at htg hot
  generalize tsize bits = ts at *
  clear hb h0 hko hto ha hbb htg0
  have k1 := below_alloc w (.cells (rrv bits).cells 107)
  have n1 := heap_alloc_new w (.cells (rrv bits).cells 107)
  have KB := Lib.hid k1; have N1 := Lib.hid (show RRoomAt (w.alloc (.cells (rrv bits).cells 107)) w.heap.size w.heap.size (rrv bits) from ⟨Nat.le_refl _, n1⟩)
  clear k1 n1
  go_enter Tryz.func34, Tryz.ntmps34
  go_upto_region 2 with (fail)
  change Code.wp _ _ _ _ (w.alloc (.cells (rrv bits).cells 107))
  generalize w.alloc (.cells (rrv bits).cells 107) = w1 at *
  obtain ⟨nb, hnb⟩ : ∃ nb, nb = w.heap.size := ⟨_, rfl⟩
  have HNB := Lib.hid hnb
  rw [← hnb] at N1
  try simp only [← hnb]
  clear hnb
  have c0 := N1.out.c.1
  have f0 := N1.out.f 0
  have N2 := Lib.hid (N1.out.set (y := { rrv bits with line := 1 }) 0 (.int .i64 1) rfl)
  have B2 := Lib.hid (set_below KB.out KB.out.size (Nat.le_refl _) 0 (.int .i64 1))
  go_upto_region 4 with (go_at_call 51; refine (hs _).mono ?_; intro e w2 hh; obtain ⟨hh1, hh2⟩ := hh; subst hh1; obtain rfl := hh2.symm)
  clear c0 f0 hs
  rw [← HNB.out] at B2
  generalize w1.setCell ⟨nb, 0, none⟩ (.int .i64 1) = w2 at *
  have c2 := N2.out.c.2.2.1
  have f2 := N2.out.f 2
  have N3 := Lib.hid (N2.out.set (y := { rrv bits with line := 1, a := a }) 2 (.int .i64 a) rfl)
  have B3 := Lib.hid (set_below B2.out (by rw [HNB.out]; exact B2.out.size) (Nat.le_refl _) 2 (.int .i64 a))
  go_upto_region 5 with (go_at_call 110; refine (hbk _).mono ?_; intro e w3 hh; obtain ⟨hh1, hh2⟩ := hh; subst hh1; obtain rfl := hh2.symm)
  clear c2 f2 hbk
  generalize w2.setCell ⟨nb, 2, none⟩ (.int .i64 a) = w3 at *
  have kd : Below w3.heap.size w3 w3.drew := (Below.refl _ _).drew
  have N4 := Lib.hid (N3.out.below kd)
  have B4 := Lib.hid (B3.out.trans (kd.mono (by rw [HNB.out]; exact B3.out.size)))
  have s4 : TNn nb a w3.drew := N4.out.c.2.2.1
  have c3 := N4.out.c.2.2.2.1
  have f3 := N4.out.f 3
  have N5 := Lib.hid (N4.out.set (y := rrn bits a b) 3 (.int .i64 b) rfl)
  have s5 : TNn nb a (w3.drew.setCell ⟨nb, 3, none⟩ (.int .i64 b)) := N5.out.c.2.2.1
  have B5 := Lib.hid (set_below B4.out (by rw [HNB.out]; exact B4.out.size) (Nat.le_refl _) 3 (.int .i64 b))
  clear kd
  go_region_held2 (fun W => TNn nb a W) (assumption) (first
    | (go_at_call 111; refine (htg _).mono ?_; intro e w5 hh; obtain ⟨hh1, hh2⟩ := hh; subst hh1; obtain rfl := hh2.symm; clear htg)
    | (go_at_call 59; refine (hot _).mono ?_; intro e w5 hh; obtain ⟨hh1, hh2⟩ := hh; subst hh1; obtain rfl := hh2.symm; clear hot))
  go_wp2_with (fail)
  go_ret
  rw [← HNB.out]
  exact ⟨nb, rfl, N5.out, B5.out⟩
end Go.Proofs.YtmakjfeepmiggaaGreat
namespace Go.Proofs.YtmakjfeepmiggaaGreat
open Go.RowKit Go.Maps TagPure
set_option linter.unusedVariables false
def rm0 (bits h : Int) : RM := if 1 ≤ bits ∧ bits ≤ 12 then rmnew bits (bk h bits) (oth (bk h bits) (tag01 h) bits) else rmvoid
def rr0 (bits h : Int) : RR := if 1 ≤ bits ∧ bits ≤ 12 then rrn bits (bk h bits) (oth (bk h bits) (tag01 h) bits) else rrv bits
def AM (bits h : Int) (w : World) (lo p : Nat) : Prop := ∃ g, RoomAtB w lo p (rm0 bits h) g
def BM (bits h : Int) (w : World) (lo r : Nat) : Prop := RRoomAt w lo r (rr0 bits h)
section
variable {bits h : Int} {w w' : World} {lo lo' p r : Nat}
theorem AM.below (k : AM bits h w lo p) (hb : Below w.heap.size w w') : AM bits h w' lo p := k.imp fun g k => k.below hb
theorem AM.lower (k : AM bits h w lo p) (hl : lo' ≤ lo) : AM bits h w lo' p := k.imp fun g k => k.lower hl
theorem BM.below (k : BM bits h w lo r) (hb : Below w.heap.size w w') : BM bits h w' lo r := RRoomAt.below k hb
theorem BM.lower (k : BM bits h w lo r) (hl : lo' ≤ lo) : BM bits h w lo' r := RRoomAt.lower k hl
end
theorem tsize_off {b : Int} (h : ¬ (1 ≤ b ∧ b ≤ 12)) : tsize b = 0 := by unfold tsize; rw [if_pos (by omega)]
theorem room_new (bits h : Int) (h0 : 0 ≤ h ∧ h < 18446744073709551616) (W : World) : Calls Tryz.prog 33 #[.int .i64 bits, .int .u64 h] W fun e w' => ∃ p, e = .returned (.pointer (some ⟨p, 0, none⟩)) ∧ AM bits h w' W.heap.size p ∧ W.heap.size ≤ p ∧ Below W.heap.size W w' := by
  by_cases hb : 1 ≤ bits ∧ bits ≤ 12
  · refine (newroom_okB bits h hb h0 W).mono fun e w' hh => ?_
    obtain ⟨p, g, h1, h2, h3⟩ := hh
    exact ⟨p, h1, ⟨g, by unfold rm0; rw [if_pos hb]; exact h2⟩, h2.low, h3⟩
  · refine (newroom_no bits h (tsize_off hb) W).mono fun e w' hh => ?_
    obtain ⟨p, h1, h2, h3⟩ := hh
    exact ⟨p, h1, ⟨0, by unfold rm0; rw [if_neg hb]; exact room_atB h2 rfl 0⟩, h2.low, h3⟩
theorem rroom_new (bits h : Int) (h0 : 0 ≤ h ∧ h < 18446744073709551616) (W : World) : Calls Tryz.prog 34 #[.int .i64 bits, .int .u64 h] W fun e w' => ∃ p, e = .returned (.pointer (some ⟨p, 0, none⟩)) ∧ BM bits h w' W.heap.size p ∧ W.heap.size ≤ p ∧ Below W.heap.size W w' := by
  by_cases hb : 1 ≤ bits ∧ bits ≤ 12
  · refine (rrnew_ok bits h hb h0 W).mono fun e w' hh => ?_
    obtain ⟨p, h1, h2, h3⟩ := hh
    exact ⟨p, h1, by unfold BM rr0; rw [if_pos hb]; exact h2, h2.low, h3⟩
  · refine (rrnew_no bits h (tsize_off hb) W).mono fun e w' hh => ?_
    obtain ⟨p, h1, h2, h3⟩ := hh
    exact ⟨p, h1, by unfold BM rr0; rw [if_neg hb]; exact h2, h2.low, h3⟩
theorem rm_made {bits h : Int} {w : World} {lo p r : Nat} (h0 : 0 ≤ h ∧ h < 18446744073709551616) (ha : AM bits h w lo p) (hr : BM bits h w lo r) : ∃ d : RPd, d.x.ph ≠ .search ∧ RmP w lo ⟨p, r, d⟩ (rmSet ⟨p, r, d⟩) := by
  obtain ⟨g, ha⟩ := ha
  unfold BM at hr
  by_cases hb : 1 ≤ bits ∧ bits ≤ 12
  · unfold rm0 at ha; unfold rr0 at hr
    rw [if_pos hb] at ha hr
    have hko := bk_bd h bits hb
    have hto := tag01_bd h h0.1 h0.2
    have hoo := oth_bdW (bk h bits) (tag01 h) bits hb hko hto
    refine ⟨⟨rmnew bits (bk h bits) (oth (bk h bits) (tag01 h) bits), rrn bits (bk h bits) (oth (bk h bits) (tag01 h) bits), g, 0, 0, 0, wnew bits 0 0 0 0 0, 0, 0, hpnew [], [], []⟩, by show RPh.look ≠ _; decide, ha, hr, ⟨rfl, fun c => (by cases c)⟩, fun _ => ⟨hb, rfl, rfl, rfl, hko, hoo⟩, fun c => (by cases c), fun _ => .inl ⟨rfl, ?_⟩, fun c => (by cases c), fun c => (by cases c), rfl⟩
    show (oth (bk h bits) (tag01 h) bits = bk h bits ∧ (if oth (bk h bits) (tag01 h) bits = bk h bits then [bk h bits] else [bk h bits, oth (bk h bits) (tag01 h) bits]) = [bk h bits]) ∨ (oth (bk h bits) (tag01 h) bits ≠ bk h bits ∧ (if oth (bk h bits) (tag01 h) bits = bk h bits then [bk h bits] else [bk h bits, oth (bk h bits) (tag01 h) bits]) = [bk h bits, oth (bk h bits) (tag01 h) bits])
    by_cases e : oth (bk h bits) (tag01 h) bits = bk h bits
    · exact .inl ⟨e, if_pos e⟩
    · exact .inr ⟨e, if_neg e⟩
  · unfold rm0 at ha; unfold rr0 at hr
    rw [if_neg hb] at ha hr
    exact ⟨⟨rmvoid, rrv bits, g, 0, 0, 0, wnew bits 0 0 0 0 0, 0, 0, hpnew [], [], []⟩, by show RPh.off ≠ _; decide, rm_none ha hr rfl rfl ⟨rfl, fun c => (by cases c)⟩⟩
theorem rm_made_maps {w : World} {lo p r : Nat} {d : RPd} {V : WV} (h : RmP w lo ⟨p, r, d⟩ (rmSet ⟨p, r, d⟩)) (hp : d.x.ph ≠ .search) : MapsIn w V (rmSet ⟨p, r, d⟩) := mapsin_ty h hp
end Go.Proofs.YtmakjfeepmiggaaGreat
namespace Go.Proofs.YtmakjfeepmiggaaGreat
open Go.RowKit Go.Maps
set_option linter.unusedVariables false
structure RmAc where
  k : Int
  a : Int
  b : Int
  h : Int
  v : Int
  i : Int
def RmAc.cells (x : RmAc) : List Value := [.int .u8 x.k, .int .u8 x.a, .int .i64 x.b, .int .u64 x.h, .int .u64 x.v, .int .u64 x.i]
structure RmAc.wf (x : RmAc) : Prop where
  k : (Lit.int .u8 x.k).wf = true
  a : (Lit.int .u8 x.a).wf = true
  b : (Lit.int .i64 x.b).wf = true
  h : (Lit.int .u64 x.h).wf = true
  v : (Lit.int .u64 x.v).wf = true
  i : (Lit.int .u64 x.i).wf = true
def rmacLeaves : List Leaf := [.int .u8, .int .u8, .int .i64, .int .u64, .int .u64, .int .u64]
theorem rmac_of {w : World} {cs : List Value} (h : Leaf.allHold w rmacLeaves cs) : ∃ x : RmAc, cs = x.cells ∧ x.wf := by
  obtain ⟨c0, r, rfl, g0, h⟩ := allHold_cons h
  obtain ⟨c1, r, rfl, g1, h⟩ := allHold_cons h
  obtain ⟨c2, r, rfl, g2, h⟩ := allHold_cons h
  obtain ⟨c3, r, rfl, g3, h⟩ := allHold_cons h
  obtain ⟨c4, r, rfl, g4, h⟩ := allHold_cons h
  obtain ⟨c5, r, rfl, g5, h⟩ := allHold_cons h
  obtain rfl := allHold_nil h
  obtain ⟨n0, rfl, w0⟩ := holds_int g0
  obtain ⟨n1, rfl, w1⟩ := holds_int g1
  obtain ⟨n2, rfl, w2⟩ := holds_int g2
  obtain ⟨n3, rfl, w3⟩ := holds_int g3
  obtain ⟨n4, rfl, w4⟩ := holds_int g4
  obtain ⟨n5, rfl, w5⟩ := holds_int g5
  exact ⟨⟨n0, n1, n2, n3, n4, n5⟩, rfl, w0, w1, w2, w3, w4, w5⟩
structure RmActs (w : World) (a : Option Addr) (cap : Nat) (l : List RmAc) : Prop where
  le : l.length ≤ cap
  most : cap ≤ maxLen
  nil : a = none → cap = 0
  wf : ∀ x ∈ l, x.wf
  cell : l = [] ∨ ∃ b off, a = some ⟨b, off, none⟩ ∧ ∀ i, (hi : i < l.length) → ∀ j, j < 6 → w.cell? ⟨b, off + (i * 6 + j), none⟩ = (l[i]).cells[j]?
theorem rmacts_of {w : World} {a : Option Addr} {n cap : Nat} (h : Leaf.holds w (.sl rmacLeaves) (.slice a n cap)) : ∃ l, l.length = n ∧ RmActs w a cap l := by
  obtain ⟨l, a', cap', hv, h1, h2, h3, h4, h5⟩ := recs_of h
  simp only [Value.slice.injEq] at hv
  obtain ⟨rfl, rfl, rfl⟩ := hv
  obtain ⟨m, hm, hp⟩ := list_of (fun i (x : RmAc) => l[i]? = some x.cells ∧ x.wf) l.length (fun i hi => by
    obtain ⟨x, hx, hw⟩ := rmac_of (h4 _ (List.getElem_mem hi))
    exact ⟨x, by rw [List.getElem?_eq_getElem hi, hx], hw⟩)
  refine ⟨m, hm, by omega, h2, h3, fun x hx => ?_, ?_⟩
  · obtain ⟨i, hi, rfl⟩ := List.mem_iff_getElem.1 hx
    exact (hp i hi).2
  · rcases h5 with rfl | ⟨b, off, rfl, h5⟩
    · left; simpa using hm
    · refine .inr ⟨b, off, rfl, fun i hi j hj => ?_⟩
      have h6 := h5 i (by omega) j hj
      have h7 := (hp i hi).1
      rw [List.getElem?_eq_getElem (by omega)] at h7
      simp only [Option.some.injEq] at h7
      rw [h7] at h6
      exact h6
theorem RmActs.at {w : World} {a : Option Addr} {cap : Nat} {l : List RmAc} (h : RmActs w a cap l) (i : Nat) (hi : i < l.length) :
    ∃ b off x, a = some ⟨b, off, none⟩ ∧ l[i]? = some x ∧ x.wf ∧ w.cell? ⟨b, off + i * 6, none⟩ = some (.int .u8 x.k) ∧ w.cell? ⟨b, off + i * 6 + 1, none⟩ = some (.int .u8 x.a) ∧ w.cell? ⟨b, off + i * 6 + 2, none⟩ = some (.int .i64 x.b) ∧ w.cell? ⟨b, off + i * 6 + 3, none⟩ = some (.int .u64 x.h) ∧ w.cell? ⟨b, off + i * 6 + 4, none⟩ = some (.int .u64 x.v) ∧ w.cell? ⟨b, off + i * 6 + 5, none⟩ = some (.int .u64 x.i) := by
  rcases h.cell with rfl | ⟨b, off, rfl, h5⟩
  · simp at hi
  · have h6 := h5 i hi
    refine ⟨b, off, l[i], rfl, List.getElem?_eq_getElem hi, h.wf _ (List.getElem_mem hi), h6 0 (by omega), ?_, ?_, ?_, ?_, ?_⟩
    · rw [Nat.add_assoc]; exact h6 1 (by omega)
    · rw [Nat.add_assoc]; exact h6 2 (by omega)
    · rw [Nat.add_assoc]; exact h6 3 (by omega)
    · rw [Nat.add_assoc]; exact h6 4 (by omega)
    · rw [Nat.add_assoc]; exact h6 5 (by omega)
theorem RmActs.below {w w' : World} {a : Option Addr} {cap : Nat} {l : List RmAc} (h : RmActs w a cap l) (hb : Below w.heap.size w w') : RmActs w' a cap l := by
  refine ⟨h.le, h.most, h.nil, h.wf, h.cell.imp id fun ⟨b, off, e, h5⟩ => ⟨b, off, e, fun i hi j hj => ?_⟩⟩
  have h6 := h5 i hi j hj
  obtain ⟨v, hv⟩ : ∃ v, (l[i]).cells[j]? = some v := by
    match j, hj with
    | 0, _ | 1, _ | 2, _ | 3, _ | 4, _ | 5, _ => exact ⟨_, rfl⟩
  rw [hv] at h6 ⊢
  exact (hb.cell (World.block_lt_of_cell? _ _ h6)).trans h6
end Go.Proofs.YtmakjfeepmiggaaGreat