/-
  Texts of this prover, merged: Grows, GrowDo, GrowLives, Room, RoomLook, RoomLives, RoomVoid.
-/
import Derived.Test.YtomllmlieeaaiaaGreatP1
import Derived.Test.YtomllmlieeaaiaaGreatP2
import Derived.Test.YtomllmlieeaaiaaGreatP3
import Derived.Laws.EntriesVeiled
import Derived.OwnWalk
import Derived.Deep.RegionHeld2
import Derived.Deep.DeepCutAuto
import Derived.Deep.CutBlock
/-
  Grows: what is not there, what is over, without a world; the document's; a step.
-/
namespace Go.Proofs.YtomllmlieeaaiaaGreat
open Go.RowKit Go.Maps
set_option linter.unusedVariables false

/-- Is a Grow, a Swap, of a word over at once? -/
def gdead (t : Int) : Bool := asNow t != 0 || asOld t == 12
def sdead (t : Int) : Bool := asNow t == 0
theorem asNow_nn (t : Int) : 0 ≤ asNow t := by unfold asNow; split <;> omega
end Go.Proofs.YtomllmlieeaaiaaGreat

/-
  Grows: a step in a world. (written by gengrow.py)
-/
namespace Go.Proofs.YtomllmlieeaaiaaGreat
open Go.RowKit Go.Maps
set_option linter.unusedVariables false

theorem ws_set4 {w0 w : World} {B : WB} {V : WV} {s : CS} {b o : Nat} {cs : Array Value} {T : TypeId} (h : WS w0 w B V s) (hb : w.heap[b]? = some (.cells cs T (0, 0))) (hT : wTy T = false) (hlo : w0.heap.size ≤ b) (v : Value) : WS w0 (w.setCell ⟨b, o, none⟩ v) B V s :=
  h.fr (set_ty hb o v) (fun X hX => by cases hXT : (X == T); rfl; rw [beq_iff_eq] at hXT; subst hXT; rw [hX] at hT; cases hT) (set_below h.below h.below.size hlo o v)
theorem wu_of_wf {v : Int} (h : 0 ≤ v ∧ v < 18446744073709551616) : (Lit.int .u64 v).wf = true := bd_wf h

end Go.Proofs.YtomllmlieeaaiaaGreat

/-
  Grows: layer 19's examples.
-/
namespace Go.Proofs.YtomllmlieeaaiaaGreat
open Go.RowKit Go.Maps
set_option linter.unusedVariables false

theorem world12v (b : Int) (hb : 1 ≤ b ∧ b ≤ 12) (w : World) : Calls Tryz.prog 71 #[.int .i64 b] w fun e w' => ∃ B, e = .returned (.pointer (some ⟨B.wb, 0, none⟩)) ∧ WS w w' B (v0 ⟨b, 8, 3, 1, 16⟩) (CS.init [(2, tword b 0)]) := by
  have hn1 : Calls Tryz.prog 79 #[.agg #[.int .i64 b, .int .i64 8, .int .i64 3, .int .i64 1, .int .i64 16]] w fun e w' => ∃ B : WB, e = .returned (.tuple #[.pointer (some ⟨B.wb, 0, none⟩), .int .i64 0]) ∧ WS w w' B (v0 ⟨b, 8, 3, 1, 16⟩) (CS.init [(2, tword b 0)]) :=
    (wnew_ok ⟨b, 8, 3, 1, 16⟩ (by simp [Conf.ok]; omega) w).mono fun e w' ⟨wb, cb, ib, nb, he, g1, g2, g3, g4, g5, g6, g7⟩ => ⟨⟨wb, cb, ib, nb⟩, he, ws_of (Below.refl _ w) g1 g2 g3 g4 g5 g6 g7⟩
  clear hb
  go_enter Tryz.func71, Tryz.ntmps71
  go_wp2_with (go_at_call 79; with_reducible refine hn1.mono ?_; rintro e w1 ⟨B, rfl, h1⟩)
  go_ret
  exact ⟨_, rfl, h1⟩
theorem WS.slow {w0 w : World} {B : WB} {V : WV} {s : CS} (h : WS w0 w B V s) : w0.heap.size ≤ w.heap.size := h.below.size
end Go.Proofs.YtomllmlieeaaiaaGreat

/-
  A Room: what lies in memory; what is told of it; how it begins.
-/
namespace Go.Proofs.YtomllmlieeaaiaaGreat
open Go.RowKit Go.Maps TagPure
set_option linter.unusedVariables false

/-- What comes next. -/
inductive RPh where
  | look | search | hop | off
deriving DecidableEq
def RPh.fn : RPh → Value
  | .look => .func (.func 135) #[] #[]
  | .search => .func (.func 201) #[] #[]
  | .hop => .func (.func 245) #[] #[]
  | .off => .nilFunc
/-- A Room's words. -/
structure RM where
  bits : Int
  l : List Int
  a : Int
  b : Int
  ph : RPh
  way : Option Addr
  hops : Option Addr
  sb : Int
  su : Int
  sk : Int
  is : Bool
def RM.cells (x : RM) (v : Value) : Array Value := #[.int .i64 x.bits, v, .int .i64 x.a, .int .i64 x.b, x.ph.fn, .pointer x.way, .pointer x.hops, .int .i64 x.sb, .int .i64 x.su, .int .i64 x.sk, .bool x.is]
/-- A row of numbers, from somewhere in its block on. -/
def SlI (w : World) (v : Value) (l : List Int) : Prop :=
  ∃ a c, v = .slice a l.length c ∧ l.length ≤ c ∧ c ≤ maxLen ∧ (l = [] ∨ ∃ g o cur, a = some ⟨g, o, none⟩ ∧ w.heap[g]? = some (.cells cur 3 (0, 0)) ∧ ∀ i, (hi : i < l.length) → cur[o + i]? = some (.int .i64 l[i]))
structure RoomAt (w : World) (lo rb : Nat) (x : RM) : Prop where
  low : lo ≤ rb
  ex : ∃ v, w.heap[rb]? = some (.cells (x.cells v) 105 (0, 0)) ∧ SlI w v x.l
section
variable {w w' : World} {lo lo' rb : Nat} {x y : RM}
theorem SlI.fr {v : Value} {l : List Int} {K : TypeId → Bool} {mp : Bool} (h : SlI w v l) (hf : Fr K mp w w') (hK : K 3 = false) : SlI w' v l := by
  obtain ⟨a, c, h1, h2, h3, h4⟩ := h
  refine ⟨a, c, h1, h2, h3, h4.imp id ?_⟩
  rintro ⟨g, o, cur, h5, h6, h7⟩
  exact ⟨g, o, cur, h5, hf.cells _ _ _ _ h6 hK, h7⟩
theorem RoomAt.fr {K : TypeId → Bool} {mp : Bool} (h : RoomAt w lo rb x) (hf : Fr K mp w w') (h1 : K 105 = false) (h2 : K 3 = false) : RoomAt w' lo rb x := by
  obtain ⟨l0, v, b1, b2⟩ := h
  exact ⟨l0, v, hf.cells _ _ _ _ b1 h1, b2.fr hf h2⟩
theorem RoomAt.below (h : RoomAt w lo rb x) (hb : Below w.heap.size w w') : RoomAt w' lo rb x := h.fr (below_fr hb (fun _ => false) false) rfl rfl
theorem RoomAt.lower (h : RoomAt w lo rb x) (hl : lo' ≤ lo) : RoomAt w lo' rb x := ⟨Nat.le_trans hl h.low, h.ex⟩
theorem RoomAt.set (h : RoomAt w lo rb x) (o : Nat) (u : Value) (hl : y.l = x.l) (hc : ∀ v, (x.cells v).setIfInBounds o u = y.cells v) : RoomAt (w.setCell ⟨rb, o, none⟩ u) lo rb y := by
  obtain ⟨l0, v, b1, b2⟩ := h
  have g := setCell_same b1 o u
  rw [hc] at g
  refine ⟨l0, v, g, ?_⟩
  rw [hl]
  exact b2.fr (set_ty b1 o u) rfl
theorem RoomAt.blk (h : RoomAt w lo rb x) : ∃ cs, w.heap[rb]? = some (.cells cs 105 (0, 0)) := by obtain ⟨_, v, b1, _⟩ := h; exact ⟨_, b1⟩
theorem RoomAt.lt (h : RoomAt w lo rb x) : rb < w.heap.size := by obtain ⟨cs, b1⟩ := h.blk; exact (Array.getElem?_eq_some_iff.1 b1).1
theorem RoomAt.c (h : RoomAt w lo rb x) : w.cell? ⟨rb, 0, none⟩ = some (.int .i64 x.bits) ∧ w.cell? ⟨rb, 2, none⟩ = some (.int .i64 x.a) ∧ w.cell? ⟨rb, 3, none⟩ = some (.int .i64 x.b) ∧ w.cell? ⟨rb, 4, none⟩ = some x.ph.fn ∧ w.cell? ⟨rb, 5, none⟩ = some (.pointer x.way) ∧ w.cell? ⟨rb, 6, none⟩ = some (.pointer x.hops) ∧ w.cell? ⟨rb, 7, none⟩ = some (.int .i64 x.sb) ∧ w.cell? ⟨rb, 8, none⟩ = some (.int .i64 x.su) ∧ w.cell? ⟨rb, 9, none⟩ = some (.int .i64 x.sk) ∧ w.cell? ⟨rb, 10, none⟩ = some (.bool x.is) := by
  obtain ⟨_, v, b1, b2⟩ := h
  exact ⟨hcell b1 0, hcell b1 2, hcell b1 3, hcell b1 4, hcell b1 5, hcell b1 6, hcell b1 7, hcell b1 8, hcell b1 9, hcell b1 10⟩
theorem RoomAt.f (h : RoomAt w lo rb x) (o : Nat) : w.frozen? ⟨rb, o, none⟩ = false := by obtain ⟨cs, b1⟩ := h.blk; exact hfrz b1 o
end
theorem rfn_eql (p : RPh) (W : World) : Sem.run Tryz.prog (binOp BinOp.eql 103 p.fn Value.nilFunc) W = .ok (.bool (decide (p = .off))) W := by cases p <;> kernel_rfl
/-- Is it over? -/
theorem rmover {w : World} {lo rb : Nat} {x : RM} (h : RoomAt w lo rb x) : Calls Tryz.prog 42 #[.pointer (some ⟨rb, 0, none⟩)] w fun e w' => e = .returned (.bool (decide (x.ph = .off))) ∧ w' = w := by
  obtain ⟨-, -, -, c4, -⟩ := h.c
  have hrun := rfn_eql x.ph w
  clear h
  generalize x.ph = q at *
  generalize hd : decide (q = .off) = d at *
  cases q
  all_goals
    simp only [RPh.fn] at c4 hrun
    clear hd
    go_enter Tryz.func42, Tryz.ntmps42
    go_wp2
    go_ret
    exact ⟨rfl, rfl⟩
theorem rmover_nil (w : World) : Calls Tryz.prog 42 #[.pointer none] w fun e w' => e = .returned (.bool true) ∧ w' = w := by
  go_enter Tryz.func42, Tryz.ntmps42
  go_wp2
  go_ret
  exact ⟨rfl, rfl⟩
theorem rmstep_nil (u : Value) (w : World) : Calls Tryz.prog 43 #[.pointer none, u] w fun e w' => e = .returned (.bool true) ∧ w' = w := by
  go_enter Tryz.func43, Tryz.ntmps43
  go_wp2_with (go_at_call 42; refine (rmover_nil _).mono ?_; intro e w2 hh; obtain ⟨hh1, hh2⟩ := hh; subst hh1; obtain rfl := hh2.symm)
  go_ret
  exact ⟨rfl, rfl⟩
theorem rmstep_over {w : World} {lo rb : Nat} {x : RM} (h : RoomAt w lo rb x) (ho : x.ph = .off) (u : Value) : Calls Tryz.prog 43 #[.pointer (some ⟨rb, 0, none⟩), u] w fun e w' => e = .returned (.bool true) ∧ w' = w := by
  have hv := rmover h
  rw [decide_eq_true ho] at hv
  clear h ho
  go_enter Tryz.func43, Tryz.ntmps43
  go_wp2_with (go_at_call 42; refine hv.mono ?_; intro e w2 hh; obtain ⟨hh1, hh2⟩ := hh; subst hh1; obtain rfl := hh2.symm)
  go_ret
  exact ⟨rfl, rfl⟩
theorem rmstep_no {w : World} {lo rb : Nat} {x : RM} (h : RoomAt w lo rb x) (ho : x.ph ≠ .off) : Calls Tryz.prog 43 #[.pointer (some ⟨rb, 0, none⟩), .pointer none] w fun e w' => e = .returned (.bool false) ∧ w' = w := by
  have hv := rmover h
  rw [decide_eq_false ho] at hv
  clear h ho
  go_enter Tryz.func43, Tryz.ntmps43
  go_wp2_with (go_at_call 42; refine hv.mono ?_; intro e w2 hh; obtain ⟨hh1, hh2⟩ := hh; subst hh1; obtain rfl := hh2.symm)
  go_ret
  exact ⟨rfl, rfl⟩
theorem rmgot_nil (w : World) : Calls Tryz.prog 41 #[.pointer none] w fun e w' => e = .returned (.tuple #[.agg #[.int .i64 0, .int .i64 0, .int .i64 0], .bool false]) ∧ Below w.heap.size w w' := by
  have hb := below_alloc w (.cells #[.int .i64 0, .int .i64 0, .int .i64 0] 71)
  go_enter Tryz.func41, Tryz.ntmps41
  go_wp2
  refine bodyPost_ret (v := .tuple #[.agg #[.int .i64 0, .int .i64 0, .int .i64 0], .bool false]) (by simp [results, Tryz.results41, go_sem]) rfl ⟨rfl, ?_⟩
  exact hb
theorem rmgot {w : World} {lo rb : Nat} {x : RM} (h : RoomAt w lo rb x) : Calls Tryz.prog 41 #[.pointer (some ⟨rb, 0, none⟩)] w fun e w' => e = .returned (.tuple (if x.is = true then #[.agg #[.int .i64 x.sb, .int .i64 x.su, .int .i64 x.sk], .bool true] else #[.agg #[.int .i64 0, .int .i64 0, .int .i64 0], .bool false])) ∧ Below w.heap.size w w' := by
  obtain ⟨-, -, -, -, -, -, c7, c8, c9, c10⟩ := h.c
  have hne := h.lt
  have hb := below_alloc w (.cells #[.int .i64 0, .int .i64 0, .int .i64 0] 71)
  have hz := heap_alloc_new w (.cells #[.int .i64 0, .int .i64 0, .int .i64 0] 71)
  have k : ∀ {j : Nat} {u : Value}, w.cell? ⟨rb, j, none⟩ = some u → (w.alloc (.cells #[.int .i64 0, .int .i64 0, .int .i64 0] 71)).cell? ⟨rb, j, none⟩ = some u := fun h => (hb.cell hne).trans h
  have hne2 : rb ≠ w.heap.size := Nat.ne_of_lt hne
  have g7 := k c7; have g8 := k c8; have g9 := k c9; have g10 := k c10
  have d0 := hcell hz 0; have d1 := hcell hz 1; have d2 := hcell hz 2
  have f0 := hfrz hz 0; have f1 := hfrz hz 1; have f2 := hfrz hz 2
  have HB := Lib.hid hb; have HZ := Lib.hid hz
  clear h c7 c8 c9 c10 k hb hz hne
  generalize x.is = is at *
  cases is
  · go_enter Tryz.func41, Tryz.ntmps41
    go_upto_region 1 with (fail)
    change Code.wp _ _ _ _ (w.alloc (.cells #[.int .i64 0, .int .i64 0, .int .i64 0] 71))
    generalize w.alloc (.cells #[.int .i64 0, .int .i64 0, .int .i64 0] 71) = w1 at *
    have s1 := setCell_same HZ.out 0 (.int .i64 0)
    have s2 := setCell_same s1 1 (.int .i64 0)
    have s3 := setCell_same s2 2 (.int .i64 0)
    have h0 := hcell s3 0; have h1 := hcell s3 1; have h2 := hcell s3 2
    have b1 := set_below HB.out HB.out.size (Nat.le_refl _) 0 (.int .i64 0)
    have b2 := set_below b1 b1.size (Nat.le_refl _) 1 (.int .i64 0)
    have b3 := set_below b2 b2.size (Nat.le_refl _) 2 (.int .i64 0)
    have B3 := Lib.hid b3; have H0 := Lib.hid h0; have H1 := Lib.hid h1; have H2 := Lib.hid h2
    clear s1 s2 s3 h0 h1 h2 b1 b2 b3
    go_wp2_with fail
    have h0 := H0.out; have h1 := H1.out; have h2 := H2.out
    refine bodyPost_ret (v := .tuple #[.agg #[.int .i64 0, .int .i64 0, .int .i64 0], .bool false]) (by simp [results, Tryz.results41, go_sem, h0, h1, h2]) rfl ⟨rfl, B3.out⟩
  · go_enter Tryz.func41, Tryz.ntmps41
    go_upto_region 1 with (fail)
    change Code.wp _ _ _ _ (w.alloc (.cells #[.int .i64 0, .int .i64 0, .int .i64 0] 71))
    generalize w.alloc (.cells #[.int .i64 0, .int .i64 0, .int .i64 0] 71) = w1 at *
    have s1 := setCell_same HZ.out 0 (.int .i64 x.sb)
    have s2 := setCell_same s1 1 (.int .i64 x.su)
    have s3 := setCell_same s2 2 (.int .i64 x.sk)
    have h0 := hcell s3 0; have h1 := hcell s3 1; have h2 := hcell s3 2
    have b1 := set_below HB.out HB.out.size (Nat.le_refl _) 0 (.int .i64 x.sb)
    have b2 := set_below b1 b1.size (Nat.le_refl _) 1 (.int .i64 x.su)
    have b3 := set_below b2 b2.size (Nat.le_refl _) 2 (.int .i64 x.sk)
    have B3 := Lib.hid b3; have H0 := Lib.hid h0; have H1 := Lib.hid h1; have H2 := Lib.hid h2
    clear s1 s2 s3 h0 h1 h2 b1 b2 b3
    go_wp2_with fail
    have h0 := H0.out; have h1 := H1.out; have h2 := H2.out
    refine bodyPost_ret (v := .tuple #[.agg #[.int .i64 x.sb, .int .i64 x.su, .int .i64 x.sk], .bool true]) (by simp [results, Tryz.results41, go_sem, h0, h1, h2]) rfl ⟨rfl, B3.out⟩
def rmvoid : RM := ⟨0, [], 0, 0, .off, none, none, 0, 0, 0, false⟩
def rmnew (bits a b : Int) : RM := ⟨bits, if b = a then [a] else [a, b], a, b, .look, none, none, 0, 0, 0, false⟩
theorem newroom_no (bits h : Int) (hb : tsize bits = 0) (w : World) : Calls Tryz.prog 40 #[.int .i64 bits, .int .u64 h] w fun e w' => ∃ rb, e = .returned (.pointer (some ⟨rb, 0, none⟩)) ∧ RoomAt w' w.heap.size rb rmvoid ∧ Below w.heap.size w w' := by
  have hs := fun W => size_any bits W
  rw [hb] at hs
  have b1 := below_alloc w (.cells (rmvoid.cells (.slice none 0 0)) 105)
  have z1 := heap_alloc_new w (.cells (rmvoid.cells (.slice none 0 0)) 105)
  have HB := Lib.hid b1; have HZ := Lib.hid z1
  clear hb b1 z1
  go_enter Tryz.func40, Tryz.ntmps40
  go_wp2_with (go_at_call 81; refine (hs _).mono ?_; intro e w2 hh; obtain ⟨hh1, hh2⟩ := hh; subst hh1; obtain rfl := hh2.symm)
  go_ret
  exact ⟨_, rfl, ⟨Nat.le_refl _, _, HZ.out, none, 0, rfl, Nat.le_refl _, Nat.zero_le _, .inl rfl⟩, HB.out⟩
set_option maxRecDepth 10000 in
set_option maxHeartbeats 1000000 in
theorem newroom_ok (bits h : Int) (hb : 1 ≤ bits ∧ bits ≤ 12) (h0 : 0 ≤ h ∧ h < 18446744073709551616) (w : World) : Calls Tryz.prog 40 #[.int .i64 bits, .int .u64 h] w fun e w' => ∃ rb, e = .returned (.pointer (some ⟨rb, 0, none⟩)) ∧ RoomAt w' w.heap.size rb (rmnew bits (bk h bits) (oth (bk h bits) (tag01 h) bits)) ∧ Below w.heap.size w w' := by
  have hs := fun W => size_any bits W
  have hbk := fun W => bucket_fn h bits h0.1 h0.2 hb W
  have htg := fun W => tag_fn h h0.1 h0.2 W
  have hko := bk_bd h bits hb
  have hto := tag01_bd h h0.1 h0.2
  have hot := fun W => other_fn (bk h bits) (tag01 h) bits hb hko hto W
  have hsz : (tsize bits == 0) = false := beq_eq_false_iff_ne.2 (by omega)
  obtain ⟨a, ha⟩ : ∃ a, a = bk h bits := ⟨_, rfl⟩
  obtain ⟨b, hbb⟩ : ∃ b, b = oth (bk h bits) (tag01 h) bits := ⟨_, rfl⟩
  obtain ⟨tg0, htg0⟩ : ∃ tg0, tg0 = tag01 h := ⟨_, rfl⟩
  rw [← hbb] at hot ⊢
  rw [← ha] at hbk hot ⊢
  rw [← htg0] at htg hot
  obtain ⟨i0, hi0, hz0, hz1, hz2⟩ := info_parts info_int1
  have HI := Lib.hid hi0; have HZ0 := Lib.hid hz0; have HZ1 := Lib.hid hz1; have HZ2 := Lib.hid hz2
  generalize tsize bits = ts at *
  clear hb h0 hko hto ha hbb htg0 hi0 hz0 hz1 hz2
  have k1 := below_alloc w (.cells #[.int .i64 a] 3)
  have n1 := heap_alloc_new w (.cells #[.int .i64 a] 3)
  have hs1 : (w.alloc (.cells #[.int .i64 a] 3)).heap.size = w.heap.size + 1 := by simp
  have k2 := below_alloc (w.alloc (.cells #[.int .i64 a] 3)) (.cells ((⟨bits, [a], a, b, .look, none, none, 0, 0, 0, false⟩ : RM).cells (.slice (some ⟨w.heap.size, 0, none⟩) 1 1)) 105)
  have n2 := heap_alloc_new (w.alloc (.cells #[.int .i64 a] 3)) (.cells ((⟨bits, [a], a, b, .look, none, none, 0, 0, 0, false⟩ : RM).cells (.slice (some ⟨w.heap.size, 0, none⟩) 1 1)) 105)
  have n1' := (k2.block _ (Array.getElem?_eq_some_iff.1 n1).1).trans n1
  rw [hs1] at n2
  have KB := Lib.hid (k1.trans (k2.mono k1.size)); have N1 := Lib.hid n1'; have N2 := Lib.hid n2
  clear k1 n1 hs1 k2 n2 n1'
  go_enter Tryz.func40, Tryz.ntmps40
  go_upto_region 6 with (first
    | (go_at_call 81; refine (hs _).mono ?_; intro e w2 hh; obtain ⟨hh1, hh2⟩ := hh; subst hh1; obtain rfl := hh2.symm)
    | (go_at_call 134; refine (hbk _).mono ?_; intro e w2 hh; obtain ⟨hh1, hh2⟩ := hh; subst hh1; obtain rfl := hh2.symm)
    | (go_at_call 109; refine (htg _).mono ?_; intro e w2 hh; obtain ⟨hh1, hh2⟩ := hh; subst hh1; obtain rfl := hh2.symm)
    | (go_at_call 97; refine (hot _).mono ?_; intro e w2 hh; obtain ⟨hh1, hh2⟩ := hh; subst hh1; obtain rfl := hh2.symm))
  change Code.wp _ _ _ _ ((w.alloc (.cells #[.int .i64 a] 3)).alloc (.cells ((⟨bits, [a], a, b, .look, none, none, 0, 0, 0, false⟩ : RM).cells (.slice (some ⟨w.heap.size, 0, none⟩) 1 1)) 105))
  generalize (w.alloc (.cells #[.int .i64 a] 3)).alloc (.cells ((⟨bits, [a], a, b, .look, none, none, 0, 0, 0, false⟩ : RM).cells (.slice (some ⟨w.heap.size, 0, none⟩) 1 1)) 105) = w1 at *
  by_cases hba : b = a
  · subst hba
    have hq : (b != b) = false := by simp
    go_wp2
    go_ret
    refine ⟨w.heap.size + 1, rfl, ⟨Nat.le_succ _, .slice (some ⟨w.heap.size, 0, none⟩) 1 1, ?_, ?_⟩, KB.out⟩
    · have e : (rmnew bits b b) = ⟨bits, [b], b, b, .look, none, none, 0, 0, 0, false⟩ := by unfold rmnew; rw [if_pos rfl]
      rw [e]; exact N2.out
    · have e : (rmnew bits b b).l = [b] := by show (if b = b then [b] else [b, b]) = [b]; rw [if_pos rfl]
      rw [e]
      exact ⟨_, 1, rfl, Nat.le_refl _, by unfold maxLen; omega, .inr ⟨w.heap.size, 0, _, rfl, N1.out, fun i hi => by
        have : i = 0 := by simp at hi; omega
        subst this; rfl⟩⟩
  · have hq : (b != a) = true := bne_iff_ne.2 hba
    have HBA := Lib.hid hba
    have hs1 : Hid (w.heap.size + 1 < w1.heap.size) := Lib.hid (Array.getElem?_eq_some_iff.1 N2.out).1
    have OW : Hid (w1.ownsRow w.heap.size 3 1 (.slice (some ⟨w.heap.size, 0, none⟩) 1 1) 1 [.int .i64 a]) := Lib.hid ⟨rfl, .inr ⟨w.heap.size, 1, _, rfl, Nat.le_refl _, N1.out, Nat.le_refl _, by unfold maxLen; decide, rfl, rfl⟩⟩
    have c1 : w1.cell? ⟨w.heap.size + 1, 1, none⟩ = some (.slice (some ⟨w.heap.size, 0, none⟩) 1 1) := hcell N2.out 1
    clear hba
    go_wp2_with (at_builtin; refine wpList_append_lies _ rfl _ _ 101 rfl w.heap.size 3 i0 (.int .i64 0) 1 8 Tryz.underlying101 HI.out HZ0.out HZ1.out HZ2.out rfl (by decide) (.slice (some ⟨w.heap.size, 0, none⟩) 1 1) 1 [.int .i64 a] rfl (OW.out.alloc _) ⟨w1.heap.size, 0, none⟩ 1 1 [.int .i64 b] rfl rfl ?c1 ?c2 (by decide) ?c3 ?c4 ?c5 (w1.heap.size + 1) (by simp) ?_)
    case c1 => exact World.news_of_block (heap_alloc_new w1 _)
    case c2 => simp [Value.oneCell']
    case c3 => unfold maxLen; omega
    case c4 => omega
    case c5 => have := hs1.out; simp; omega
    intro g2 c6 w6 hown' hgrow hkb hlt6
    have kb3 := below_alloc w1 (.cells #[.int .i64 b] 3)
    have gk := grown_keeps hgrow
    have hx2 := (kb3.block _ (Array.getElem?_eq_some_iff.1 N2.out).1).trans N2.out
    have hx6 := (gk.block _ (Array.getElem?_eq_some_iff.1 hx2).1 (fun c => by simp only [Value.ownBlock, Option.some.injEq] at c; omega)).trans hx2
    have c6' : w6.cell? ⟨w.heap.size + 1, 1, none⟩ = some (.slice (some ⟨w.heap.size, 0, none⟩) 1 1) := hcell hx6 1
    have f6 : w6.frozen? ⟨w.heap.size + 1, 1, none⟩ = false := hfrz hx6 1
    have bw2 := KB.out.trans (kb3.mono KB.out.size)
    have bw6 := keeps_below gk bw2 bw2.size (fun k hk => by simp only [Value.ownBlock, Option.some.injEq] at hk; omega)
    have BW := Lib.hid (bw6.setCell (p := ⟨w.heap.size + 1, 1, none⟩) (Nat.le_succ _) (.slice (some ⟨g2, 0, none⟩) 2 c6))
    have hxE := setCell_same hx6 1 (.slice (some ⟨g2, 0, none⟩) 2 c6)
    have hge : g2 ≠ w.heap.size + 1 := by
      have := hs1.out
      rcases hkb with e | e
      · simp only [Value.ownBlock, Option.some.injEq] at e; omega
      · omega
    have hsl : SlI (w6.setCell ⟨w.heap.size + 1, 1, none⟩ (.slice (some ⟨g2, 0, none⟩) 2 c6)) (.slice (some ⟨g2, 0, none⟩) 2 c6) [a, b] := by
      obtain ⟨-, ⟨e, -⟩ | ⟨g, cap, cur, e, h2, h3, h4, h5, h6, h7⟩⟩ := hown'
      · cases e
      · simp only [Value.slice.injEq, Option.some.injEq, Addr.mk.injEq, and_true, true_and] at e
        obtain ⟨rfl, rfl⟩ := e
        refine ⟨_, c6, rfl, h4, h5, .inr ⟨g2, 0, cur, rfl, ?_, fun i hi => ?_⟩⟩
        · exact (set_ty hx6 1 _).cells _ _ _ _ h3 rfl
        · have hi2 : i < 2 := hi
          have h8 : (cur.toList.take ((1 + 1) * 1))[i]? = ([.int .i64 a] ++ [.int .i64 b] : List Value)[i]? := by rw [h7]; rfl
          rw [List.getElem?_take, if_pos (by omega), Array.getElem?_toList] at h8
          rw [Nat.zero_add, h8]
          rcases (show i = 0 ∨ i = 1 by omega) with rfl | rfl <;> rfl
    have FIN := Lib.hid (And.intro hxE hsl)
    clear kb3 gk hx2 hx6 bw2 bw6 hxE hge hsl hown' hgrow hkb hlt6 c1
    go_wp2
    go_ret
    refine ⟨w.heap.size + 1, rfl, ⟨Nat.le_succ _, .slice (some ⟨g2, 0, none⟩) 2 c6, ?_, ?_⟩, BW.out⟩
    rotate_left
    · have e : (rmnew bits a b).l = [a, b] := by show (if b = a then [a] else [a, b]) = [a, b]; rw [if_neg HBA.out]
      rw [e]; exact FIN.out.2
    · have e : (rmnew bits a b) = ⟨bits, [a, b], a, b, .look, none, none, 0, 0, 0, false⟩ := by unfold rmnew; rw [if_neg HBA.out]
      rw [e]; exact FIN.out.1
end Go.Proofs.YtomllmlieeaaiaaGreat

/-
  A Room: a look into a bucket.
-/
namespace Go.Proofs.YtomllmlieeaaiaaGreat
open Go.RowKit Go.Maps TagPure
set_option linter.unusedVariables false

/-- A world, and a Room in it. -/
structure RMB (w0 w W : World) (B : WB) (V : WV) (s : CS) (rb : Nat) (x : RM) : Prop where
  ws : WS w0 W B V s
  rm : RoomAt W w0.heap.size rb x
  fx : Fx wTy true rb w W
section
variable {w0 w W W' : World} {B : WB} {V : WV} {s s' : CS} {rb : Nat} {x y : RM}
theorem RMB.below (h : RMB w0 w W B V s rb x) (hb : Below W.heap.size W W') : RMB w0 w W' B V s rb x := ⟨h.ws.keep hb, h.rm.below hb, h.fx.trans ((below_fr hb wTy true).fx rb)⟩
theorem RMB.set (h : RMB w0 w W B V s rb x) (o : Nat) (u : Value) (hl : y.l = x.l) (hc : ∀ v, (x.cells v).setIfInBounds o u = y.cells v) : RMB w0 w (W.setCell ⟨rb, o, none⟩ u) B V s rb y := by
  obtain ⟨cs, b1⟩ := h.rm.blk
  exact ⟨set_take h.ws b1 rfl h.rm.low u, h.rm.set o u hl hc, h.fx.trans (set_fx wTy true W rb o u)⟩
theorem RMB.setl (h : RMB w0 w W B V s rb x) {v : Value} {l : List Int} (hv : SlI W v l) : RMB w0 w (W.setCell ⟨rb, 1, none⟩ v) B V s rb { x with l := l } := by
  obtain ⟨l0, u, b1, b2⟩ := h.rm
  exact ⟨set_take h.ws b1 rfl l0 v, ⟨l0, v, setCell_same b1 1 v, hv.fr (set_ty b1 1 v) rfl⟩, h.fx.trans (set_fx wTy true W rb 1 v)⟩
theorem RMB.move (h : RMB w0 w W B V s rb x) (h2 : WS w0 W' B V s') (hf : Fr wTy true W W') : RMB w0 w W' B V s' rb x := ⟨h2, h.rm.fr hf rfl rfl, h.fx.trans (hf.fx rb)⟩
end
theorem sli_pop {w : World} {v : Value} {c : Int} {r : List Int} (h : SlI w v (c :: r)) : ∃ g o k, v = .slice (some ⟨g, o, none⟩) (r.length + 1) (k + 1) ∧ w.cell? ⟨g, o, none⟩ = some (.int .i64 c) ∧ r.length ≤ k ∧ k + 1 ≤ maxLen ∧ SlI w (.slice (some ⟨g, if k = 0 then o else o + 1, none⟩) r.length k) r := by
  obtain ⟨a, q, rfl, h1, h2, h3 | ⟨g, o, cur, rfl, hg, hi⟩⟩ := h
  · cases h3
  · have h0 := hi 0 (by simp)
    rw [Nat.add_zero] at h0
    rw [List.length_cons] at h1
    obtain ⟨k, rfl⟩ : ∃ k, q = k + 1 := ⟨q - 1, by omega⟩
    refine ⟨g, o, k, rfl, by rw [hcell hg]; exact h0, by omega, h2, _, k, rfl, by omega, by omega, ?_⟩
    by_cases hk : k = 0
    · exact .inl (List.eq_nil_of_length_eq_zero (by omega))
    · rw [if_neg hk]
      refine .inr ⟨g, o + 1, cur, rfl, hg, fun i hir => ?_⟩
      have := hi (i + 1) (by simp; exact hir)
      rw [show o + 1 + i = o + (i + 1) by omega, this]
      simp
theorem ends_any {w0 w W : World} {B : WB} {V : WV} {s : CS} {rb : Nat} {x : RM} (h : RMB w0 w W B V s rb x) (p q k : Int) : Calls Tryz.prog 200 #[.pointer (some ⟨rb, 0, none⟩), .agg #[.int .i64 p, .int .i64 q, .int .i64 k]] W fun e w' => e = .returned (.tuple #[]) ∧ RMB w0 w w' B V s rb { x with sb := p, su := q, sk := k, is := true, ph := .off } := by
  have hb := below_alloc W (.cells #[.int .i64 p, .int .i64 q, .int .i64 k] 71)
  have hz := heap_alloc_new W (.cells #[.int .i64 p, .int .i64 q, .int .i64 k] 71)
  have H1 := Lib.hid (h.below hb); have HZ := Lib.hid hz
  clear h hb hz
  go_enter Tryz.func200, Tryz.ntmps200
  go_upto_region 1 with (fail)
  change Code.wp _ _ _ _ (W.alloc (.cells #[.int .i64 p, .int .i64 q, .int .i64 k] 71))
  generalize W.alloc (.cells #[.int .i64 p, .int .i64 q, .int .i64 k] 71) = W1 at *
  generalize W.heap.size = sb at *
  have m0 := hcell HZ.out 0
  have m1 := hcell HZ.out 1
  have m2 := hcell HZ.out 2
  obtain ⟨-, -, -, c4, -, -, c7, c8, c9, c10⟩ := H1.out.rm.c
  have ff := H1.out.rm.f
  have H2 := Lib.hid (((((H1.out.set (y := { x with sb := p }) 7 (.int .i64 p) rfl (fun _ => rfl)).set (y := { x with sb := p, su := q }) 8 (.int .i64 q) rfl (fun _ => rfl)).set (y := { x with sb := p, su := q, sk := k }) 9 (.int .i64 k) rfl (fun _ => rfl)).set (y := { x with sb := p, su := q, sk := k, is := true }) 10 (.bool true) rfl (fun _ => rfl)).set (y := { x with sb := p, su := q, sk := k, is := true, ph := .off }) 4 (.nilFunc) rfl (fun _ => rfl))
  generalize hph : x.ph = ph at *
  cases ph
  all_goals
    simp only [RPh.fn] at c4
    go_wp2_with fail
    go_end0
    first | exact ⟨rfl, H2.out⟩ | (rw [← hph] at H2; exact ⟨rfl, H2.out⟩)
abbrev TLk (nb wb cb : Nat) (b c : Int) (W : World) : Prop := W.cell? ⟨wb, 0, none⟩ = some (.pointer (some ⟨cb, 0, none⟩)) ∧ W.cell? ⟨nb, 0, none⟩ = some (.int .i64 b) ∧ W.cell? ⟨nb, 1, none⟩ = some (.int .i64 c)
/-- A Room behind a look, the bucket's word being v. -/
def RM.look (x : RM) (v : Int) : RM := match x.l with
  | [] => x
  | c :: r => if frW v = -1 then { x with l := r } else { x with l := r, sb := x.bits, su := c, sk := frW v, is := true, ph := .off }
def RM.adr (x : RM) : Int := match x.l with
  | [] => 0
  | c :: _ => tagsA x.bits c
set_option maxRecDepth 10000 in
set_option maxHeartbeats 4000000 in
/-- A look that finds a free slot, or where a bucket is left. -/
theorem look_any {w0 w : World} {B : WB} {V : WV} {s : CS} {rb : Nat} {x : RM} (h : WS w0 w B V s) (hr : s.room) (hx : RoomAt w w0.heap.size rb x) (c : Int) (r : List Int) (hl : x.l = c :: r) (hll : r.length ≤ 10) (hgo : 0 ≤ frW (s.val (tagsA x.bits c)) ∨ r ≠ []) :
    Calls Tryz.prog 135 #[.pointer (some ⟨rb, 0, none⟩), .pointer (some ⟨B.wb, 0, none⟩)] w fun e w' => e = .returned (.tuple #[]) ∧ RMB w0 w w' B V (s.acc 1 (tagsA x.bits c) (s.val (tagsA x.bits c))) rb (x.look (s.val (tagsA x.bits c))) := by
  have hB : RMB w0 w w B V s rb x := ⟨h, hx, ((below_fr (Below.refl _ _) wTy true).fx rb)⟩
  obtain ⟨v, hv⟩ : ∃ v, v = s.val (tagsA x.bits c) := ⟨_, rfl⟩
  have hvb := wf_bd (h.own.wf (tagsA x.bits c))
  have hfin : x.look v = if frW v = -1 then { x with l := r } else { x with l := r, sb := x.bits, su := c, sk := frW v, is := true, ph := .off } := by unfold RM.look; rw [hl]
  rw [← hv] at hvb hgo ⊢
  obtain ⟨A, hA⟩ : ∃ A, A = tagsA x.bits c := ⟨_, rfl⟩
  have hTG := fun W => tags_any x.bits c W
  have hAw : (Lit.int .u64 A).wf = true := by rw [hA]; exact tagsA_wf _ _
  rw [← hA] at hTG hv ⊢
  obtain ⟨l0, u, b1, b2⟩ := hx
  rw [hl] at b2
  obtain ⟨g, o, k, rfl, hc, hrk, hkm, hpop⟩ := sli_pop b2
  obtain ⟨c0, -⟩ := hB.rm.c
  have c1 : w.cell? ⟨rb, 1, none⟩ = some (.slice (some ⟨g, o, none⟩) (r.length + 1) (k + 1)) := hcell b1 1
  have f1 := hfrz b1 1
  obtain ⟨bits, hbt⟩ : ∃ bits, bits = x.bits := ⟨_, rfl⟩
  rw [← hbt] at c0 hTG
  unfold maxLen at hkm
  have hkm2 : (k : Int) + 1 ≤ 9223372036854775807 := by omega
  have al : ∀ (ob : Obj) {q j : Nat} {u : Value}, w.cell? ⟨q, j, none⟩ = some u → (w.alloc ob).cell? ⟨q, j, none⟩ = some u := fun ob q j u hu => by rw [World.cell?_alloc_past _ _ _ (World.block_lt_of_cell? _ _ hu)]; exact hu
  have c0' := fun ob => al ob c0
  have c1' := fun ob => al ob c1
  have hc' := fun ob => al ob hc
  have HB := Lib.hid hB; have HV := Lib.hid hv; have HVB := Lib.hid hvb; have HFIN := Lib.hid hfin; have HGO := Lib.hid hgo; have HAW := Lib.hid hAw; have HR := Lib.hid hr; have HPOP := Lib.hid hpop; have HL := Lib.hid hl; have HLL := Lib.hid hll; have HRK := Lib.hid hrk; have HBT := Lib.hid hbt; have HC1 := Lib.hid c1
  clear h hr hl hll hgo hB hv hvb hfin hA hAw b1 b2 hpop hrk hbt al f1 l0
  go_enter Tryz.func135, Tryz.ntmps135
  go_upto_region 0 with (fail)
  go_region
  go_upto_region 1 with (fail)
  have n1 : (w.alloc (.cells #[.int .i64 bits, .int .i64 c] 69)).drew.heap[w.heap.size]? = some (.cells #[.int .i64 bits, .int .i64 c] 69 (0, 0)) := heap_alloc_new w (.cells #[.int .i64 bits, .int .i64 c] 69)
  have k1 := (below_alloc w (.cells #[.int .i64 bits, .int .i64 c] 69)).drew
  have HB2 := Lib.hid (HB.out.below k1); have N1 := Lib.hid n1
  have HPOP2 := Lib.hid (HPOP.out.fr (below_fr k1 (fun _ => false) false) rfl)
  have c12 : (w.alloc (.cells #[.int .i64 bits, .int .i64 c] 69)).drew.cell? ⟨rb, 1, none⟩ = some (.slice (some ⟨g, o, none⟩) (r.length + 1) (k + 1)) := (k1.cell (World.block_lt_of_cell? _ _ HC1.out)).trans HC1.out
  have f12 := HB2.out.rm.f 1
  clear n1 k1 c0 c1 hc c0' c1' hc' HB HPOP HC1
  generalize (w.alloc (.cells #[.int .i64 bits, .int .i64 c] 69)).drew = w2 at *
  obtain ⟨nb, hnb⟩ : ∃ nb, nb = w.heap.size := ⟨_, rfl⟩
  rw [← hnb] at N1
  try simp only [← hnb]
  clear hnb
  have HB3 := Lib.hid (HB2.out.setl HPOP2.out)
  have HN3 := Lib.hid ((set_ty (show w2.heap[rb]? = some (.cells _ 105 (0, 0)) from HB2.out.rm.blk.choose_spec) 1 (.slice (some ⟨g, if k = 0 then o else o + 1, none⟩) r.length k)).cells _ _ _ _ N1.out rfl)
  clear HB2 HPOP2 N1
  go_cut [22] (fun v22 wx => RMB w0 w wx B V s rb { x with l := r } ∧ wx.heap[nb]? = some (.cells #[.int .i64 bits, .int .i64 c] 69 (0, 0)))
  case first =>
    have hkm3 : ¬ ((k : Int) + 1 = 0) := by omega
    rcases k with _ | k
    · go_wp2_with (fail)
      go_meet
      have h3 := HB3.out
      have n3 := HN3.out
      rw [if_pos trivial] at h3 n3
      exact ⟨h3, n3⟩
    · go_wp2_with (fail)
      go_meet
      have h3 := HB3.out
      have n3 := HN3.out
      rw [if_neg (Nat.succ_ne_zero k)] at h3 n3
      exact ⟨h3, n3⟩
  case rest =>
    obtain ⟨h3, n3⟩ := hcut
    have HB4 := Lib.hid h3; have N4 := Lib.hid n3
    clear h3 n3 HB3 HN3 c12 f12
    generalize wc = w3 at *
    have hb0 : Below w3.heap.size w3 w3.drew := (Below.refl _ _).drew
    have HB5 := Lib.hid (HB4.out.below hb0); have N5 : Hid (w3.drew.heap[nb]? = some (.cells #[.int .i64 bits, .int .i64 c] 69 (0, 0))) := N4.out
    have s1 : TLk nb B.wb B.cb bits c w3.drew := ⟨HB5.out.ws.c0, hcell N5.out 0, hcell N5.out 1⟩
    have hfree := fun W => free_any v W HVB.out.1 HVB.out.2
    have hfe : freeFrom v 0 4 = frW v := rfl
    rw [hfe] at hfree
    clear hfe hb0
    go_upto_region 2 with (fail)
    go_region_held2 (fun W => TLk nb B.wb B.cb bits c W) (assumption) (first
      | (go_at_call 74; refine (hTG _).mono ?_; intro e w4 hh; obtain ⟨hh1, b4⟩ := hh; subst hh1; have HB6 := Lib.hid (HB5.out.below b4); have n6 := (b4.block _ (Array.getElem?_eq_some_iff.1 N5.out).1).trans N5.out; have N6 := Lib.hid n6; have s4 : TLk nb B.wb B.cb bits c w4 := ⟨HB6.out.ws.c0, hcell N6.out 0, hcell N6.out 1⟩; have hld := HB6.out.ws.load HR.out A HAW.out; rw [← HV.out] at hld; clear b4 n6 s1 HB5 N5 hTG)
      | (go_at_call 94; refine hld.mono ?_; intro e w5 hh; obtain ⟨hh1, h5, f5⟩ := hh; subst hh1; have HB7 := Lib.hid (HB6.out.move h5 f5); have N7 := Lib.hid (f5.cells _ _ _ _ N6.out rfl); have s5 : TLk nb B.wb B.cb bits c w5 := ⟨HB7.out.ws.c0, hcell N7.out 0, hcell N7.out 1⟩; clear h5 f5 hld s4 HB6 N6)
      | (go_at_call 95; refine (hfree _).mono ?_; intro e w6 hh; obtain ⟨hh1, b6⟩ := hh; subst hh1; have HB8 := Lib.hid (HB7.out.below b6); have n8 := (b6.block _ (Array.getElem?_eq_some_iff.1 N7.out).1).trans N7.out; have N8 := Lib.hid n8; have s6 : TLk nb B.wb B.cb bits c w6 := ⟨HB8.out.ws.c0, hcell N8.out 0, hcell N8.out 1⟩; clear b6 n8 hfree s5 HB7 N7))
    clear s6 HB4 N4
    obtain ⟨fv, hfv⟩ : ∃ fv, fv = frW v := ⟨_, rfl⟩
    rw [← hfv] at HFIN HGO
    try rw [← hfv]
    have HFV := Lib.hid hfv
    have hfc := free_casesW v
    rw [show freeFrom v 0 4 = fv from hfv.symm] at hfc
    clear hfv
    by_cases hf : fv = -1
    · subst hf
      have hr0 : r ≠ [] := by rcases HGO.out with h | h; exact absurd h (by decide); exact h
      have hlr : 0 < r.length := List.length_pos_iff.2 hr0
      obtain ⟨_, ur, ub, ⟨ua, uc, hua, -⟩⟩ := HB8.out.rm
      have c1 : w6.cell? ⟨rb, 1, none⟩ = some (.slice ua r.length uc) := by have h := hcell ub 1; rw [hua] at h; exact h
      have hz1 : ((r.length : Int) == 0) = false := beq_eq_false_iff_ne.2 (by omega)
      have hz2 : (r.length == 0) = false := beq_eq_false_iff_ne.2 (by omega)
      clear ub hua hfc hr0 hlr
      go_wp2_with (fail)
      go_end0
      refine ⟨rfl, ?_⟩
      rw [HFIN.out, if_pos trivial]
      exact HB8.out
    · have hf0 : 0 ≤ fv := by rcases hfc with h | ⟨q, _, h, _⟩ <;> omega
      have m0 := hcell N8.out 0
      have m1 := hcell N8.out 1
      have hen := ends_any HB8.out bits c fv
      have HNE := Lib.hid hf
      clear hfc hf
      go_wp2_with (go_at_call 200; refine hen.mono ?_; intro e w7 hh; obtain ⟨hh1, h7⟩ := hh; subst hh1; have HB9 := Lib.hid h7; clear h7 hen m0 m1)
      go_end0
      refine ⟨rfl, ?_⟩
      rw [HFIN.out, if_neg HNE.out]
      have h9 := HB9.out
      rw [HBT.out] at h9
      exact h9
/-- A step that looks. -/
theorem rmstep_look {w0 w : World} {B : WB} {V : WV} {s : CS} {rb : Nat} {x : RM} (h : WS w0 w B V s) (hr : s.room) (hx : RoomAt w w0.heap.size rb x) (hp : x.ph = .look) (c : Int) (r : List Int) (hl : x.l = c :: r) (hll : r.length ≤ 10) (hgo : 0 ≤ frW (s.val (tagsA x.bits c)) ∨ r ≠ []) :
    Calls Tryz.prog 43 #[.pointer (some ⟨rb, 0, none⟩), .pointer (some ⟨B.wb, 0, none⟩)] w fun e w' => e = .returned (.bool (decide ((x.look (s.val (tagsA x.bits c))).ph = .off))) ∧ RMB w0 w w' B V (s.acc 1 (tagsA x.bits c) (s.val (tagsA x.bits c))) rb (x.look (s.val (tagsA x.bits c))) := by
  have hov := rmover hx
  rw [decide_eq_false (show x.ph ≠ .off by rw [hp]; decide)] at hov
  have hlk := look_any h hr hx c r hl hll hgo
  obtain ⟨-, -, -, c4, -⟩ := hx.c
  rw [hp] at c4
  simp only [RPh.fn] at c4
  obtain ⟨y, hy⟩ : ∃ y, y = x.look (s.val (tagsA x.bits c)) := ⟨_, rfl⟩
  rw [← hy] at hlk ⊢
  clear h hr hx hp hl hll hgo hy
  go_enter Tryz.func43, Tryz.ntmps43
  go_upto_region 2 with (go_at_call 42; refine hov.mono ?_; intro e w2 hh; obtain ⟨hh1, hh2⟩ := hh; subst hh1; obtain rfl := hh2.symm; clear hov)
  go_upto_region 3 with (go_at_call 135; refine hlk.mono ?_; intro e w3 hh; obtain ⟨hh1, h3⟩ := hh; subst hh1; have H3 := Lib.hid h3; have ho3 := rmover h3.rm; clear h3 hlk c4)
  go_wp2_with (go_at_call 42; refine ho3.mono ?_; intro e w4 hh; obtain ⟨hh1, hh2⟩ := hh; subst hh1; obtain rfl := hh2.symm; clear ho3)
  go_ret
  exact ⟨rfl, H3.out⟩
/-- A Room's looks, one behind the other. -/
def rmit (q : CS × RM) : CS × RM := (q.1.acc 1 q.2.adr (q.1.val q.2.adr), q.2.look (q.1.val q.2.adr))
def rmits (q : CS × RM) : Nat → CS × RM
  | 0 => q
  | n + 1 => rmit (rmits q n)
/-- May it look? -/
def RmGo (q : CS × RM) : Prop := q.2.ph = .look ∧ q.1.room ∧ ∃ c r, q.2.l = c :: r ∧ r.length ≤ 10 ∧ (0 ≤ frW (q.1.val (tagsA q.2.bits c)) ∨ r ≠ [])
set_option maxRecDepth 10000 in
set_option maxHeartbeats 2000000 in
theorem rmrun {w0 w : World} {B : WB} {V : WV} {s : CS} {rb : Nat} {x : RM} (n m : Nat) (hn : n < m) (hm : m ≤ 1000) (hB : RMB w0 w w B V s rb x) (hgo : ∀ k, k < n → RmGo (rmits (s, x) k)) (hend : (rmits (s, x) n).2.ph = .off) :
    Calls Tryz.prog 60 #[.pointer (some ⟨B.wb, 0, none⟩), .iface 106 (.pointer (some ⟨rb, 0, none⟩)), .int .i64 m] w fun e w' => e = .returned (.int .i64 n) ∧ RMB w0 w w' B V (rmits (s, x) n).1 rb (rmits (s, x) n).2 := by
  have HB := Lib.hid hB; have HGO := Lib.hid hgo; have HEND := Lib.hid hend; have HN := Lib.hid hn
  clear hB hgo hend hn
  go_enter Tryz.func60, Tryz.ntmps60
  go_wp2
  go_loopw [7] (fun i wr => ∃ k : Nat, k ≤ n ∧ i = .int .i64 k ∧ RMB w0 w wr B V (rmits (s, x) k).1 rb (rmits (s, x) k).2) (fun i _ => n - (intOf i).toNat)
  case atStart => exact ⟨0, Nat.zero_le _, rfl, HB.out⟩
  case round =>
    clear HB
    obtain ⟨k, hk, rfl, hb⟩ := hrel
    have hkm : (k : Int) < m := by have := HN.out; omega
    have hov := rmover hb.rm
    by_cases hlt : k < n
    · obtain ⟨hp, hr, c, r, hl, hll, hg⟩ := HGO.out k hlt
      rw [decide_eq_false (show (rmits (s, x) k).2.ph ≠ .off by rw [hp]; decide)] at hov
      have hst := rmstep_look hb.ws hr hb.rm hp c r hl hll hg
      have had : (rmits (s, x) k).2.adr = tagsA (rmits (s, x) k).2.bits c := by unfold RM.adr; rw [hl]
      rw [← had] at hst
      obtain ⟨d, hd⟩ : ∃ d, d = decide (((rmits (s, x) k).2.look ((rmits (s, x) k).1.val (rmits (s, x) k).2.adr)).ph = .off) := ⟨_, rfl⟩
      rw [← hd] at hst
      have hfx := hb.fx
      have HLT := Lib.hid hlt; have HFX := Lib.hid hfx
      clear hb hp hr hl hll hg had hd hlt hk hfx
      go_wp2_with (first
        | (go_at_call 42; refine hov.mono ?_; intro e w2 hh; obtain ⟨hh1, hh2⟩ := hh; subst hh1; obtain rfl := hh2.symm; clear hov)
        | (go_at_call 43; refine hst.mono ?_; intro e w3 hh; obtain ⟨hh1, h3⟩ := hh; subst hh1; have H3 := Lib.hid h3; clear h3 hst))
      go_roundw
      case measure => have := HLT.out; simp [intOf]; omega
      case rel => exact ⟨k + 1, HLT.out, by have := HLT.out; go_num, H3.out.ws, H3.out.rm, HFX.out.trans H3.out.fx⟩
    · obtain rfl : k = n := by omega
      rw [decide_eq_true HEND.out] at hov
      have HBB := Lib.hid hb
      clear hb hk hlt
      go_wp2_with (go_at_call 42; refine hov.mono ?_; intro e w2 hh; obtain ⟨hh1, hh2⟩ := hh; subst hh1; obtain rfl := hh2.symm; clear hov)
      go_ret
      exact ⟨rfl, HBB.out⟩
end Go.Proofs.YtomllmlieeaaiaaGreat

/-
  Rooms: layer 18's examples.
-/
namespace Go.Proofs.YtomllmlieeaaiaaGreat
open Go.RowKit Go.Maps TagPure
set_option linter.unusedVariables false

def h18 : Int := 216172782113783809
theorem h18_bk : bk h18 2 = 1 := by kernel_rfl
theorem h18_ot : oth 1 (tag01 h18) 2 = 2 := by kernel_rfl
def s18 : CS := CS.init [(2, tword 2 0)]
def x18 : RM := rmnew 2 1 2
def q18 : CS := (rmits (s18, x18) 1).1.acc 2 (tagsA 2 1) 151587081
def y18 : RM := ⟨2, [2], 1, 2, .off, none, none, 2, 1, 0, true⟩
def z18 : RM := ⟨2, [], 1, 2, .off, none, none, 2, 2, 0, true⟩
def x18b : RM := ⟨2, [2], 1, 2, .look, none, none, 0, 0, 0, false⟩
theorem x18_is : x18 = ⟨2, [1, 2], 1, 2, .look, none, none, 0, 0, 0, false⟩ := by kernel_rfl
theorem ex18a : frW (s18.val (tagsA 2 1)) = 0 := by kernel_rfl
theorem ex18b : frW (q18.val (tagsA 2 1)) = -1 := by kernel_rfl
theorem ex18c : frW ((rmits (q18, x18) 1).1.val (tagsA 2 2)) = 0 := by kernel_rfl
theorem ex18d : (rmits (q18, x18) 1).2 = x18b := by kernel_rfl
theorem ex18e : (rmits (s18, x18) 1).2 = y18 := by kernel_rfl
theorem ex18f : (rmits (q18, x18) 2).2 = z18 := by kernel_rfl
theorem s18_n : s18.n ≤ 100 ∧ s18.cnt ≤ 100 := by
  have h := CS.init_n [(2, tword 2 0)]
  unfold s18
  rw [h.1, h.2.1]
  simp
theorem q18_n : q18.n ≤ 200 ∧ q18.cnt ≤ 200 := by
  have h := s18_n
  show s18.n + 1 + 1 ≤ 200 ∧ s18.cnt + 1 + 1 ≤ 200
  omega
theorem q18_n1 : (rmits (q18, x18) 1).1.n ≤ 300 ∧ (rmits (q18, x18) 1).1.cnt ≤ 300 := by
  have h := q18_n
  show q18.n + 1 ≤ 300 ∧ q18.cnt + 1 ≤ 300
  omega
theorem go18a : ∀ k, k < 1 → RmGo (rmits (s18, x18) k) := by
  intro k hk
  obtain rfl : k = 0 := by omega
  exact ⟨rfl, CS.room_of 100 s18_n (by unfold lim; omega), 1, [2], by rw [show rmits (s18, x18) 0 = (s18, x18) from rfl, x18_is], by decide, .inr (by decide)⟩
theorem go18b : ∀ k, k < 2 → RmGo (rmits (q18, x18) k) := by
  intro k hk
  rcases (show k = 0 ∨ k = 1 by omega) with rfl | rfl
  · exact ⟨rfl, CS.room_of 200 q18_n (by unfold lim; omega), 1, [2], by rw [show rmits (q18, x18) 0 = (q18, x18) from rfl, x18_is], by decide, .inr (by decide)⟩
  · refine ⟨by rw [ex18d]; rfl, CS.room_of 300 q18_n1 (by unfold lim; omega), 2, [], by rw [ex18d]; rfl, by decide, .inl ?_⟩
    rw [ex18d]
    rw [show x18b.bits = 2 from rfl, ex18c]
    decide
theorem room18 (w : World) : Calls Tryz.prog 40 #[.int .i64 2, .int .u64 h18] w fun e w' => ∃ rb, e = .returned (.pointer (some ⟨rb, 0, none⟩)) ∧ RoomAt w' w.heap.size rb x18 ∧ Below w.heap.size w w' := by
  have h := newroom_ok 2 h18 (by decide) (by decide) w
  rw [h18_bk, h18_ot] at h
  exact h
theorem eql_spotR1 (W : World) : (binOp .eql 71 (.agg #[.int .i64 2, .int .i64 1, .int .i64 0]) (.agg #[.int .i64 2, .int .i64 1, .int .i64 0])).run Tryz.prog W = .ok (.bool true) W := by
  kernel_rfl
theorem eql_spotR2 (W : World) : (binOp .eql 71 (.agg #[.int .i64 2, .int .i64 2, .int .i64 0]) (.agg #[.int .i64 2, .int .i64 2, .int .i64 0])).run Tryz.prog W = .ok (.bool true) W := by
  kernel_rfl
theorem spot2_any (u : Int) (hu : u = 1 ∨ u = 2) (w : World) : Calls Tryz.prog 132 #[.int .i64 2, .int .i64 u, .int .i64 0] w fun e w' => e = .returned (.agg #[.int .i64 2, .int .i64 u, .int .i64 0]) ∧ Below w.heap.size w w' := by
  have hsz := fun w => size_any 2 w
  have e0 : tsize 2 = 4 := by decide
  simp only [e0] at hsz
  rcases hu with rfl | rfl
  all_goals
    go_enter Tryz.func132, Tryz.ntmps132
    go_wp2_with (go_at_call 81; refine (hsz _).mono ?_; rintro e w1 ⟨rfl, hw⟩; obtain rfl := hw.symm)
    refine bodyPost_ret (v := .agg #[.int .i64 2, .int .i64 _, .int .i64 0]) (by simp [results, Tryz.results132, go_sem]) rfl ⟨rfl, ?_⟩
    exact below_alloc' _ _
abbrev TWr (wb cb : Nat) (W : World) : Prop := W.cell? ⟨wb, 0, none⟩ = some (.pointer (some ⟨cb, 0, none⟩))
abbrev TSp2 (p q : Nat) (W : World) : Prop := W.cell? ⟨p, 0, none⟩ = some (.int .i64 2) ∧ W.cell? ⟨p, 1, none⟩ = some (.int .i64 1) ∧ W.cell? ⟨p, 2, none⟩ = some (.int .i64 0) ∧ W.cell? ⟨q, 0, none⟩ = some (.int .i64 2) ∧ W.cell? ⟨q, 1, none⟩ = some (.int .i64 2) ∧ W.cell? ⟨q, 2, none⟩ = some (.int .i64 0)
set_option maxRecDepth 10000 in
set_option maxHeartbeats 4000000 in
theorem lives18 (w : World) : Calls Tryz.prog 44 #[] w fun e w' => e = .returned (.bool true) ∧ Below w.heap.size w w' := by
  have hNR := Lib.hid (fun W => room18 W)
  have hTG := Lib.hid (fun W => tags_any 2 1 W)
  have hS1 := Lib.hid (fun W => spot2_any 1 (.inl rfl) W)
  have hS2 := Lib.hid (fun W => spot2_any 2 (.inr rfl) W)
  go_enter Tryz.func44, Tryz.ntmps44
  go_upto_region 5 with (first
    | (go_at_call 71; refine (world12v 2 (by decide) w).mono ?_; intro e w1 hh; obtain ⟨B, hh1, h1⟩ := hh; subst hh1; have H1 : Hid (WS w w1 B (v0 ⟨2, 8, 3, 1, 16⟩) s18) := h1; clear h1)
    | (go_at_call 40; refine (hNR.out _).mono ?_; intro e w2 hh; obtain ⟨rb, hh1, a2, b2⟩ := hh; subst hh1; have H2 := Lib.hid (H1.out.keep b2); have hB2 : RMB w w2 w2 B (v0 ⟨2, 8, 3, 1, 16⟩) s18 rb x18 := ⟨H2.out, a2.lower H1.out.slow, (below_fr (Below.refl _ _) wTy true).fx rb⟩; have hr2 := rmrun 1 9 (by decide) (by decide) hB2 go18a (by rw [ex18e]; rfl); rw [ex18e] at hr2; clear a2 b2 hB2 H1))
  go_upto_region 6 with (go_at_call 60; refine hr2.mono ?_; intro e w3 hh; obtain ⟨hh1, h3⟩ := hh; subst hh1; have H3 := Lib.hid h3.ws; have hg3 := rmgot h3.rm; clear h3 hr2 H2)
  rw [if_pos (show y18.is = true from rfl)] at hg3
  have hg3 : Calls Tryz.prog 41 #[.pointer (some ⟨rb, 0, none⟩)] w3 fun e w' => e = .returned (.tuple #[.agg #[.int .i64 2, .int .i64 1, .int .i64 0], .bool true]) ∧ Below w3.heap.size w3 w' := hg3
  go_upto_region 7 with (go_at_call 41; refine hg3.mono ?_; intro e w4 hh; obtain ⟨hh1, b4⟩ := hh; subst hh1; have H4 := Lib.hid (H3.out.keep b4); clear b4 hg3 H3)
  have b5 := below_alloc w4 (.cells #[.int .i64 2, .int .i64 1, .int .i64 0] 71)
  have Z5 := Lib.hid (heap_alloc_new w4 (.cells #[.int .i64 2, .int .i64 1, .int .i64 0] 71))
  have H5 := Lib.hid (H4.out.keep b5)
  clear b5 H4
  change Code.wp _ _ _ _ (w4.alloc (.cells #[.int .i64 2, .int .i64 1, .int .i64 0] 71))
  generalize w4.alloc (.cells #[.int .i64 2, .int .i64 1, .int .i64 0] 71) = w5 at *
  generalize w4.heap.size = pa at *
  have hst5 : Hid (∀ W, Below w5.heap.size w5 W → Calls Tryz.prog 73 #[.pointer (some ⟨B.cb, 0, none⟩), .int .u64 (tagsA 2 1), .int .u64 151587081] W fun e w' => e = .returned (.int .u64 ((rmits (s18, x18) 1).1.val (tagsA 2 1))) ∧ WS w w' B (v0 ⟨2, 8, 3, 1, 16⟩) q18 ∧ Fr wTy true W w') := fun W hW => (H5.out.keep hW).store (CS.room_of 200 (by have h := s18_n; show s18.n + 1 ≤ 200 ∧ s18.cnt + 1 ≤ 200; omega) (by unfold lim; omega)) _ (tagsA_wf _ _) _ (by decide)
  have hs5 : TWr B.wb B.cb w5.drew := H5.out.c0
  have htg := hTG.out
  obtain ⟨A, hA⟩ : ∃ A, A = tagsA 2 1 := ⟨_, rfl⟩
  rw [← hA] at hst5 htg
  obtain ⟨R, hR⟩ : ∃ R, R = (rmits (s18, x18) 1).1.val A := ⟨_, rfl⟩
  rw [← hR] at hst5
  clear hA hR
  go_region_held2 (fun W => TWr B.wb B.cb W) (assumption) (first
    | (go_at_call 74; refine (htg _).mono ?_; intro e w6 hh; obtain ⟨hh1, b6⟩ := hh; subst hh1; have b6' := (Below.refl w5.heap.size w5).drew.trans b6; have s6 : TWr B.wb B.cb w6 := (H5.out.keep b6').c0; have Z6 := Lib.hid ((b6'.block _ (Array.getElem?_eq_some_iff.1 Z5.out).1).trans Z5.out); have hst6 := hst5.out w6 b6'; clear b6 b6' hs5 htg hst5 Z5)
    | (go_at_call 73; refine hst6.mono ?_; intro e w7 hh; obtain ⟨hh1, h7, f7⟩ := hh; subst hh1; have H7 := Lib.hid h7; have Z7 := Lib.hid (f7.cells _ _ _ _ Z6.out rfl); have s7 : TWr B.wb B.cb w7 := h7.c0; clear h7 f7 hst6 s6 Z6))
  clear s7 H5
  go_upto_region 10 with (first
    | (go_at_call 40; refine (hNR.out _).mono ?_; intro e w8 hh; obtain ⟨rc, hh1, a8, b8⟩ := hh; subst hh1; have H8 := Lib.hid (H7.out.keep b8); have hB8 : RMB w w8 w8 B (v0 ⟨2, 8, 3, 1, 16⟩) q18 rc x18 := ⟨H8.out, a8.lower H7.out.slow, (below_fr (Below.refl _ _) wTy true).fx rc⟩; have hr8 := rmrun 2 9 (by decide) (by decide) hB8 go18b (by rw [ex18f]; rfl); rw [ex18f] at hr8; have Z8 := Lib.hid ((b8.block _ (Array.getElem?_eq_some_iff.1 Z7.out).1).trans Z7.out); have NE8 := Lib.hid (Nat.ne_of_lt (Nat.lt_of_lt_of_le (Array.getElem?_eq_some_iff.1 Z7.out).1 a8.low)); clear a8 b8 hB8 H7 Z7)
    | (go_at_call 60; refine hr8.mono ?_; intro e w9 hh; obtain ⟨hh1, h9⟩ := hh; subst hh1; have H9 := Lib.hid h9.ws; have hg9 := rmgot h9.rm; have Z9 := Lib.hid (h9.fx.cells _ _ _ _ Z8.out rfl NE8.out); clear h9 hr8 H8 Z8 NE8))
  rw [if_pos (show z18.is = true from rfl)] at hg9
  have hg9 : Calls Tryz.prog 41 #[.pointer (some ⟨rc, 0, none⟩)] w9 fun e w' => e = .returned (.tuple #[.agg #[.int .i64 2, .int .i64 2, .int .i64 0], .bool true]) ∧ Below w9.heap.size w9 w' := hg9
  go_upto_region 11 with (go_at_call 41; refine hg9.mono ?_; intro e w10 hh; obtain ⟨hh1, b10⟩ := hh; subst hh1; have H10 := Lib.hid (H9.out.keep b10); have Z10 := Lib.hid ((b10.block _ (Array.getElem?_eq_some_iff.1 Z9.out).1).trans Z9.out); clear b10 hg9 H9 Z9)
  have b11 := below_alloc w10 (.cells #[.int .i64 2, .int .i64 2, .int .i64 0] 71)
  have Y11 := Lib.hid (heap_alloc_new w10 (.cells #[.int .i64 2, .int .i64 2, .int .i64 0] 71))
  have Z11 := Lib.hid ((b11.block _ (Array.getElem?_eq_some_iff.1 Z10.out).1).trans Z10.out)
  have H11 := Lib.hid (H10.out.keep b11)
  clear b11 H10 Z10
  change Code.wp _ _ _ _ (w10.alloc (.cells #[.int .i64 2, .int .i64 2, .int .i64 0] 71))
  generalize w10.alloc (.cells #[.int .i64 2, .int .i64 2, .int .i64 0] 71) = w11 at *
  generalize w10.heap.size = pb at *
  have za : ∀ st : ExtW w11, st.val.cell? ⟨pa, 0, none⟩ = some (.int .i64 2) ∧ st.val.cell? ⟨pa, 1, none⟩ = some (.int .i64 1) ∧ st.val.cell? ⟨pa, 2, none⟩ = some (.int .i64 0) := fun st => ⟨st.cell (hcell Z11.out 0), st.cell (hcell Z11.out 1), st.cell (hcell Z11.out 2)⟩
  have zb : ∀ st : ExtW w11, st.val.cell? ⟨pb, 0, none⟩ = some (.int .i64 2) ∧ st.val.cell? ⟨pb, 1, none⟩ = some (.int .i64 2) ∧ st.val.cell? ⟨pb, 2, none⟩ = some (.int .i64 0) := fun st => ⟨st.cell (hcell Y11.out 0), st.cell (hcell Y11.out 1), st.cell (hcell Y11.out 2)⟩
  have za0 := fun st => (za st).1; have za1 := fun st => (za st).2.1; have za2 := fun st => (za st).2.2
  have zb0 := fun st => (zb st).1; have zb1 := fun st => (zb st).2.1; have zb2 := fun st => (zb st).2.2
  have m1 := fun st : ExtW w11 => hS1.out st.val
  have m2 := fun st : ExtW w11 => hS2.out st.val
  have hq1 := fun W => eql_spotR1 W
  have hq2 := fun W => eql_spotR2 W
  clear za zb
  refine wp_region_ext (by kernel_rfl) (by kernel_rfl) ?_
  repeat (go_big_quiet_step (first
    | (go_at_call 132; with_reducible refine calls_ext (m1 _))
    | (go_at_call 132; with_reducible refine calls_ext (m2 _))))
  refine wpQuiet_nil ?_
  rintro W13 ⟨⟨W14, hW⟩, rfl⟩
  clear za0 za1 za2 zb0 zb1 zb2 m1 m2 hq1 hq2
  have H14 := Lib.hid (H11.out.keep hW)
  clear hW
  go_wp2_with (fail)
  go_ret
  exact ⟨rfl, H14.out.below⟩
end Go.Proofs.YtomllmlieeaaiaaGreat

/-
  RoomsVoid.
-/
namespace Go.Proofs.YtomllmlieeaaiaaGreat
open Go.RowKit Go.Maps TagPure
set_option linter.unusedVariables false

theorem info_proom : (Tryz.prog.info? 106).map (fun i => (i.zero, i.size, i.bytes)) = some (some (.pointer none), 1, 8) := by kernel_rfl
theorem proom_w (T : TypeId) (h : wrTy T = true) : (T == 106) = false := by
  cases hT : (T == 106)
  · rfl
  · rw [beq_iff_eq] at hT; subst hT; cases h
/-- A Room that does nothing. -/
def VRoom (w : World) (v : Value) : Prop := v = .pointer none ∨ ∃ rb, v = .pointer (some ⟨rb, 0, none⟩) ∧ RoomAt w 0 rb rmvoid
section
variable {w w' : World} {v : Value}
theorem VRoom.below (h : VRoom w v) (hb : Below w.heap.size w w') : VRoom w' v := h.imp id fun ⟨rb, h1, h2⟩ => ⟨rb, h1, h2.below hb⟩
theorem VRoom.fr {K : TypeId → Bool} {mp : Bool} (h : VRoom w v) (hf : Fr K mp w w') (h1 : K 105 = false) (h2 : K 3 = false) : VRoom w' v := h.imp id fun ⟨rb, g1, g2⟩ => ⟨rb, g1, g2.fr hf h1 h2⟩
theorem VRoom.over (h : VRoom w v) : Calls Tryz.prog 42 #[v] w fun e w' => e = .returned (.bool true) ∧ w = w' := by
  rcases h with rfl | ⟨rb, rfl, h⟩
  · exact (rmover_nil w).mono fun e w' ⟨h1, h2⟩ => ⟨h1, h2.symm⟩
  · exact (rmover h).mono fun e w' ⟨h1, h2⟩ => ⟨h1, h2.symm⟩
theorem VRoom.step (h : VRoom w v) (u : Value) : Calls Tryz.prog 43 #[v, u] w fun e w' => e = .returned (.bool true) ∧ w = w' := by
  rcases h with rfl | ⟨rb, rfl, h⟩
  · exact (rmstep_nil u w).mono fun e w' ⟨h1, h2⟩ => ⟨h1, h2.symm⟩
  · exact (rmstep_over h rfl u).mono fun e w' ⟨h1, h2⟩ => ⟨h1, h2.symm⟩
theorem VRoom.got (h : VRoom w v) : Calls Tryz.prog 41 #[v] w fun e w' => e = .returned (.tuple #[.agg #[.int .i64 0, .int .i64 0, .int .i64 0], .bool false]) ∧ Below w.heap.size w w' := by
  rcases h with rfl | ⟨rb, rfl, h⟩
  · exact rmgot_nil w
  · exact rmgot h
end
set_option maxRecDepth 100000 in
set_option maxHeartbeats 4000000 in
theorem rmvoid_any (b h : Int) (hh : 0 ≤ h ∧ h < 18446744073709551616) (w : World) : Calls Tryz.prog 7 #[.int .i64 b, .int .u64 h] w fun e w' => e = .returned (.bool true) ∧ Below w.heap.size w w' := by
  have hz0 := newroom_no 0 h (by decide)
  have hz13 := newroom_no 13 h (by decide)
  have hok := newroom_ok 2 h (by decide) hh
  have hnb : b < 1 ∨ 12 < b → ∀ w : World, Calls Tryz.prog 40 #[.int .i64 b, .int .u64 h] w fun e w' => ∃ rb, e = .returned (.pointer (some ⟨rb, 0, none⟩)) ∧ RoomAt w' w.heap.size rb rmvoid ∧ Below w.heap.size w w' := fun g => newroom_no b h (tsize_out g)
  obtain ⟨y, hy⟩ : ∃ y, y = rmnew 2 (bk h 2) (oth (bk h 2) (tag01 h) 2) := ⟨_, rfl⟩
  rw [← hy] at hok
  have hy2 : y.ph = .look ∧ y.is = false := by rw [hy]; exact ⟨rfl, rfl⟩
  have HZ0 := Lib.hid hz0; have HZ13 := Lib.hid hz13; have HOK := Lib.hid hok; have HNB := Lib.hid hnb; have HY := Lib.hid hy2
  clear hz0 hz13 hok hnb hy hy2 hh
  go_enter Tryz.func7, Tryz.ntmps7
  go_upto_region 2 with (go_at_call 14; refine (begin_zero w).mono ?_; rintro e w3 ⟨B, R, V, s, x, rfl, hpr, hV, hfar, -, -⟩; have HPR := Lib.hid hpr; have HFAR := Lib.hid hfar; have HV : Hid (V.its = [] ∧ V.nts = []) := ⟨by rw [hV]; rfl, by rw [hV]; rfl⟩; clear hpr hV hfar)
  have hq0 := heap_alloc_new w3 (.cells #[.pointer (some ⟨B.wb, 0, none⟩), .pointer (some ⟨R.wb, 0, none⟩)] 34)
  have hB4 := below_alloc w3 (.cells #[.pointer (some ⟨B.wb, 0, none⟩), .pointer (some ⟨R.wb, 0, none⟩)] 34)
  have HP4 := Lib.hid (HPR.out.keep hB4)
  change Code.wp _ _ _ _ (w3.alloc (.cells #[.pointer (some ⟨B.wb, 0, none⟩), .pointer (some ⟨R.wb, 0, none⟩)] 34))
  generalize w3.alloc (.cells #[.pointer (some ⟨B.wb, 0, none⟩), .pointer (some ⟨R.wb, 0, none⟩)] 34) = w4 at *
  generalize w3.heap.size = q at *
  have HQ4 := Lib.hid hq0
  clear hq0 hB4 HPR
  go_upto_region 4 with (fail)
  have hb5 := below_alloc w4 (.cells (rmvoid.cells (.slice none 0 0)) 105)
  have hv5 : VRoom (w4.alloc (.cells (rmvoid.cells (.slice none 0 0)) 105)) (.pointer (some ⟨w4.heap.size, 0, none⟩)) := .inr ⟨_, rfl, Nat.zero_le _, _, heap_alloc_new w4 _, none, 0, rfl, Nat.le_refl _, Nat.zero_le _, .inl rfl⟩
  have HP5 := Lib.hid (HP4.out.keep hb5)
  have HQ5 := Lib.hid ((hb5.block _ (Array.getElem?_eq_some_iff.1 HQ4.out).1).trans HQ4.out)
  have HV5 := Lib.hid hv5
  change Code.wp _ _ _ _ (w4.alloc (.cells (rmvoid.cells (.slice none 0 0)) 105))
  generalize w4.alloc (.cells (rmvoid.cells (.slice none 0 0)) 105) = w5 at *
  generalize w4.heap.size = pb at *
  clear hb5 hv5 HP4 HQ4
  go_upto_region 5 with (first
    | (go_at_call 40; refine (HZ0.out _).mono ?_; intro e w6 hh; obtain ⟨ra, hh1, a6, b6⟩ := hh; subst hh1; have HP6 := Lib.hid (HP5.out.keep b6); have HQ6 := Lib.hid ((b6.block _ (Array.getElem?_eq_some_iff.1 HQ5.out).1).trans HQ5.out); have HV6 := Lib.hid (HV5.out.below b6); have HA6 : Hid (VRoom w6 (.pointer (some ⟨ra, 0, none⟩))) := .inr ⟨ra, rfl, a6.lower (Nat.zero_le _)⟩; clear a6 b6 HP5 HQ5 HV5 HZ0)
    | (go_at_call 40; refine (HZ13.out _).mono ?_; intro e w7 hh; obtain ⟨rc, hh1, a7, b7⟩ := hh; subst hh1; have HP7 := Lib.hid (HP6.out.keep b7); have HQ7 := Lib.hid ((b7.block _ (Array.getElem?_eq_some_iff.1 HQ6.out).1).trans HQ6.out); have HV7 := Lib.hid (HV6.out.below b7); have HA7 := Lib.hid (HA6.out.below b7); have HC7 : Hid (VRoom w7 (.pointer (some ⟨rc, 0, none⟩))) := .inr ⟨rc, rfl, a7.lower (Nat.zero_le _)⟩; clear a7 b7 HP6 HQ6 HV6 HA6 HZ13))
  have hb8 := below_alloc w7 (.cells #[.pointer (some ⟨pb, 0, none⟩), .pointer none, .pointer (some ⟨ra, 0, none⟩), .pointer (some ⟨rc, 0, none⟩)] 106)
  have HR8 := Lib.hid (own_lit w7 w.heap.size 106 [.pointer (some ⟨pb, 0, none⟩), .pointer none, .pointer (some ⟨ra, 0, none⟩), .pointer (some ⟨rc, 0, none⟩)] HP7.out.ws.below.size (by unfold maxLen; simp))
  have HP8 := Lib.hid (HP7.out.keep hb8)
  have HQ8 := Lib.hid ((hb8.block _ (Array.getElem?_eq_some_iff.1 HQ7.out).1).trans HQ7.out)
  have HV8 := Lib.hid (HV7.out.below hb8); have HA8 := Lib.hid (HA7.out.below hb8); have HC8 := Lib.hid (HC7.out.below hb8)
  change Code.wp _ _ _ _ (w7.alloc (.cells #[.pointer (some ⟨pb, 0, none⟩), .pointer none, .pointer (some ⟨ra, 0, none⟩), .pointer (some ⟨rc, 0, none⟩)] 106))
  have HR8 : Hid ((w7.alloc (.cells #[.pointer (some ⟨pb, 0, none⟩), .pointer none, .pointer (some ⟨ra, 0, none⟩), .pointer (some ⟨rc, 0, none⟩)] 106)).ownsRow w.heap.size 106 1 (.slice (some ⟨w7.heap.size, 0, none⟩) 4 4) 4 [.pointer (some ⟨pb, 0, none⟩), .pointer none, .pointer (some ⟨ra, 0, none⟩), .pointer (some ⟨rc, 0, none⟩)]) := HR8.out
  generalize w7.alloc (.cells #[.pointer (some ⟨pb, 0, none⟩), .pointer none, .pointer (some ⟨ra, 0, none⟩), .pointer (some ⟨rc, 0, none⟩)] 106) = w8 at *
  generalize w7.heap.size = gi at *
  have HVM : Hid (∀ y ∈ ([.pointer (some ⟨pb, 0, none⟩), .pointer none, .pointer (some ⟨ra, 0, none⟩), .pointer (some ⟨rc, 0, none⟩)] : List Value), VRoom w8 y) := fun y hy => by
    simp only [List.mem_cons, List.not_mem_nil, or_false] at hy
    rcases hy with rfl | rfl | rfl | rfl
    · exact HV8.out
    · exact .inl rfl
    · exact HA8.out
    · exact HC8.out
  clear hb8 HP7 HQ7 HV7 HA7 HC7 HV8 HA8 HC8
  obtain ⟨i0, hi0, hz0, hz1, hz2⟩ := info_parts info_proom
  have HI := Lib.hid hi0; have HZA := Lib.hid hz0; have HZB := Lib.hid hz1; have HZC := Lib.hid hz2
  clear hi0 hz0 hz1 hz2
  go_cut [29] (fun v wx => v = .bool (decide (b < 1) || decide (12 < b)) ∧ wx = w8)
  case first =>
    cases h1 : decide (b < 1)
    · go_wp2_with fail
      go_meet
      case rel => exact ⟨by rw [h1]; rfl, rfl⟩
    · go_wp2_with fail
      go_meet
      case rel => exact ⟨by rw [h1]; rfl, rfl⟩
  case rest =>
  obtain ⟨rfl, hwc⟩ := hcut
  obtain rfl := hwc.symm
  go_upto_if 29 with (fail)
  go_cut [8] (fun v wx => ∃ n xs, n ≤ 5 ∧ Pr w wx B R V s x ∧ wx.heap[q]? = some (.cells #[.pointer (some ⟨B.wb, 0, none⟩), .pointer (some ⟨R.wb, 0, none⟩)] 34 (0, 0)) ∧ wx.ownsRow w.heap.size 106 1 v n xs ∧ ∀ y ∈ xs, VRoom wx y)
  case first =>
    cases hb : (decide (b < 1) || decide (12 < b))
    · clear hb
      go_wp2_with fail
      go_meet
      case rel => exact ⟨4, _, by omega, HP8.out, HQ8.out, HR8.out, HVM.out⟩
    · have hout : b < 1 ∨ 12 < b := by
        rcases Bool.or_eq_true _ _ ▸ hb with h | h
        · exact .inl (of_decide_eq_true h)
        · exact .inr (of_decide_eq_true h)
      clear hb
      have hnp := HNB.out hout w8
      go_wp2_with (first
        | (go_at_call 40; refine hnp.mono ?_; intro e w9 hh; obtain ⟨qn, hh1, hv9, hb9⟩ := hh; subst hh1; have HB9 := Lib.hid hb9; have HN9 : Hid (VRoom w9 (.pointer (some ⟨qn, 0, none⟩))) := .inr ⟨qn, rfl, hv9.lower (Nat.zero_le _)⟩; have hr9 := own_fr HR8.out (below_fr hb9 (fun _ => false) false) rfl; clear hnp hb9 hv9)
        | (at_builtin; refine wpList_append_own _ rfl _ _ 108 rfl w.heap.size 106 i0 (.pointer none) 1 8 Tryz.underlying108 HI.out HZA.out HZB.out HZC.out rfl (by decide) _ _ _ rfl (hr9.alloc _) ⟨_, 0, none⟩ 1 1 [.pointer (some ⟨qn, 0, none⟩)] rfl rfl ?c1 ?c2 ?c3 ?c4 ?c5 ?_))
      case c1 => exact news_one _ _ _ _ rfl
      case c2 => simp [Value.oneCell']
      case c3 => unfold maxLen; omega
      case c4 => omega
      case c5 => have h1 := HB9.out.size; have h2 := HP8.out.ws.below.size; simp; omega
      intro v' w11 hown' hgrow _
      have hb10 := below_alloc w9 (.cells #[.pointer (some ⟨qn, 0, none⟩)] 106)
      have hgr := grown_ty (hr9.alloc _) hgrow
      have hP10 := (HP8.out.keep HB9.out).keep hb10
      have hf : Fr (fun T => T == 106) false w8 w11 := ((below_fr HB9.out _ _).trans (below_fr hb10 _ _)).trans hgr
      have hs := HP8.out.ws.below.size
      have hB2 : Below w.heap.size w w11 := grown_below (hr9.alloc _) hgrow hP10.ws.below hP10.ws.below.size (Nat.le_refl _)
      have HREL := Lib.hid (show Pr w w11 B R V s x ∧ w11.heap[q]? = some (.cells #[.pointer (some ⟨B.wb, 0, none⟩), .pointer (some ⟨R.wb, 0, none⟩)] 34 (0, 0)) ∧ w11.ownsRow w.heap.size 106 1 v' 5 [.pointer (some ⟨pb, 0, none⟩), .pointer none, .pointer (some ⟨ra, 0, none⟩), .pointer (some ⟨rc, 0, none⟩), .pointer (some ⟨qn, 0, none⟩)] ∧ ∀ y ∈ ([.pointer (some ⟨pb, 0, none⟩), .pointer none, .pointer (some ⟨ra, 0, none⟩), .pointer (some ⟨rc, 0, none⟩), .pointer (some ⟨qn, 0, none⟩)] : List Value), VRoom w11 y from
        ⟨⟨HP8.out.ws.fr hf (fun T hT => proom_w T (by unfold wrTy; rw [hT]; rfl)) hB2, HP8.out.rd.fr hf (fun T hT => proom_w T (by unfold wrTy; rw [hT]; simp)) hB2, HP8.out.al⟩, hf.cells _ _ _ _ HQ8.out rfl, hown', fun y hy => by
          rw [show ([.pointer (some ⟨pb, 0, none⟩), .pointer none, .pointer (some ⟨ra, 0, none⟩), .pointer (some ⟨rc, 0, none⟩), .pointer (some ⟨qn, 0, none⟩)] : List Value) = [.pointer (some ⟨pb, 0, none⟩), .pointer none, .pointer (some ⟨ra, 0, none⟩), .pointer (some ⟨rc, 0, none⟩)] ++ [.pointer (some ⟨qn, 0, none⟩)] from rfl] at hy
          rcases List.mem_append.1 hy with hy | hy
          · exact (HVM.out y hy).fr hf rfl rfl
          · simp only [List.mem_cons, List.not_mem_nil, or_false] at hy
            subst hy
            exact (HN9.out.below hb10).fr hgr rfl rfl⟩)
      clear hown' hgrow hr9 hb10 hgr hP10 hf hs hB2
      go_wp2_with fail
      go_meet
      case rel => exact ⟨5, _, by omega, HREL.out⟩
  case rest =>
  obtain ⟨n, xs, hn, hp, hq, hrow, hvm⟩ := hcut
  obtain ⟨al, cap, rfl⟩ : ∃ a cap, u8 = .slice a n cap := own_sl2 hrow
  have HP := Lib.hid hp; have HQ := Lib.hid hq; have HROW := Lib.hid hrow; have HVS := Lib.hid hvm
  clear hp hq hrow hvm HP8 HQ8 HR8 HVM HI HZA HZB HZC HNB
  generalize wc = wA at *
  go_wp2_with fail
  go_loopw [9] (fun i7 wr => ∃ i : Nat, i ≤ n ∧ i7 = .int .i64 i ∧ Below wA.heap.size wA wr) (fun i7 _ => n - (intOf i7).toNat)
  case atStart => exact ⟨0, by omega, rfl, Below.refl _ _⟩
  case round =>
    obtain ⟨i, hi, rfl, hB⟩ := hrel
    by_cases hlt : i < n
    · have hlt' : (i : Int) < n := by omega
      obtain ⟨g', cap', y, hv, hy, hyc, -⟩ := own_at (own_fr HROW.out (below_fr hB (fun _ => false) false) rfl) i hlt
      simp only [Value.slice.injEq, true_and] at hv
      obtain ⟨rfl, rfl⟩ := hv
      have hvy := (HVS.out y (List.mem_of_getElem? hy)).below hB
      have hg := hvy.got
      have HVY := Lib.hid hvy; have HYC := Lib.hid hyc; have HB := Lib.hid hB
      clear hy hvy hB
      go_upto_region 11 with (go_at_call 41; refine hg.mono ?_; intro e w6 hh; obtain ⟨hh1, b6⟩ := hh; subst hh1; have B6 := Lib.hid b6; clear b6 hg hyc)
      have b7 := below_alloc w6 (.cells #[.int .i64 0, .int .i64 0, .int .i64 0] 71)
      have B7 := Lib.hid (B6.out.trans (b7.mono B6.out.size))
      clear b7 B6
      change Code.wp _ _ _ _ (w6.alloc (.cells #[.int .i64 0, .int .i64 0, .int .i64 0] 71))
      generalize w6.alloc (.cells #[.int .i64 0, .int .i64 0, .int .i64 0] 71) = w7 at *
      have hbx := HB.out.trans (B7.out.mono HB.out.size)
      have uq := (hbx.block _ (Array.getElem?_eq_some_iff.1 HQ.out).1).trans HQ.out
      have hyc7 := (B7.out.cell (World.block_lt_of_cell? _ _ HYC.out)).trans HYC.out
      have xq : ∀ st : ExtW w7, st.val.cell? ⟨q, 0, none⟩ = some (.pointer (some ⟨B.wb, 0, none⟩)) := fun st => st.cell (hcell uq 0)
      have x0 : ∀ st : ExtW w7, st.val.cell? ⟨g', i, none⟩ = some y := fun st => st.cell hyc7
      have g0 := HVY.out.below B7.out
      have m1 := fun st : ExtW w7 => (g0.below st.below).over
      have m2 := fun st : ExtW w7 => (g0.below st.below).step (.pointer (some ⟨B.wb, 0, none⟩))
      have m3 := fun st : ExtW w7 => (g0.below st.below).step (.pointer none)
      have HBX := Lib.hid hbx
      clear hbx uq hyc7 g0
      refine wp_region_ext (by kernel_rfl) (by kernel_rfl) ?_
      repeat (go_big_quiet_step (first
        | (go_at_call 42; with_reducible refine calls_ext_same (m1 _))
        | (go_at_call 43; with_reducible refine calls_ext_same (m2 _))
        | (go_at_call 43; with_reducible refine calls_ext_same (m3 _))))
      refine wpQuiet_nil ?_
      rintro W ⟨⟨W2, hW⟩, rfl⟩
      have HW := Lib.hid hW
      clear x0 xq m1 m2 m3 hW
      go_wp2_with fail
      go_roundw
      case rel => exact ⟨i + 1, by omega, by go_num, HBX.out.trans (HW.out.mono HBX.out.size)⟩
      case measure => simp [intOf]; omega
    · obtain rfl : i = n := by omega
      have HP6 := Lib.hid (HP.out.keep hB)
      have HQ6 := Lib.hid ((hB.block _ (Array.getElem?_eq_some_iff.1 HQ.out).1).trans HQ.out)
      clear hB hlt HROW HVS
      have key2 : ∀ W, Below wr.heap.size wr W → Calls Tryz.prog 22 #[.agg #[.pointer (some ⟨B.wb, 0, none⟩), .pointer (some ⟨R.wb, 0, none⟩)]] W fun e w' => e = .returned (.bool true) ∧ Below W.heap.size W w' := fun W hW => psall_any (HP6.out.keep hW) HV.out.2 (by rw [HV.out.1]; simp) (by have := HFAR.out.1; omega)
      have KEY := Lib.hid key2
      clear key2
      go_upto_region 14 with (go_at_call 40; refine (HOK.out _).mono ?_; intro e w7 hh; obtain ⟨rb, hh1, a7, b7⟩ := hh; subst hh1; have A7 := Lib.hid a7; have B7 := Lib.hid b7; have hst := rmstep_no a7 (by rw [HY.out.1]; decide); have hov := rmover a7; rw [decide_eq_false (show y.ph ≠ .off by rw [HY.out.1]; decide)] at hov; have hgt := rmgot a7; rw [if_neg (show ¬ y.is = true by rw [HY.out.2]; decide)] at hgt; clear a7 b7)
      go_upto_region 15 with (first
        | (go_at_call 43; refine hst.mono ?_; intro e w8 hh; obtain ⟨hh1, hh2⟩ := hh; subst hh1; obtain rfl := hh2.symm; clear hst)
        | (go_at_call 42; refine hov.mono ?_; intro e w8 hh; obtain ⟨hh1, hh2⟩ := hh; subst hh1; obtain rfl := hh2.symm; clear hov))
      go_upto_region 16 with (go_at_call 41; refine hgt.mono ?_; intro e w9 hh; obtain ⟨hh1, b9⟩ := hh; subst hh1; have B9 := Lib.hid (B7.out.trans (b9.mono B7.out.size)); clear b9 hgt)
      have b10 := below_alloc w9 (.cells #[.int .i64 0, .int .i64 0, .int .i64 0] 71)
      have B10 := Lib.hid (B9.out.trans (b10.mono B9.out.size))
      clear b10 A7 B9
      change Code.wp _ _ _ _ (w9.alloc (.cells #[.int .i64 0, .int .i64 0, .int .i64 0] 71))
      generalize w9.alloc (.cells #[.int .i64 0, .int .i64 0, .int .i64 0] 71) = w10 at *
      have hsm := KEY.out _ B10.out
      have hq10 := (B10.out.block _ (Array.getElem?_eq_some_iff.1 HQ6.out).1).trans HQ6.out
      have p0 := hcell hq10 0
      have p1 := hcell hq10 1
      clear hq10
      go_wp2_with (first
        | (go_at_call 22; refine hsm.mono ?_; intro e w12 hh; obtain ⟨hh1, b12⟩ := hh; subst hh1; have B12 := Lib.hid (B10.out.trans (b12.mono B10.out.size)); clear hsm b12 p0 p1)
        | (go_at_call 44; refine (lives18 _).mono ?_; intro e w13 hh; obtain ⟨hh1, b13⟩ := hh; subst hh1; have B13 := Lib.hid (B12.out.trans (b13.mono B12.out.size)); clear b13))
      go_ret
      have h0 := HP6.out.ws.below
      exact ⟨rfl, h0.trans (B13.out.mono h0.size)⟩
theorem walkRoomsVoid (b : Int) (hb : (Lit.int .i64 b).wf = true) (h : Int) (hh : (Lit.int .u64 h).wf = true) (w : World) : Calls Tryz.prog 7 #[.int .i64 b, .int .u64 h] w fun e w' => e = .returned (.bool true) ∧ Below w.heap.size w w' := rmvoid_any b h (wf_bd hh) w
end Go.Proofs.YtomllmlieeaaiaaGreat
