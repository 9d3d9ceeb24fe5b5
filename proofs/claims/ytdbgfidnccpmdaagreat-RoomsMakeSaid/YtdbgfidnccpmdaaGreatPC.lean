/-
  Texts of this prover, merged: Room, RoomLook, RoomHop, RoomSearch, PathsTab, PathsRun, RoomWay, FullWay, RoomLives, RoomRun, Stand18.
-/
import Derived.Test.YtdbgfidnccpmdaaGreatP3
import Derived.Test.YtdbgfidnccpmdaaGreatP1
import Derived.Test.YtdbgfidnccpmdaaGreatPA
import Derived.Test.YtdbgfidnccpmdaaGreatOpen
import Derived.Test.YtdbgfidnccpmdaaGreatP2
import Derived.Test.YtdbgfidnccpmdaaGreatPB
import Derived.Laws.EntriesVeiled
import Derived.OwnWalk
import Derived.Deep.RegionHeld2
import Derived.Laws.Tables
import Derived.Laws.CopyOwn
import Derived.Deep.WholeRow
import Derived.Deep.DeepCutAuto
import Derived.Deep.CutBlock
/-
  A Room: what lies in memory; what is told of it; how it begins.
-/
namespace Go.Proofs.YtdbgfidnccpmdaaGreat
open Go.RowKit Go.Maps TagPure
set_option linter.unusedVariables false

/-- What comes next. -/
inductive RPh where
  | look | search | hop | off
deriving DecidableEq
def RPh.fn : RPh → Value
  | .look => .func (.func 122) #[] #[]
  | .search => .func (.func 192) #[] #[]
  | .hop => .func (.func 235) #[] #[]
  | .off => .nilFunc
/-- A Room's words. -/
structure RM where
  bits : Int
  l : List Int
  a : Int
  b : Int
  ph : RPh
  way : Option Addr
  hops : Option Addr
  sb : Int
  su : Int
  sk : Int
  is : Bool
def RM.cells (x : RM) (v : Value) : Array Value := #[.int .i64 x.bits, v, .int .i64 x.a, .int .i64 x.b, x.ph.fn, .pointer x.way, .pointer x.hops, .int .i64 x.sb, .int .i64 x.su, .int .i64 x.sk, .bool x.is]
/-- A row of numbers, from somewhere in its block on. -/
def SlI (w : World) (v : Value) (l : List Int) : Prop :=
  ∃ a c, v = .slice a l.length c ∧ l.length ≤ c ∧ c ≤ maxLen ∧ (l = [] ∨ ∃ g o cur, a = some ⟨g, o, none⟩ ∧ w.heap[g]? = some (.cells cur 3 (0, 0)) ∧ ∀ i, (hi : i < l.length) → cur[o + i]? = some (.int .i64 l[i]))
structure RoomAt (w : World) (lo rb : Nat) (x : RM) : Prop where
  low : lo ≤ rb
  ex : ∃ v, w.heap[rb]? = some (.cells (x.cells v) 250 (0, 0)) ∧ SlI w v x.l
section
variable {w w' : World} {lo lo' rb : Nat} {x y : RM}
theorem SlI.fr {v : Value} {l : List Int} {K : TypeId → Bool} {mp : Bool} (h : SlI w v l) (hf : Fr K mp w w') (hK : K 3 = false) : SlI w' v l := by
  obtain ⟨a, c, h1, h2, h3, h4⟩ := h
  refine ⟨a, c, h1, h2, h3, h4.imp id ?_⟩
  rintro ⟨g, o, cur, h5, h6, h7⟩
  exact ⟨g, o, cur, h5, hf.cells _ _ _ _ h6 hK, h7⟩
theorem RoomAt.fr {K : TypeId → Bool} {mp : Bool} (h : RoomAt w lo rb x) (hf : Fr K mp w w') (h1 : K 250 = false) (h2 : K 3 = false) : RoomAt w' lo rb x := by
  obtain ⟨l0, v, b1, b2⟩ := h
  exact ⟨l0, v, hf.cells _ _ _ _ b1 h1, b2.fr hf h2⟩
theorem RoomAt.below (h : RoomAt w lo rb x) (hb : Below w.heap.size w w') : RoomAt w' lo rb x := h.fr (below_fr hb (fun _ => false) false) rfl rfl
theorem RoomAt.lower (h : RoomAt w lo rb x) (hl : lo' ≤ lo) : RoomAt w lo' rb x := ⟨Nat.le_trans hl h.low, h.ex⟩
theorem RoomAt.set (h : RoomAt w lo rb x) (o : Nat) (u : Value) (hl : y.l = x.l) (hc : ∀ v, (x.cells v).setIfInBounds o u = y.cells v) : RoomAt (w.setCell ⟨rb, o, none⟩ u) lo rb y := by
  obtain ⟨l0, v, b1, b2⟩ := h
  have g := setCell_same b1 o u
  rw [hc] at g
  refine ⟨l0, v, g, ?_⟩
  rw [hl]
  exact b2.fr (set_ty b1 o u) rfl
theorem RoomAt.blk (h : RoomAt w lo rb x) : ∃ cs, w.heap[rb]? = some (.cells cs 250 (0, 0)) := by obtain ⟨_, v, b1, _⟩ := h; exact ⟨_, b1⟩
theorem RoomAt.lt (h : RoomAt w lo rb x) : rb < w.heap.size := by obtain ⟨cs, b1⟩ := h.blk; exact (Array.getElem?_eq_some_iff.1 b1).1
theorem RoomAt.c (h : RoomAt w lo rb x) : w.cell? ⟨rb, 0, none⟩ = some (.int .i64 x.bits) ∧ w.cell? ⟨rb, 2, none⟩ = some (.int .i64 x.a) ∧ w.cell? ⟨rb, 3, none⟩ = some (.int .i64 x.b) ∧ w.cell? ⟨rb, 4, none⟩ = some x.ph.fn ∧ w.cell? ⟨rb, 5, none⟩ = some (.pointer x.way) ∧ w.cell? ⟨rb, 6, none⟩ = some (.pointer x.hops) ∧ w.cell? ⟨rb, 7, none⟩ = some (.int .i64 x.sb) ∧ w.cell? ⟨rb, 8, none⟩ = some (.int .i64 x.su) ∧ w.cell? ⟨rb, 9, none⟩ = some (.int .i64 x.sk) ∧ w.cell? ⟨rb, 10, none⟩ = some (.bool x.is) := by
  obtain ⟨_, v, b1, b2⟩ := h
  exact ⟨hcell b1 0, hcell b1 2, hcell b1 3, hcell b1 4, hcell b1 5, hcell b1 6, hcell b1 7, hcell b1 8, hcell b1 9, hcell b1 10⟩
theorem RoomAt.f (h : RoomAt w lo rb x) (o : Nat) : w.frozen? ⟨rb, o, none⟩ = false := by obtain ⟨cs, b1⟩ := h.blk; exact hfrz b1 o
end
theorem rfn_eql (p : RPh) (W : World) : Sem.run Tryz.prog (binOp BinOp.eql 248 p.fn Value.nilFunc) W = .ok (.bool (decide (p = .off))) W := by cases p <;> kernel_rfl
/-- Is it over? -/
theorem rmover {w : World} {lo rb : Nat} {x : RM} (h : RoomAt w lo rb x) : Calls Tryz.prog 60 #[.pointer (some ⟨rb, 0, none⟩)] w fun e w' => e = .returned (.bool (decide (x.ph = .off))) ∧ w' = w := by
  obtain ⟨-, -, -, c4, -⟩ := h.c
  have hrun := rfn_eql x.ph w
  clear h
  generalize x.ph = q at *
  generalize hd : decide (q = .off) = d at *
  cases q
  all_goals
    simp only [RPh.fn] at c4 hrun
    clear hd
    go_enter Tryz.func60, Tryz.ntmps60
    go_wp2
    go_ret
    exact ⟨rfl, rfl⟩
theorem rmover_nil (w : World) : Calls Tryz.prog 60 #[.pointer none] w fun e w' => e = .returned (.bool true) ∧ w' = w := by
  go_enter Tryz.func60, Tryz.ntmps60
  go_wp2
  go_ret
  exact ⟨rfl, rfl⟩
theorem rmstep_nil (u : Value) (w : World) : Calls Tryz.prog 49 #[.pointer none, u] w fun e w' => e = .returned (.bool true) ∧ w' = w := by
  go_enter Tryz.func49, Tryz.ntmps49
  go_wp2_with (go_at_call 60; refine (rmover_nil _).mono ?_; intro e w2 hh; obtain ⟨hh1, hh2⟩ := hh; subst hh1; obtain rfl := hh2.symm)
  go_ret
  exact ⟨rfl, rfl⟩
theorem rmstep_over {w : World} {lo rb : Nat} {x : RM} (h : RoomAt w lo rb x) (ho : x.ph = .off) (u : Value) : Calls Tryz.prog 49 #[.pointer (some ⟨rb, 0, none⟩), u] w fun e w' => e = .returned (.bool true) ∧ w' = w := by
  have hv := rmover h
  rw [decide_eq_true ho] at hv
  clear h ho
  go_enter Tryz.func49, Tryz.ntmps49
  go_wp2_with (go_at_call 60; refine hv.mono ?_; intro e w2 hh; obtain ⟨hh1, hh2⟩ := hh; subst hh1; obtain rfl := hh2.symm)
  go_ret
  exact ⟨rfl, rfl⟩
theorem rmstep_no {w : World} {lo rb : Nat} {x : RM} (h : RoomAt w lo rb x) (ho : x.ph ≠ .off) : Calls Tryz.prog 49 #[.pointer (some ⟨rb, 0, none⟩), .pointer none] w fun e w' => e = .returned (.bool false) ∧ w' = w := by
  have hv := rmover h
  rw [decide_eq_false ho] at hv
  clear h ho
  go_enter Tryz.func49, Tryz.ntmps49
  go_wp2_with (go_at_call 60; refine hv.mono ?_; intro e w2 hh; obtain ⟨hh1, hh2⟩ := hh; subst hh1; obtain rfl := hh2.symm)
  go_ret
  exact ⟨rfl, rfl⟩
theorem rmgot_nil (w : World) : Calls Tryz.prog 59 #[.pointer none] w fun e w' => e = .returned (.tuple #[.agg #[.int .i64 0, .int .i64 0, .int .i64 0], .bool false]) ∧ Below w.heap.size w w' := by
  have hb := below_alloc w (.cells #[.int .i64 0, .int .i64 0, .int .i64 0] 43)
  go_enter Tryz.func59, Tryz.ntmps59
  go_wp2
  refine bodyPost_ret (v := .tuple #[.agg #[.int .i64 0, .int .i64 0, .int .i64 0], .bool false]) (by simp [results, Tryz.results59, go_sem]) rfl ⟨rfl, ?_⟩
  exact hb
theorem rmgot {w : World} {lo rb : Nat} {x : RM} (h : RoomAt w lo rb x) : Calls Tryz.prog 59 #[.pointer (some ⟨rb, 0, none⟩)] w fun e w' => e = .returned (.tuple (if x.is = true then #[.agg #[.int .i64 x.sb, .int .i64 x.su, .int .i64 x.sk], .bool true] else #[.agg #[.int .i64 0, .int .i64 0, .int .i64 0], .bool false])) ∧ Below w.heap.size w w' := by
  obtain ⟨-, -, -, -, -, -, c7, c8, c9, c10⟩ := h.c
  have hne := h.lt
  have hb := below_alloc w (.cells #[.int .i64 0, .int .i64 0, .int .i64 0] 43)
  have hz := heap_alloc_new w (.cells #[.int .i64 0, .int .i64 0, .int .i64 0] 43)
  have k : ∀ {j : Nat} {u : Value}, w.cell? ⟨rb, j, none⟩ = some u → (w.alloc (.cells #[.int .i64 0, .int .i64 0, .int .i64 0] 43)).cell? ⟨rb, j, none⟩ = some u := fun h => (hb.cell hne).trans h
  have hne2 : rb ≠ w.heap.size := Nat.ne_of_lt hne
  have g7 := k c7; have g8 := k c8; have g9 := k c9; have g10 := k c10
  have d0 := hcell hz 0; have d1 := hcell hz 1; have d2 := hcell hz 2
  have f0 := hfrz hz 0; have f1 := hfrz hz 1; have f2 := hfrz hz 2
  have HB := Lib.hid hb; have HZ := Lib.hid hz
  clear h c7 c8 c9 c10 k hb hz hne
  generalize x.is = is at *
  cases is
  · go_enter Tryz.func59, Tryz.ntmps59
    go_upto_region 1 with (fail)
    change Code.wp _ _ _ _ (w.alloc (.cells #[.int .i64 0, .int .i64 0, .int .i64 0] 43))
    generalize w.alloc (.cells #[.int .i64 0, .int .i64 0, .int .i64 0] 43) = w1 at *
    have s1 := setCell_same HZ.out 0 (.int .i64 0)
    have s2 := setCell_same s1 1 (.int .i64 0)
    have s3 := setCell_same s2 2 (.int .i64 0)
    have h0 := hcell s3 0; have h1 := hcell s3 1; have h2 := hcell s3 2
    have b1 := set_below HB.out HB.out.size (Nat.le_refl _) 0 (.int .i64 0)
    have b2 := set_below b1 b1.size (Nat.le_refl _) 1 (.int .i64 0)
    have b3 := set_below b2 b2.size (Nat.le_refl _) 2 (.int .i64 0)
    have B3 := Lib.hid b3; have H0 := Lib.hid h0; have H1 := Lib.hid h1; have H2 := Lib.hid h2
    clear s1 s2 s3 h0 h1 h2 b1 b2 b3
    go_wp2_with fail
    have h0 := H0.out; have h1 := H1.out; have h2 := H2.out
    refine bodyPost_ret (v := .tuple #[.agg #[.int .i64 0, .int .i64 0, .int .i64 0], .bool false]) (by simp [results, Tryz.results59, go_sem, h0, h1, h2]) rfl ⟨rfl, B3.out⟩
  · go_enter Tryz.func59, Tryz.ntmps59
    go_upto_region 1 with (fail)
    change Code.wp _ _ _ _ (w.alloc (.cells #[.int .i64 0, .int .i64 0, .int .i64 0] 43))
    generalize w.alloc (.cells #[.int .i64 0, .int .i64 0, .int .i64 0] 43) = w1 at *
    have s1 := setCell_same HZ.out 0 (.int .i64 x.sb)
    have s2 := setCell_same s1 1 (.int .i64 x.su)
    have s3 := setCell_same s2 2 (.int .i64 x.sk)
    have h0 := hcell s3 0; have h1 := hcell s3 1; have h2 := hcell s3 2
    have b1 := set_below HB.out HB.out.size (Nat.le_refl _) 0 (.int .i64 x.sb)
    have b2 := set_below b1 b1.size (Nat.le_refl _) 1 (.int .i64 x.su)
    have b3 := set_below b2 b2.size (Nat.le_refl _) 2 (.int .i64 x.sk)
    have B3 := Lib.hid b3; have H0 := Lib.hid h0; have H1 := Lib.hid h1; have H2 := Lib.hid h2
    clear s1 s2 s3 h0 h1 h2 b1 b2 b3
    go_wp2_with fail
    have h0 := H0.out; have h1 := H1.out; have h2 := H2.out
    refine bodyPost_ret (v := .tuple #[.agg #[.int .i64 x.sb, .int .i64 x.su, .int .i64 x.sk], .bool true]) (by simp [results, Tryz.results59, go_sem, h0, h1, h2]) rfl ⟨rfl, B3.out⟩
def rmvoid : RM := ⟨0, [], 0, 0, .off, none, none, 0, 0, 0, false⟩
def rmnew (bits a b : Int) : RM := ⟨bits, if b = a then [a] else [a, b], a, b, .look, none, none, 0, 0, 0, false⟩
theorem newroom_no (bits h : Int) (hb : tsize bits = 0) (w : World) : Calls Tryz.prog 45 #[.int .i64 bits, .int .u64 h] w fun e w' => ∃ rb, e = .returned (.pointer (some ⟨rb, 0, none⟩)) ∧ RoomAt w' w.heap.size rb rmvoid ∧ Below w.heap.size w w' := by
  have hs := fun W => size_any bits W
  rw [hb] at hs
  have b1 := below_alloc w (.cells (rmvoid.cells (.slice none 0 0)) 250)
  have z1 := heap_alloc_new w (.cells (rmvoid.cells (.slice none 0 0)) 250)
  have HB := Lib.hid b1; have HZ := Lib.hid z1
  clear hb b1 z1
  go_enter Tryz.func45, Tryz.ntmps45
  go_wp2_with (go_at_call 121; refine (hs _).mono ?_; intro e w2 hh; obtain ⟨hh1, hh2⟩ := hh; subst hh1; obtain rfl := hh2.symm)
  go_ret
  exact ⟨_, rfl, ⟨Nat.le_refl _, _, HZ.out, none, 0, rfl, Nat.le_refl _, Nat.zero_le _, .inl rfl⟩, HB.out⟩
set_option maxRecDepth 10000 in
set_option maxHeartbeats 1000000 in
theorem newroom_ok (bits h : Int) (hb : 1 ≤ bits ∧ bits ≤ 12) (h0 : 0 ≤ h ∧ h < 18446744073709551616) (w : World) : Calls Tryz.prog 45 #[.int .i64 bits, .int .u64 h] w fun e w' => ∃ rb, e = .returned (.pointer (some ⟨rb, 0, none⟩)) ∧ RoomAt w' w.heap.size rb (rmnew bits (bk h bits) (oth (bk h bits) (tag01 h) bits)) ∧ Below w.heap.size w w' := by
  have hs := fun W => size_any bits W
  have hbk := fun W => bucket_fn h bits h0.1 h0.2 hb W
  have htg := fun W => tag_fn h h0.1 h0.2 W
  have hko := bk_bd h bits hb
  have hto := tag01_bd h h0.1 h0.2
  have hot := fun W => other_fn (bk h bits) (tag01 h) bits hb hko hto W
  have hsz : (tsize bits == 0) = false := beq_eq_false_iff_ne.2 (by omega)
  obtain ⟨a, ha⟩ : ∃ a, a = bk h bits := ⟨_, rfl⟩
  obtain ⟨b, hbb⟩ : ∃ b, b = oth (bk h bits) (tag01 h) bits := ⟨_, rfl⟩
  obtain ⟨tg0, htg0⟩ : ∃ tg0, tg0 = tag01 h := ⟨_, rfl⟩
  rw [← hbb] at hot ⊢
  rw [← ha] at hbk hot ⊢
  rw [← htg0] at htg hot
  obtain ⟨i0, hi0, hz0, hz1, hz2⟩ := info_parts info_int1
  have HI := Lib.hid hi0; have HZ0 := Lib.hid hz0; have HZ1 := Lib.hid hz1; have HZ2 := Lib.hid hz2
  generalize tsize bits = ts at *
  clear hb h0 hko hto ha hbb htg0 hi0 hz0 hz1 hz2
  have k1 := below_alloc w (.cells #[.int .i64 a] 3)
  have n1 := heap_alloc_new w (.cells #[.int .i64 a] 3)
  have hs1 : (w.alloc (.cells #[.int .i64 a] 3)).heap.size = w.heap.size + 1 := by simp
  have k2 := below_alloc (w.alloc (.cells #[.int .i64 a] 3)) (.cells ((⟨bits, [a], a, b, .look, none, none, 0, 0, 0, false⟩ : RM).cells (.slice (some ⟨w.heap.size, 0, none⟩) 1 1)) 250)
  have n2 := heap_alloc_new (w.alloc (.cells #[.int .i64 a] 3)) (.cells ((⟨bits, [a], a, b, .look, none, none, 0, 0, 0, false⟩ : RM).cells (.slice (some ⟨w.heap.size, 0, none⟩) 1 1)) 250)
  have n1' := (k2.block _ (Array.getElem?_eq_some_iff.1 n1).1).trans n1
  rw [hs1] at n2
  have KB := Lib.hid (k1.trans (k2.mono k1.size)); have N1 := Lib.hid n1'; have N2 := Lib.hid n2
  clear k1 n1 hs1 k2 n2 n1'
  go_enter Tryz.func45, Tryz.ntmps45
  go_upto_region 6 with (first
    | (go_at_call 121; refine (hs _).mono ?_; intro e w2 hh; obtain ⟨hh1, hh2⟩ := hh; subst hh1; obtain rfl := hh2.symm)
    | (go_at_call 54; refine (hbk _).mono ?_; intro e w2 hh; obtain ⟨hh1, hh2⟩ := hh; subst hh1; obtain rfl := hh2.symm)
    | (go_at_call 56; refine (htg _).mono ?_; intro e w2 hh; obtain ⟨hh1, hh2⟩ := hh; subst hh1; obtain rfl := hh2.symm)
    | (go_at_call 55; refine (hot _).mono ?_; intro e w2 hh; obtain ⟨hh1, hh2⟩ := hh; subst hh1; obtain rfl := hh2.symm))
  change Code.wp _ _ _ _ ((w.alloc (.cells #[.int .i64 a] 3)).alloc (.cells ((⟨bits, [a], a, b, .look, none, none, 0, 0, 0, false⟩ : RM).cells (.slice (some ⟨w.heap.size, 0, none⟩) 1 1)) 250))
  generalize (w.alloc (.cells #[.int .i64 a] 3)).alloc (.cells ((⟨bits, [a], a, b, .look, none, none, 0, 0, 0, false⟩ : RM).cells (.slice (some ⟨w.heap.size, 0, none⟩) 1 1)) 250) = w1 at *
  by_cases hba : b = a
  · subst hba
    have hq : (b != b) = false := by simp
    go_wp2
    go_ret
    refine ⟨w.heap.size + 1, rfl, ⟨Nat.le_succ _, .slice (some ⟨w.heap.size, 0, none⟩) 1 1, ?_, ?_⟩, KB.out⟩
    · have e : (rmnew bits b b) = ⟨bits, [b], b, b, .look, none, none, 0, 0, 0, false⟩ := by unfold rmnew; rw [if_pos rfl]
      rw [e]; exact N2.out
    · have e : (rmnew bits b b).l = [b] := by show (if b = b then [b] else [b, b]) = [b]; rw [if_pos rfl]
      rw [e]
      exact ⟨_, 1, rfl, Nat.le_refl _, by unfold maxLen; omega, .inr ⟨w.heap.size, 0, _, rfl, N1.out, fun i hi => by
        have : i = 0 := by simp at hi; omega
        subst this; rfl⟩⟩
  · have hq : (b != a) = true := bne_iff_ne.2 hba
    have HBA := Lib.hid hba
    have hs1 : Hid (w.heap.size + 1 < w1.heap.size) := Lib.hid (Array.getElem?_eq_some_iff.1 N2.out).1
    have OW : Hid (w1.ownsRow w.heap.size 3 1 (.slice (some ⟨w.heap.size, 0, none⟩) 1 1) 1 [.int .i64 a]) := Lib.hid ⟨rfl, .inr ⟨w.heap.size, 1, _, rfl, Nat.le_refl _, N1.out, Nat.le_refl _, by unfold maxLen; decide, rfl, rfl⟩⟩
    have c1 : w1.cell? ⟨w.heap.size + 1, 1, none⟩ = some (.slice (some ⟨w.heap.size, 0, none⟩) 1 1) := hcell N2.out 1
    clear hba
    go_wp2_with (at_builtin; refine wpList_append_lies _ rfl _ _ 103 rfl w.heap.size 3 i0 (.int .i64 0) 1 8 Tryz.underlying103 HI.out HZ0.out HZ1.out HZ2.out rfl (by decide) (.slice (some ⟨w.heap.size, 0, none⟩) 1 1) 1 [.int .i64 a] rfl (OW.out.alloc _) ⟨w1.heap.size, 0, none⟩ 1 1 [.int .i64 b] rfl rfl ?c1 ?c2 (by decide) ?c3 ?c4 ?c5 (w1.heap.size + 1) (by simp) ?_)
    case c1 => exact World.news_of_block (heap_alloc_new w1 _)
    case c2 => simp [Value.oneCell']
    case c3 => unfold maxLen; omega
    case c4 => omega
    case c5 => have := hs1.out; simp; omega
    intro g2 c6 w6 hown' hgrow hkb hlt6
    have kb3 := below_alloc w1 (.cells #[.int .i64 b] 3)
    have gk := grown_keeps hgrow
    have hx2 := (kb3.block _ (Array.getElem?_eq_some_iff.1 N2.out).1).trans N2.out
    have hx6 := (gk.block _ (Array.getElem?_eq_some_iff.1 hx2).1 (fun c => by simp only [Value.ownBlock, Option.some.injEq] at c; omega)).trans hx2
    have c6' : w6.cell? ⟨w.heap.size + 1, 1, none⟩ = some (.slice (some ⟨w.heap.size, 0, none⟩) 1 1) := hcell hx6 1
    have f6 : w6.frozen? ⟨w.heap.size + 1, 1, none⟩ = false := hfrz hx6 1
    have bw2 := KB.out.trans (kb3.mono KB.out.size)
    have bw6 := keeps_below gk bw2 bw2.size (fun k hk => by simp only [Value.ownBlock, Option.some.injEq] at hk; omega)
    have BW := Lib.hid (bw6.setCell (p := ⟨w.heap.size + 1, 1, none⟩) (Nat.le_succ _) (.slice (some ⟨g2, 0, none⟩) 2 c6))
    have hxE := setCell_same hx6 1 (.slice (some ⟨g2, 0, none⟩) 2 c6)
    have hge : g2 ≠ w.heap.size + 1 := by
      have := hs1.out
      rcases hkb with e | e
      · simp only [Value.ownBlock, Option.some.injEq] at e; omega
      · omega
    have hsl : SlI (w6.setCell ⟨w.heap.size + 1, 1, none⟩ (.slice (some ⟨g2, 0, none⟩) 2 c6)) (.slice (some ⟨g2, 0, none⟩) 2 c6) [a, b] := by
      obtain ⟨-, ⟨e, -⟩ | ⟨g, cap, cur, e, h2, h3, h4, h5, h6, h7⟩⟩ := hown'
      · cases e
      · simp only [Value.slice.injEq, Option.some.injEq, Addr.mk.injEq, and_true, true_and] at e
        obtain ⟨rfl, rfl⟩ := e
        refine ⟨_, c6, rfl, h4, h5, .inr ⟨g2, 0, cur, rfl, ?_, fun i hi => ?_⟩⟩
        · exact (set_ty hx6 1 _).cells _ _ _ _ h3 rfl
        · have hi2 : i < 2 := hi
          have h8 : (cur.toList.take ((1 + 1) * 1))[i]? = ([.int .i64 a] ++ [.int .i64 b] : List Value)[i]? := by rw [h7]; rfl
          rw [List.getElem?_take, if_pos (by omega), Array.getElem?_toList] at h8
          rw [Nat.zero_add, h8]
          rcases (show i = 0 ∨ i = 1 by omega) with rfl | rfl <;> rfl
    have FIN := Lib.hid (And.intro hxE hsl)
    clear kb3 gk hx2 hx6 bw2 bw6 hxE hge hsl hown' hgrow hkb hlt6 c1
    go_wp2
    go_ret
    refine ⟨w.heap.size + 1, rfl, ⟨Nat.le_succ _, .slice (some ⟨g2, 0, none⟩) 2 c6, ?_, ?_⟩, BW.out⟩
    rotate_left
    · have e : (rmnew bits a b).l = [a, b] := by show (if b = a then [a] else [a, b]) = [a, b]; rw [if_neg HBA.out]
      rw [e]; exact FIN.out.2
    · have e : (rmnew bits a b) = ⟨bits, [a, b], a, b, .look, none, none, 0, 0, 0, false⟩ := by unfold rmnew; rw [if_neg HBA.out]
      rw [e]; exact FIN.out.1
end Go.Proofs.YtdbgfidnccpmdaaGreat

/-
  A Room: a look into a bucket.
-/
namespace Go.Proofs.YtdbgfidnccpmdaaGreat
open Go.RowKit Go.Maps TagPure
set_option linter.unusedVariables false

/-- A world, and a Room in it. -/
structure RMB (w0 w W : World) (B : WB) (V : WV) (s : CS) (rb : Nat) (x : RM) : Prop where
  ws : WS w0 W B V s
  rm : RoomAt W w0.heap.size rb x
  fx : Fx wTy true rb w W
section
variable {w0 w W W' : World} {B : WB} {V : WV} {s s' : CS} {rb : Nat} {x y : RM}
theorem RMB.below (h : RMB w0 w W B V s rb x) (hb : Below W.heap.size W W') : RMB w0 w W' B V s rb x := ⟨h.ws.keep hb, h.rm.below hb, h.fx.trans ((below_fr hb wTy true).fx rb)⟩
theorem RMB.set (h : RMB w0 w W B V s rb x) (o : Nat) (u : Value) (hl : y.l = x.l) (hc : ∀ v, (x.cells v).setIfInBounds o u = y.cells v) : RMB w0 w (W.setCell ⟨rb, o, none⟩ u) B V s rb y := by
  obtain ⟨cs, b1⟩ := h.rm.blk
  exact ⟨set_take h.ws b1 rfl h.rm.low u, h.rm.set o u hl hc, h.fx.trans (set_fx wTy true W rb o u)⟩
theorem RMB.setl (h : RMB w0 w W B V s rb x) {v : Value} {l : List Int} (hv : SlI W v l) : RMB w0 w (W.setCell ⟨rb, 1, none⟩ v) B V s rb { x with l := l } := by
  obtain ⟨l0, u, b1, b2⟩ := h.rm
  exact ⟨set_take h.ws b1 rfl l0 v, ⟨l0, v, setCell_same b1 1 v, hv.fr (set_ty b1 1 v) rfl⟩, h.fx.trans (set_fx wTy true W rb 1 v)⟩
theorem RMB.move (h : RMB w0 w W B V s rb x) (h2 : WS w0 W' B V s') (hf : Fr wTy true W W') : RMB w0 w W' B V s' rb x := ⟨h2, h.rm.fr hf rfl rfl, h.fx.trans (hf.fx rb)⟩
end
theorem sli_pop {w : World} {v : Value} {c : Int} {r : List Int} (h : SlI w v (c :: r)) : ∃ g o k, v = .slice (some ⟨g, o, none⟩) (r.length + 1) (k + 1) ∧ w.cell? ⟨g, o, none⟩ = some (.int .i64 c) ∧ r.length ≤ k ∧ k + 1 ≤ maxLen ∧ SlI w (.slice (some ⟨g, if k = 0 then o else o + 1, none⟩) r.length k) r := by
  obtain ⟨a, q, rfl, h1, h2, h3 | ⟨g, o, cur, rfl, hg, hi⟩⟩ := h
  · cases h3
  · have h0 := hi 0 (by simp)
    rw [Nat.add_zero] at h0
    rw [List.length_cons] at h1
    obtain ⟨k, rfl⟩ : ∃ k, q = k + 1 := ⟨q - 1, by omega⟩
    refine ⟨g, o, k, rfl, by rw [hcell hg]; exact h0, by omega, h2, _, k, rfl, by omega, by omega, ?_⟩
    by_cases hk : k = 0
    · exact .inl (List.eq_nil_of_length_eq_zero (by omega))
    · rw [if_neg hk]
      refine .inr ⟨g, o + 1, cur, rfl, hg, fun i hir => ?_⟩
      have := hi (i + 1) (by simp; exact hir)
      rw [show o + 1 + i = o + (i + 1) by omega, this]
      simp
theorem ends_any {w0 w W : World} {B : WB} {V : WV} {s : CS} {rb : Nat} {x : RM} (h : RMB w0 w W B V s rb x) (p q k : Int) : Calls Tryz.prog 191 #[.pointer (some ⟨rb, 0, none⟩), .agg #[.int .i64 p, .int .i64 q, .int .i64 k]] W fun e w' => e = .returned (.tuple #[]) ∧ RMB w0 w w' B V s rb { x with sb := p, su := q, sk := k, is := true, ph := .off } := by
  have hb := below_alloc W (.cells #[.int .i64 p, .int .i64 q, .int .i64 k] 43)
  have hz := heap_alloc_new W (.cells #[.int .i64 p, .int .i64 q, .int .i64 k] 43)
  have H1 := Lib.hid (h.below hb); have HZ := Lib.hid hz
  clear h hb hz
  go_enter Tryz.func191, Tryz.ntmps191
  go_upto_region 1 with (fail)
  change Code.wp _ _ _ _ (W.alloc (.cells #[.int .i64 p, .int .i64 q, .int .i64 k] 43))
  generalize W.alloc (.cells #[.int .i64 p, .int .i64 q, .int .i64 k] 43) = W1 at *
  generalize W.heap.size = sb at *
  have m0 := hcell HZ.out 0
  have m1 := hcell HZ.out 1
  have m2 := hcell HZ.out 2
  obtain ⟨-, -, -, c4, -, -, c7, c8, c9, c10⟩ := H1.out.rm.c
  have ff := H1.out.rm.f
  have H2 := Lib.hid (((((H1.out.set (y := { x with sb := p }) 7 (.int .i64 p) rfl (fun _ => rfl)).set (y := { x with sb := p, su := q }) 8 (.int .i64 q) rfl (fun _ => rfl)).set (y := { x with sb := p, su := q, sk := k }) 9 (.int .i64 k) rfl (fun _ => rfl)).set (y := { x with sb := p, su := q, sk := k, is := true }) 10 (.bool true) rfl (fun _ => rfl)).set (y := { x with sb := p, su := q, sk := k, is := true, ph := .off }) 4 (.nilFunc) rfl (fun _ => rfl))
  generalize hph : x.ph = ph at *
  cases ph
  all_goals
    simp only [RPh.fn] at c4
    go_wp2_with fail
    go_end0
    first | exact ⟨rfl, H2.out⟩ | (rw [← hph] at H2; exact ⟨rfl, H2.out⟩)
abbrev TLk (nb wb cb : Nat) (b c : Int) (W : World) : Prop := W.cell? ⟨wb, 0, none⟩ = some (.pointer (some ⟨cb, 0, none⟩)) ∧ W.cell? ⟨nb, 0, none⟩ = some (.int .i64 b) ∧ W.cell? ⟨nb, 1, none⟩ = some (.int .i64 c)
/-- A Room behind a look, the bucket's word being v. -/
def RM.look (x : RM) (v : Int) : RM := match x.l with
  | [] => x
  | c :: r => if frW v = -1 then { x with l := r } else { x with l := r, sb := x.bits, su := c, sk := frW v, is := true, ph := .off }
def RM.adr (x : RM) : Int := match x.l with
  | [] => 0
  | c :: _ => tagsA x.bits c
set_option maxRecDepth 10000 in
set_option maxHeartbeats 4000000 in
/-- A look that finds a free slot, or where a bucket is left. -/
theorem look_any {w0 w : World} {B : WB} {V : WV} {s : CS} {rb : Nat} {x : RM} (h : WS w0 w B V s) (hr : s.room) (hx : RoomAt w w0.heap.size rb x) (c : Int) (r : List Int) (hl : x.l = c :: r) (hll : r.length ≤ 10) (hgo : 0 ≤ frW (s.val (tagsA x.bits c)) ∨ r ≠ []) :
    Calls Tryz.prog 122 #[.pointer (some ⟨rb, 0, none⟩), .pointer (some ⟨B.wb, 0, none⟩)] w fun e w' => e = .returned (.tuple #[]) ∧ RMB w0 w w' B V (s.acc 1 (tagsA x.bits c) (s.val (tagsA x.bits c))) rb (x.look (s.val (tagsA x.bits c))) := by
  have hB : RMB w0 w w B V s rb x := ⟨h, hx, ((below_fr (Below.refl _ _) wTy true).fx rb)⟩
  obtain ⟨v, hv⟩ : ∃ v, v = s.val (tagsA x.bits c) := ⟨_, rfl⟩
  have hvb := wf_bd (h.own.wf (tagsA x.bits c))
  have hfin : x.look v = if frW v = -1 then { x with l := r } else { x with l := r, sb := x.bits, su := c, sk := frW v, is := true, ph := .off } := by unfold RM.look; rw [hl]
  rw [← hv] at hvb hgo ⊢
  obtain ⟨A, hA⟩ : ∃ A, A = tagsA x.bits c := ⟨_, rfl⟩
  have hTG := fun W => tags_any x.bits c W
  have hAw : (Lit.int .u64 A).wf = true := by rw [hA]; exact tagsA_wf _ _
  rw [← hA] at hTG hv ⊢
  obtain ⟨l0, u, b1, b2⟩ := hx
  rw [hl] at b2
  obtain ⟨g, o, k, rfl, hc, hrk, hkm, hpop⟩ := sli_pop b2
  obtain ⟨c0, -⟩ := hB.rm.c
  have c1 : w.cell? ⟨rb, 1, none⟩ = some (.slice (some ⟨g, o, none⟩) (r.length + 1) (k + 1)) := hcell b1 1
  have f1 := hfrz b1 1
  obtain ⟨bits, hbt⟩ : ∃ bits, bits = x.bits := ⟨_, rfl⟩
  rw [← hbt] at c0 hTG
  unfold maxLen at hkm
  have hkm2 : (k : Int) + 1 ≤ 9223372036854775807 := by omega
  have al : ∀ (ob : Obj) {q j : Nat} {u : Value}, w.cell? ⟨q, j, none⟩ = some u → (w.alloc ob).cell? ⟨q, j, none⟩ = some u := fun ob q j u hu => by rw [World.cell?_alloc_past _ _ _ (World.block_lt_of_cell? _ _ hu)]; exact hu
  have c0' := fun ob => al ob c0
  have c1' := fun ob => al ob c1
  have hc' := fun ob => al ob hc
  have HB := Lib.hid hB; have HV := Lib.hid hv; have HVB := Lib.hid hvb; have HFIN := Lib.hid hfin; have HGO := Lib.hid hgo; have HAW := Lib.hid hAw; have HR := Lib.hid hr; have HPOP := Lib.hid hpop; have HL := Lib.hid hl; have HLL := Lib.hid hll; have HRK := Lib.hid hrk; have HBT := Lib.hid hbt; have HC1 := Lib.hid c1
  clear h hr hl hll hgo hB hv hvb hfin hA hAw b1 b2 hpop hrk hbt al f1 l0
  go_enter Tryz.func122, Tryz.ntmps122
  go_upto_region 0 with (fail)
  go_region
  go_upto_region 1 with (fail)
  have n1 : (w.alloc (.cells #[.int .i64 bits, .int .i64 c] 41)).drew.heap[w.heap.size]? = some (.cells #[.int .i64 bits, .int .i64 c] 41 (0, 0)) := heap_alloc_new w (.cells #[.int .i64 bits, .int .i64 c] 41)
  have k1 := (below_alloc w (.cells #[.int .i64 bits, .int .i64 c] 41)).drew
  have HB2 := Lib.hid (HB.out.below k1); have N1 := Lib.hid n1
  have HPOP2 := Lib.hid (HPOP.out.fr (below_fr k1 (fun _ => false) false) rfl)
  have c12 : (w.alloc (.cells #[.int .i64 bits, .int .i64 c] 41)).drew.cell? ⟨rb, 1, none⟩ = some (.slice (some ⟨g, o, none⟩) (r.length + 1) (k + 1)) := (k1.cell (World.block_lt_of_cell? _ _ HC1.out)).trans HC1.out
  have f12 := HB2.out.rm.f 1
  clear n1 k1 c0 c1 hc c0' c1' hc' HB HPOP HC1
  generalize (w.alloc (.cells #[.int .i64 bits, .int .i64 c] 41)).drew = w2 at *
  obtain ⟨nb, hnb⟩ : ∃ nb, nb = w.heap.size := ⟨_, rfl⟩
  rw [← hnb] at N1
  try simp only [← hnb]
  clear hnb
  have HB3 := Lib.hid (HB2.out.setl HPOP2.out)
  have HN3 := Lib.hid ((set_ty (show w2.heap[rb]? = some (.cells _ 250 (0, 0)) from HB2.out.rm.blk.choose_spec) 1 (.slice (some ⟨g, if k = 0 then o else o + 1, none⟩) r.length k)).cells _ _ _ _ N1.out rfl)
  clear HB2 HPOP2 N1
  go_cut [22] (fun v22 wx => RMB w0 w wx B V s rb { x with l := r } ∧ wx.heap[nb]? = some (.cells #[.int .i64 bits, .int .i64 c] 41 (0, 0)))
  case first =>
    have hkm3 : ¬ ((k : Int) + 1 = 0) := by omega
    rcases k with _ | k
    · go_wp2_with (fail)
      go_meet
      have h3 := HB3.out
      have n3 := HN3.out
      rw [if_pos trivial] at h3 n3
      exact ⟨h3, n3⟩
    · go_wp2_with (fail)
      go_meet
      have h3 := HB3.out
      have n3 := HN3.out
      rw [if_neg (Nat.succ_ne_zero k)] at h3 n3
      exact ⟨h3, n3⟩
  case rest =>
    obtain ⟨h3, n3⟩ := hcut
    have HB4 := Lib.hid h3; have N4 := Lib.hid n3
    clear h3 n3 HB3 HN3 c12 f12
    generalize wc = w3 at *
    have hb0 : Below w3.heap.size w3 w3.drew := (Below.refl _ _).drew
    have HB5 := Lib.hid (HB4.out.below hb0); have N5 : Hid (w3.drew.heap[nb]? = some (.cells #[.int .i64 bits, .int .i64 c] 41 (0, 0))) := N4.out
    have s1 : TLk nb B.wb B.cb bits c w3.drew := ⟨HB5.out.ws.c0, hcell N5.out 0, hcell N5.out 1⟩
    have hfree := fun W => free_any v W HVB.out.1 HVB.out.2
    have hfe : freeFrom v 0 4 = frW v := rfl
    rw [hfe] at hfree
    clear hfe hb0
    go_upto_region 2 with (fail)
    go_region_held2 (fun W => TLk nb B.wb B.cb bits c W) (assumption) (first
      | (go_at_call 119; refine (hTG _).mono ?_; intro e w4 hh; obtain ⟨hh1, b4⟩ := hh; subst hh1; have HB6 := Lib.hid (HB5.out.below b4); have n6 := (b4.block _ (Array.getElem?_eq_some_iff.1 N5.out).1).trans N5.out; have N6 := Lib.hid n6; have s4 : TLk nb B.wb B.cb bits c w4 := ⟨HB6.out.ws.c0, hcell N6.out 0, hcell N6.out 1⟩; have hld := HB6.out.ws.load HR.out A HAW.out; rw [← HV.out] at hld; clear b4 n6 s1 HB5 N5 hTG)
      | (go_at_call 148; refine hld.mono ?_; intro e w5 hh; obtain ⟨hh1, h5, f5⟩ := hh; subst hh1; have HB7 := Lib.hid (HB6.out.move h5 f5); have N7 := Lib.hid (f5.cells _ _ _ _ N6.out rfl); have s5 : TLk nb B.wb B.cb bits c w5 := ⟨HB7.out.ws.c0, hcell N7.out 0, hcell N7.out 1⟩; clear h5 f5 hld s4 HB6 N6)
      | (go_at_call 190; refine (hfree _).mono ?_; intro e w6 hh; obtain ⟨hh1, b6⟩ := hh; subst hh1; have HB8 := Lib.hid (HB7.out.below b6); have n8 := (b6.block _ (Array.getElem?_eq_some_iff.1 N7.out).1).trans N7.out; have N8 := Lib.hid n8; have s6 : TLk nb B.wb B.cb bits c w6 := ⟨HB8.out.ws.c0, hcell N8.out 0, hcell N8.out 1⟩; clear b6 n8 hfree s5 HB7 N7))
    clear s6 HB4 N4
    obtain ⟨fv, hfv⟩ : ∃ fv, fv = frW v := ⟨_, rfl⟩
    rw [← hfv] at HFIN HGO
    try rw [← hfv]
    have HFV := Lib.hid hfv
    have hfc := free_casesW v
    rw [show freeFrom v 0 4 = fv from hfv.symm] at hfc
    clear hfv
    by_cases hf : fv = -1
    · subst hf
      have hr0 : r ≠ [] := by rcases HGO.out with h | h; exact absurd h (by decide); exact h
      have hlr : 0 < r.length := List.length_pos_iff.2 hr0
      obtain ⟨_, ur, ub, ⟨ua, uc, hua, -⟩⟩ := HB8.out.rm
      have c1 : w6.cell? ⟨rb, 1, none⟩ = some (.slice ua r.length uc) := by have h := hcell ub 1; rw [hua] at h; exact h
      have hz1 : ((r.length : Int) == 0) = false := beq_eq_false_iff_ne.2 (by omega)
      have hz2 : (r.length == 0) = false := beq_eq_false_iff_ne.2 (by omega)
      clear ub hua hfc hr0 hlr
      go_wp2_with (fail)
      go_end0
      refine ⟨rfl, ?_⟩
      rw [HFIN.out, if_pos trivial]
      exact HB8.out
    · have hf0 : 0 ≤ fv := by rcases hfc with h | ⟨q, _, h, _⟩ <;> omega
      have m0 := hcell N8.out 0
      have m1 := hcell N8.out 1
      have hen := ends_any HB8.out bits c fv
      have HNE := Lib.hid hf
      clear hfc hf
      go_wp2_with (go_at_call 191; refine hen.mono ?_; intro e w7 hh; obtain ⟨hh1, h7⟩ := hh; subst hh1; have HB9 := Lib.hid h7; clear h7 hen m0 m1)
      go_end0
      refine ⟨rfl, ?_⟩
      rw [HFIN.out, if_neg HNE.out]
      have h9 := HB9.out
      rw [HBT.out] at h9
      exact h9
/-- A step that looks. -/
theorem rmstep_look {w0 w : World} {B : WB} {V : WV} {s : CS} {rb : Nat} {x : RM} (h : WS w0 w B V s) (hr : s.room) (hx : RoomAt w w0.heap.size rb x) (hp : x.ph = .look) (c : Int) (r : List Int) (hl : x.l = c :: r) (hll : r.length ≤ 10) (hgo : 0 ≤ frW (s.val (tagsA x.bits c)) ∨ r ≠ []) :
    Calls Tryz.prog 49 #[.pointer (some ⟨rb, 0, none⟩), .pointer (some ⟨B.wb, 0, none⟩)] w fun e w' => e = .returned (.bool (decide ((x.look (s.val (tagsA x.bits c))).ph = .off))) ∧ RMB w0 w w' B V (s.acc 1 (tagsA x.bits c) (s.val (tagsA x.bits c))) rb (x.look (s.val (tagsA x.bits c))) := by
  have hov := rmover hx
  rw [decide_eq_false (show x.ph ≠ .off by rw [hp]; decide)] at hov
  have hlk := look_any h hr hx c r hl hll hgo
  obtain ⟨-, -, -, c4, -⟩ := hx.c
  rw [hp] at c4
  simp only [RPh.fn] at c4
  obtain ⟨y, hy⟩ : ∃ y, y = x.look (s.val (tagsA x.bits c)) := ⟨_, rfl⟩
  rw [← hy] at hlk ⊢
  clear h hr hx hp hl hll hgo hy
  go_enter Tryz.func49, Tryz.ntmps49
  go_upto_region 2 with (go_at_call 60; refine hov.mono ?_; intro e w2 hh; obtain ⟨hh1, hh2⟩ := hh; subst hh1; obtain rfl := hh2.symm; clear hov)
  go_upto_region 3 with (go_at_call 122; refine hlk.mono ?_; intro e w3 hh; obtain ⟨hh1, h3⟩ := hh; subst hh1; have H3 := Lib.hid h3; have ho3 := rmover h3.rm; clear h3 hlk c4)
  go_wp2_with (go_at_call 60; refine ho3.mono ?_; intro e w4 hh; obtain ⟨hh1, hh2⟩ := hh; subst hh1; obtain rfl := hh2.symm; clear ho3)
  go_ret
  exact ⟨rfl, H3.out⟩
/-- A Room's looks, one behind the other. -/
def rmit (q : CS × RM) : CS × RM := (q.1.acc 1 q.2.adr (q.1.val q.2.adr), q.2.look (q.1.val q.2.adr))
def rmits (q : CS × RM) : Nat → CS × RM
  | 0 => q
  | n + 1 => rmit (rmits q n)
/-- May it look? -/
def RmGo (q : CS × RM) : Prop := q.2.ph = .look ∧ q.1.room ∧ ∃ c r, q.2.l = c :: r ∧ r.length ≤ 10 ∧ (0 ≤ frW (q.1.val (tagsA q.2.bits c)) ∨ r ≠ [])
set_option maxRecDepth 10000 in
set_option maxHeartbeats 2000000 in
theorem rmrun {w0 w : World} {B : WB} {V : WV} {s : CS} {rb : Nat} {x : RM} (n m : Nat) (hn : n < m) (hm : m ≤ 1000) (hB : RMB w0 w w B V s rb x) (hgo : ∀ k, k < n → RmGo (rmits (s, x) k)) (hend : (rmits (s, x) n).2.ph = .off) :
    Calls Tryz.prog 36 #[.pointer (some ⟨B.wb, 0, none⟩), .iface 116 (.pointer (some ⟨rb, 0, none⟩)), .int .i64 m] w fun e w' => e = .returned (.int .i64 n) ∧ RMB w0 w w' B V (rmits (s, x) n).1 rb (rmits (s, x) n).2 := by
  have HB := Lib.hid hB; have HGO := Lib.hid hgo; have HEND := Lib.hid hend; have HN := Lib.hid hn
  clear hB hgo hend hn
  go_enter Tryz.func36, Tryz.ntmps36
  go_wp2
  go_loopw [7] (fun i wr => ∃ k : Nat, k ≤ n ∧ i = .int .i64 k ∧ RMB w0 w wr B V (rmits (s, x) k).1 rb (rmits (s, x) k).2) (fun i _ => n - (intOf i).toNat)
  case atStart => exact ⟨0, Nat.zero_le _, rfl, HB.out⟩
  case round =>
    clear HB
    obtain ⟨k, hk, rfl, hb⟩ := hrel
    have hkm : (k : Int) < m := by have := HN.out; omega
    have hov := rmover hb.rm
    by_cases hlt : k < n
    · obtain ⟨hp, hr, c, r, hl, hll, hg⟩ := HGO.out k hlt
      rw [decide_eq_false (show (rmits (s, x) k).2.ph ≠ .off by rw [hp]; decide)] at hov
      have hst := rmstep_look hb.ws hr hb.rm hp c r hl hll hg
      have had : (rmits (s, x) k).2.adr = tagsA (rmits (s, x) k).2.bits c := by unfold RM.adr; rw [hl]
      rw [← had] at hst
      obtain ⟨d, hd⟩ : ∃ d, d = decide (((rmits (s, x) k).2.look ((rmits (s, x) k).1.val (rmits (s, x) k).2.adr)).ph = .off) := ⟨_, rfl⟩
      rw [← hd] at hst
      have hfx := hb.fx
      have HLT := Lib.hid hlt; have HFX := Lib.hid hfx
      clear hb hp hr hl hll hg had hd hlt hk hfx
      go_wp2_with (first
        | (go_at_call 60; refine hov.mono ?_; intro e w2 hh; obtain ⟨hh1, hh2⟩ := hh; subst hh1; obtain rfl := hh2.symm; clear hov)
        | (go_at_call 49; refine hst.mono ?_; intro e w3 hh; obtain ⟨hh1, h3⟩ := hh; subst hh1; have H3 := Lib.hid h3; clear h3 hst))
      go_roundw
      case measure => have := HLT.out; simp [intOf]; omega
      case rel => exact ⟨k + 1, HLT.out, by have := HLT.out; go_num, H3.out.ws, H3.out.rm, HFX.out.trans H3.out.fx⟩
    · obtain rfl : k = n := by omega
      rw [decide_eq_true HEND.out] at hov
      have HBB := Lib.hid hb
      clear hb hk hlt
      go_wp2_with (go_at_call 60; refine hov.mono ?_; intro e w2 hh; obtain ⟨hh1, hh2⟩ := hh; subst hh1; obtain rfl := hh2.symm; clear hov)
      go_ret
      exact ⟨rfl, HBB.out⟩
end Go.Proofs.YtdbgfidnccpmdaaGreat

/-
  A Room: a hop along its way.
-/
namespace Go.Proofs.YtdbgfidnccpmdaaGreat
open Go.RowKit Go.Maps TagPure
set_option linter.unusedVariables false

theorem RoomAt.fs {w w' : World} {lo rb : Nat} {x : RM} {S : List Nat} (h : RoomAt w lo rb x) (hf : FS S w w') (hS : ∀ k ∈ S, ∃ cs T fr, w.heap[k]? = some (.cells cs T fr) ∧ T ≠ 250 ∧ T ≠ 3) : RoomAt w' lo rb x := by
  obtain ⟨l0, v, b1, ⟨a, c, h1, h2, h3, h4⟩⟩ := h
  have k : ∀ (T : TypeId), wTy T = false → (T = 250 ∨ T = 3) → ∀ (g : Nat) (cur : Array Value), w.heap[g]? = some (.cells cur T (0, 0)) → w'.heap[g]? = some (.cells cur T (0, 0)) := fun T hT hT2 g cur hg => by
    refine hf.cells _ _ _ _ hg hT fun hm => ?_
    obtain ⟨cs, T2, fr, e, n1, n2⟩ := hS g hm
    rw [hg] at e
    simp only [Option.some.injEq, Obj.cells.injEq] at e
    rcases hT2 with rfl | rfl
    · exact n1 e.2.1.symm
    · exact n2 e.2.1.symm
  exact ⟨l0, v, k _ rfl (.inl rfl) _ _ b1, a, c, h1, h2, h3, h4.imp id fun ⟨g, o, cur, e1, e2, e3⟩ => ⟨g, o, cur, e1, k _ rfl (.inr rfl) _ _ e2, e3⟩⟩
/-- The blocks of Hops. -/
abbrev hpS (hb : Nat) (qs : List (Nat × Dg)) : List Nat := hb :: qs.map Prod.fst
theorem HMB.here {w0 w W : World} {B : WB} {V : WV} {s : CS} {S : List Nat} {hb : Nat} {x : HP} {qs : List (Nat × Dg)} (h : HMB w0 w W B V s S hb x qs) : HMB w0 W W B V s (hpS hb qs) hb x qs := ⟨h.ws, h.hp, FS.refl _ _, .inl (List.mem_cons_self), fun q hq => .inl (List.mem_cons_of_mem _ (List.mem_map.2 ⟨q, hq, rfl⟩))⟩
theorem HMB.mem {w0 w W : World} {B : WB} {V : WV} {s : CS} {S : List Nat} {hb : Nat} {x : HP} {qs : List (Nat × Dg)} (h : HMB w0 w W B V s S hb x qs) : ∀ k ∈ hpS hb qs, k ∈ S ∨ w.heap.size ≤ k := fun k hk => by
  rcases List.mem_cons.1 hk with rfl | hk
  · exact h.own
  · obtain ⟨q, hq, rfl⟩ := List.mem_map.1 hk
    exact h.owns q hq
theorem HMB.re2 {w0 w W W' : World} {B : WB} {V : WV} {s s' : CS} {S : List Nat} {hb : Nat} {x y : HP} {qs qs' : List (Nat × Dg)} (h : HMB w0 w W B V s S hb x qs) (h2 : HMB w0 W W' B V s' (hpS hb qs) hb y qs') : HMB w0 w W' B V s' S hb y qs' := by
  refine ⟨h2.ws, h2.hp, ⟨Nat.le_trans h.fs.size h2.fs.size, fun k cs T fr g1 g2 g3 => h2.fs.cells k cs T fr (h.fs.cells k cs T fr g1 g2 g3) g2 ?_⟩, h.own, fun q hq => ?_⟩
  · intro c
    rcases h.mem k c with c | c
    · exact g3 c
    · have := (Array.getElem?_eq_some_iff.1 g1).1; omega
  · rcases h2.owns q hq with c | c
    · exact h.mem _ c
    · exact .inr (Nat.le_trans h.fs.size c)
theorem HMB.blks {w0 w W : World} {B : WB} {V : WV} {s : CS} {S : List Nat} {hb : Nat} {x : HP} {qs : List (Nat × Dg)} (h : HMB w0 w W B V s S hb x qs) : ∀ k ∈ hpS hb qs, ∃ cs T fr, W.heap[k]? = some (.cells cs T fr) ∧ T ≠ 250 ∧ T ≠ 3 := fun k hk => by
  rcases List.mem_cons.1 hk with rfl | hk
  · obtain ⟨cs, b1⟩ := h.hp.blk
    exact ⟨cs, _, _, b1, by decide, by decide⟩
  · obtain ⟨q, hq, rfl⟩ := List.mem_map.1 hk
    obtain ⟨cs, T, b1, hT⟩ := (h.hp.dos q hq).2.1.blk
    refine ⟨cs, T, _, b1, ?_, ?_⟩ <;> (rcases hT with rfl | rfl | rfl <;> decide)
/-- A Room that hops. -/
structure RHB (w0 w W : World) (B : WB) (V : WV) (s : CS) (S : List Nat) (rb : Nat) (x : RM) (hb : Nat) (y : HP) (qs : List (Nat × Dg)) : Prop where
  m : HMB w0 w W B V s S hb y qs
  rm : RoomAt W w0.heap.size rb x
  own : rb ∈ S ∨ w.heap.size ≤ rb
section
variable {w0 w W W' : World} {B : WB} {V : WV} {s s' : CS} {S : List Nat} {rb hb : Nat} {x x' : RM} {y y' : HP} {qs qs' : List (Nat × Dg)}
theorem RHB.step (h : RHB w0 w W B V s S rb x hb y qs) (h2 : HMB w0 W W' B V s' (hpS hb qs) hb y' qs') : RHB w0 w W' B V s' S rb x hb y' qs' := ⟨h.m.re2 h2, h.rm.fs h2.fs h.m.blks, h.own⟩
theorem RHB.ends (h : RHB w0 w W B V s S rb x hb y qs) (h2 : RMB w0 W W' B V s rb x') : RHB w0 w W' B V s S rb x' hb y qs := by
  obtain ⟨cs, b1⟩ := h.rm.blk
  have nr : ∀ k ∈ hpS hb qs, k ≠ rb := fun k hk c => by
    obtain ⟨cs2, T, fr, b2, n1, -⟩ := h.m.blks k hk
    rw [c, b1] at b2
    simp only [Option.some.injEq, Obj.cells.injEq] at b2
    exact n1 b2.2.1.symm
  have hf : FS [rb] W W' := h2.fx.fs (List.mem_singleton.2 rfl)
  refine ⟨⟨h2.ws, h.m.hp.fs hf (fun k hk => ?_) ?_ fun q hq => ?_, h2.fx.fs2 h.m.fs h.own, h.m.own, h.m.owns⟩, h2.rm, h.own⟩
  · obtain rfl := List.mem_singleton.1 hk
    exact ⟨cs, _, _, b1, by decide, by decide, by decide⟩
  · intro c; exact nr hb (List.mem_cons_self) (List.mem_singleton.1 c)
  · intro c; exact nr q.1 (List.mem_cons_of_mem _ (List.mem_map.2 ⟨q, hq, rfl⟩)) (List.mem_singleton.1 c)
end
set_option maxRecDepth 10000 in
set_option maxHeartbeats 2000000 in
theorem rmhop {w0 w W : World} {B : WB} {V : WV} {s : CS} {S : List Nat} {rb hb : Nat} {x : RM} {y : HP} {qs : List (Nat × Dg)} (h : RHB w0 w W B V s S rb x hb y qs) (hr : s.room) (hx : x.hops = some ⟨hb, 0, none⟩) (hl0 : y.left ≠ 0) (hwf : ∀ p ∈ y.way, (Lit.int .i64 p.2.2).wf = true) (hh : ∀ d r, y.l = d :: r → d.over = false) :
    Calls Tryz.prog 235 #[.pointer (some ⟨rb, 0, none⟩), .pointer (some ⟨B.wb, 0, none⟩)] W fun e w' => e = .returned (.tuple #[]) ∧ ∃ qs', RHB w0 w w' B V (y.next s).1 S rb (if (y.next s).2.left = 0 then { x with is := true, ph := .off } else x) hb (y.next s).2 qs' := by
  have hst := hpstep h.m.here hr h.m.ws.below.size hl0 hwf hh
  obtain ⟨-, -, -, -, -, c6, -⟩ := h.rm.c
  rw [hx] at c6
  obtain ⟨s2, hs2⟩ : ∃ s2, s2 = (y.next s).1 := ⟨_, rfl⟩
  obtain ⟨y2, hy2⟩ : ∃ y2, y2 = (y.next s).2 := ⟨_, rfl⟩
  rw [← hs2, ← hy2] at hst ⊢
  obtain ⟨z, hz⟩ : ∃ z, z = (if y2.left = 0 then { x with is := true, ph := .off } else x) := ⟨_, rfl⟩
  rw [← hz]
  have H := Lib.hid h; have HZ := Lib.hid hz
  clear h hr hx hl0 hwf hh hs2 hy2 hz
  by_cases hl : y2.left = 0
  · rw [show ((y2.left : Int) == 0) = true by rw [hl]; rfl] at hst
    have HL := Lib.hid hl
    clear hl
    go_enter Tryz.func235, Tryz.ntmps235
    go_upto_region 1 with (go_at_call 69; refine hst.mono ?_; intro e w2 hh; obtain ⟨qs2, hh1, h2⟩ := hh; subst hh1; have H2 := Lib.hid (H.out.step h2); clear h2 hst c6)
    have hen := ends_any (RMB.mk H2.out.m.ws H2.out.rm ((below_fr (Below.refl _ _) wTy true).fx rb)) x.sb x.su x.sk
    obtain ⟨-, -, -, -, -, -, c7, c8, c9, -⟩ := H2.out.rm.c
    go_wp2_with (go_at_call 191; refine hen.mono ?_; intro e w3 hh; obtain ⟨hh1, h3⟩ := hh; subst hh1; have H3 := Lib.hid (H2.out.ends h3); clear h3 hen c7 c8 c9)
    go_end0
    refine ⟨rfl, qs2, ?_⟩
    have hz := HZ.out
    rw [if_pos HL.out] at hz
    rw [hz]
    exact H3.out
  · rw [show ((y2.left : Int) == 0) = false from beq_eq_false_iff_ne.2 (by omega)] at hst
    have HL := Lib.hid hl
    clear hl
    go_enter Tryz.func235, Tryz.ntmps235
    go_wp2_with (go_at_call 69; refine hst.mono ?_; intro e w2 hh; obtain ⟨qs2, hh1, h2⟩ := hh; subst hh1; have H2 := Lib.hid (H.out.step h2); clear h2 hst c6)
    go_end0
    refine ⟨rfl, qs2, ?_⟩
    have hz := HZ.out
    rw [if_neg HL.out] at hz
    rw [hz]
    exact H2.out
/-- A step that hops. -/
theorem rmstep_hop {w0 w W : World} {B : WB} {V : WV} {s : CS} {S : List Nat} {rb hb : Nat} {x : RM} {y : HP} {qs : List (Nat × Dg)} (h : RHB w0 w W B V s S rb x hb y qs) (hr : s.room) (hp : x.ph = .hop) (hx : x.hops = some ⟨hb, 0, none⟩) (hl0 : y.left ≠ 0) (hwf : ∀ p ∈ y.way, (Lit.int .i64 p.2.2).wf = true) (hh : ∀ d r, y.l = d :: r → d.over = false) :
    Calls Tryz.prog 49 #[.pointer (some ⟨rb, 0, none⟩), .pointer (some ⟨B.wb, 0, none⟩)] W fun e w' => e = .returned (.bool (decide ((if (y.next s).2.left = 0 then { x with is := true, ph := .off } else x).ph = .off))) ∧ ∃ qs', RHB w0 w w' B V (y.next s).1 S rb (if (y.next s).2.left = 0 then { x with is := true, ph := .off } else x) hb (y.next s).2 qs' := by
  have hov := rmover h.rm
  rw [decide_eq_false (show x.ph ≠ .off by rw [hp]; decide)] at hov
  have hlk := rmhop h hr hx hl0 hwf hh
  obtain ⟨-, -, -, c4, -⟩ := h.rm.c
  rw [hp] at c4
  simp only [RPh.fn] at c4
  obtain ⟨z, hz⟩ : ∃ z, z = (if (y.next s).2.left = 0 then { x with is := true, ph := .off } else x) := ⟨_, rfl⟩
  rw [← hz] at hlk ⊢
  clear h hr hx hp hl0 hwf hh hz
  go_enter Tryz.func49, Tryz.ntmps49
  go_upto_region 2 with (go_at_call 60; refine hov.mono ?_; intro e w2 hh; obtain ⟨hh1, hh2⟩ := hh; subst hh1; obtain rfl := hh2.symm; clear hov)
  go_upto_region 3 with (go_at_call 235; refine hlk.mono ?_; intro e w3 hh; obtain ⟨hh1, qs3, h3⟩ := hh; subst hh1; have H3 := Lib.hid h3; have ho3 := rmover h3.rm; clear h3 hlk c4)
  go_wp2_with (go_at_call 60; refine ho3.mono ?_; intro e w4 hh; obtain ⟨hh1, hh2⟩ := hh; subst hh1; obtain rfl := hh2.symm; clear ho3)
  go_ret
  exact ⟨rfl, qs3, H3.out⟩
end Go.Proofs.YtdbgfidnccpmdaaGreat

/-
  A Room: its search for a way.
-/
namespace Go.Proofs.YtdbgfidnccpmdaaGreat
open Go.RowKit Go.Maps TagPure
set_option linter.unusedVariables false

/-- Spots, somewhere. -/
def SpRow (w : World) (v : Value) (n : Nat) (xs : List Value) : Prop :=
  xs.length = n * 3 ∧ ((v = .slice none 0 0 ∧ n = 0) ∨ ∃ g cap cur, v = .slice (some ⟨g, 0, none⟩) n cap ∧ w.heap[g]? = some (.cells cur 43 (0, 0)) ∧ cur.toList.take (n * 3) = xs)
theorem sprow_sl {w : World} {v : Value} {n : Nat} {xs : List Value} (h : SpRow w v n xs) : ∃ a c, v = .slice a n c := by
  obtain ⟨-, ⟨rfl, rfl⟩ | ⟨g, cap, cur, rfl, -⟩⟩ := h
  · exact ⟨_, _, rfl⟩
  · exact ⟨_, _, rfl⟩
def way3 (bits : Int) (l : List (Int × Int)) : List (Int × Int × Int) := l.map fun p => (bits, p.1, p.2)
theorem flat3_way (bits : Int) (l : List (Int × Int)) : flat3 (way3 bits l) = flatS bits l := by
  induction l with
  | nil => rfl
  | cons p r ih => show enc3 (bits, p.1, p.2) ++ flat3 (way3 bits r) = _; rw [ih]; rfl
theorem spn_row {w : World} {base : Nat} {v : Value} {bits : Int} {l : List (Int × Int)} (h : SpN w base v bits l) : SpRow w v (way3 bits l).length (flat3 (way3 bits l)) := by
  refine ⟨flat3_len _, ?_⟩
  rw [flat3_way, show (way3 bits l).length = l.length from List.length_map _]
  rcases h with ⟨rfl, rfl⟩ | ⟨g, cur, rfl, h1, h2, h3, h4⟩
  · exact .inl ⟨rfl, rfl⟩
  · exact .inr ⟨g, _, cur, rfl, h2, h4⟩
set_option maxRecDepth 10000 in
/-- A copy of spots. -/
theorem sclone4 {w : World} {n : Nat} {v : Value} {xs : List Value} (h : SpRow w v n xs) (hl : n ≤ 100000) (h1 : ∀ u ∈ xs, u.oneCell' = true) : Calls Tryz.prog 142 #[v] w fun e w' => ∃ v', e = .returned v' ∧ w'.ownsRow w.heap.size 43 3 v' n xs ∧ Below w.heap.size w w' := by
  obtain ⟨i0, hi0, hz0, hz1, hz2⟩ := info_parts info_spot3
  have HI := Lib.hid hi0; have HZ0 := Lib.hid hz0; have HZ1 := Lib.hid hz1; have HZ2 := Lib.hid hz2; have H1 := Lib.hid h1
  clear hi0 hz0 hz1 hz2 h1
  obtain ⟨hx, ⟨rfl, h0⟩ | ⟨g, cap, cur, rfl, hg, ht⟩⟩ := h
  · subst h0
    have : xs = [] := List.length_eq_zero_iff.1 (by omega)
    subst this
    clear hx hl
    have q22 : ∀ (w : World) (a : Option Addr) (n c n' c' : Nat), (binOp .eql 145 (.slice a n c) (.slice none n' c')).run Tryz.prog w = .ok (.bool a.isNone) w := fun w a n c n' c' => Go.Lib.run_eql_slice_nil w _ _ a n c n' c' Tryz.underlying145
    go_enter Tryz.func142, Tryz.ntmps142
    go_wp2
    go_ret
    exact ⟨_, rfl, World.ownsRow_nil _ _ _ _, Below.refl _ _⟩
  · have hcs : ∀ j u, xs[j]? = some u → w.cell? ⟨g, j, none⟩ = some u := fun j u hj => by
      have hj2 : j < xs.length := (List.getElem?_eq_some_iff.1 hj).1
      rw [hx] at hj2
      rw [← ht, List.getElem?_take, if_pos hj2] at hj
      rw [hcell hg, ← hj]; simp
    have hglt := (Array.getElem?_eq_some_iff.1 hg).1
    have HC := Lib.hid hcs; have HL := Lib.hid hl; have HG := Lib.hid hglt; have HX := Lib.hid hx
    clear hx hg ht hcs hl hglt
    have q22 : ∀ (w : World) (a : Option Addr) (n c n' c' : Nat), (binOp .eql 145 (.slice a n c) (.slice none n' c')).run Tryz.prog w = .ok (.bool a.isNone) w := fun w a n c n' c' => Go.Lib.run_eql_slice_nil w _ _ a n c n' c' Tryz.underlying145
    go_enter Tryz.func142, Tryz.ntmps142
    go_wp2_with (at_builtin; refine wpList_append_own _ rfl _ _ 145 rfl w.heap.size 43 i0 (.agg #[.int .i64 0, .int .i64 0, .int .i64 0]) 3 24 Tryz.underlying145 HI.out HZ0.out HZ1.out HZ2.out rfl (by decide) _ _ _ rfl (World.ownsRow_made w #[] 0 (Nat.le_refl _) (Nat.zero_le _) (by simp)) ⟨g, 0, none⟩ n cap xs rfl ?c1 ?c2 ?c3 ?c4 ?c5 ?c6 ?_)
    case c1 => exact HX.out
    case c2 =>
      intro j u hj
      have ea : (⟨g, 0, none⟩ : Addr).add j = ⟨g, 0 + j, none⟩ := by simp [Addr.add]; omega
      rw [ea]
      rw [World.cell?_alloc_past _ _ _ (show g < _ from HG.out), Nat.zero_add]
      exact HC.out j u hj
    case c3 => exact H1.out
    case c4 => have := HL.out; unfold maxLen; omega
    case c5 => have := HL.out; omega
    case c6 => simp
    intro v' w2 hown hgr _
    have hb1 := below_alloc w (.cells #[] 43)
    have hB : Below w.heap.size w w2 := ((Below.refl w.heap.size w).trans hb1).grown hgr (by simp) (fun k hk => by simp [Value.ownBlock] at hk; omega)
    have HO := Lib.hid hown; have HB := Lib.hid hB
    clear hown hgr hb1 hB
    go_wp2
    go_ret
    have := HO.out
    first
      | exact ⟨_, rfl, this, HB.out⟩
      | (simp only [Nat.zero_add, List.nil_append] at this; exact ⟨_, rfl, this, HB.out⟩)
theorem newhops4 {w : World} {v : Value} {l : List (Int × Int × Int)} (h : SpRow w v l.length (flat3 l)) (hl : l.length ≤ 100000) : Calls Tryz.prog 67 #[v] w fun e w' => ∃ hb, e = .returned (.pointer (some ⟨hb, 0, none⟩)) ∧ HopsAt w' w.heap.size hb (hpnew l) [] ∧ Below w.heap.size w w' := by
  have hc := sclone4 h hl (flat3_one l)
  obtain ⟨a, c, rfl⟩ := sprow_sl h
  have hmx : max ((l.length : Int) - 1) 0 = ((l.length - 1 : Nat) : Int) := by omega
  have hmy : (if (l.length : Int) - 1 < 0 then (0 : Int) else (l.length : Int) - 1) = ((l.length - 1 : Nat) : Int) := by split <;> omega
  have hw : wrap64 ((l.length : Int) - 1) = (l.length : Int) - 1 := IntWalk.wrap64_in _ (by omega)
  have HL := Lib.hid hl; have HMX := Lib.hid hmx; have HMY := Lib.hid hmy
  clear h hl hmx hmy
  go_enter Tryz.func67, Tryz.ntmps67
  go_wp2_with (go_at_call 142; refine hc.mono ?_; intro e w2 hh; obtain ⟨v2, hh1, o2, b2⟩ := hh; subst hh1; obtain ⟨a2, c2, hv2⟩ := own_sl2 o2; subst hv2; have O2 := Lib.hid o2; have B2 := Lib.hid b2; clear o2 b2 hc)
  simp only [HMX.out]
  go_ret
  have b3 := below_alloc w2 (.cells ((hpnew l).cells (.slice a2 l.length c2) (.slice none 0 0)) 280)
  have z3 := heap_alloc_new w2 (.cells ((hpnew l).cells (.slice a2 l.length c2) (.slice none 0 0)) 280)
  refine ⟨w2.heap.size, rfl, ⟨B2.out.size, rfl, HL.out, ?_, ⟨_, _, z3, own_fr O2.out (below_fr b3 (fun _ => false) false) rfl, none, 0, rfl, Nat.le_refl _, Nat.zero_le _, .inl rfl⟩, (fun q hq => by cases hq), List.nodup_nil⟩, B2.out.trans (b3.mono B2.out.size)⟩
  show l.length - 1 < l.length ∨ l.length - 1 = 0
  omega
theorem Fy.fs {b c : Nat} {w w' : World} (h : Fy b c w w') : FS [b, c] w w' := ⟨h.size, fun k cs T fr h1 h2 h3 => h.cells k cs T fr h1 h2 (fun e => h3 (by rw [e]; simp)) (fun e => h3 (by rw [e]; simp))⟩
theorem FS.sub {S S2 : List Nat} {w0 w w' : World} (h : FS S w0 w) (k : FS S2 w w') (hs : ∀ i ∈ S2, i ∈ S ∨ w0.heap.size ≤ i) : FS S w0 w' := ⟨Nat.le_trans h.size k.size, fun i cs T fr h1 h2 h3 => k.cells i cs T fr (h.cells i cs T fr h1 h2 h3) h2 fun c => by
  rcases hs i c with c | c
  · exact h3 c
  · have := (Array.getElem?_eq_some_iff.1 h1).1; omega⟩
/-- A Room with no bucket left. -/
theorem RoomAt.fs0 {w w' : World} {lo rb : Nat} {x : RM} {S : List Nat} (h : RoomAt w lo rb x) (hl : x.l = []) (hf : FS S w w') (hn : rb ∉ S) : RoomAt w' lo rb x := by
  obtain ⟨l0, v, b1, ⟨a, c, h1, h2, h3, h4⟩⟩ := h
  exact ⟨l0, v, hf.cells _ _ _ _ b1 rfl hn, a, c, h1, h2, h3, .inl hl⟩
/-- A Room that searches. -/
structure RSB (w0 w W : World) (B : WB) (V : WV) (s : CS) (S : List Nat) (rb : Nat) (x : RM) (xb m : Nat) (y : WY) : Prop where
  ws : WS w0 W B V s
  rm : RoomAt W w0.heap.size rb x
  wy : WayAt W w0.heap.size xb y
  bs : Besd W B V m
  fs : FS S w W
  own : ∀ k, (k = rb ∨ k = xb ∨ k = y.kb) → k ∈ S ∨ w.heap.size ≤ k
section
variable {w0 w W W' : World} {B : WB} {V : WV} {s : CS} {S : List Nat} {rb xb m : Nat} {x : RM} {y : WY}
theorem RSB.ne (h : RSB w0 w W B V s S rb x xb m y) : rb ≠ xb ∧ rb ≠ y.kb := by
  obtain ⟨cs, b1⟩ := h.rm.blk
  refine ⟨fun c => ?_, fun c => ?_⟩
  · obtain ⟨vb, vw, b2, -⟩ := h.wy.ex
    rw [← c, b1] at b2
    simp only [Option.some.injEq, Obj.cells.injEq] at b2
    exact absurd b2.2.1 (by decide)
  · obtain ⟨vb, vw, b2, b3, -, hk⟩ := h.wy.ex
    rcases hk with hk | ⟨-, hk⟩
    · obtain ⟨-, ⟨rfl, -⟩ | ⟨g, cap, cur, rfl, -, b4, -⟩⟩ := b3
      · cases hk
      · simp only [Value.ownBlock, Option.some.injEq] at hk
        rw [hk, ← c, b1] at b4
        simp only [Option.some.injEq, Obj.cells.injEq] at b4
        exact absurd b4.2.1 (by decide)
    · rw [← c] at hk
      rw [← hk, b1] at b2
      simp only [Option.some.injEq, Obj.cells.injEq] at b2
      exact absurd b2.2.1 (by decide)
/-- The Way's step, in it. -/
theorem rsway (h : RSB w0 w W B V s S rb x xb m y) (hr : s.room) (hm : y.mo = some m) (hk : WyOk y) (ho : y.over = false) (hl : x.l = []) : Calls Tryz.prog 234 #[.pointer (some ⟨xb, 0, none⟩), .pointer (some ⟨B.wb, 0, none⟩)] W fun e w' => ∃ kb, e = .returned (.bool (y.next (s.val (wyA y))).over) ∧ RSB w0 w w' B V (s.acc 1 (wyA y) (s.val (wyA y))) S rb x xb m { y.next (s.val (wyA y)) with kb := kb } := by
  refine (wstep_any h.ws hr h.wy hm h.bs hk ho).mono ?_
  rintro e w' ⟨kb, he, h1, h2, h3, h4, h5⟩
  refine ⟨kb, he, h1, h.rm.fs0 hl h4.fs ?_, h2, h3, h.fs.sub h4.fs ?_, ?_⟩
  · intro c
    simp only [List.mem_cons, List.not_mem_nil, or_false] at c
    rcases c with c | c
    · exact h.ne.1 c
    · exact h.ne.2 c
  · intro i hi
    simp only [List.mem_cons, List.not_mem_nil, or_false] at hi
    rcases hi with rfl | rfl
    · exact h.own _ (.inr (.inl rfl))
    · exact h.own _ (.inr (.inr rfl))
  · rintro k (rfl | rfl | rfl)
    · exact h.own _ (.inl rfl)
    · exact h.own _ (.inr (.inl rfl))
    · rcases h5 with h5 | h5
      · rw [h5]; exact h.own _ (.inr (.inr rfl))
      · exact .inr (Nat.le_trans h.fs.size h5)
theorem besd_below {m : Nat} (h : Besd W B V m) (hc : B.cb < W.heap.size) (hb : Below W.heap.size W W') : Besd W' B V m := ⟨by rw [hb.cell hc]; exact h.ne, h.fm⟩
theorem RSB.below (h : RSB w0 w W B V s S rb x xb m y) (hb : Below W.heap.size W W') : RSB w0 w W' B V s S rb x xb m y := ⟨h.ws.keep hb, h.rm.below hb, h.wy.below hb, besd_below h.bs (by obtain ⟨⟨S2, mo, f, hc, -⟩, -⟩ := h.ws.own; exact (Array.getElem?_eq_some_iff.1 hc.hdr).1) hb, h.fs.trans (below_fs S hb), h.own⟩
end
set_option maxRecDepth 10000 in
set_option maxHeartbeats 2000000 in
/-- The way is not at its end yet. -/
theorem rmsearch_on {w0 w W : World} {B : WB} {V : WV} {s : CS} {S : List Nat} {rb xb m : Nat} {x : RM} {y : WY} (h : RSB w0 w W B V s S rb x xb m y) (hr : s.room) (hm : y.mo = some m) (hk : WyOk y) (ho : y.over = false) (hl : x.l = []) (hx : x.way = some ⟨xb, 0, none⟩) (hn : (y.next (s.val (wyA y))).over = false) :
    Calls Tryz.prog 192 #[.pointer (some ⟨rb, 0, none⟩), .pointer (some ⟨B.wb, 0, none⟩)] W fun e w' => e = .returned (.tuple #[]) ∧ ∃ kb, RSB w0 w w' B V (s.acc 1 (wyA y) (s.val (wyA y))) S rb x xb m { y.next (s.val (wyA y)) with kb := kb } := by
  have hst := rsway h hr hm hk ho hl
  rw [hn] at hst
  obtain ⟨-, -, -, -, c5, -⟩ := h.rm.c
  rw [hx] at c5
  clear h hr hm hk ho hl hx hn
  go_enter Tryz.func192, Tryz.ntmps192
  go_wp2_with (go_at_call 234; refine hst.mono ?_; intro e w2 hh; obtain ⟨kb, hh1, h2⟩ := hh; subst hh1; have H2 := Lib.hid h2; clear h2 hst c5)
  first
    | (go_ret; exact ⟨rfl, kb, H2.out⟩)
    | (refine bodyPost_ret (v := .tuple #[]) (by simp [results, Tryz.results192, go_sem]) rfl ⟨rfl, kb, H2.out⟩)
/-- The Room and the world behind a way's end. -/
theorem RSB.rmb {w0 w W : World} {B : WB} {V : WV} {s : CS} {S : List Nat} {rb xb m : Nat} {x : RM} {y : WY} (h : RSB w0 w W B V s S rb x xb m y) : RMB w0 W W B V s rb x := ⟨h.ws, h.rm, (below_fr (Below.refl _ _) wTy true).fx rb⟩
set_option maxRecDepth 10000 in
set_option maxHeartbeats 2000000 in
/-- There is no way. -/
theorem rmsearch_full {w0 w W : World} {B : WB} {V : WV} {s : CS} {S : List Nat} {rb xb m : Nat} {x : RM} {y : WY} (h : RSB w0 w W B V s S rb x xb m y) (hr : s.room) (hm : y.mo = some m) (hk : WyOk y) (ho : y.over = false) (hl : x.l = []) (hx : x.way = some ⟨xb, 0, none⟩) (hp : x.ph = .search) (hn : (y.next (s.val (wyA y))).over = true) (hw : (y.next (s.val (wyA y))).way = []) (hnl : V.nts.length < 1048576) (hns : Nsteps V.nts (s.cnt + 1)) :
    Calls Tryz.prog 192 #[.pointer (some ⟨rb, 0, none⟩), .pointer (some ⟨B.wb, 0, none⟩)] W fun e w' => e = .returned (.tuple #[]) ∧ WS w0 w' B { V with nts := nadd V.nts ⟨s.cnt + 1, V.hd, 3, 0, 0, 0, 0, 0⟩ } (s.acc 1 (wyA y) (s.val (wyA y))) ∧ RoomAt w' w0.heap.size rb { x with ph := .off } ∧ FS S w w' := by
  have hst := rsway h hr hm hk ho hl
  rw [hn] at hst
  obtain ⟨-, -, -, -, c5, -⟩ := h.rm.c
  rw [hx] at c5
  obtain ⟨y2, hy2⟩ : ∃ y2, y2 = y.next (s.val (wyA y)) := ⟨_, rfl⟩
  rw [← hy2] at hst hw
  obtain ⟨s2, hs2⟩ : ∃ s2, s2 = s.acc 1 (wyA y) (s.val (wyA y)) := ⟨_, rfl⟩
  have hcn : (s2.cnt : Int) = (s.cnt : Int) + 1 := by rw [hs2]; rfl
  rw [← hs2] at hst ⊢
  rw [← hcn] at hns ⊢
  have HW := Lib.hid hw; have HX := Lib.hid hx; have HNL := Lib.hid hnl; have HNS := Lib.hid hns; have HP := Lib.hid hp; have HOW := Lib.hid (h.own rb (.inl rfl))
  clear h hr hm hk ho hl hx hn hw hy2 hs2 hcn hnl hns hp
  go_enter Tryz.func192, Tryz.ntmps192
  go_upto_region 1 with (go_at_call 234; refine hst.mono ?_; intro e w2 hh; obtain ⟨kb, hh1, h2⟩ := hh; subst hh1; have H2 := Lib.hid h2; obtain ⟨-, -, -, -, c5, -⟩ := h2.rm.c; rw [HX.out] at c5; have hg := wgot h2.wy (by show y2.way.length ≤ 100000; rw [HW.out]; exact Nat.zero_le _); clear h2 hst)
  go_upto_region 2 with (go_at_call 61; refine hg.mono ?_; intro e w3 hh; obtain ⟨v, hh1, g3, b3⟩ := hh; subst hh1; have H3 := Lib.hid (H2.out.below b3); have g3 : SpN w3 w2.heap.size v y2.bits y2.way := g3; rw [HW.out] at g3; obtain ⟨av, hv, -⟩ := g3.sl; subst hv; clear g3 b3 hg c5)
  have R3 := Lib.hid H3.out.rmb
  have c4 := R3.out.rm.c.2.2.2.1
  rw [HP.out] at c4
  simp only [RPh.fn] at c4
  have ff := R3.out.rm.f
  have R4 := Lib.hid (R3.out.set (y := { x with ph := .off }) 4 (.nilFunc) rfl (fun _ => rfl))
  have hnt := wnote_any R4.out.ws 3 0 0 0 0 0 HNL.out (by decide) HNS.out
  go_wp2_with (go_at_call 14; refine hnt.mono ?_; intro e w5 hh; obtain ⟨hh1, h5, f5⟩ := hh; subst hh1; have H5 := Lib.hid h5; have F5 := Lib.hid f5; clear h5 f5 hnt c4 ff)
  have hfin := And.intro H5.out (And.intro (R4.out.rm.fr F5.out rfl rfl) ((F5.out.fx rb).fs2 (R4.out.fx.fs2 H3.out.fs HOW.out) HOW.out))
  first
    | (go_ret; exact ⟨rfl, hfin⟩)
    | exact bodyPost_ret (v := .tuple #[]) (by simp [results, Tryz.results192, go_sem]) rfl ⟨rfl, hfin⟩
/-- A Room whose way is found. -/
def RM.found (x : RM) (bits : Int) (p : Int × Int) (r : List (Int × Int)) (hb : Nat) : RM := { x with sb := bits, su := p.1, sk := p.2, hops := some ⟨hb, 0, none⟩, ph := if r = [] then .off else .hop, is := if r = [] then true else x.is }
theorem SpRow.set {w : World} {rb : Nat} {cs : Array Value} {v : Value} {n : Nat} {xs : List Value} (h : SpRow w v n xs) (hb : w.heap[rb]? = some (.cells cs 250 (0, 0))) (o : Nat) (u : Value) : SpRow (w.setCell ⟨rb, o, none⟩ u) v n xs := by
  obtain ⟨h1, h2 | ⟨g, cap, cur, h3, h4, h5⟩⟩ := h
  · exact ⟨h1, .inl h2⟩
  · refine ⟨h1, .inr ⟨g, cap, cur, h3, (Below.heap_setCell _ _ _ _ fun c => ?_).trans h4, h5⟩⟩
    have c : g = rb := c
    rw [c, hb] at h4
    simp only [Option.some.injEq, Obj.cells.injEq] at h4
    exact absurd h4.2.1 (by decide)
theorem HopsAt.setr {w : World} {lo hb rb : Nat} {x : HP} {qs : List (Nat × Dg)} {cs : Array Value} (h : HopsAt w lo hb x qs) (hbk : w.heap[rb]? = some (.cells cs 250 (0, 0))) (hq : qs = []) (o : Nat) (u : Value) : HopsAt (w.setCell ⟨rb, o, none⟩ u) lo hb x qs := by
  refine h.fs (S := [rb]) ((set_fx wTy true w rb o u).fs (List.mem_singleton.2 rfl)) (fun k hk => ?_) (fun c => ?_) (fun q hq2 => by rw [hq] at hq2; cases hq2)
  · obtain rfl := List.mem_singleton.1 hk
    exact ⟨_, _, _, hbk, by decide, by decide, by decide⟩
  · have c := List.mem_singleton.1 c
    obtain ⟨cs2, b2⟩ := h.blk
    rw [c, hbk] at b2
    simp only [Option.some.injEq, Obj.cells.injEq] at b2
    exact absurd b2.2.1 (by decide)
set_option maxRecDepth 10000 in
set_option maxHeartbeats 2000000 in
/-- There is a way. -/
theorem rmsearch_way {w0 w W : World} {B : WB} {V : WV} {s : CS} {S : List Nat} {rb xb m : Nat} {x : RM} {y : WY} (h : RSB w0 w W B V s S rb x xb m y) (hr : s.room) (hm : y.mo = some m) (hk : WyOk y) (ho : y.over = false) (hl : x.l = []) (hx : x.way = some ⟨xb, 0, none⟩) (hp : x.ph = .search) (hn : (y.next (s.val (wyA y))).over = true) (p : Int × Int) (r : List (Int × Int)) (hw : (y.next (s.val (wyA y))).way = p :: r) (hrl : r.length ≤ 10000) :
    Calls Tryz.prog 192 #[.pointer (some ⟨rb, 0, none⟩), .pointer (some ⟨B.wb, 0, none⟩)] W fun e w' => e = .returned (.tuple #[]) ∧ ∃ hb, RHB w0 w w' B V (s.acc 1 (wyA y) (s.val (wyA y))) S rb (x.found (y.next (s.val (wyA y))).bits p r hb) hb (hpnew (way3 (y.next (s.val (wyA y))).bits (p :: r))) [] := by
  have hst := rsway h hr hm hk ho hl
  rw [hn] at hst
  obtain ⟨-, -, -, -, c5, -⟩ := h.rm.c
  rw [hx] at c5
  obtain ⟨y2, hy2⟩ : ∃ y2, y2 = y.next (s.val (wyA y)) := ⟨_, rfl⟩
  rw [← hy2] at hst hw ⊢
  obtain ⟨s2, hs2⟩ : ∃ s2, s2 = s.acc 1 (wyA y) (s.val (wyA y)) := ⟨_, rfl⟩
  rw [← hs2] at hst ⊢
  obtain ⟨bits, hbt⟩ : ∃ bits, bits = y2.bits := ⟨_, rfl⟩
  rw [← hbt]
  have hz0 : ((r.length : Int) + 1 == 0) = false := beq_eq_false_iff_ne.2 (by omega)
  have HW := Lib.hid hw; have HX := Lib.hid hx; have HP := Lib.hid hp; have HOW := Lib.hid (h.own rb (.inl rfl)); have HRL := Lib.hid hrl; have HBT := Lib.hid hbt; have HZ0 := Lib.hid hz0; have HS0 := Lib.hid h.ws.below.size
  clear h hr hm hk ho hl hx hn hw hy2 hs2 hp hbt hz0 hrl
  go_enter Tryz.func192, Tryz.ntmps192
  go_upto_region 1 with (go_at_call 234; refine hst.mono ?_; intro e w2 hh; obtain ⟨kb, hh1, h2⟩ := hh; subst hh1; have H2 := Lib.hid h2; obtain ⟨-, -, -, -, c5, -⟩ := h2.rm.c; rw [HX.out] at c5; have hg := wgot h2.wy (by show y2.way.length ≤ 100000; rw [HW.out]; have := HRL.out; simp only [List.length_cons]; omega); clear h2 hst)
  go_upto_region 2 with (go_at_call 61; refine hg.mono ?_; intro e w3 hh; obtain ⟨v, hh1, g3, b3⟩ := hh; subst hh1; have H3 := Lib.hid (H2.out.below b3); have g3 : SpN w3 w2.heap.size v y2.bits y2.way := g3; rw [HW.out, ← HBT.out] at g3; obtain ⟨g, hv, -, -, q0, q1, q2, -⟩ := g3.at 0 (by simp); subst hv; have G3 := Lib.hid (spn_row g3); clear g3 b3 hg c5)
  have q0 : w3.cell? ⟨g, 0, none⟩ = some (.int .i64 bits) := q0
  have q1 : w3.cell? ⟨g, 1, none⟩ = some (.int .i64 p.1) := q1
  have q2 : w3.cell? ⟨g, 2, none⟩ = some (.int .i64 p.2) := q2
  have R3 := Lib.hid H3.out.rmb
  obtain ⟨-, -, -, c4, -, c6, c7, c8, c9, -⟩ := R3.out.rm.c
  rw [HP.out] at c4
  simp only [RPh.fn] at c4
  have ff := R3.out.rm.f
  have hz0 := HZ0.out
  have hz1 : (0 : Int) < (r.length : Int) + 1 := by omega
  have hz2 : 0 < r.length + 1 := by omega
  have R3a := Lib.hid (R3.out.set (y := { x with sb := bits }) 7 (.int .i64 bits) rfl (fun _ => rfl))
  have R3b := Lib.hid (R3a.out.set (y := { x with sb := bits, su := p.1 }) 8 (.int .i64 p.1) rfl (fun _ => rfl))
  have R3c := Lib.hid (R3b.out.set (y := { x with sb := bits, su := p.1, sk := p.2 }) 9 (.int .i64 p.2) rfl (fun _ => rfl))
  have R4 := Lib.hid (R3c.out.set (y := { x with sb := bits, su := p.1, sk := p.2, ph := .hop }) 4 (.func (.func 235) #[] #[]) rfl (fun _ => rfl))
  obtain ⟨k3, e3⟩ := R3.out.rm.blk
  obtain ⟨k3a, e3a⟩ := R3a.out.rm.blk
  obtain ⟨k3b, e3b⟩ := R3b.out.rm.blk
  obtain ⟨k3c, e3c⟩ := R3c.out.rm.blk
  have G4 := Lib.hid ((((G3.out.set e3 7 (.int .i64 bits)).set e3a 8 (.int .i64 p.1)).set e3b 9 (.int .i64 p.2)).set e3c 4 (.func (.func 235) #[] #[]))
  clear e3 e3a e3b e3c R3 R3a R3b R3c G3
  go_upto_region 6 with (fail)
  clear q0 q1 q2 c4 c6 c7 c8 c9 ff hz0 hz1 hz2
  change Code.wp _ _ _ _ ((((w3.setCell ⟨rb, 7, none⟩ (.int .i64 bits)).setCell ⟨rb, 8, none⟩ (.int .i64 p.1)).setCell ⟨rb, 9, none⟩ (.int .i64 p.2)).setCell ⟨rb, 4, none⟩ (.func (.func 235) #[] #[]))
  generalize (((w3.setCell ⟨rb, 7, none⟩ (.int .i64 bits)).setCell ⟨rb, 8, none⟩ (.int .i64 p.1)).setCell ⟨rb, 9, none⟩ (.int .i64 p.2)).setCell ⟨rb, 4, none⟩ (.func (.func 235) #[] #[]) = w4 at *
  have hlen : (way3 bits (p :: r)).length = r.length + 1 := by simp [way3]
  have n4 := newhops4 G4.out (by rw [hlen]; have := HRL.out; omega)
  rw [show (p :: r).length = r.length + 1 from rfl] at n4
  have HLEN := Lib.hid hlen
  clear hlen G4
  go_upto_region 7 with (go_at_call 67; refine n4.mono ?_; intro e w5 hh; obtain ⟨hb, hh1, d5, b5⟩ := hh; subst hh1; have R5 := Lib.hid (R4.out.below b5); have D5 := Lib.hid d5; obtain ⟨-, -, -, -, -, c6, -⟩ := R5.out.rm.c; have ff := R5.out.rm.f; clear d5 b5 n4)
  obtain ⟨k5, e5⟩ := R5.out.rm.blk
  have R6 := Lib.hid (R5.out.set (y := { x with sb := bits, su := p.1, sk := p.2, ph := .hop, hops := some ⟨hb, 0, none⟩ }) 6 (.pointer (some ⟨hb, 0, none⟩)) rfl (fun _ => rfl))
  have hw4 : w0.heap.size ≤ w4.heap.size := R4.out.ws.below.size
  have D6 := Lib.hid ((D5.out.setr e5 rfl 6 (.pointer (some ⟨hb, 0, none⟩))).lower hw4)
  have hown : w.heap.size ≤ hb := Nat.le_trans (Nat.le_trans H3.out.fs.size R4.out.fx.size) D5.out.low
  have HOWN := Lib.hid hown
  clear e5 hw4 hown D5 R5 c6 ff
  change Code.wp _ _ _ _ (w5.setCell ⟨rb, 6, none⟩ (.pointer (some ⟨hb, 0, none⟩)))
  generalize w5.setCell ⟨rb, 6, none⟩ (.pointer (some ⟨hb, 0, none⟩)) = w6 at *
  have hov := hpover D6.out
  have hll : (hpnew (way3 bits (p :: r))).left = r.length := by show (way3 bits (p :: r)).length - 1 = r.length; rw [HLEN.out]; omega
  rw [hll] at hov
  obtain ⟨-, -, -, c4, -, c6, c7, c8, c9, -⟩ := R6.out.rm.c
  clear hll R4
  by_cases hr : r = []
  · have hle : ((r.length : Int) == 0) = true := by rw [hr]; rfl
    rw [hle] at hov
    have hen := ends_any (RMB.mk R6.out.ws R6.out.rm ((below_fr (Below.refl _ _) wTy true).fx rb)) bits p.1 p.2
    have hfd : x.found bits p r hb = { x with sb := bits, su := p.1, sk := p.2, hops := some ⟨hb, 0, none⟩, ph := .off, is := true } := by unfold RM.found; rw [if_pos hr, if_pos hr]
    have HFD := Lib.hid hfd
    clear hr hle hfd c4
    go_wp2_with (first
      | (go_at_call 147; refine hov.mono ?_; intro e w7 hh; obtain ⟨hh1, hh2⟩ := hh; subst hh1; obtain rfl := hh2.symm; clear hov)
      | (go_at_call 191; refine hen.mono ?_; intro e w8 hh; obtain ⟨hh1, h8⟩ := hh; subst hh1; have R8 := Lib.hid h8; clear h8 hen c6 c7 c8 c9))
    have hm6 : RHB w0 w w6 B V s2 S rb _ hb (hpnew (way3 bits (p :: r))) [] := ⟨⟨R6.out.ws, D6.out, R6.out.fx.fs2 H3.out.fs HOW.out, .inr HOWN.out, fun q hq => by cases hq⟩, R6.out.rm, HOW.out⟩
    have hfin := hm6.ends R8.out
    have hfin : RHB w0 w w8 B V s2 S rb (x.found bits p r hb) hb (hpnew (way3 bits (p :: r))) [] := by rw [HFD.out]; exact hfin
    first
      | (go_end0; exact ⟨rfl, hb, hfin⟩)
      | (go_ret; exact ⟨rfl, hb, hfin⟩)
      | exact bodyPost_ret (v := .tuple #[]) (by simp [results, Tryz.results192, go_sem]) rfl ⟨rfl, hb, hfin⟩
  · have hle : ((r.length : Int) == 0) = false := by
      have : r.length ≠ 0 := fun c => hr (List.eq_nil_of_length_eq_zero c)
      exact beq_eq_false_iff_ne.2 (by omega)
    rw [hle] at hov
    have hfd : x.found bits p r hb = { x with sb := bits, su := p.1, sk := p.2, hops := some ⟨hb, 0, none⟩, ph := .hop } := by unfold RM.found; rw [if_neg hr, if_neg hr]
    have HFD := Lib.hid hfd
    clear hr hle hfd c4 c7 c8 c9
    go_wp2_with (go_at_call 147; refine hov.mono ?_; intro e w7 hh; obtain ⟨hh1, hh2⟩ := hh; subst hh1; obtain rfl := hh2.symm; clear hov)
    have hm6 : RHB w0 w w6 B V s2 S rb _ hb (hpnew (way3 bits (p :: r))) [] := ⟨⟨R6.out.ws, D6.out, R6.out.fx.fs2 H3.out.fs HOW.out, .inr HOWN.out, fun q hq => by cases hq⟩, R6.out.rm, HOW.out⟩
    have hm6 : RHB w0 w w6 B V s2 S rb (x.found bits p r hb) hb (hpnew (way3 bits (p :: r))) [] := by rw [HFD.out]; exact hm6
    first
      | (go_end0; exact ⟨rfl, hb, hm6⟩)
      | (go_ret; exact ⟨rfl, hb, hm6⟩)
      | exact bodyPost_ret (v := .tuple #[]) (by simp [results, Tryz.results192, go_sem]) rfl ⟨rfl, hb, hm6⟩
/-- A step that searches, whatever its search comes to. -/
theorem rmstep_search {W : World} {lo rb : Nat} {x : RM} {wb : Nat} (h : RoomAt W lo rb x) (hp : x.ph = .search) (D : Bool) {Q : World → Prop} (hf : Calls Tryz.prog 192 #[.pointer (some ⟨rb, 0, none⟩), .pointer (some ⟨wb, 0, none⟩)] W fun e w' => e = .returned (.tuple #[]) ∧ Q w') (hq : ∀ w', Q w' → ∃ lo' x', RoomAt w' lo' rb x' ∧ decide (x'.ph = .off) = D) :
    Calls Tryz.prog 49 #[.pointer (some ⟨rb, 0, none⟩), .pointer (some ⟨wb, 0, none⟩)] W fun e w' => e = .returned (.bool D) ∧ Q w' := by
  have hov := rmover h
  rw [decide_eq_false (show x.ph ≠ .off by rw [hp]; decide)] at hov
  obtain ⟨-, -, -, c4, -⟩ := h.c
  rw [hp] at c4
  simp only [RPh.fn] at c4
  have HQ := Lib.hid hq
  clear h hp hq
  go_enter Tryz.func49, Tryz.ntmps49
  go_upto_region 2 with (go_at_call 60; refine hov.mono ?_; intro e w2 hh; obtain ⟨hh1, hh2⟩ := hh; subst hh1; obtain rfl := hh2.symm; clear hov)
  go_upto_region 3 with (go_at_call 192; refine hf.mono ?_; intro e w3 hh; obtain ⟨hh1, h3⟩ := hh; subst hh1; have H3 := Lib.hid h3; obtain ⟨lo3, x3, r3, d3⟩ := HQ.out w3 h3; have ho3 := rmover r3; rw [d3] at ho3; clear h3 r3 d3 hf c4)
  go_wp2_with (go_at_call 60; refine ho3.mono ?_; intro e w4 hh; obtain ⟨hh1, hh2⟩ := hh; subst hh1; obtain rfl := hh2.symm; clear ho3)
  go_ret
  exact ⟨rfl, H3.out⟩
end Go.Proofs.YtdbgfidnccpmdaaGreat

/-
  Layer 16's tables.
-/
namespace Go.Proofs.YtdbgfidnccpmdaaGreat
open Go.RowKit Go.Maps TagPure
set_option linter.unusedVariables false

structure Tb where
  qb : Int
  ta : Option Addr
  tc : Nat
  tags : List Int
  qa : Int
  qbb : Int
  qm : Int
abbrev Tb.cells (t : Tb) : Array Value := #[.int .u8 t.qb, .slice t.ta t.tags.length t.tc, .int .u16 t.qa, .int .u16 t.qbb, .int .u16 t.qm]
def Tb.bits (t : Tb) : Int := 1 + t.qb % 5
def Tb.a (t : Tb) : Int := t.qa % tsize t.bits
def Tb.b (t : Tb) : Int := t.qbb % tsize t.bits
def Tb.tab (t : Tb) (k : Int) : Int := if k.toNat < t.tags.length then t.tags.getD k.toNat 0 else 16843009 * (1 + k)
structure TbRd (w : World) (t : Tb) : Prop where
  cell : ∀ i (hi : i < t.tags.length), ∃ b off, t.ta = some ⟨b, off, none⟩ ∧ w.cell? ⟨b, off + i, none⟩ = some (.int .u64 (t.tags[i]))
  wf : ∀ v ∈ t.tags, 0 ≤ v ∧ v < 18446744073709551616
  most : t.tags.length ≤ maxLen
  rb : 0 ≤ t.qb ∧ t.qb < 256
  ra : 0 ≤ t.qa ∧ t.qa < 65536
  rbb : 0 ≤ t.qbb ∧ t.qbb < 65536
  rm : 0 ≤ t.qm ∧ t.qm < 65536
theorem TbRd.bits {w : World} {t : Tb} (h : TbRd w t) : 1 ≤ t.bits ∧ t.bits ≤ 5 := by have := h.rb; unfold Tb.bits; omega
theorem TbRd.below {w w' : World} {t : Tb} (h : TbRd w t) (hb : Below w.heap.size w w') : TbRd w' t := by
  refine ⟨fun i hi => ?_, h.wf, h.most, h.rb, h.ra, h.rbb, h.rm⟩
  obtain ⟨b, off, h1, h2⟩ := h.cell i hi
  exact ⟨b, off, h1, by have := World.block_lt_of_cell? _ _ h2; unfold World.cell? at h2 ⊢; simp only at h2 ⊢; rw [hb.block b this]; exact h2⟩
theorem tsize5 {b : Int} (h : 1 ≤ b ∧ b ≤ 5) : 2 ≤ tsize b ∧ tsize b ≤ 32 := by
  have : b = 1 ∨ b = 2 ∨ b = 3 ∨ b = 4 ∨ b = 5 := by omega
  rcases this with rfl | rfl | rfl | rfl | rfl <;> decide
theorem TbRd.ab {w : World} {t : Tb} (h : TbRd w t) : (0 ≤ t.a ∧ t.a < tsize t.bits) ∧ 0 ≤ t.b ∧ t.b < tsize t.bits := by
  have h2 := tsize5 h.bits
  unfold Tb.a Tb.b
  exact ⟨⟨Int.emod_nonneg _ (by omega), Int.emod_lt_of_pos _ (by omega)⟩, Int.emod_nonneg _ (by omega), Int.emod_lt_of_pos _ (by omega)⟩
theorem u8_smT (x : Int) (h : 0 ≤ x ∧ x < 256) : IntKind.u8.wrap x = x := by rw [IntKind.wrap_u8]; omega
theorem w64_smT (x : Int) (h : -100000 ≤ x ∧ x < 100000) : wrap64 x = x := IntWalk.wrap64_in _ (by omega)
theorem shl_bits (b : Int) (hb : 1 ≤ b ∧ b ≤ 5) (w : World) : Sem.run Tryz.prog (Op.shift BinOp.shl IntKind.i64 1 IntKind.i64 b) w = Result.ok (.int .i64 (tsize b)) w := by
  have : b = 1 ∨ b = 2 ∨ b = 3 ∨ b = 4 ∨ b = 5 := by omega
  rcases this with rfl | rfl | rfl | rfl | rfl <;> rfl
/-! ## The world of a table. -/
theorem hasP_in {b u : Int} (hb : 1 ≤ b ∧ b ≤ 12) (hu : 0 ≤ u ∧ u < tsize b) : tagsA b u = 4096 + 8 * (tsize b + u) := by
  unfold tagsA
  rw [if_pos (by simp [hasP]; omega)]
abbrev TWt (wb cb q : Nat) (t : Tb) (W : World) : Prop := W.cell? ⟨wb, 0, none⟩ = some (.pointer (some ⟨cb, 0, none⟩)) ∧ W.cell? ⟨q, 0, none⟩ = some (.int .u8 t.qb) ∧ W.cell? ⟨q, 1, none⟩ = some (.slice t.ta t.tags.length t.tc) ∧ W.cell? ⟨q, 2, none⟩ = some (.int .u16 t.qa) ∧ W.cell? ⟨q, 3, none⟩ = some (.int .u16 t.qbb) ∧ W.cell? ⟨q, 4, none⟩ = some (.int .u16 t.qm)
theorem tab_wf {w : World} {t : Tb} (h : TbRd w t) {k : Int} (hk : 0 ≤ k ∧ k < 40) : 0 ≤ t.tab k ∧ t.tab k < 18446744073709551616 := by
  unfold Tb.tab
  split
  · rename_i hl
    rw [List.getD_eq_getElem?_getD, List.getElem?_eq_getElem hl]
    exact h.wf _ (List.getElem_mem hl)
  · omega
/-! ## The argument. -/
theorem tb_u8 {x : Int} (h : (Lit.int .u8 x).wf = true) : 0 ≤ x ∧ x < 256 := by
  have hmin : IntKind.u8.min = 0 := rfl
  have hmax : IntKind.u8.max = 255 := rfl
  simp only [Lit.wf, hmin, hmax, Bool.and_eq_true, decide_eq_true_eq] at h
  omega
theorem tb_u16 {x : Int} (h : (Lit.int .u16 x).wf = true) : 0 ≤ x ∧ x < 65536 := by
  have hmin : IntKind.u16.min = 0 := rfl
  have hmax : IntKind.u16.max = 65535 := rfl
  simp only [Lit.wf, hmin, hmax, Bool.and_eq_true, decide_eq_true_eq] at h
  omega
theorem tb_u64 {x : Int} (h : (Lit.int .u64 x).wf = true) : 0 ≤ x ∧ x < 18446744073709551616 := by
  have hmin : IntKind.u64.min = 0 := rfl
  have hmax : IntKind.u64.max = 18446744073709551615 := rfl
  simp only [Lit.wf, hmin, hmax, Bool.and_eq_true, decide_eq_true_eq] at h
  omega
def tbLeaves : List Leaf := [.int .u8, .sl [.int .u64], .int .u16, .int .u16, .int .u16]
/-- A slice of words, as it was handed in. -/
theorem u64s_of {w : World} {c : Value} (h : Leaf.holds w (.sl [.int .u64]) c) : ∃ (a : Option Addr) (cap : Nat) (l : List Int), c = .slice a l.length cap ∧ l.length ≤ maxLen ∧ (∀ v ∈ l, 0 ≤ v ∧ v < 18446744073709551616) ∧ ∀ i (hi : i < l.length), ∃ b off, a = some ⟨b, off, none⟩ ∧ w.cell? ⟨b, off + i, none⟩ = some (.int .u64 (l[i])) := by
  obtain ⟨a, len, cap, rfl, h1, h2, h3, h4⟩ := h
  rcases h4 with rfl | ⟨b, off, rfl, hc⟩
  · exact ⟨a, cap, [], rfl, Nat.zero_le _, fun v hv => (by cases hv), fun i hi => absurd hi (Nat.not_lt_zero _)⟩
  · have key : ∀ i, i < len → ∃ n : Int, w.cell? ⟨b, off + i, none⟩ = some (.int .u64 n) ∧ (Lit.int .u64 n).wf = true := fun i hi => by
      obtain ⟨cs, hl, hcs, hh⟩ := hc i hi
      obtain ⟨c0, r, rfl, g0, hh⟩ := allHold_cons hh
      obtain rfl := allHold_nil hh
      obtain ⟨n, rfl, hn⟩ := holds_int g0
      have := hcs 0 (by simp)
      simp only [Leaf.many, Nat.zero_add, Nat.mul_one, Nat.add_zero, List.getElem?_cons_zero] at this
      exact ⟨n, this, hn⟩
    have : ∃ f : Nat → Int, ∀ i, i < len → w.cell? ⟨b, off + i, none⟩ = some (.int .u64 (f i)) ∧ (Lit.int .u64 (f i)).wf = true := by
      refine ⟨fun i => if h : i < len then (key i h).choose else 0, fun i hi => ?_⟩
      simp only [dif_pos hi]
      exact (key i hi).choose_spec
    obtain ⟨f, hf⟩ := this
    refine ⟨some ⟨b, off, none⟩, cap, (List.range len).map f, by simp, by simp; omega, fun v hv => ?_, fun i hi => ?_⟩
    · obtain ⟨i, hi, rfl⟩ := List.mem_map.1 hv
      exact tb_u64 (hf i (List.mem_range.1 hi)).2
    · simp only [List.length_map, List.length_range] at hi
      refine ⟨b, off, rfl, ?_⟩
      rw [(hf i hi).1]
      simp
end Go.Proofs.YtdbgfidnccpmdaaGreat

/-
  Layer 16: a Way is made and runs by itself.
-/
namespace Go.Proofs.YtdbgfidnccpmdaaGreat
open Go.RowKit Go.Maps TagPure
set_option linter.unusedVariables false

theorem own_loW {w : World} {base b2 e size n : Nat} {v : Value} {xs : List Value} (h : w.ownsRow base e size v n xs) (hl : b2 ≤ base) : w.ownsRow b2 e size v n xs := by
  obtain ⟨h1, h2 | ⟨g, cap, cur, rfl, hb, hg, r⟩⟩ := h
  · exact ⟨h1, .inl h2⟩
  · exact ⟨h1, .inr ⟨g, cap, cur, rfl, Nat.le_trans hl hb, hg, r⟩⟩
theorem WayAt.lower {w : World} {lo lo' xb : Nat} {x : WY} (h : WayAt w lo xb x) (hl : lo' ≤ lo) : WayAt w lo' xb x := by
  obtain ⟨h0, ⟨vb, vw, h1, h2, h3, h4⟩, h5, h6, h7⟩ := h
  exact ⟨Nat.le_trans hl h0, ⟨vb, vw, h1, own_loW h2 hl, own_loW h3 hl, h4⟩, fun m hm => ⟨Nat.le_trans hl (h5 m hm).1, (h5 m hm).2⟩, h6, h7⟩
theorem way_fresh {w0 w w1 : World} {B : WB} {V : WV} {s : CS} {m : Nat} (h : WS w0 w B V s) (hb : Below w.heap.size w w1) (hm : w.heap.size ≤ m) : Besd w1 B V m := by
  refine ⟨fun c => ?_, fun q hq e => ?_⟩
  · obtain ⟨⟨S', hS'⟩, -⟩ := h.own
    obtain ⟨mo, f, hA, rfl⟩ := hS'
    have e : w1.cell? ⟨B.cb, 0, none⟩ = some (.map mo) := by
      have h1 := (hb.block _ (Array.getElem?_eq_some_iff.1 hA.hdr).1).trans hA.hdr
      rw [hcell h1]; rfl
    rw [e] at c
    simp only [Option.some.injEq, Value.map.injEq] at c
    have := (hA.map m c).1.lt
    omega
  · have := (Array.getElem?_eq_some_iff.1 (h.fmk q hq).1).1
    omega
theorem wnew_ok2 {bits most a b : Int} {kb m : Nat} (hb : 1 ≤ bits ∧ bits ≤ 12) (ha : 0 ≤ a ∧ a < tsize bits) (hb2 : 0 ≤ b ∧ b < tsize bits) : WyOk (wnew bits most a b kb m) := by
  have hp := tsize_pos hb
  have hsh := wfirst_sh (N := (tsize bits).toNat) (fun _ _ => 0) (fun _ => 0) (a := a) (b := b) (by omega) (by omega)
  refine ⟨hb, hsh.win, hsh.ahead, fun _ => ?_, fun _ => rfl, Nat.zero_le _, rfl⟩
  show 0 < (wfirst a b).length
  unfold wfirst; split <;> simp
theorem wres_new (bits most a b : Int) (kb m : Nat) (tab : Int → Int) (n : Nat) : wres (wnew bits most a b kb m) tab n = wrun most (tabO bits tab) (tabF tab) n 0 (wfirst a b) := by
  exact if_neg (fun h : false = true => by cases h)
/-- What a Way says behind its run. -/
structure WayR (w : World) (lo xb : Nat) (x : WY) (bits : Int) (r : Nat × List Nd × List (Int × Int) × Bool) : Prop where
  at_ : WayAt w lo xb x
  bits_ : x.bits = bits
  l : x.l = r.2.1
  way : x.way = r.2.2.1
  over : x.over = r.2.2.2
  ok : WyOk x
/-- A run from the start on: it changes nothing that was. -/
theorem newrun {w0 w w1 : World} {B : WB} {V : WV} {s : CS} {xb kb mb : Nat} {bits most a b : Int} {tab : Int → Int} (m : Nat) (hm : m ≤ 1000) (c : Nat) (hc : s.n ≤ c ∧ s.cnt ≤ c) (hcl : c + 1000 < lim) (h : WS w0 w B V s) (hbl : Below w.heap.size w w1) (hx : WayAt w1 w.heap.size xb (wnew bits most a b kb mb)) (hmb : w.heap.size ≤ mb) (hkb : w.heap.size ≤ kb) (hb : 1 ≤ bits ∧ bits ≤ 12) (ha : 0 ≤ a ∧ a < tsize bits) (hb2 : 0 ≤ b ∧ b < tsize bits) (ht : TabOf bits tab s) :
    Calls Tryz.prog 36 #[.pointer (some ⟨B.wb, 0, none⟩), .iface 139 (.pointer (some ⟨xb, 0, none⟩)), .int .i64 m] w1 fun e w' => e = .returned (.int .i64 ((wrun most (tabO bits tab) (tabF tab) m 0 (wfirst a b)).1 : Nat)) ∧ ∃ (x' : WY) (s' : CS), WS w0 w' B V s' ∧ WayR w' w0.heap.size xb x' bits (wrun most (tabO bits tab) (tabF tab) m 0 (wfirst a b)) ∧ x'.mo = some mb ∧ Besd w' B V mb ∧ s'.val = s.val ∧ s'.cnt = s.cnt + (wrun most (tabO bits tab) (tabF tab) m 0 (wfirst a b)).1 ∧ s'.n = s.n + (wrun most (tabO bits tab) (tabF tab) m 0 (wfirst a b)).1 ∧ Fr wTy true w w' ∧ Fy xb kb w1 w' := by
  have hx2 : WayAt w1 w0.heap.size xb (wnew bits most a b kb mb) := hx.lower h.below.size
  have hlow := hx.low
  refine (wayrun (tab := tab) m hm c hc hcl (h.keep hbl) hx2 rfl (way_fresh h hbl hmb) (wnew_ok2 hb ha hb2) ht).mono ?_
  rw [wres_new]
  intro e w' hh
  obtain ⟨h1, x', s', g1, g2, g3, g4, g5, g6, g7, g8, g9, g10, g11, g12, g13⟩ := hh
  refine ⟨h1, x', s', g1, ⟨g2, g6, g7, g8, g9, g4⟩, g5, g3, g10, g11, g12, ?_, g13⟩
  refine ⟨Nat.le_trans hbl.size g13.size, fun k cs T fr hk hT => ?_, fun c => by cases c⟩
  have hlt := (Array.getElem?_eq_some_iff.1 hk).1
  refine g13.cells k cs T fr ((hbl.block k hlt).trans hk) hT (by omega) ?_
  show k ≠ kb
  omega
/-- A Way is left by what changes nothing that was. -/
theorem WayR.frm {w w' : World} {lo xb : Nat} {x : WY} {bits : Int} {r : Nat × List Nd × List (Int × Int) × Bool} (h : WayR w lo xb x bits r) (hf : Fr wTy true w w') (hm : ∀ m, x.mo = some m → w'.heap[m]? = w.heap[m]?) : WayR w' lo xb x bits r :=
  ⟨h.at_.frm hf w_not_y hm, h.bits_, h.l, h.way, h.over, h.ok⟩
theorem WayR.below {w w' : World} {lo xb : Nat} {x : WY} {bits : Int} {r : Nat × List Nd × List (Int × Int) × Bool} (h : WayR w lo xb x bits r) (hb : Below w.heap.size w w') : WayR w' lo xb x bits r :=
  ⟨h.at_.below hb, h.bits_, h.l, h.way, h.over, h.ok⟩
theorem WayAt.kb_lt {w : World} {lo xb : Nat} {x : WY} (h : WayAt w lo xb x) : x.kb < w.heap.size := by
  have hl := h.lt
  obtain ⟨h0, ⟨vb, vw, h1, h2, h3, h4⟩, -⟩ := h
  rcases h4 with h4 | ⟨-, h4⟩
  · obtain ⟨cur, hc⟩ := own_blk h2 h4
    exact (Array.getElem?_eq_some_iff.1 hc).1
  · rw [h4]; exact hl
/-- A Way behind its run, its map marked. -/
def WayH (w : World) (lo xb : Nat) (V : WV) (bits : Int) (r : Nat × List Nd × List (Int × Int) × Bool) : Prop :=
  ∃ x m es cl, WayR w lo xb x bits r ∧ x.mo = some m ∧ w.heap[m]? = some (.map es cl) ∧ (m, es, cl) ∈ V.fm
section
variable {w0 w w' : World} {B : WB} {V V' : WV} {s s' : CS} {lo xb : Nat} {bits : Int} {r : Nat × List Nd × List (Int × Int) × Bool}
theorem WayH.step (h : WayH w lo xb V bits r) (hw : WS w0 w' B V s') (hf : Fr wTy true w w') : WayH w' lo xb V bits r := by
  obtain ⟨x, m, es, cl, h1, h2, h3, h4⟩ := h
  have e := (hw.fmk _ h4).1
  refine ⟨x, m, es, cl, h1.frm hf (fun m' hm' => ?_), h2, e, h4⟩
  rw [h2] at hm'; cases hm'
  exact e.trans h3.symm
theorem WayH.below (h : WayH w lo xb V bits r) (hb : Below w.heap.size w w') : WayH w' lo xb V bits r := by
  obtain ⟨x, m, es, cl, h1, h2, h3, h4⟩ := h
  exact ⟨x, m, es, cl, h1.below hb, h2, (hb.block _ (Array.getElem?_eq_some_iff.1 h3).1).trans h3, h4⟩
theorem WayH.mono (h : WayH w lo xb V bits r) (hs : ∀ q ∈ V.fm, q ∈ V'.fm) : WayH w lo xb V' bits r := by
  obtain ⟨x, m, es, cl, h1, h2, h3, h4⟩ := h
  exact ⟨x, m, es, cl, h1, h2, h3, hs _ h4⟩
theorem WayH.got (h : WayH w lo xb V bits r) (hl : r.2.2.1.length ≤ 10000) : Calls Tryz.prog 61 #[.pointer (some ⟨xb, 0, none⟩)] w fun e w' => ∃ v, e = .returned v ∧ SpN w' w.heap.size v bits r.2.2.1 ∧ Below w.heap.size w w' := by
  obtain ⟨x, m, es, cl, h1, h2, h3, h4⟩ := h
  have := wgot h1.at_ (by rw [h1.way]; omega)
  rw [h1.bits_, h1.way] at this
  exact this
theorem WayH.isover (h : WayH w lo xb V bits r) : Calls Tryz.prog 252 #[.pointer (some ⟨xb, 0, none⟩)] w fun e w' => e = .returned (.bool r.2.2.2) ∧ w' = w := by
  obtain ⟨x, m, es, cl, h1, h2, h3, h4⟩ := h
  have := wover h1.at_
  rw [h1.ok.made, h1.over, show (!true || r.2.2.2) = r.2.2.2 from by cases r.2.2.2 <;> rfl] at this
  exact this
end
abbrev WV.plus (V : WV) (p : Nat × Array MapEntry × Nat) : WV := { V with fm := p :: V.fm }
theorem newrunH {w0 w w1 : World} {B : WB} {V : WV} {s : CS} {xb kb mb : Nat} {bits most a b : Int} {tab : Int → Int} (m : Nat) (hm : m ≤ 1000) (c : Nat) (hc : s.n ≤ c ∧ s.cnt ≤ c) (hcl : c + 1000 < lim) (h : WS w0 w B V s) (hbl : Below w.heap.size w w1) (hx : WayAt w1 w.heap.size xb (wnew bits most a b kb mb)) (hmb : w.heap.size ≤ mb) (hkb : w.heap.size ≤ kb) (hb : 1 ≤ bits ∧ bits ≤ 12) (ha : 0 ≤ a ∧ a < tsize bits) (hb2 : 0 ≤ b ∧ b < tsize bits) (ht : TabOf bits tab s) (r : Nat × List Nd × List (Int × Int) × Bool) (hr : r = wrun most (tabO bits tab) (tabF tab) m 0 (wfirst a b)) :
    Calls Tryz.prog 36 #[.pointer (some ⟨B.wb, 0, none⟩), .iface 139 (.pointer (some ⟨xb, 0, none⟩)), .int .i64 m] w1 fun e w' => e = .returned (.int .i64 (r.1 : Nat)) ∧ ∃ p s', WS w0 w' B (V.plus p) s' ∧ WayH w' w0.heap.size xb (V.plus p) bits r ∧ s'.val = s.val ∧ s'.cnt = s.cnt + r.1 ∧ s'.n = s.n + r.1 ∧ Fr wTy true w w' ∧ Fy xb kb w1 w' := by
  subst hr
  refine (newrun (tab := tab) m hm c hc hcl h hbl hx hmb hkb hb ha hb2 ht).mono fun e w' hh => ?_
  obtain ⟨h1, x', s', g1, g2, g3, g4, g5, g6, g7, g8, g9⟩ := hh
  obtain ⟨es, cl, hmb2⟩ := (g2.at_.mp mb g3).2.blk
  exact ⟨h1, (mb, es, cl), s', g1.more hmb2 g4.ne, ⟨x', mb, es, cl, g2, g3, hmb2, by simp⟩, g5, g6, g7, g8, g9⟩
end Go.Proofs.YtdbgfidnccpmdaaGreat

/-
  A Room: the look that leads to a search.
-/
namespace Go.Proofs.YtdbgfidnccpmdaaGreat
open Go.RowKit Go.Maps TagPure
set_option linter.unusedVariables false

theorem room_not_y (T : TypeId) (h : yTy T = true) : (T == 250) = false := by
  cases hT : (T == 250)
  · rfl
  · rw [beq_iff_eq] at hT; subst hT; cases h
theorem besd_set {w0 w : World} {B : WB} {V : WV} {s : CS} {m rb : Nat} {cs : Array Value} (h : Besd w B V m) (hw : WS w0 w B V s) (hb : w.heap[rb]? = some (.cells cs 250 (0, 0))) (o : Nat) (v : Value) : Besd (w.setCell ⟨rb, o, none⟩ v) B V m := by
  refine ⟨?_, h.fm⟩
  have hne : B.cb ≠ rb := fun c => by
    obtain ⟨⟨S2, mo, f, hc, -⟩, -⟩ := hw.own
    have := hc.hdr
    rw [c, hb] at this
    simp only [Option.some.injEq, Obj.cells.injEq] at this
    exact absurd this.2.1 (by decide)
  have e : (w.setCell ⟨rb, o, none⟩ v).cell? ⟨B.cb, 0, none⟩ = w.cell? ⟨B.cb, 0, none⟩ := by
    unfold World.cell?
    simp only
    rw [Below.heap_setCell _ _ _ _ hne]
  rw [e]; exact h.ne
abbrev TNw (rb wb : Nat) (bits a b way : Int) (W : World) : Prop := W.cell? ⟨rb, 0, none⟩ = some (.int .i64 bits) ∧ W.cell? ⟨rb, 2, none⟩ = some (.int .i64 a) ∧ W.cell? ⟨rb, 3, none⟩ = some (.int .i64 b) ∧ W.cell? ⟨wb, 7, none⟩ = some (.int .i64 way)
theorem RMB.tnw {w0 w W : World} {B : WB} {V : WV} {s : CS} {rb : Nat} {x : RM} (h : RMB w0 w W B V s rb x) {bits : Int} (hb : x.bits = bits) : TNw rb B.wb bits x.a x.b V.c.way W := by
  obtain ⟨c0, c2, c3, -⟩ := h.rm.c
  rw [hb] at c0
  exact ⟨c0, c2, c3, (h.ws.cell 7).trans rfl⟩
theorem RMB.tnw5 {w0 w W : World} {B : WB} {V : WV} {s : CS} {rb : Nat} {x : RM} (h : RMB w0 w W B V s rb x) {bits : Int} (hb : x.bits = bits) (v : Value) : TNw rb B.wb bits x.a x.b V.c.way (W.setCell ⟨rb, 5, none⟩ v) := by
  obtain ⟨-, u, b1, -⟩ := h.rm
  obtain ⟨c0, c2, c3, -⟩ := h.rm.c
  have hs := setCell_same b1 5 v
  refine ⟨(hcell hs 0).trans ?_, hcell hs 2, hcell hs 3, ?_⟩
  · rw [← hb]; rfl
  · exact ((set_take h.ws b1 rfl h.rm.low v).cell 7).trans rfl
set_option maxRecDepth 10000 in
set_option maxHeartbeats 600000 in
/-- A look that finds no free slot, at the last bucket. -/
theorem look_way {w0 w : World} {B : WB} {V : WV} {s : CS} {rb : Nat} {x : RM} (h : WS w0 w B V s) (hr : s.room) (hx : RoomAt w w0.heap.size rb x) (c : Int) (r : List Int) (hl : x.l = c :: r) (hr0 : r = []) (hf0 : frW (s.val (tagsA x.bits c)) = -1) (hab : (0 ≤ x.a ∧ x.a < tsize x.bits) ∧ 0 ≤ x.b ∧ x.b < tsize x.bits) :
    Calls Tryz.prog 122 #[.pointer (some ⟨rb, 0, none⟩), .pointer (some ⟨B.wb, 0, none⟩)] w fun e w' => e = .returned (.tuple #[]) ∧ ∃ xb kb m, RSB w0 w w' B V (s.acc 1 (tagsA x.bits c) (s.val (tagsA x.bits c))) [rb] rb { x with l := [], way := some ⟨xb, 0, none⟩, ph := .search } xb m (wnew x.bits V.c.way x.a x.b kb m) := by
  have hB : RMB w0 w w B V s rb x := ⟨h, hx, ((below_fr (Below.refl _ _) wTy true).fx rb)⟩
  obtain ⟨v, hv⟩ : ∃ v, v = s.val (tagsA x.bits c) := ⟨_, rfl⟩
  have hvb := wf_bd (h.own.wf (tagsA x.bits c))
  have hll : r.length ≤ 10 := by rw [hr0]; decide
  have hfin : True := trivial
  have hgo : True := trivial
  have HR0 := Lib.hid hr0; have HAB := Lib.hid hab
  rw [← hv] at hvb hf0 ⊢
  have HF0 := Lib.hid hf0
  obtain ⟨A, hA⟩ : ∃ A, A = tagsA x.bits c := ⟨_, rfl⟩
  have hTG := fun W => tags_any x.bits c W
  have hAw : (Lit.int .u64 A).wf = true := by rw [hA]; exact tagsA_wf _ _
  rw [← hA] at hTG hv ⊢
  obtain ⟨l0, u, b1, b2⟩ := hx
  rw [hl] at b2
  obtain ⟨g, o, k, rfl, hc, hrk, hkm, hpop⟩ := sli_pop b2
  obtain ⟨c0, -⟩ := hB.rm.c
  have c1 : w.cell? ⟨rb, 1, none⟩ = some (.slice (some ⟨g, o, none⟩) (r.length + 1) (k + 1)) := hcell b1 1
  have f1 := hfrz b1 1
  obtain ⟨bits, hbt⟩ : ∃ bits, bits = x.bits := ⟨_, rfl⟩
  rw [← hbt] at c0 hTG
  unfold maxLen at hkm
  have hkm2 : (k : Int) + 1 ≤ 9223372036854775807 := by omega
  have al : ∀ (ob : Obj) {q j : Nat} {u : Value}, w.cell? ⟨q, j, none⟩ = some u → (w.alloc ob).cell? ⟨q, j, none⟩ = some u := fun ob q j u hu => by rw [World.cell?_alloc_past _ _ _ (World.block_lt_of_cell? _ _ hu)]; exact hu
  have c0' := fun ob => al ob c0
  have c1' := fun ob => al ob c1
  have hc' := fun ob => al ob hc
  have HB := Lib.hid hB; have HV := Lib.hid hv; have HVB := Lib.hid hvb; have HFIN := Lib.hid hfin; have HGO := Lib.hid hgo; have HAW := Lib.hid hAw; have HR := Lib.hid hr; have HPOP := Lib.hid hpop; have HL := Lib.hid hl; have HLL := Lib.hid hll; have HRK := Lib.hid hrk; have HBT := Lib.hid hbt; have HC1 := Lib.hid c1
  clear h hr hl hll hgo hr0 hf0 hab hB hv hvb hfin hA hAw b1 b2 hpop hrk hbt al f1 l0
  go_enter Tryz.func122, Tryz.ntmps122
  go_upto_region 0 with (fail)
  go_region
  go_upto_region 1 with (fail)
  have n1 : (w.alloc (.cells #[.int .i64 bits, .int .i64 c] 41)).drew.heap[w.heap.size]? = some (.cells #[.int .i64 bits, .int .i64 c] 41 (0, 0)) := heap_alloc_new w (.cells #[.int .i64 bits, .int .i64 c] 41)
  have k1 := (below_alloc w (.cells #[.int .i64 bits, .int .i64 c] 41)).drew
  have HB2 := Lib.hid (HB.out.below k1); have N1 := Lib.hid n1
  have HPOP2 := Lib.hid (HPOP.out.fr (below_fr k1 (fun _ => false) false) rfl)
  have c12 : (w.alloc (.cells #[.int .i64 bits, .int .i64 c] 41)).drew.cell? ⟨rb, 1, none⟩ = some (.slice (some ⟨g, o, none⟩) (r.length + 1) (k + 1)) := (k1.cell (World.block_lt_of_cell? _ _ HC1.out)).trans HC1.out
  have f12 := HB2.out.rm.f 1
  clear n1 k1 c0 c1 hc c0' c1' hc' HB HPOP HC1
  generalize (w.alloc (.cells #[.int .i64 bits, .int .i64 c] 41)).drew = w2 at *
  obtain ⟨nb, hnb⟩ : ∃ nb, nb = w.heap.size := ⟨_, rfl⟩
  rw [← hnb] at N1
  try simp only [← hnb]
  clear hnb
  have HB3 := Lib.hid (HB2.out.setl HPOP2.out)
  have HN3 := Lib.hid ((set_ty (show w2.heap[rb]? = some (.cells _ 250 (0, 0)) from HB2.out.rm.blk.choose_spec) 1 (.slice (some ⟨g, if k = 0 then o else o + 1, none⟩) r.length k)).cells _ _ _ _ N1.out rfl)
  clear HB2 HPOP2 N1
  go_cut [22] (fun v22 wx => RMB w0 w wx B V s rb { x with l := r } ∧ wx.heap[nb]? = some (.cells #[.int .i64 bits, .int .i64 c] 41 (0, 0)))
  case first =>
    have hkm3 : ¬ ((k : Int) + 1 = 0) := by omega
    rcases k with _ | k
    · go_wp2_with (fail)
      go_meet
      have h3 := HB3.out
      have n3 := HN3.out
      rw [if_pos trivial] at h3 n3
      exact ⟨h3, n3⟩
    · go_wp2_with (fail)
      go_meet
      have h3 := HB3.out
      have n3 := HN3.out
      rw [if_neg (Nat.succ_ne_zero k)] at h3 n3
      exact ⟨h3, n3⟩
  case rest =>
    obtain ⟨h3, n3⟩ := hcut
    have HB4 := Lib.hid h3; have N4 := Lib.hid n3
    clear h3 n3 HB3 HN3 c12 f12
    generalize wc = w3 at *
    have hb0 : Below w3.heap.size w3 w3.drew := (Below.refl _ _).drew
    have HB5 := Lib.hid (HB4.out.below hb0); have N5 : Hid (w3.drew.heap[nb]? = some (.cells #[.int .i64 bits, .int .i64 c] 41 (0, 0))) := N4.out
    have s1 : TLk nb B.wb B.cb bits c w3.drew := ⟨HB5.out.ws.c0, hcell N5.out 0, hcell N5.out 1⟩
    have hfree := fun W => free_any v W HVB.out.1 HVB.out.2
    have hfe : freeFrom v 0 4 = frW v := rfl
    rw [hfe] at hfree
    clear hfe hb0
    go_upto_region 2 with (fail)
    go_region_held2 (fun W => TLk nb B.wb B.cb bits c W) (assumption) (first
      | (go_at_call 119; refine (hTG _).mono ?_; intro e w4 hh; obtain ⟨hh1, b4⟩ := hh; subst hh1; have HB6 := Lib.hid (HB5.out.below b4); have n6 := (b4.block _ (Array.getElem?_eq_some_iff.1 N5.out).1).trans N5.out; have N6 := Lib.hid n6; have s4 : TLk nb B.wb B.cb bits c w4 := ⟨HB6.out.ws.c0, hcell N6.out 0, hcell N6.out 1⟩; have hld := HB6.out.ws.load HR.out A HAW.out; rw [← HV.out] at hld; clear b4 n6 s1 HB5 N5 hTG)
      | (go_at_call 148; refine hld.mono ?_; intro e w5 hh; obtain ⟨hh1, h5, f5⟩ := hh; subst hh1; have HB7 := Lib.hid (HB6.out.move h5 f5); have N7 := Lib.hid (f5.cells _ _ _ _ N6.out rfl); have s5 : TLk nb B.wb B.cb bits c w5 := ⟨HB7.out.ws.c0, hcell N7.out 0, hcell N7.out 1⟩; clear h5 f5 hld s4 HB6 N6)
      | (go_at_call 190; refine (hfree _).mono ?_; intro e w6 hh; obtain ⟨hh1, b6⟩ := hh; subst hh1; have HB8 := Lib.hid (HB7.out.below b6); have n8 := (b6.block _ (Array.getElem?_eq_some_iff.1 N7.out).1).trans N7.out; have N8 := Lib.hid n8; have s6 : TLk nb B.wb B.cb bits c w6 := ⟨HB8.out.ws.c0, hcell N8.out 0, hcell N8.out 1⟩; clear b6 n8 hfree s5 HB7 N7))
    clear s6 HB4 N4
    rw [HF0.out]
    have hr := HR0.out
    subst hr
    obtain ⟨_, ur, ub, ⟨ua, uc, hua, -⟩⟩ := HB8.out.rm
    have c1 : w6.cell? ⟨rb, 1, none⟩ = some (.slice ua 0 uc) := by have h := hcell ub 1; rw [hua] at h; exact h
    clear ub hua
    go_upto_region 6 with (fail)
    have hB8 := HB8.out
    obtain ⟨c0, c2, c3, c4, c5, -⟩ := hB8.rm.c
    have d0 : w6.cell? ⟨rb, 0, none⟩ = some (.int .i64 bits) := by have h := c0; rw [show ({ x with l := [] } : RM).bits = bits from HBT.out.symm] at h; exact h
    have d2 : w6.cell? ⟨rb, 2, none⟩ = some (.int .i64 x.a) := c2
    have d3 : w6.cell? ⟨rb, 3, none⟩ = some (.int .i64 x.b) := c3
    have d7 : w6.cell? ⟨B.wb, 7, none⟩ = some (.int .i64 V.c.way) := (hB8.ws.cell 7).trans rfl
    have hB9 := hB8.below (show Below w6.heap.size w6 w6.drew from (Below.refl _ _).drew)
    have HB9 := Lib.hid hB9
    have s6 : TNw rb B.wb bits x.a x.b V.c.way w6.drew := ⟨d0, d2, d3, d7⟩
    have nw := newway_ok (bits := bits) (most := V.c.way) (a := x.a) (b := x.b) (by rw [HBT.out]; exact HAB.out.1) (by rw [HBT.out]; exact HAB.out.2) w6.drew
    clear c0 c2 c3 d0 d2 d3 d7 hB8 hB9 c1 c5
    go_region_held2 (fun W => TNw rb B.wb bits x.a x.b V.c.way W) (first | assumption | exact s8 _) (first
      | (go_at_call 57; with_reducible refine nw.mono ?_; intro e w7 hh; obtain ⟨xb, kb, m, hh1, a7, b7, m7, k7⟩ := hh; subst hh1; have HBA := Lib.hid (HB9.out.below b7); have A7 := Lib.hid a7; have M7 := Lib.hid (And.intro m7 k7); have BS7 := Lib.hid (way_fresh HB9.out.ws b7 m7); have s7 : TNw rb B.wb bits x.a x.b V.c.way w7 := HBA.out.tnw HBT.out.symm; have s8 : ∀ v, TNw rb B.wb bits x.a x.b V.c.way (w7.setCell ⟨rb, 5, none⟩ v) := fun v => HBA.out.tnw5 HBT.out.symm v; have ff := HBA.out.rm.f; obtain ⟨-, -, -, c4, c5, -⟩ := HBA.out.rm.c; clear b7 a7 m7 k7 s6 nw))
    obtain ⟨kk, e7⟩ := HBA.out.rm.blk
    have R8 := Lib.hid (HBA.out.set (y := { x with l := [], way := some ⟨xb, 0, none⟩ }) 5 (.pointer (some ⟨xb, 0, none⟩)) rfl (fun _ => rfl))
    obtain ⟨kj, e8⟩ := R8.out.rm.blk
    have W8 := A7.out.fr (set_ty e7 5 (.pointer (some ⟨xb, 0, none⟩))) room_not_y
    have R9 := Lib.hid (R8.out.set (y := { x with l := [], way := some ⟨xb, 0, none⟩, ph := .search }) 4 (.func (.func 192) #[] #[]) rfl (fun _ => rfl))
    have W9 := Lib.hid ((W8.fr (set_ty e8 4 (.func (.func 192) #[] #[])) room_not_y).lower HB9.out.ws.below.size)
    have B9 := Lib.hid (besd_set (besd_set BS7.out HBA.out.ws e7 5 (.pointer (some ⟨xb, 0, none⟩))) R8.out.ws e8 4 (.func (.func 192) #[] #[]))
    have hz := HB9.out.fx.size
    have hlow := A7.out.low
    have hkb := M7.out.2
    clear s7 s8 e7 e8 W8
    go_wp2_with (fail)
    have hfin : RSB w0 w _ B V (s.acc 1 A v) [rb] rb { x with l := [], way := some ⟨xb, 0, none⟩, ph := .search } xb m (wnew bits V.c.way x.a x.b kb m) := ⟨R9.out.ws, R9.out.rm, W9.out, B9.out, R9.out.fx.fs (List.mem_singleton.2 rfl), by
      rintro k (rfl | rfl | rfl)
      · exact .inl (List.mem_singleton.2 rfl)
      · exact .inr (Nat.le_trans hz hlow)
      · exact .inr (Nat.le_trans hz hkb)⟩
    go_end0
    rw [HBT.out] at hfin
    exact ⟨rfl, xb, kb, m, hfin⟩
/-- A step that looks, whatever its look comes to. -/
theorem rmstep_lookd {W : World} {lo rb : Nat} {x : RM} {wb : Nat} (h : RoomAt W lo rb x) (hp : x.ph = .look) (D : Bool) {Q : World → Prop} (hf : Calls Tryz.prog 122 #[.pointer (some ⟨rb, 0, none⟩), .pointer (some ⟨wb, 0, none⟩)] W fun e w' => e = .returned (.tuple #[]) ∧ Q w') (hq : ∀ w', Q w' → ∃ lo' x', RoomAt w' lo' rb x' ∧ decide (x'.ph = .off) = D) :
    Calls Tryz.prog 49 #[.pointer (some ⟨rb, 0, none⟩), .pointer (some ⟨wb, 0, none⟩)] W fun e w' => e = .returned (.bool D) ∧ Q w' := by
  have hov := rmover h
  rw [decide_eq_false (show x.ph ≠ .off by rw [hp]; decide)] at hov
  obtain ⟨-, -, -, c4, -⟩ := h.c
  rw [hp] at c4
  simp only [RPh.fn] at c4
  have HQ := Lib.hid hq
  clear h hp hq
  go_enter Tryz.func49, Tryz.ntmps49
  go_upto_region 2 with (go_at_call 60; refine hov.mono ?_; intro e w2 hh; obtain ⟨hh1, hh2⟩ := hh; subst hh1; obtain rfl := hh2.symm; clear hov)
  go_upto_region 3 with (go_at_call 122; refine hf.mono ?_; intro e w3 hh; obtain ⟨hh1, h3⟩ := hh; subst hh1; have H3 := Lib.hid h3; obtain ⟨lo3, x3, r3, d3⟩ := HQ.out w3 h3; have ho3 := rmover r3; rw [d3] at ho3; clear h3 r3 d3 hf c4)
  go_wp2_with (go_at_call 60; refine ho3.mono ?_; intro e w4 hh; obtain ⟨hh1, hh2⟩ := hh; subst hh1; obtain rfl := hh2.symm; clear ho3)
  go_ret
  exact ⟨rfl, H3.out⟩
end Go.Proofs.YtdbgfidnccpmdaaGreat

/-
  The way that paths find for a Full's key.
-/
namespace Go.Proofs.YtdbgfidnccpmdaaGreat
open Go.RowKit Go.Maps TagPure
set_option linter.unusedVariables false

def tabV (v : Int → Int) (b : Int) : Int → Int := fun u => v (tagsA b u)
/-- The way from two buckets. -/
def fway (v : Int → Int) (b most u1 u2 : Int) (n : Nat) : Nat × List Nd × List (Int × Int) × Bool := wrun most (tabO b (tabV v b)) (tabF (tabV v b)) n 0 (wfirst u1 u2)
theorem fway_tab {b : Int} (hb : 1 ≤ b ∧ b ≤ 3) : 2 ≤ (tsize b).toNat ∧ (tsize b).toNat ≤ 8 ∧ (((tsize b).toNat : Nat) : Int) = tsize b := by
  have h1 := tsize_pos (b := b) ⟨hb.1, by omega⟩
  have h2 := (SIn.size (b := b) (u := 0) (k := 0) ⟨hb.1, hb.2, by omega, by omega, by omega, by omega⟩).2
  omega
theorem fway_steps {v : Int → Int} {b most u1 u2 : Int} (hb : 1 ≤ b ∧ b ≤ 3) (h1 : 0 ≤ u1 ∧ u1 < tsize b) (h2 : 0 ≤ u2 ∧ u2 < tsize b) {n : Nat} (hn : 8 ≤ n) : (fway v b most u1 u2 n).2.2.2 = true ∧ (fway v b most u1 u2 n).1 ≤ 8 := by
  obtain ⟨t1, t2, t3⟩ := fway_tab hb
  obtain ⟨s1, s2, s3⟩ := wrun_steps (tabF (tabV v b)) (tab_ok b ⟨hb.1, by omega⟩ (tabV v b)) most n 0 (wfirst u1 u2) (wfirst_sh (N := (tsize b).toNat) (tabO b (tabV v b)) (tabF (tabV v b)) (by omega) (by omega)).win (Nat.zero_le _) (by omega)
  have := s3.len
  exact ⟨s1, by unfold fway; omega⟩
theorem fway_leads {v : Int → Int} {b most u1 u2 : Int} (hb : 1 ≤ b ∧ b ≤ 3) (h1 : 0 ≤ u1 ∧ u1 < tsize b) (h2 : 0 ≤ u2 ∧ u2 < tsize b) {n : Nat} (hn : 8 ≤ n) : Leads (tabO b (tabV v b)) (tabF (tabV v b)) u1 u2 (fway v b most u1 u2 n).2.2.1 := by
  obtain ⟨t1, t2, t3⟩ := fway_tab hb
  have ht := tab_ok b ⟨hb.1, by omega⟩ (tabV v b)
  have hsh := (wshort (fr := tabF (tabV v b)) ht (by omega) (cap := ((tsize b).toNat : Int)) (Int.le_refl _) (a := u1) (b := u2) (by omega) (by omega) n (by omega)).2
  rcases wany (fr := tabF (tabV v b)) ht (by omega) most (a := u1) (b := u2) (by omega) (by omega) n (by omega) with e | e
  · unfold fway
    rw [e]
    exact ⟨fun x hx => (by simp at hx), fun t x y hx => (by simp at hx), fun x hx => (by simp at hx), by simp⟩
  · unfold fway
    rw [e]
    exact ends_leads hsh
theorem tagOf_nat (x : Int) (n : Nat) (h : n < 4) : tagOf x (n : Int) = tg x n := by unfold tagOf; rw [if_pos (by omega)]; simp
/-- A way that was found is one for hops. -/
theorem leads_hway {b : Int} {its : List Itm} {v : Int → Int} {u1 u2 : Int} {Wy : List (Int × Int)} (hT : Tbl b its v) (hbd : Word v) (hev : ∀ a, 64 ≤ a → a < 128 → v a % 2 = 0) (h1 : 0 ≤ u1 ∧ u1 < tsize b) (h2 : 0 ≤ u2 ∧ u2 < tsize b) (hL : Leads (tabO b (tabV v b)) (tabF (tabV v b)) u1 u2 Wy) (hne : Wy ≠ []) :
    HWay b its (cntI v b) Wy (Wy.length - 1) v := by
  have hb12 : 1 ≤ b ∧ b ≤ 12 := ⟨hT.b1, by have := hT.b3; omega⟩
  have hlen : 0 < Wy.length := List.length_pos_iff.2 hne
  have tab := tab_ok b hb12 (tabV v b)
  obtain ⟨t1, t2, t3⟩ := fway_tab ⟨hT.b1, hT.b3⟩
  have rng : ∀ (i : Nat) (x : Int × Int), Wy[i]? = some x → 0 ≤ x.1 ∧ x.1 < tsize b := by
    intro i
    induction i with
    | zero =>
      intro x hx
      rcases hL.first x hx with e | e <;> rw [e] <;> assumption
    | succ i ih =>
      intro y hy
      have hi : i < Wy.length := by have := (List.getElem?_eq_some_iff.1 hy).1; omega
      obtain ⟨-, s, hs, -, ho⟩ := hL.next i _ y (List.getElem?_eq_getElem hi) hy
      have h0 := ih _ (List.getElem?_eq_getElem hi)
      have := tab.o_in (Wy[i]).1 s h0.1 (by omega) hs
      rw [ho] at this
      omega
  have slot : ∀ (i : Nat) (x : Int × Int), Wy[i]? = some x → 0 ≤ x.2 ∧ x.2 < 4 := by
    intro i x hx
    have hi := (List.getElem?_eq_some_iff.1 hx).1
    by_cases hl : i + 1 < Wy.length
    · obtain ⟨-, s, hs, e, -⟩ := hL.next i x _ hx (List.getElem?_eq_getElem hl)
      rw [e]; omega
    · obtain ⟨e1, e2⟩ := hL.last x (by rw [show Wy.length - 1 = i by omega]; exact hx)
      rcases free_casesW (tabV v b x.1) with e | ⟨n, hn, e, -⟩
      · unfold tabF frW at e2; omega
      · rw [e1]; unfold tabF frW; rw [e]; omega
  have sin : ∀ (i : Nat) (x : Int × Int), Wy[i]? = some x → SIn b x.1 x.2 := fun i x hx => ⟨hT.b1, hT.b3, (rng i x hx).1, (rng i x hx).2, (slot i x hx).1, (slot i x hx).2⟩
  refine ⟨hT, fun r _ => rfl, hbd, hev, fun x hx => ?_, hL.unlike, by omega, fun x hx => ?_, fun i x y hi hx hy => ?_⟩
  · obtain ⟨i, hi⟩ := List.mem_iff_getElem?.1 hx
    exact sin i x hi
  · obtain ⟨e1, e2⟩ := hL.last x hx
    have hs := sin _ x hx
    rcases free_casesW (tabV v b x.1) with e | ⟨n, hn, e, ht⟩
    · unfold tabF frW at e2; omega
    · have hx2 : x.2 = (n : Int) := by rw [e1]; unfold tabF frW; exact e
      have h0 : (slA v b x.1 x.2).1 = 0 := by
        unfold slA
        rw [hx2, tagOf_nat _ n hn]; exact ht
      rcases hT.slot x.1 x.2 hs with h | ⟨m, z, -, h, -⟩
      · exact h
      · rw [h] at h0
        have := tag01_bd (hashOf z.key) (hfold_bd _ _).1 (hfold_bd _ _).2
        simp only at h0; omega
  · obtain ⟨hf, s, hs, e, ho⟩ := hL.next i x y hx hy
    have hfr : frW (tabV v b x.1) = -1 := by
      have := frW_nn (tabV v b x.1)
      unfold tabF at hf
      omega
    have hfu := full_tags (tabV v b x.1) (hbd _).1 hfr s hs
    have et : (slA v b x.1 x.2).1 = tg (tabV v b x.1) s := by
      unfold slA
      rw [e, tagOf_nat _ s hs]; rfl
    rw [et]
    exact ⟨hfu.1, ho⟩
theorem way_le8 {v : Int → Int} {b most u1 u2 : Int} (hb : 1 ≤ b ∧ b ≤ 3) (h1 : 0 ≤ u1 ∧ u1 < tsize b) (h2 : 0 ≤ u2 ∧ u2 < tsize b) {n : Nat} (hn : 8 ≤ n) : (fway v b most u1 u2 n).2.2.1.length ≤ 10000 := by
  obtain ⟨t1, t2, t3⟩ := fway_tab hb
  have hw : ∀ (c : Int) (o : Int → Nat → Int) (fr : Int → Int) n k l, (wrun c o fr n k l).2.2.1.length ≤ (wrun c o fr n k l).2.1.length := by
    intro c o fr n
    induction n with
    | zero => intro k l; simp [wrun]
    | succ n ih =>
      intro k l
      unfold wrun
      split
      · simp
      · split
        · simp only [wway, List.length_reverse]; exact wpath_len l _ _ _
        · exact ih _ _
  obtain ⟨s1, s2, s3⟩ := wrun_steps (tabF (tabV v b)) (tab_ok b ⟨hb.1, by omega⟩ (tabV v b)) most n 0 (wfirst u1 u2) (wfirst_sh (N := (tsize b).toNat) (tabO b (tabV v b)) (tabF (tabV v b)) (by omega) (by omega)).win (Nat.zero_le _) (by omega)
  have := s3.len
  have := hw most (tabO b (tabV v b)) (tabF (tabV v b)) n 0 (wfirst u1 u2)
  unfold fway
  omega
def u1of (f : Ful) (b : Int) : Int := bk (hashOf f.key) b
def u2of (f : Ful) (b : Int) : Int := oth (bk (hashOf f.key) b) (tag01 (hashOf f.key)) b
theorem uof_in (f : Ful) {b : Int} (hb : 1 ≤ b ∧ b ≤ 3) : (0 ≤ u1of f b ∧ u1of f b < tsize b) ∧ 0 ≤ u2of f b ∧ u2of f b < tsize b := by
  obtain ⟨h0, h1⟩ := hfold_bd f.key f.key.size
  have htb := tag01_bd (hashOf f.key) h0 h1
  have hkb := bk_bd (hashOf f.key) b ⟨hb.1, by omega⟩
  exact ⟨hkb, oth_bd0 _ _ b ⟨hb.1, by omega⟩ hkb (by omega)⟩
def FWayPost (f : Ful) (w0 w : World) (B : WB) (V : WV) (s : CS) (b : Int) (e : Ending) (w' : World) : Prop :=
  ∃ v p s', e = .returned v ∧ WS w0 w' B (V.plus p) s' ∧ s'.val = s.val ∧ s'.n ≤ s.n + 8 ∧ s'.cnt ≤ s.cnt + 8 ∧ SpN w' w.heap.size v b (fway s.val b (2 + f.most) (u1of f b) (u2of f b) 600).2.2.1 ∧ Fr wTy true w w'
set_option maxRecDepth 10000 in
set_option maxHeartbeats 4000000 in
theorem fway_any (f : Ful) {w0 w : World} {B : WB} {V : WV} {s : CS} {b : Int} (h : WS w0 w B V s) (hr : FulRd w f) (hb : 1 ≤ b ∧ b ≤ 3) (hw : s.val 2 = tword b 0) (c : Nat) (hc : s.n ≤ c ∧ s.cnt ≤ c) (hcl : c + 1000 < lim) :
    Calls Tryz.prog 66 #[.agg f.cells, .pointer (some ⟨B.wb, 0, none⟩)] w (FWayPost f w0 w B V s b) := by
  have hB := below_alloc w (.cells f.cells 130)
  have z := heap_alloc_new w (.cells f.cells 130)
  have hb12 : 1 ≤ b ∧ b ≤ 12 := ⟨hb.1, by omega⟩
  obtain ⟨q1, q2, q3⟩ := as_one (b := b) ⟨hb.1, by omega⟩
  have has := fun W => as_any (tword b 0) (tword_wf4 ⟨hb.1, by omega⟩) W
  rw [q1, q2] at has
  obtain ⟨h0, h1⟩ := hfold_bd f.key f.key.size
  have hha := Lib.hid (fun W => hash_big f.key hr.key W)
  have hbk := Lib.hid (fun W => bucket_fn (hashOf f.key) b h0 h1 hb12 W)
  have htg := Lib.hid (fun W => tag_fn (hashOf f.key) h0 h1 W)
  have htb := tag01_bd (hashOf f.key) h0 h1
  have hkb := bk_bd (hashOf f.key) b hb12
  have hot := Lib.hid (fun W => other_fn (bk (hashOf f.key) b) (tag01 (hashOf f.key)) b hb12 hkb htb W)
  obtain ⟨hu1, hu2⟩ := uof_in f hb
  have hst := fway_steps (v := s.val) (b := b) (most := 2 + f.most) hb hu1 hu2 (n := 600) (by omega)
  have hmo := hr.most
  have hnw := Lib.hid (fun W => newway_ok b (u1of f b) (u2of f b) (2 + f.most) hu1 hu2 W)
  unfold u1of u2of at hnw
  have hpk := (h.keep hB).peek 2 (by decide)
  rw [hw] at hpk
  have c0 := (h.keep hB).c0
  have g1 : 0 ≤ f.most ∧ f.most < 1000000 := by omega
  have g2 : 0 ≤ 2 + f.most ∧ 2 + f.most < 1000000 := by omega
  have em : wrap64 f.most = f.most := w64s rfl g1
  have em2 : wrap64 (2 + f.most) = 2 + f.most := w64s rfl g2
  have em3 : IntKind.i64.wrap f.most = f.most := (IntWalk.i64_left _).trans em
  have em4 : IntKind.i64.wrap (2 + f.most) = 2 + f.most := (IntWalk.i64_left _).trans em2
  obtain ⟨R, hR⟩ : ∃ R, R = fway s.val b (2 + f.most) (u1of f b) (u2of f b) 600 := ⟨_, rfl⟩
  unfold FWayPost
  rw [← hR] at hst ⊢
  have H := Lib.hid h; have HB := Lib.hid hB; have HZ := Lib.hid z; have HBI := Lib.hid hb; have HC := Lib.hid hc; have HCL := Lib.hid hcl; have HR := Lib.hid hR; have HST := Lib.hid hst; have HU := Lib.hid (And.intro hu1 hu2)
  clear h hB z hb hw hc hcl hR hst hu1 hu2 hb12 q1 q2 q3 h0 h1 htb hkb hr hmo g1 g2
  go_enter Tryz.func66, Tryz.ntmps66
  go_upto_region 1 with (fail)
  change Code.wp _ _ _ _ (w.alloc (.cells f.cells 130))
  obtain ⟨w1, hw1⟩ : ∃ w1, w1 = w.alloc (.cells f.cells 130) := ⟨_, rfl⟩
  rw [← hw1] at HB HZ hpk c0 ⊢
  clear hw1
  obtain ⟨-, -, -, e3, e4, -⟩ := ful_cells HZ.out
  go_upto_region 3 with (first
    | (go_at_call 33; refine hpk.mono ?_; intro e w' hh; obtain ⟨hh1, hh2⟩ := hh; subst hh1; obtain rfl := hh2.symm; clear hpk)
    | (go_at_call 53; refine (has _).mono ?_; intro e w' hh; obtain ⟨hh1, hh2⟩ := hh; subst hh1; obtain rfl := hh2.symm; clear has)
    | (go_at_call 32; refine (hha.out _).mono ?_; intro e w2 hh; obtain ⟨hh1, b2⟩ := hh; subst hh1; have B2 := Lib.hid (HB.out.trans (b2.mono HB.out.size)); have e4' := (b2.cell (p := ⟨w.heap.size, 4, none⟩) (World.block_lt_of_cell? _ _ e4)).trans e4; clear b2 e3 e4))
  go_upto_region 4 with (go_at_call 54; refine (hbk.out _).mono ?_; intro e w' hh; obtain ⟨hh1, hh2⟩ := hh; subst hh1; obtain rfl := hh2.symm)
  have x4 : ∀ st : ExtW w2, st.val.cell? ⟨w.heap.size, 4, none⟩ = some (.int .u8 f.most) := fun st => st.cell e4'
  have t4 : w2.drew.cell? ⟨w.heap.size, 4, none⟩ = some (.int .u8 f.most) := e4'
  clear e4' x4
  go_region_held2 (fun W => W.cell? ⟨w.heap.size, 4, none⟩ = some (.int .u8 f.most)) (assumption) (first
    | (go_at_call 56; refine (htg.out _).mono ?_; intro e w' hh; obtain ⟨hh1, hh2⟩ := hh; subst hh1; obtain rfl := hh2.symm)
    | (go_at_call 55; (with_reducible refine (hot.out _).mono ?_); intro e w' hh; obtain ⟨hh1, hh2⟩ := hh; subst hh1; obtain rfl := hh2.symm)
    | (go_at_call 57; (with_reducible refine (hnw.out _).mono ?_); intro e w5 hh; obtain ⟨xb, kb, mb, hh1, hx, bx, hmb, hkb⟩ := hh; subst hh1; have HX := Lib.hid hx; have BX := Lib.hid ((Below.refl w2.heap.size w2).drew.trans bx); have HMK := Lib.hid (And.intro hmb hkb); have t5 : w5.cell? ⟨w.heap.size, 4, none⟩ = some (.int .u8 f.most) := (BX.out.cell (p := ⟨w.heap.size, 4, none⟩) (World.block_lt_of_cell? _ _ t4)).trans t4; clear hx bx hmb hkb t4))
  have h5 := H.out.keep (B2.out.trans (BX.out.mono B2.out.size))
  have ht : TabOf b (tabV s.val b) s := fun _ _ _ => rfl
  have h2 := H.out.keep B2.out
  have hrun := newrunH (tab := tabV s.val b) 600 (by decide) c HC.out HCL.out h2 BX.out HX.out HMK.out.1 HMK.out.2 ⟨HBI.out.1, by have := HBI.out.2; omega⟩ HU.out.1 HU.out.2 ht R HR.out
  clear t5 h5 h2 ht em em2 em3 em4
  go_upto_region 6 with (go_at_call 36; refine hrun.mono ?_; intro e w6 hh; obtain ⟨hh1, p, s2, h6, hwh, v6, c6, n6, f6, -⟩ := hh; subst hh1; have P6 := Lib.hid (And.intro h6 (And.intro v6 (And.intro c6 (And.intro n6 f6)))); have hgot := hwh.got (by have h1 := HR.out; have h2 := way_le8 (v := s.val) (most := 2 + f.most) HBI.out HU.out.1 HU.out.2 (n := 600) (by omega); rw [h1]; omega); clear h6 hwh v6 c6 n6 f6 hrun)
  go_wp2_with (go_at_call 61; (with_reducible refine hgot.mono ?_); intro e w7 hh; obtain ⟨v, hh1, hsp, b7⟩ := hh; subst hh1; have HSP := Lib.hid hsp; have B7 := Lib.hid b7; clear hsp b7 hgot)
  go_ret
  obtain ⟨h6, v6, c6, n6, f6⟩ := P6.out
  have hs8 := HST.out.2
  refine ⟨v, p, s2, rfl, h6.keep B7.out, v6, by omega, by omega, ?_, ((below_fr B2.out _ _).trans f6).trans (below_fr B7.out _ _)⟩
  exact HSP.out.mono (Nat.le_trans B2.out.size f6.size)
end Go.Proofs.YtdbgfidnccpmdaaGreat

/-
  Rooms: layer 18's examples.
-/
namespace Go.Proofs.YtdbgfidnccpmdaaGreat
open Go.RowKit Go.Maps TagPure
set_option linter.unusedVariables false

def h18 : Int := 216172782113783809
theorem h18_bk : bk h18 2 = 1 := by kernel_rfl
theorem h18_ot : oth 1 (tag01 h18) 2 = 2 := by kernel_rfl
def s18 : CS := CS.init [(2, tword 2 0)]
def x18 : RM := rmnew 2 1 2
def q18 : CS := (rmits (s18, x18) 1).1.acc 2 (tagsA 2 1) 151587081
def y18 : RM := ⟨2, [2], 1, 2, .off, none, none, 2, 1, 0, true⟩
def z18 : RM := ⟨2, [], 1, 2, .off, none, none, 2, 2, 0, true⟩
def x18b : RM := ⟨2, [2], 1, 2, .look, none, none, 0, 0, 0, false⟩
theorem x18_is : x18 = ⟨2, [1, 2], 1, 2, .look, none, none, 0, 0, 0, false⟩ := by kernel_rfl
theorem ex18a : frW (s18.val (tagsA 2 1)) = 0 := by kernel_rfl
theorem ex18b : frW (q18.val (tagsA 2 1)) = -1 := by kernel_rfl
theorem ex18c : frW ((rmits (q18, x18) 1).1.val (tagsA 2 2)) = 0 := by kernel_rfl
theorem ex18d : (rmits (q18, x18) 1).2 = x18b := by kernel_rfl
theorem ex18e : (rmits (s18, x18) 1).2 = y18 := by kernel_rfl
theorem ex18f : (rmits (q18, x18) 2).2 = z18 := by kernel_rfl
theorem s18_n : s18.n ≤ 100 ∧ s18.cnt ≤ 100 := by
  have h := CS.init_n [(2, tword 2 0)]
  unfold s18
  rw [h.1, h.2.1]
  simp
theorem q18_n : q18.n ≤ 200 ∧ q18.cnt ≤ 200 := by
  have h := s18_n
  show s18.n + 1 + 1 ≤ 200 ∧ s18.cnt + 1 + 1 ≤ 200
  omega
theorem q18_n1 : (rmits (q18, x18) 1).1.n ≤ 300 ∧ (rmits (q18, x18) 1).1.cnt ≤ 300 := by
  have h := q18_n
  show q18.n + 1 ≤ 300 ∧ q18.cnt + 1 ≤ 300
  omega
theorem go18a : ∀ k, k < 1 → RmGo (rmits (s18, x18) k) := by
  intro k hk
  obtain rfl : k = 0 := by omega
  exact ⟨rfl, CS.room_of 100 s18_n (by unfold lim; omega), 1, [2], by rw [show rmits (s18, x18) 0 = (s18, x18) from rfl, x18_is], by decide, .inr (by decide)⟩
theorem go18b : ∀ k, k < 2 → RmGo (rmits (q18, x18) k) := by
  intro k hk
  rcases (show k = 0 ∨ k = 1 by omega) with rfl | rfl
  · exact ⟨rfl, CS.room_of 200 q18_n (by unfold lim; omega), 1, [2], by rw [show rmits (q18, x18) 0 = (q18, x18) from rfl, x18_is], by decide, .inr (by decide)⟩
  · refine ⟨by rw [ex18d]; rfl, CS.room_of 300 q18_n1 (by unfold lim; omega), 2, [], by rw [ex18d]; rfl, by decide, .inl ?_⟩
    rw [ex18d]
    rw [show x18b.bits = 2 from rfl, ex18c]
    decide
theorem room18 (w : World) : Calls Tryz.prog 45 #[.int .i64 2, .int .u64 h18] w fun e w' => ∃ rb, e = .returned (.pointer (some ⟨rb, 0, none⟩)) ∧ RoomAt w' w.heap.size rb x18 ∧ Below w.heap.size w w' := by
  have h := newroom_ok 2 h18 (by decide) (by decide) w
  rw [h18_bk, h18_ot] at h
  exact h
theorem eql_spotR1 (W : World) : (binOp .eql 43 (.agg #[.int .i64 2, .int .i64 1, .int .i64 0]) (.agg #[.int .i64 2, .int .i64 1, .int .i64 0])).run Tryz.prog W = .ok (.bool true) W := by
  kernel_rfl
theorem eql_spotR2 (W : World) : (binOp .eql 43 (.agg #[.int .i64 2, .int .i64 2, .int .i64 0]) (.agg #[.int .i64 2, .int .i64 2, .int .i64 0])).run Tryz.prog W = .ok (.bool true) W := by
  kernel_rfl
theorem spot2_any (u : Int) (hu : u = 1 ∨ u = 2) (w : World) : Calls Tryz.prog 120 #[.int .i64 2, .int .i64 u, .int .i64 0] w fun e w' => e = .returned (.agg #[.int .i64 2, .int .i64 u, .int .i64 0]) ∧ Below w.heap.size w w' := by
  have hsz := fun w => size_any 2 w
  have e0 : tsize 2 = 4 := by decide
  simp only [e0] at hsz
  rcases hu with rfl | rfl
  all_goals
    go_enter Tryz.func120, Tryz.ntmps120
    go_wp2_with (go_at_call 121; refine (hsz _).mono ?_; rintro e w1 ⟨rfl, hw⟩; obtain rfl := hw.symm)
    refine bodyPost_ret (v := .agg #[.int .i64 2, .int .i64 _, .int .i64 0]) (by simp [results, Tryz.results120, go_sem]) rfl ⟨rfl, ?_⟩
    exact below_alloc' _ _
abbrev TWr (wb cb : Nat) (W : World) : Prop := W.cell? ⟨wb, 0, none⟩ = some (.pointer (some ⟨cb, 0, none⟩))
abbrev TSp2 (p q : Nat) (W : World) : Prop := W.cell? ⟨p, 0, none⟩ = some (.int .i64 2) ∧ W.cell? ⟨p, 1, none⟩ = some (.int .i64 1) ∧ W.cell? ⟨p, 2, none⟩ = some (.int .i64 0) ∧ W.cell? ⟨q, 0, none⟩ = some (.int .i64 2) ∧ W.cell? ⟨q, 1, none⟩ = some (.int .i64 2) ∧ W.cell? ⟨q, 2, none⟩ = some (.int .i64 0)
set_option maxRecDepth 10000 in
set_option maxHeartbeats 4000000 in
theorem lives18 (w : World) : Calls Tryz.prog 44 #[] w fun e w' => e = .returned (.bool true) ∧ Below w.heap.size w w' := by
  have hNR := Lib.hid (fun W => room18 W)
  have hTG := Lib.hid (fun W => tags_any 2 1 W)
  have hS1 := Lib.hid (fun W => spot2_any 1 (.inl rfl) W)
  have hS2 := Lib.hid (fun W => spot2_any 2 (.inr rfl) W)
  go_enter Tryz.func44, Tryz.ntmps44
  go_upto_region 5 with (first
    | (go_at_call 87; refine (world12v 2 (by decide) w).mono ?_; intro e w1 hh; obtain ⟨B, hh1, h1⟩ := hh; subst hh1; have H1 : Hid (WS w w1 B (v0 ⟨2, 8, 3, 1, 16⟩) s18) := h1; clear h1)
    | (go_at_call 45; refine (hNR.out _).mono ?_; intro e w2 hh; obtain ⟨rb, hh1, a2, b2⟩ := hh; subst hh1; have H2 := Lib.hid (H1.out.keep b2); have hB2 : RMB w w2 w2 B (v0 ⟨2, 8, 3, 1, 16⟩) s18 rb x18 := ⟨H2.out, a2.lower H1.out.slow, (below_fr (Below.refl _ _) wTy true).fx rb⟩; have hr2 := rmrun 1 9 (by decide) (by decide) hB2 go18a (by rw [ex18e]; rfl); rw [ex18e] at hr2; clear a2 b2 hB2 H1))
  go_upto_region 6 with (go_at_call 36; refine hr2.mono ?_; intro e w3 hh; obtain ⟨hh1, h3⟩ := hh; subst hh1; have H3 := Lib.hid h3.ws; have hg3 := rmgot h3.rm; clear h3 hr2 H2)
  rw [if_pos (show y18.is = true from rfl)] at hg3
  have hg3 : Calls Tryz.prog 59 #[.pointer (some ⟨rb, 0, none⟩)] w3 fun e w' => e = .returned (.tuple #[.agg #[.int .i64 2, .int .i64 1, .int .i64 0], .bool true]) ∧ Below w3.heap.size w3 w' := hg3
  go_upto_region 7 with (go_at_call 59; refine hg3.mono ?_; intro e w4 hh; obtain ⟨hh1, b4⟩ := hh; subst hh1; have H4 := Lib.hid (H3.out.keep b4); clear b4 hg3 H3)
  have b5 := below_alloc w4 (.cells #[.int .i64 2, .int .i64 1, .int .i64 0] 43)
  have Z5 := Lib.hid (heap_alloc_new w4 (.cells #[.int .i64 2, .int .i64 1, .int .i64 0] 43))
  have H5 := Lib.hid (H4.out.keep b5)
  clear b5 H4
  change Code.wp _ _ _ _ (w4.alloc (.cells #[.int .i64 2, .int .i64 1, .int .i64 0] 43))
  generalize w4.alloc (.cells #[.int .i64 2, .int .i64 1, .int .i64 0] 43) = w5 at *
  generalize w4.heap.size = pa at *
  have hst5 : Hid (∀ W, Below w5.heap.size w5 W → Calls Tryz.prog 91 #[.pointer (some ⟨B.cb, 0, none⟩), .int .u64 (tagsA 2 1), .int .u64 151587081] W fun e w' => e = .returned (.int .u64 ((rmits (s18, x18) 1).1.val (tagsA 2 1))) ∧ WS w w' B (v0 ⟨2, 8, 3, 1, 16⟩) q18 ∧ Fr wTy true W w') := fun W hW => (H5.out.keep hW).store (CS.room_of 200 (by have h := s18_n; show s18.n + 1 ≤ 200 ∧ s18.cnt + 1 ≤ 200; omega) (by unfold lim; omega)) _ (tagsA_wf _ _) _ (by decide)
  have hs5 : TWr B.wb B.cb w5.drew := H5.out.c0
  have htg := hTG.out
  obtain ⟨A, hA⟩ : ∃ A, A = tagsA 2 1 := ⟨_, rfl⟩
  rw [← hA] at hst5 htg
  obtain ⟨R, hR⟩ : ∃ R, R = (rmits (s18, x18) 1).1.val A := ⟨_, rfl⟩
  rw [← hR] at hst5
  clear hA hR
  go_region_held2 (fun W => TWr B.wb B.cb W) (assumption) (first
    | (go_at_call 119; refine (htg _).mono ?_; intro e w6 hh; obtain ⟨hh1, b6⟩ := hh; subst hh1; have b6' := (Below.refl w5.heap.size w5).drew.trans b6; have s6 : TWr B.wb B.cb w6 := (H5.out.keep b6').c0; have Z6 := Lib.hid ((b6'.block _ (Array.getElem?_eq_some_iff.1 Z5.out).1).trans Z5.out); have hst6 := hst5.out w6 b6'; clear b6 b6' hs5 htg hst5 Z5)
    | (go_at_call 91; refine hst6.mono ?_; intro e w7 hh; obtain ⟨hh1, h7, f7⟩ := hh; subst hh1; have H7 := Lib.hid h7; have Z7 := Lib.hid (f7.cells _ _ _ _ Z6.out rfl); have s7 : TWr B.wb B.cb w7 := h7.c0; clear h7 f7 hst6 s6 Z6))
  clear s7 H5
  go_upto_region 10 with (first
    | (go_at_call 45; refine (hNR.out _).mono ?_; intro e w8 hh; obtain ⟨rc, hh1, a8, b8⟩ := hh; subst hh1; have H8 := Lib.hid (H7.out.keep b8); have hB8 : RMB w w8 w8 B (v0 ⟨2, 8, 3, 1, 16⟩) q18 rc x18 := ⟨H8.out, a8.lower H7.out.slow, (below_fr (Below.refl _ _) wTy true).fx rc⟩; have hr8 := rmrun 2 9 (by decide) (by decide) hB8 go18b (by rw [ex18f]; rfl); rw [ex18f] at hr8; have Z8 := Lib.hid ((b8.block _ (Array.getElem?_eq_some_iff.1 Z7.out).1).trans Z7.out); have NE8 := Lib.hid (Nat.ne_of_lt (Nat.lt_of_lt_of_le (Array.getElem?_eq_some_iff.1 Z7.out).1 a8.low)); clear a8 b8 hB8 H7 Z7)
    | (go_at_call 36; refine hr8.mono ?_; intro e w9 hh; obtain ⟨hh1, h9⟩ := hh; subst hh1; have H9 := Lib.hid h9.ws; have hg9 := rmgot h9.rm; have Z9 := Lib.hid (h9.fx.cells _ _ _ _ Z8.out rfl NE8.out); clear h9 hr8 H8 Z8 NE8))
  rw [if_pos (show z18.is = true from rfl)] at hg9
  have hg9 : Calls Tryz.prog 59 #[.pointer (some ⟨rc, 0, none⟩)] w9 fun e w' => e = .returned (.tuple #[.agg #[.int .i64 2, .int .i64 2, .int .i64 0], .bool true]) ∧ Below w9.heap.size w9 w' := hg9
  go_upto_region 11 with (go_at_call 59; refine hg9.mono ?_; intro e w10 hh; obtain ⟨hh1, b10⟩ := hh; subst hh1; have H10 := Lib.hid (H9.out.keep b10); have Z10 := Lib.hid ((b10.block _ (Array.getElem?_eq_some_iff.1 Z9.out).1).trans Z9.out); clear b10 hg9 H9 Z9)
  have b11 := below_alloc w10 (.cells #[.int .i64 2, .int .i64 2, .int .i64 0] 43)
  have Y11 := Lib.hid (heap_alloc_new w10 (.cells #[.int .i64 2, .int .i64 2, .int .i64 0] 43))
  have Z11 := Lib.hid ((b11.block _ (Array.getElem?_eq_some_iff.1 Z10.out).1).trans Z10.out)
  have H11 := Lib.hid (H10.out.keep b11)
  clear b11 H10 Z10
  change Code.wp _ _ _ _ (w10.alloc (.cells #[.int .i64 2, .int .i64 2, .int .i64 0] 43))
  generalize w10.alloc (.cells #[.int .i64 2, .int .i64 2, .int .i64 0] 43) = w11 at *
  generalize w10.heap.size = pb at *
  have za : ∀ st : ExtW w11, st.val.cell? ⟨pa, 0, none⟩ = some (.int .i64 2) ∧ st.val.cell? ⟨pa, 1, none⟩ = some (.int .i64 1) ∧ st.val.cell? ⟨pa, 2, none⟩ = some (.int .i64 0) := fun st => ⟨st.cell (hcell Z11.out 0), st.cell (hcell Z11.out 1), st.cell (hcell Z11.out 2)⟩
  have zb : ∀ st : ExtW w11, st.val.cell? ⟨pb, 0, none⟩ = some (.int .i64 2) ∧ st.val.cell? ⟨pb, 1, none⟩ = some (.int .i64 2) ∧ st.val.cell? ⟨pb, 2, none⟩ = some (.int .i64 0) := fun st => ⟨st.cell (hcell Y11.out 0), st.cell (hcell Y11.out 1), st.cell (hcell Y11.out 2)⟩
  have za0 := fun st => (za st).1; have za1 := fun st => (za st).2.1; have za2 := fun st => (za st).2.2
  have zb0 := fun st => (zb st).1; have zb1 := fun st => (zb st).2.1; have zb2 := fun st => (zb st).2.2
  have m1 := fun st : ExtW w11 => hS1.out st.val
  have m2 := fun st : ExtW w11 => hS2.out st.val
  have hq1 := fun W => eql_spotR1 W
  have hq2 := fun W => eql_spotR2 W
  clear za zb
  refine wp_region_ext (by kernel_rfl) (by kernel_rfl) ?_
  repeat (go_big_quiet_step (first
    | (go_at_call 120; with_reducible refine calls_ext (m1 _))
    | (go_at_call 120; with_reducible refine calls_ext (m2 _))))
  refine wpQuiet_nil ?_
  rintro W13 ⟨⟨W14, hW⟩, rfl⟩
  clear za0 za1 za2 zb0 zb1 zb2 m1 m2 hq1 hq2
  have H14 := Lib.hid (H11.out.keep hW)
  clear hW
  go_wp2_with (fail)
  go_ret
  exact ⟨rfl, H14.out.below⟩
end Go.Proofs.YtdbgfidnccpmdaaGreat

/-
  A Room, run by itself: so many steps are left of it.
-/
namespace Go.Proofs.YtdbgfidnccpmdaaGreat
open Go.RowKit Go.Maps TagPure
set_option linter.unusedVariables false

/-- So many steps are left, then Q. -/
def RRun (rb wb : Nat) (Q : World → Prop) : Nat → World → Prop
  | 0, W => (Calls Tryz.prog 60 #[.pointer (some ⟨rb, 0, none⟩)] W fun e w' => e = .returned (.bool true) ∧ w' = W) ∧ Q W
  | n + 1, W => (Calls Tryz.prog 60 #[.pointer (some ⟨rb, 0, none⟩)] W fun e w' => e = .returned (.bool false) ∧ w' = W) ∧ Calls Tryz.prog 49 #[.pointer (some ⟨rb, 0, none⟩), .pointer (some ⟨wb, 0, none⟩)] W fun e w' => ∃ d, e = .returned (.bool d) ∧ RRun rb wb Q n w'
set_option maxRecDepth 10000 in
set_option maxHeartbeats 2000000 in
theorem roomrun {rb wb : Nat} {Q : World → Prop} (n m : Nat) (hn : n < m) (hm : m ≤ 1000) {w : World} (h : RRun rb wb Q n w) :
    Calls Tryz.prog 36 #[.pointer (some ⟨wb, 0, none⟩), .iface 116 (.pointer (some ⟨rb, 0, none⟩)), .int .i64 m] w fun e w' => e = .returned (.int .i64 n) ∧ Q w' := by
  have H := Lib.hid h; have HN := Lib.hid hn
  clear h hn
  go_enter Tryz.func36, Tryz.ntmps36
  go_wp2
  go_loopw [7] (fun i wr => ∃ k : Nat, k ≤ n ∧ i = .int .i64 k ∧ RRun rb wb Q (n - k) wr) (fun i _ => n - (intOf i).toNat)
  case atStart => exact ⟨0, Nat.zero_le _, rfl, H.out⟩
  case round =>
    clear H
    obtain ⟨k, hk, rfl, hb⟩ := hrel
    have hkm : (k : Int) < m := by have := HN.out; omega
    by_cases hlt : k < n
    · obtain ⟨q, hq⟩ : ∃ q, n - k = q + 1 := ⟨n - k - 1, by omega⟩
      rw [hq] at hb
      obtain ⟨hov, hst⟩ := hb
      have hq2 : n - (k + 1) = q := by omega
      have HLT := Lib.hid hlt; have HQ := Lib.hid hq2
      clear hq hq2 hlt hk
      go_wp2_with (first
        | (go_at_call 60; refine hov.mono ?_; intro e w2 hh; obtain ⟨hh1, hh2⟩ := hh; subst hh1; obtain rfl := hh2.symm; clear hov)
        | (go_at_call 49; refine hst.mono ?_; intro e w3 hh; obtain ⟨d, hh1, h3⟩ := hh; subst hh1; have H3 := Lib.hid h3; clear h3 hst))
      go_roundw
      case measure => have := HLT.out; simp [intOf]; omega
      case rel => exact ⟨k + 1, HLT.out, by have := HLT.out; go_num, by rw [HQ.out]; exact H3.out⟩
    · obtain rfl : k = n := by omega
      rw [Nat.sub_self] at hb
      obtain ⟨hov, hq⟩ := hb
      have HQ := Lib.hid hq
      clear hq hk hlt
      go_wp2_with (go_at_call 60; refine hov.mono ?_; intro e w2 hh; obtain ⟨hh1, hh2⟩ := hh; subst hh1; obtain rfl := hh2.symm; clear hov)
      go_ret
      exact ⟨rfl, HQ.out⟩
theorem rmover_is {w : World} {lo rb : Nat} {x : RM} (h : RoomAt w lo rb x) (d : Bool) (hd : decide (x.ph = .off) = d) : Calls Tryz.prog 60 #[.pointer (some ⟨rb, 0, none⟩)] w fun e w' => e = .returned (.bool d) ∧ w' = w := by
  rw [← hd]; exact rmover h
/-- Where a Room that hopped ends. -/
def HopEnd (w0 w : World) (B : WB) (V : WV) (S : List Nat) (rb : Nat) (b : Int) (its : List Itm) (c : Int → Nat) (Wy : List (Int × Int)) (sb su sk : Int) (c0 : Nat) (W : World) : Prop :=
  ∃ s xr, RoomAt W w0.heap.size rb xr ∧ xr.ph = .off ∧ FS S w W ∧ s.n ≤ c0 ∧ s.cnt ≤ c0 ∧ WS w0 W B V s ∧ xr.is = true ∧ HWay b its c Wy 0 s.val ∧ xr.sb = sb ∧ xr.su = su ∧ xr.sk = sk
theorem rrun_hop {w0 w : World} {B : WB} {V : WV} {S : List Nat} {rb hb : Nat} {b : Int} {its : List Itm} {c : Int → Nat} {Wy : List (Int × Int)} (hits : its.length ≤ 999) {sb su sk : Int} {c0 : Nat} (hlim : c0 < lim) (hin : ∀ x ∈ Wy, SIn b x.1 x.2) :
    ∀ (n : Nat) (W : World) (s : CS) (xr : RM) (y : HP) (qs : List (Nat × Dg)), RHB w0 w W B V s S rb xr hb y qs → WI b its c Wy s y (n + 1) → xr.ph = .hop → xr.hops = some ⟨hb, 0, none⟩ → s.n + n + 1 ≤ c0 → s.cnt + n + 1 ≤ c0 → xr.sb = sb → xr.su = su → xr.sk = sk →
    RRun rb B.wb (HopEnd w0 w B V S rb b its c Wy sb su sk c0) (n + 1) W := by
  intro n
  induction n with
  | zero =>
    intro W s xr y qs h hw hp hx h1 h2 e1 e2 e3
    obtain ⟨g1, g2, g3, g4, g5⟩ := hw.step hits (by omega)
    obtain ⟨hl0, hh⟩ := hpgo_is g1
    have hwf : ∀ p ∈ y.way, (Lit.int .i64 p.2.2).wf = true := fun p hp => by
      rw [g2] at hp
      obtain ⟨x, hx, rfl⟩ := List.mem_map.1 hp
      have h1 := (hin x hx).k0; have h2 := (hin x hx).k1
      simp [Lit.wf, IntKind.min, IntKind.max, IntKind.bits, IntKind.signed]; omega
    have hle := next_le s y
    have h0 := (g5.over hits).2 rfl
    refine ⟨rmover_is h.rm false (by rw [hp]; rfl), (rmstep_hop h (CS.room_of c0 (by omega) hlim) hp hx hl0 hwf hh).mono fun e w' hh => ?_⟩
    obtain ⟨he, qs', h'⟩ := hh
    rw [if_pos h0] at h'
    refine ⟨_, he, rmover_is h'.rm true rfl, _, _, h'.rm, rfl, h'.m.fs, by omega, by omega, h'.m.ws, rfl, ?_, e1, e2, e3⟩
    rcases g5 with ⟨-, -, -, r⟩ | ⟨j, m, p, q, v', -, -, -, -, hm, hn⟩
    · exact r
    · omega
  | succ n ih =>
    intro W s xr y qs h hw hp hx h1 h2 e1 e2 e3
    obtain ⟨g1, g2, g3, g4, g5⟩ := hw.step hits (by omega)
    obtain ⟨hl0, hh⟩ := hpgo_is g1
    have hwf : ∀ p ∈ y.way, (Lit.int .i64 p.2.2).wf = true := fun p hp => by
      rw [g2] at hp
      obtain ⟨x, hx, rfl⟩ := List.mem_map.1 hp
      have h1 := (hin x hx).k0; have h2 := (hin x hx).k1
      simp [Lit.wf, IntKind.min, IntKind.max, IntKind.bits, IntKind.signed]; omega
    have hle := next_le s y
    have h0 : ¬ (y.next s).2.left = 0 := fun c => by have := (g5.over hits).1 c; omega
    refine ⟨rmover_is h.rm false (by rw [hp]; rfl), (rmstep_hop h (CS.room_of c0 (by omega) hlim) hp hx hl0 hwf hh).mono fun e w' hh => ?_⟩
    obtain ⟨he, qs', h'⟩ := hh
    rw [if_neg h0] at h'
    exact ⟨_, he, ih w' _ xr _ qs' h' g5 hp hx (by omega) (by omega) e1 e2 e3⟩
/-- Where a Room that searched ends. -/
def SrchEnd (w0 w : World) (B : WB) (V : WV) (S : List Nat) (rb : Nat) (b : Int) (its : List Itm) (v : Int → Int) (Wy : List (Int × Int)) (c0 : Nat) (W : World) : Prop :=
  (Wy = [] ∧ ∃ s xr k, RoomAt W w0.heap.size rb xr ∧ xr.ph = .off ∧ FS S w W ∧ s.n ≤ c0 ∧ s.cnt ≤ c0 ∧ WS w0 W B { V with nts := nadd V.nts ⟨k, V.hd, 3, 0, 0, 0, 0, 0⟩ } s ∧ xr.is = false ∧ s.val = v) ∨
  ∃ p r, Wy = p :: r ∧ HopEnd w0 w B V S rb b its (cntI v b) Wy b p.1 p.2 c0 W
theorem RRun.mono {rb wb : Nat} {Q Q' : World → Prop} (h : ∀ W, Q W → Q' W) : ∀ n W, RRun rb wb Q n W → RRun rb wb Q' n W := by
  intro n
  induction n with
  | zero => intro W hr; exact ⟨hr.1, h _ hr.2⟩
  | succ n ih => intro W hr; exact ⟨hr.1, hr.2.mono fun e w' ⟨d, he, h2⟩ => ⟨d, he, ih _ h2⟩⟩
theorem hpnew_way (b : Int) (Wy : List (Int × Int)) : hpnew (way3 b Wy) = ⟨wayH b Wy, Wy.length - 1, 0, false, []⟩ := by unfold hpnew; simp [way3, wayH]
theorem rrun_srch {w0 w : World} {B : WB} {V : WV} {S : List Nat} {rb xb mb : Nat} {b : Int} {its : List Itm} {v : Int → Int} (hits : its.length ≤ 999) {c0 : Nat} (hlim : c0 < lim) (hnt : V.nts = []) (Wy : List (Int × Int)) (hwy : Wy ≠ [] → HWay b its (cntI v b) Wy (Wy.length - 1) v) (hb12 : 1 ≤ b ∧ b ≤ 12) (h8 : Wy.length ≤ 8) :
    ∀ (m : Nat) (W : World) (s : CS) (xr : RM) (y : WY), RSB w0 w W B V s S rb xr xb mb y → y.mo = some mb → WyOk y → y.over = false → y.bits = b → xr.l = [] → xr.way = some ⟨xb, 0, none⟩ → xr.ph = .search → xr.is = false → s.val = v → s.n + (wres y (tabV v b) m).1 + 96 ≤ c0 → s.cnt + (wres y (tabV v b) m).1 + 96 ≤ c0 → (wres y (tabV v b) m).2.2.2 = true → (wres y (tabV v b) m).2.2.1 = Wy →
    RRun rb B.wb (SrchEnd w0 w B V S rb b its v Wy c0) ((wres y (tabV v b) m).1 + hopSum b Wy (Wy.length - 1)) W := by
  intro m
  induction m with
  | zero =>
    intro W s xr y h hm hk ho hbt hl hx hp his hv hn hc hov hway
    rw [wres_zero hk ho] at hov
    cases hov
  | succ m ih =>
    intro W s xr y h hm hk ho hbt hl hx hp his hv hn hc hov hway
    have hat := hk.at_ ho
    have hin := hk.win.rng _ (nd_mem hat)
    have hvx : s.val (wyA y) = tabV v b (nd y.l y.at_).1 := by unfold wyA tabV; rw [hv, hbt]
    rw [wres_succ hk ho] at hn hc hov hway ⊢
    simp only at hn hc
    have ho2 := hk.next (tab := tabV v b) ho
    obtain ⟨n1, n2, n3, n4⟩ := next_mo y (tabV v b (nd y.l y.at_).1)
    have hv2 : (s.acc 1 (wyA y) (s.val (wyA y))).val = v := by
      show upd s.val (wyA y) _ = _
      rw [upd_selfW, hv]
    have hroom : s.room := CS.room_of c0 (by omega) hlim
    have hov0 := rmover_is h.rm false (by rw [hp]; rfl)
    have hacc : (s.acc 1 (wyA y) (s.val (wyA y))).n = s.n + 1 ∧ (s.acc 1 (wyA y) (s.val (wyA y))).cnt = s.cnt + 1 := ⟨rfl, rfl⟩
    by_cases hnx : (y.next (tabV v b (nd y.l y.at_).1)).over = true
    · rw [wres_over hnx] at hn hc hov hway ⊢
      simp only at hn hc hway ⊢
      have hnx' : (y.next (s.val (wyA y))).over = true := by rw [hvx]; exact hnx
      by_cases hW : Wy = []
      · have hw' : (y.next (s.val (wyA y))).way = [] := by rw [hvx, hway]; exact hW
        rw [show 0 + 1 + hopSum b Wy (Wy.length - 1) = 0 + 1 by rw [hW]; rfl]
        refine ⟨hov0, (rmstep_search h.rm hp true (rmsearch_full h hroom hm hk ho hl hx hp hnx' hw' (by rw [hnt]; exact Nat.succ_pos _) (by rw [hnt]; exact fun x hx => by cases hx)) fun w' hq => ⟨_, _, hq.2.1, rfl⟩).mono fun e w' hh => ?_⟩
        obtain ⟨he, q1, q2, q3⟩ := hh
        exact ⟨_, he, rmover_is q2 true rfl, .inl ⟨hW, _, _, _, q2, rfl, q3, by omega, by omega, q1, his, hv2⟩⟩
      · obtain ⟨p, r, hpr⟩ : ∃ p r, Wy = p :: r := by
          cases Wy with
          | nil => exact absurd rfl hW
          | cons p r => exact ⟨p, r, rfl⟩
        have hh := hwy hW
        have hw' : (y.next (s.val (wyA y))).way = p :: r := by rw [hvx, hway]; exact hpr
        have hrl : r.length ≤ 7 := by rw [hpr] at h8; simp only [List.length_cons] at h8; omega
        have hbits : (y.next (s.val (wyA y))).bits = b := by rw [hvx, n2]; exact hbt
        have hsr := rmsearch_way h hroom hm hk ho hl hx hp hnx' p r hw' (by omega)
        rw [hbits, ← hpr] at hsr
        have hsm := (hopSum_bd hh.inn (Wy.length - 1) (by have := hh.lt; omega)).2
        have hwi := WI.start hh hv2 0
        rw [← hpnew_way] at hwi
        by_cases hr : r = []
        · have h0 : Wy.length - 1 = 0 := by rw [hpr, hr]; rfl
          rw [h0] at hh
          rw [show 0 + 1 + hopSum b Wy (Wy.length - 1) = 0 + 1 by rw [h0]; rfl]
          refine ⟨hov0, (rmstep_search h.rm hp true hsr fun w' ⟨hb, hq⟩ => ⟨_, _, hq.rm, by unfold RM.found; rw [if_pos hr]; rfl⟩).mono fun e w' hq => ?_⟩
          obtain ⟨he, hb, q⟩ := hq
          refine ⟨_, he, rmover_is q.rm true (by unfold RM.found; rw [if_pos hr]; rfl), .inr ⟨p, r, hpr, _, _, q.rm, by unfold RM.found; rw [if_pos hr], q.m.fs, by omega, by omega, q.m.ws, by unfold RM.found; exact if_pos hr, by rw [hv2]; exact hh, rfl, rfl, rfl⟩⟩
        · obtain ⟨q, hq⟩ : ∃ q, hopSum b Wy (Wy.length - 1) = q + 1 := by
            have h10 := (hopSum_bd hh.inn (Wy.length - 1) (by have := hh.lt; omega)).1
            have : 0 < r.length := List.length_pos_iff.2 hr
            have : Wy.length - 1 = r.length := by rw [hpr]; rfl
            exact ⟨hopSum b Wy (Wy.length - 1) - 1, by omega⟩
          rw [hq] at hwi hsm
          rw [hq, show 0 + 1 + (q + 1) = q + 1 + 1 by omega]
          refine ⟨hov0, (rmstep_search h.rm hp false hsr fun w' ⟨hb, hq⟩ => ⟨_, _, hq.rm, by unfold RM.found; rw [if_neg hr]; rfl⟩).mono fun e w' hq => ?_⟩
          obtain ⟨he, hb, hf⟩ := hq
          refine ⟨_, he, RRun.mono (fun W hW => .inr ⟨p, r, hpr, hW⟩) _ _ (rrun_hop hits hlim hh.inn q w' _ _ _ [] hf hwi (by unfold RM.found; exact if_neg hr) rfl (by omega) (by omega) rfl rfl rfl)⟩
    · have hnx : (y.next (tabV v b (nd y.l y.at_).1)).over = false := by simpa using hnx
      have hnx' : (y.next (s.val (wyA y))).over = false := by rw [hvx]; exact hnx
      have hst := rmstep_search h.rm hp false (rmsearch_on h hroom hm hk ho hl hx hnx') fun w' ⟨kb, hq⟩ => ⟨_, _, hq.rm, by rw [hp]; rfl⟩
      obtain ⟨q, hq⟩ : ∃ q, q = (wres (y.next (tabV v b (nd y.l y.at_).1)) (tabV v b) m).1 := ⟨_, rfl⟩
      rw [← hq] at hn hc ⊢
      rw [show q + 1 + hopSum b Wy (Wy.length - 1) = (q + hopSum b Wy (Wy.length - 1)) + 1 by omega]
      refine ⟨hov0, hst.mono fun e w' hh => ?_⟩
      obtain ⟨he, kb, h2⟩ := hh
      rw [hvx] at h2
      have hqk : (wres { y.next (tabV v b (nd y.l y.at_).1) with kb := kb } (tabV v b) m).1 = q := hq.symm
      have e := ih w' _ xr { y.next (tabV v b (nd y.l y.at_).1) with kb := kb } h2 (n1.trans hm) ⟨ho2.bits, ho2.win, ho2.ahead, ho2.at_, ho2.way, ho2.wayl, ho2.made⟩ hnx (n2.trans hbt) hl hx hp his (by rw [← hvx]; exact hv2) (by rw [hqk]; show s.n + 1 + q + 96 ≤ _; omega) (by rw [hqk]; show s.cnt + 1 + q + 96 ≤ _; omega) hov hway
      rw [hqk] at e
      exact ⟨_, he, e⟩
/-- A bucket's lowest free slot. -/
theorem free_slot {b : Int} {its : List Itm} {v : Int → Int} (hT : Tbl b its v) {u : Int} (hu : 0 ≤ u ∧ u < tsize b) (hf : 0 ≤ frW (v (tagsA b u))) : SIn b u (frW (v (tagsA b u))) ∧ slA v b u (frW (v (tagsA b u))) = (0, 0) := by
  rcases free_casesW (v (tagsA b u)) with e | ⟨n, hn, e, ht⟩
  · unfold frW at hf; omega
  · have e' : frW (v (tagsA b u)) = (n : Int) := e
    have hs : SIn b u (n : Int) := ⟨hT.b1, hT.b3, hu.1, hu.2, by omega, by omega⟩
    rw [e']
    refine ⟨hs, ?_⟩
    have h0 : (slA v b u (n : Int)).1 = 0 := by
      unfold slA
      rw [tagOf_nat _ n hn]; exact ht
    rcases hT.slot u n hs with h | ⟨m, z, -, h, -⟩
    · exact h
    · rw [h] at h0
      have := tag01_bd (hashOf z.key) (hfold_bd _ _).1 (hfold_bd _ _).2
      simp only at h0; omega
theorem fway_one {v : Int → Int} {b most u1 u2 : Int} (n : Nat) (hf : 0 ≤ frW (v (tagsA b u1))) : (fway v b most u1 u2 (n + 1)).2.2.1 ≠ [] := by
  have h0 : nd (wfirst u1 u2) 0 = (u1, -1, -1) := by unfold wfirst; split <;> rfl
  have hl : 0 < (wfirst u1 u2).length := by unfold wfirst; split <;> simp
  unfold fway wrun
  rw [if_neg (by omega), h0, if_pos (by unfold tabF tabV; exact hf)]
  exact wway_ne hl _
theorem fway_two {v : Int → Int} {b most u1 u2 : Int} (n : Nat) (hne : u2 ≠ u1) (h1 : frW (v (tagsA b u1)) = -1) (hf : 0 ≤ frW (v (tagsA b u2))) : (fway v b most u1 u2 (n + 2)).2.2.1 ≠ [] := by
  have e : wfirst u1 u2 = [(u1, -1, -1), (u2, -1, -1)] := by unfold wfirst; rw [if_neg hne]
  have h0 : nd (wfirst u1 u2) 0 = (u1, -1, -1) := by rw [e]; rfl
  have hl : (wfirst u1 u2).length = 2 := by rw [e]; rfl
  have hp := wexp_pre most (tabO b (tabV v b)) u1 0 (wfirst u1 u2)
  have hle := hp.length_le
  have hnd : nd (wexp most (tabO b (tabV v b)) u1 0 (wfirst u1 u2)) 1 = (u2, -1, -1) := by rw [nd_pre hp (by omega), e]; rfl
  unfold fway
  rw [show n + 2 = (n + 1) + 1 from rfl]
  unfold wrun
  rw [if_neg (by omega), h0, if_neg (by unfold tabF tabV; show ¬ 0 ≤ frW (v (tagsA b u1)); omega)]
  simp only
  unfold wrun
  rw [if_neg (by omega), show (0 + 1 : Nat) = 1 from rfl, hnd, if_pos (by unfold tabF tabV; exact hf)]
  exact wway_ne (by omega) _
/-- Where a Room by itself ends. -/
def RoomEnd (w0 w : World) (B : WB) (V : WV) (s : CS) (rb : Nat) (b u1 u2 : Int) (its : List Itm) (c0 : Nat) (W : World) : Prop :=
  ∃ s' xr, RoomAt W w0.heap.size rb xr ∧ xr.ph = .off ∧ FS [rb] w W ∧ s'.n ≤ c0 ∧ s'.cnt ≤ c0 ∧
    (((fway s.val b V.c.way u1 u2 99).2.2.1 = [] ∧ xr.is = false ∧ s'.val = s.val ∧ ∃ k, WS w0 W B { V with nts := nadd V.nts ⟨k, V.hd, 3, 0, 0, 0, 0, 0⟩ } s') ∨
     ((fway s.val b V.c.way u1 u2 99).2.2.1 ≠ [] ∧ xr.is = true ∧ WS w0 W B V s' ∧ Tbl b its s'.val ∧ (∀ r, r ≠ 0 → cntI s'.val b r = cntI s.val b r) ∧ (∀ a, 64 ≤ a → a < 128 → s'.val a % 2 = 0) ∧ xr.sb = b ∧ (xr.su = u1 ∨ xr.su = u2) ∧ SIn b xr.su xr.sk ∧ slA s'.val b xr.su xr.sk = (0, 0)))
theorem rrun_room {w0 w : World} {B : WB} {V : WV} {s : CS} {rb : Nat} {b u1 u2 : Int} {its : List Itm} {c0 : Nat} (hT : Tbl b its s.val) (hits : its.length ≤ 999) (hev : ∀ a, 64 ≤ a → a < 128 → s.val a % 2 = 0) (h : WS w0 w B V s) (hx : RoomAt w w0.heap.size rb (rmnew b u1 u2)) (hu1 : 0 ≤ u1 ∧ u1 < tsize b) (hu2 : 0 ≤ u2 ∧ u2 < tsize b) (hnt : V.nts = []) (hc : s.n + 200 ≤ c0 ∧ s.cnt + 200 ≤ c0) (hlim : c0 < lim) :
    ∃ n, n ≤ 200 ∧ RRun rb B.wb (RoomEnd w0 w B V s rb b u1 u2 its c0) n w := by
  have hb13 : 1 ≤ b ∧ b ≤ 3 := ⟨hT.b1, hT.b3⟩
  have hb12 : 1 ≤ b ∧ b ≤ 12 := ⟨hT.b1, by have := hT.b3; omega⟩
  have hbd : Word s.val := fun a => wf_bd (h.own.wf a)
  have hroom : s.room := CS.room_of c0 (by omega) hlim
  obtain ⟨r, hl, hlr⟩ : ∃ r, (rmnew b u1 u2).l = u1 :: r ∧ ((u2 = u1 ∧ r = []) ∨ (u2 ≠ u1 ∧ r = [u2])) := by
    unfold rmnew
    by_cases hh : u2 = u1
    · exact ⟨[], by simp [hh], .inl ⟨hh, rfl⟩⟩
    · exact ⟨[u2], by simp [hh], .inr ⟨hh, rfl⟩⟩
  have hlr10 : r.length ≤ 10 := by rcases hlr with ⟨-, e⟩ | ⟨-, e⟩ <;> rw [e] <;> simp
  by_cases f1 : 0 ≤ frW (s.val (tagsA b u1))
  · obtain ⟨g1, g2⟩ := free_slot hT hu1 f1
    have hlk : (rmnew b u1 u2).look (s.val (tagsA b u1)) = { rmnew b u1 u2 with l := r, sb := b, su := u1, sk := frW (s.val (tagsA b u1)), is := true, ph := .off } := by
      unfold RM.look; rw [hl]
      simp only
      rw [if_neg (by omega)]; rfl
    have hst := rmstep_look h hroom hx rfl u1 r hl hlr10 (.inl f1)
    have eb : (rmnew b u1 u2).bits = b := rfl
    rw [eb, hlk] at hst
    refine ⟨1, by omega, rmover_is hx false rfl, hst.mono fun e w' hh => ?_⟩
    obtain ⟨he, h2⟩ := hh
    have hv : (s.acc 1 (tagsA b u1) (s.val (tagsA b u1))).val = s.val := upd_selfW _ _
    refine ⟨_, he, rmover_is h2.rm true rfl, _, _, h2.rm, rfl, h2.fx.fs (List.mem_singleton.2 rfl), by show s.n + 1 ≤ c0; omega, by show s.cnt + 1 ≤ c0; omega, .inr ⟨fway_one 98 f1, rfl, h2.ws, ?_, ?_, ?_, rfl, .inl rfl, g1, ?_⟩⟩
    · rw [hv]; exact hT
    · rw [hv]; exact fun r _ => rfl
    · rw [hv]; exact hev
    · rw [hv]; exact g2
  · have f1' : frW (s.val (tagsA b u1)) = -1 := by have := frW_nn (s.val (tagsA b u1)); omega
    obtain ⟨N, hN⟩ : ∃ N, N = (fway s.val b V.c.way u1 u2 99).1 + hopSum b (fway s.val b V.c.way u1 u2 99).2.2.1 ((fway s.val b V.c.way u1 u2 99).2.2.1.length - 1) + 1 := ⟨_, rfl⟩
    obtain ⟨tst1, tst2⟩ := fway_steps (v := s.val) (b := b) (most := V.c.way) hb13 hu1 hu2 (n := 99) (by omega)
    have hld := fway_leads (v := s.val) (most := V.c.way) hb13 hu1 hu2 (n := 99) (by omega)
    obtain ⟨Wy, hWy⟩ : ∃ Wy, Wy = (fway s.val b V.c.way u1 u2 99).2.2.1 := ⟨_, rfl⟩
    rw [← hWy] at hld
    have hN : N = (fway s.val b V.c.way u1 u2 99).1 + hopSum b Wy (Wy.length - 1) + 1 := by rw [hN, ← hWy]
    have hw0 : Wy ≠ [] → HWay b its (cntI s.val b) Wy (Wy.length - 1) s.val := fun hne => leads_hway hT hbd hev hu1 hu2 hld hne
    have hl8 : Wy.length ≤ 8 := by
      by_cases hne : Wy = []
      · rw [hne]; exact Nat.zero_le _
      · have hh := hw0 hne
        obtain ⟨t1, t2, t3⟩ := fway_tab hb13
        have := nodup_len (tsize b).toNat (Wy.map (·.1)) hh.nd (fun u hu => by
          obtain ⟨x, hx, rfl⟩ := List.mem_map.1 hu
          have hs := hh.inn x hx
          exact ⟨hs.u0, by have := hs.u1; omega⟩)
        rw [List.length_map] at this
        omega
    have hhs : hopSum b Wy (Wy.length - 1) ≤ 84 := by
      by_cases hne : Wy = []
      · rw [hne]; exact Nat.zero_le _
      · have := (hopSum_bd (hw0 hne).inn (Wy.length - 1) (by have := (hw0 hne).lt; omega)).2
        omega
    have hNb : N ≤ 150 := by omega
    -- the search, from a world where one bucket is left
    have srch : ∀ (w2 : World) (s2 : CS) (x2 : RM) (cc : Int), WS w0 w2 B V s2 → RoomAt w2 w0.heap.size rb x2 → FS [rb] w w2 → x2.ph = .look → x2.l = [cc] → x2.bits = b → x2.a = u1 → x2.b = u2 → x2.is = false → s2.val = s.val → s2.n ≤ s.n + 1 → s2.cnt ≤ s.cnt + 1 → frW (s.val (tagsA b cc)) = -1 → RRun rb B.wb (RoomEnd w0 w B V s rb b u1 u2 its c0) N w2 := by
      intro w2 s2 x2 cc h2 hx2 hf2 hp2 hl2 hb2 ha2 hbb2 hi2 hv2 hn2 hc2 hfr
      have hroom2 : s2.room := CS.room_of c0 (by omega) hlim
      have hlw := look_way h2 hroom2 hx2 cc [] hl2 rfl (by rw [hb2, hv2]; exact hfr) (by rw [ha2, hbb2, hb2]; exact ⟨hu1, hu2⟩)
      have hst := rmstep_lookd hx2 hp2 false hlw fun w' ⟨xb, kb, m, hq⟩ => ⟨_, _, hq.rm, rfl⟩
      have hv3 : (s2.acc 1 (tagsA x2.bits cc) (s2.val (tagsA x2.bits cc))).val = s.val := (upd_selfW _ _).trans hv2
      have hwr : ∀ kb m, wres (wnew x2.bits V.c.way x2.a x2.b kb m) (tabV s.val b) 99 = fway s.val b V.c.way u1 u2 99 := fun kb m => by rw [wres_new, ha2, hbb2, hb2]; rfl
      rw [hN]
      refine ⟨rmover_is hx2 false (by rw [hp2]; rfl), hst.mono fun e w' hh => ?_⟩
      obtain ⟨he, xb, kb, m, hq⟩ := hh
      have hrs := rrun_srch (its := its) (v := s.val) (b := b) hits hlim hnt Wy hw0 hb12 hl8 99 w' _ _ _ hq rfl (wnew_ok2 (by rw [hb2]; exact hb12) (by rw [ha2, hb2]; exact hu1) (by rw [hbb2, hb2]; exact hu2)) rfl hb2 rfl rfl rfl hi2 hv3 (by rw [hwr]; show s2.n + 1 + _ + 96 ≤ _; omega) (by rw [hwr]; show s2.cnt + 1 + _ + 96 ≤ _; omega) (by rw [hwr]; exact tst1) (by rw [hwr]; exact hWy.symm)
      rw [hwr] at hrs
      refine ⟨_, he, RRun.mono (fun W hW => ?_) _ _ hrs⟩
      rcases hW with ⟨e1, s', xr, k, q1, q2, q3, q4, q5, q6, q7, q8⟩ | ⟨p, r', hpr, s', xr, q1, q2, q3, q4, q5, q6, q7, q8, q9, q10, q11⟩
      · exact ⟨s', xr, q1, q2, hf2.trans q3, q4, q5, .inl ⟨by rw [← hWy]; exact e1, q7, q8, k, q6⟩⟩
      · have hp0 : Wy[0]? = some p := by rw [hpr]; rfl
        refine ⟨s', xr, q1, q2, hf2.trans q3, q4, q5, .inr ⟨by rw [← hWy, hpr]; exact List.cons_ne_nil _ _, q7, q6, q8.tbl, q8.cnt, q8.ev, q9, ?_, ?_, ?_⟩⟩
        · rw [q10]; exact hld.first p hp0
        · rw [q10, q11]; exact q8.inn p (List.mem_of_getElem? hp0)
        · rw [q10, q11]; exact q8.free p hp0
    rcases hlr with ⟨e12, hr⟩ | ⟨e12, hr⟩
    · subst hr
      have hrr := srch w s (rmnew b u1 u2) u1 h hx ((below_fr (Below.refl _ _) wTy true).fx rb |>.fs (List.mem_singleton.2 rfl)) rfl hl rfl rfl rfl rfl rfl (by omega) (by omega) f1'
      exact ⟨N, by omega, hrr⟩
    · subst hr
      have hlk : (rmnew b u1 u2).look (s.val (tagsA b u1)) = { rmnew b u1 u2 with l := [u2] } := by
        unfold RM.look; rw [hl]
        simp only
        rw [if_pos f1']
      have hst := rmstep_look h hroom hx rfl u1 [u2] hl (by simp) (.inr (by simp))
      have eb : (rmnew b u1 u2).bits = b := rfl
      rw [eb, hlk] at hst
      have hv : (s.acc 1 (tagsA b u1) (s.val (tagsA b u1))).val = s.val := upd_selfW _ _
      by_cases f2 : 0 ≤ frW (s.val (tagsA b u2))
      · obtain ⟨g1, g2⟩ := free_slot hT hu2 f2
        refine ⟨2, by omega, rmover_is hx false rfl, hst.mono fun e w' hh => ?_⟩
        obtain ⟨he, h2⟩ := hh
        refine ⟨_, he, rmover_is h2.rm false rfl, ?_⟩
        have hroom2 : (s.acc 1 (tagsA b u1) (s.val (tagsA b u1))).room := CS.room_of c0 (by show s.n + 1 ≤ c0 ∧ s.cnt + 1 ≤ c0; omega) hlim
        have hst2 := rmstep_look h2.ws hroom2 h2.rm rfl u2 [] rfl (by simp) (.inl (by rw [hv]; exact f2))
        have eb2 : ({ rmnew b u1 u2 with l := [u2] } : RM).bits = b := rfl
        have hlk2 : ({ rmnew b u1 u2 with l := [u2] } : RM).look (s.val (tagsA b u2)) = { rmnew b u1 u2 with l := [], sb := b, su := u2, sk := frW (s.val (tagsA b u2)), is := true, ph := .off } := by
          unfold RM.look
          simp only
          rw [if_neg (by omega)]; rfl
        rw [eb2, hv, hlk2] at hst2
        refine hst2.mono fun e2 w2 hh => ?_
        obtain ⟨he2, h3⟩ := hh
        have hv3 : ((s.acc 1 (tagsA b u1) (s.val (tagsA b u1))).acc 1 (tagsA b u2) (s.val (tagsA b u2))).val = s.val := by
          show upd (s.acc 1 (tagsA b u1) (s.val (tagsA b u1))).val _ _ = _
          rw [hv]; exact upd_selfW _ _
        refine ⟨_, he2, rmover_is h3.rm true rfl, _, _, h3.rm, rfl, (h2.fx.fs (List.mem_singleton.2 rfl)).trans (h3.fx.fs (List.mem_singleton.2 rfl)), by show s.n + 1 + 1 ≤ c0; omega, by show s.cnt + 1 + 1 ≤ c0; omega, .inr ⟨fway_two 97 e12 f1' f2, rfl, h3.ws, ?_, ?_, ?_, rfl, .inr rfl, g1, ?_⟩⟩
        · rw [hv3]; exact hT
        · rw [hv3]; exact fun r _ => rfl
        · rw [hv3]; exact hev
        · rw [hv3]; exact g2
      · have f2' : frW (s.val (tagsA b u2)) = -1 := by have := frW_nn (s.val (tagsA b u2)); omega
        have hall := fun (w' : World) (h2 : RMB w0 w w' B V (s.acc 1 (tagsA b u1) (s.val (tagsA b u1))) rb { rmnew b u1 u2 with l := [u2] }) => srch w' _ { rmnew b u1 u2 with l := [u2] } u2 h2.ws h2.rm (h2.fx.fs (List.mem_singleton.2 rfl)) rfl rfl rfl rfl rfl rfl hv (by show s.n + 1 ≤ _; omega) (by show s.cnt + 1 ≤ _; omega) f2'
        exact ⟨N + 1, by omega, rmover_is hx false rfl, hst.mono fun e w' ⟨he, h2⟩ => ⟨_, he, hall w' h2⟩⟩
end Go.Proofs.YtdbgfidnccpmdaaGreat

/-
  nestboxlaw18.Stand: how often each item stands in a slot; Odds.
-/
namespace Go.Proofs.YtdbgfidnccpmdaaGreat
open Go.RowKit Go.Maps TagPure
set_option linter.unusedVariables false

theorem stRow_one (v : Int → Int) (b : Int) (i n : Nat) : (stRow v b i n).toArray.all (·.oneCell') = true := by
  simp [stRow, Value.oneCell']
theorem stRow_at (v : Int → Int) (b : Int) (i n r : Nat) (h : r < n) : (stRow v b i n).toArray[r]? = some (.int .i64 (stC v b i r)) := by
  simp [stRow, h]
theorem plist2_len {h b : Int} (hb : 1 ≤ b ∧ b ≤ 3) : (plist h (tword b 0)).length ≤ 2 := by
  rw [plist_one hb]; split <;> simp
/-- An array of counts in memory. -/
abbrev AI (w : World) (q T : Nat) (l : List Value) : Prop := w.heap[q]? = some (.cells l.toArray T (0, 0))
theorem AI.below {w w' : World} {q T : Nat} {l : List Value} (h : AI w q T l) (hb : Below w.heap.size w w') : AI w' q T l := (hb.block _ (Array.getElem?_eq_some_iff.1 h).1).trans h
/-- A slot as it is: free, or an item's. -/
theorem Tbl.cases {b : Int} {its : List Itm} {v : Int → Int} (h : Tbl b its v) {u k : Int} (hs : SIn b u k) : (tagOf (v (tagsA b u)) k = 0 ∧ v (itemA b u k) = 0) ∨ ∃ (n : Nat) (y : Itm), its[n]? = some y ∧ tagOf (v (tagsA b u)) k = tag01 (hashOf y.key) ∧ v (itemA b u k) = (n : Int) + 1 ∧ (b, u) ∈ plist (hashOf y.key) (tword b 0) := by
  rcases h.slot u k hs with h0 | ⟨n, y, h1, h2, h3⟩
  · exact .inl ⟨congrArg Prod.fst h0, congrArg Prod.snd h0⟩
  · exact .inr ⟨n, y, h1, congrArg Prod.fst h2, congrArg Prod.snd h2, (plist_mem ⟨h.b1, h.b3⟩).2 h3⟩
theorem odd18 (v : Int) (hv : (Lit.int .u64 v).wf = true) (w : World) : Calls Tryz.prog 145 #[.int .u64 v] w fun e w' => e = .returned (.bool (v % 2 == 1)) ∧ w' = w := by
  have h : 0 ≤ v ∧ v < 18446744073709551616 := by
    have hmin : IntKind.u64.min = 0 := rfl
    have hmax : IntKind.u64.max = 18446744073709551615 := rfl
    simp only [Lit.wf, Bool.and_eq_true, decide_eq_true_eq] at hv; omega
  have hb : bits .and .u64 v 1 = v % 2 := mask_u64 v 1 1 (by decide) (by decide) h.1 h.2
  go_enter Tryz.func145, Tryz.ntmps145
  go_wp2
  go_ret
  exact ⟨rfl, rfl⟩
set_option maxRecDepth 100000 in
set_option maxHeartbeats 4000000 in
theorem stand18_any {w0 w : World} {B : WB} {V : WV} {s : CS} {b : Int} (h : WS w0 w B V s) (hT : Tbl b V.its s.val) (hil : V.its.length ≤ 40) (hks : ∀ x ∈ V.its, x.key.size ≤ maxLen) :
    Calls Tryz.prog 52 #[.pointer (some ⟨B.wb, 0, none⟩)] w fun e w' => e = .returned (.tuple #[.agg (stRow s.val b (4 * (tsize b).toNat) 64).toArray, .bool true]) ∧ Below w.heap.size w w' := by
  have hb4 : 1 ≤ b ∧ b ≤ 4 := ⟨hT.b1, by have := hT.b3; omega⟩
  obtain ⟨-, -, q3⟩ := as_one hb4
  have hsp := fun W => spots_any (tword b 0) (tword_wf4 hb4) W
  rw [q3] at hsp
  obtain ⟨N, hN⟩ : ∃ N : Nat, N = 4 * (tsize b).toNat := ⟨_, rfl⟩
  have hsz := tsize_pos (b := b) ⟨hb4.1, by omega⟩
  have hNi : 4 * tsize b = (N : Int) := by omega
  have hN32 : N ≤ 32 := by
    have := (SIn.size (b := b) (u := 0) (k := 0) ⟨hT.b1, hT.b3, by omega, by omega, by omega, by omega⟩).2
    omega
  have hat := fun (k : Nat) (hk : k < N) W => at_small b k hb4 (by omega) W
  rw [hNi] at hsp
  rw [← hN]
  have hsin : ∀ k : Nat, k < N → SIn b ((k : Int) / 4) ((k : Int) % 4) := fun k hk => ⟨hT.b1, hT.b3, by omega, by omega, by omega, by omega⟩
  have hsl : ∀ k : Nat, k < N → (slN b)[k]? = some ((k : Int) / 4, (k : Int) % 4) := fun k hk => by rw [slN_at b k (by omega)]; rfl
  have H := Lib.hid h; have HT := Lib.hid hT; have HIL := Lib.hid hil; have HKS := Lib.hid hks; have HN32 := Lib.hid hN32; have HAT := Lib.hid hat; have HSIN := Lib.hid hsin; have HSL := Lib.hid hsl; have HSP := Lib.hid hsp
  clear h hT hil hks hN32 hat hsin hsl hsp hb4 q3 hN hNi hsz
  go_enter Tryz.func52, Tryz.ntmps52
  go_upto_region 2 with (fail)
  change Code.wp _ _ _ _ ((w.alloc (.cells (Array.replicate 64 (.int .i64 0)) 131)).alloc (.cells (Array.replicate 64 (.int .i64 0)) 131))
  have hb1 := below_alloc w (.cells (Array.replicate 64 (.int .i64 0)) 131)
  have hz1 : AI (w.alloc (.cells (Array.replicate 64 (.int .i64 0)) 131)) w.heap.size 131 (stRow s.val b 0 64) := by
    have e := stRow_zero s.val b 64
    show _ = some (Obj.cells (stRow s.val b 0 64).toArray _ _)
    rw [e]; exact heap_alloc_new w _
  have hsz1 : (w.alloc (.cells (Array.replicate 64 (.int .i64 0)) 131)).heap.size = w.heap.size + 1 := by simp
  generalize w.alloc (.cells (Array.replicate 64 (.int .i64 0)) 131) = w1 at *
  have hb2 := below_alloc w1 (.cells (Array.replicate 64 (.int .i64 0)) 131)
  have hz2 : AI (w1.alloc (.cells (Array.replicate 64 (.int .i64 0)) 131)) w1.heap.size 131 (stRow s.val b 0 64) := by
    have e := stRow_zero s.val b 64
    show _ = some (Obj.cells (stRow s.val b 0 64).toArray _ _)
    rw [e]; exact heap_alloc_new w1 _
  have hz3 := hz1.below hb2
  have HB2 := Lib.hid (hb1.trans (hb2.mono hb1.size))
  generalize w1.alloc (.cells (Array.replicate 64 (.int .i64 0)) 131) = w2 at *
  obtain ⟨q2, hq2⟩ : ∃ q2, q2 = w.heap.size := ⟨_, rfl⟩
  obtain ⟨q4, hq4⟩ : ∃ q4, q4 = q2 + 1 := ⟨_, rfl⟩
  rw [hsz1, ← hq2, ← hq4] at hz2
  rw [← hq2] at hz3 ⊢
  rw [← hq4]
  have HQ := Lib.hid (show w.heap.size ≤ q2 ∧ w.heap.size ≤ q4 ∧ q2 ≠ q4 by omega)
  have HZ2 := Lib.hid hz3; have HZ4 := Lib.hid hz2
  clear hb1 hz1 hsz1 hb2 hz2 hz3 hq2 hq4
  have h2 := H.out.keep HB2.out
  have hpk := h2.peek 2 (by decide)
  rw [HT.out.word] at hpk
  have c0 := h2.c0
  clear h2
  go_upto_region 4 with (first
    | (go_at_call 33; refine hpk.mono ?_; intro e w' hh; obtain ⟨hh1, hh2⟩ := hh; subst hh1; obtain rfl := hh2.symm; clear hpk c0)
    | (go_at_call 134; refine (HSP.out _).mono ?_; intro e w' hh; obtain ⟨hh1, hh2⟩ := hh; subst hh1; obtain rfl := hh2.symm))
  go_wp2_with fail
  go_loopw [7] (fun i wr => ∃ k : Nat, k ≤ N ∧ i = .int .i64 k ∧ AI wr q4 131 (stRow s.val b k 64) ∧ AI wr q2 131 (stRow s.val b 0 64) ∧ Below w.heap.size w wr) (fun i _ => N - (intOf i).toNat)
  case atStart => exact ⟨0, by omega, rfl, HZ4.out, HZ2.out, HB2.out⟩
  case round =>
    clear HZ2 HZ4 HB2
    obtain ⟨k, hk, rfl, hz4, hz2, hbl⟩ := hrel
    have hn32 := HN32.out
    by_cases hlt : k < N
    · have hlt' : (k : Int) < N := by omega
      have hk64 : (k : Int) < 512 := by omega
      have hat := Lib.hid (fun W => HAT.out k hlt W)
      have hsin := HSIN.out k hlt
      have hsl := HSL.out k hlt
      obtain ⟨u, hu⟩ : ∃ u : Int, u = (k : Int) / 4 := ⟨_, rfl⟩
      obtain ⟨c, hc⟩ : ∃ c : Int, c = (k : Int) % 4 := ⟨_, rfl⟩
      rw [← hu, ← hc] at hat hsin hsl
      have hcas := HT.out.cases hsin
      have hcw : (Lit.int .i64 c).wf = true := by
        have h1 := hsin.k0; have h2 := hsin.k1
        simp [Lit.wf, IntKind.min, IntKind.max, IntKind.bits, IntKind.signed]; omega
      have HCAS := Lib.hid hcas; have HSL1 := Lib.hid hsl; have Z4 := Lib.hid hz4; have Z2 := Lib.hid hz2; have HBL := Lib.hid hbl; have HLT := Lib.hid hlt; have HCW := Lib.hid hcw
      clear hcas hsin hsl hz4 hz2 hbl hlt hcw hu hc hk
      go_upto_region 8 with (first
        | (go_at_call 135; refine (hat.out _).mono ?_; intro e w3 hh; obtain ⟨hh1, b3⟩ := hh; subst hh1; have B3 := Lib.hid b3; clear b3))
      have hb5 := below_alloc w3 (.cells #[.int .i64 b, .int .i64 u, .int .i64 c] 43)
      have hz5 := heap_alloc_new w3 (.cells #[.int .i64 b, .int .i64 u, .int .i64 c] 43)
      have b35 := B3.out.trans (hb5.mono B3.out.size)
      have HB5 := Lib.hid (HBL.out.trans (b35.mono HBL.out.size))
      have Y4 := Lib.hid (Z4.out.below b35); have Y2 := Lib.hid (Z2.out.below b35); have PS := Lib.hid hz5
      change Code.wp _ _ _ _ (w3.alloc (.cells #[.int .i64 b, .int .i64 u, .int .i64 c] 43))
      have HPS : Hid (q4 ≠ w3.heap.size) := fun e => by have h1 := (Array.getElem?_eq_some_iff.1 Z4.out).1; have h2 := B3.out.size; omega
      clear hb5 hz5 b35 Z4 Z2 HBL B3 hat
      generalize w3.alloc (.cells #[.int .i64 b, .int .i64 u, .int .i64 c] 43) = w5 at *
      generalize w3.heap.size = ps at *
      have s0 := hcell PS.out 0; have s1 := hcell PS.out 1; have s2 := hcell PS.out 2
      simp only [List.getElem?_toArray, List.getElem?_cons_zero, List.getElem?_cons_succ] at s0 s1 s2
      have hslt := slot_any (H.out.keep HB5.out) b u c HCW.out
      go_upto_region 9 with (go_at_call 62; refine hslt.mono ?_; intro e w6 hh; obtain ⟨hh1, b6⟩ := hh; subst hh1; have HB6 := Lib.hid (HB5.out.trans (b6.mono HB5.out.size)); have X4 := Lib.hid (Y4.out.below b6); have X2 := Lib.hid (Y2.out.below b6); have PS6 := Lib.hid ((b6.block _ (Array.getElem?_eq_some_iff.1 PS.out).1).trans PS.out); clear b6 hslt s0 s1 s2)
      clear Y4 Y2 PS HB5
      rcases HCAS.out with ⟨t0, i0⟩ | ⟨n, y, hy, ht, hi, hpl⟩
      · -- a free one
        rw [t0, i0]
        have E := Lib.hid (stRow_free (v := s.val) (n := 64) HSL1.out (show (slA s.val b u c).2 = 0 from i0))
        clear t0 i0
        go_wp2_with fail
        go_roundw
        case rel => exact ⟨k + 1, HLT.out, by go_num, by rw [E.out]; exact X4.out, X2.out, HB6.out⟩
        case measure => have := HLT.out; simp [intOf]; omega
      · -- an item's
        obtain ⟨ha0, ha1⟩ := hfold_bd y.key y.key.size
        have hyl := (List.getElem?_eq_some_iff.1 hy).1
        have hn40 : n < 40 := by have := HIL.out; omega
        have hky := HKS.out y (List.mem_of_getElem? hy)
        have hH := Lib.hid (fun W => hash_big y.key hky W)
        have hP := Lib.hid (fun W => places_any (hashOf y.key) (tword b 0) ha0 ha1 (tword_wf4 ⟨HT.out.b1, by have := HT.out.b3; omega⟩) W)
        have hTg := Lib.hid (fun W => tag_fn (hashOf y.key) ha0 ha1 W)
        have htb := tag01_bd (hashOf y.key) ha0 ha1
        have hplen := plist2_len (h := hashOf y.key) (b := b) ⟨HT.out.b1, HT.out.b3⟩
        have hat : atOf V.its ((n : Int) + 1) = (y, true) := by
          unfold atOf
          rw [if_pos (by omega), show (((n : Int) + 1).toNat - 1) = n by omega]
          simp [hy, List.getD_eq_getElem?_getD]
        have hit := fun W (hW : WS w0 W B V s) => hW.iat5 (by have := HIL.out; omega) ((n : Int) + 1)
        rw [hat] at hit
        have HITM := Lib.hid hit
        have E := Lib.hid (stRow_item (v := s.val) (n := 64) HSL1.out (show (slA s.val b u c).2 = ((n + 1 : Nat) : Int) from hi) (by omega) (by omega))
        have hstC := stC_le s.val b k (n + 1)
        have hcl := stRow_at s.val b k 64 (n + 1) (by omega)
        rw [ht, hi]
        generalize tag01 (hashOf y.key) = tgx at *
        generalize hashOf y.key = hsh at *
        obtain ⟨Lp, hLp⟩ : ∃ Lp, Lp = plist hsh (tword b 0) := ⟨_, rfl⟩
        rw [← hLp] at hpl hP hplen
        have e0 : (tgx == 0) = false := beq_eq_false_iff_ne.2 (by omega)
        have g0 : (0 : Int) ≤ (n : Int) + 1 ∧ (n : Int) + 1 < 1000000 := by omega
        have e1 : wrap64 ((n : Int) + 1) = (n : Int) + 1 := w64s rfl g0
        have HPL := Lib.hid hpl; have HPLN := Lib.hid hplen; have HN40 := Lib.hid hn40; have HSTC := Lib.hid hstC; have HCL := Lib.hid hcl
        have hi9 := HITM.out _ (H.out.keep HB6.out)
        have c1 := (H.out.keep HB6.out).hd5.2.1
        clear ha0 ha1 hky hyl hn40 htb hplen hat hit hLp hpl hstC hcl ht hi hy g0
        have d64 : decide ((64 : Int) ≤ (n : Int) + 1) = false := decide_eq_false (by have := HN40.out; omega)
        go_upto_region 11 with (go_at_call 40; refine hi9.mono ?_; intro e w9 hh; obtain ⟨hh1, b9⟩ := hh; subst hh1; have B9 := Lib.hid b9; clear b9 hi9 c1)
        have hbA := below_alloc w9 (.cells y.cells.toArray 52)
        have hzA := heap_alloc_new w9 (.cells y.cells.toArray 52)
        have b6A := B9.out.trans (hbA.mono B9.out.size)
        have HBA := Lib.hid (HB6.out.trans (b6A.mono HB6.out.size))
        have A4 := Lib.hid (X4.out.below b6A); have A2 := Lib.hid (X2.out.below b6A); have PSA := Lib.hid ((b6A.block _ (Array.getElem?_eq_some_iff.1 PS6.out).1).trans PS6.out)
        have hxA := hcell hzA 0
        change Code.wp _ _ _ _ (w9.alloc (.cells y.cells.toArray 52))
        clear hbA hzA b6A B9 HB6 X4 X2 PS6
        generalize w9.alloc (.cells y.cells.toArray 52) = wA at *
        generalize w9.heap.size = qA at *
        have cA : wA.cell? ⟨qA, 0, none⟩ = some (.string y.key) := hxA
        clear hxA
        go_upto_region 15 with (first
          | (go_at_call 32; refine (hH.out _).mono ?_; intro e w10 hh; obtain ⟨hh1, b10⟩ := hh; subst hh1; have B10 := Lib.hid b10; clear b10 cA)
          | (go_at_call 31; refine (hP.out _).mono ?_; intro e w11 hh; obtain ⟨pv, hh1, hp, b11⟩ := hh; subst hh1; have b1 := B10.out.trans (b11.mono B10.out.size); have HB11 := Lib.hid (HBA.out.trans (b1.mono HBA.out.size)); have C4 := Lib.hid (A4.out.below b1); have C2 := Lib.hid (A2.out.below b1); have PS11 := Lib.hid ((b1.block _ (Array.getElem?_eq_some_iff.1 PSA.out).1).trans PSA.out); obtain ⟨ao, hpv, hplc⟩ := hp.plc; subst hpv; have HPC := Lib.hid hplc; clear b1 b11 hp hplc))
        clear A4 A2 PSA HBA B10 hH hP
        go_wp2_with fail
        go_loopw [15, 16] (fun v14 v15 wr => ∃ (j : Nat) (d : Bool), j ≤ Lp.length ∧ v15 = .int .i64 j ∧ v14 = .bool d ∧ d = decide ((b, u) ∈ Lp.take j) ∧ Below w11.heap.size w11 wr) (fun _ v15 _ => Lp.length - (intOf v15).toNat)
        case atStart => exact ⟨0, false, by omega, rfl, rfl, by simp, Below.refl _ _⟩
        case round =>
          obtain ⟨j, d, hj, rfl, rfl, hd, hbw⟩ := hrel
          have hpl4 := HPLN.out
          by_cases hjl : j < Lp.length
          · have hjl' : (j : Int) < Lp.length := by omega
            obtain ⟨g, o, p1, p2, hao, hlk, g0, g1⟩ := (HPC.out.below hbw).at j hjl
            have psr := (hbw.block _ (Array.getElem?_eq_some_iff.1 PS11.out).1).trans PS11.out
            have x2 := fun st : ExtW wr => st.cell (show wr.cell? ⟨ps, 0, none⟩ = some (.int .i64 b) from hcell psr 0)
            have x3 := fun st : ExtW wr => st.cell (show wr.cell? ⟨ps, 1, none⟩ = some (.int .i64 u) from hcell psr 1)
            have htk : decide ((b, u) ∈ Lp.take (j + 1)) = (d || (p1 == b && p2 == u)) := by
              rw [hd, List.take_add_one, hlk, Bool.eq_iff_iff]
              simp only [Option.toList, decide_eq_true_eq, List.mem_append, List.mem_singleton, Prod.mk.injEq, Bool.or_eq_true, Bool.and_eq_true, beq_iff_eq]
              constructor
              · rintro (h | ⟨h1, h2⟩)
                · exact .inl h
                · exact .inr ⟨h1.symm, h2.symm⟩
              · rintro (h | ⟨h1, h2⟩)
                · exact .inl h
                · exact .inr ⟨h1.symm, h2.symm⟩
            have HTK := Lib.hid htk; have HJL := Lib.hid hjl; have HBW := Lib.hid hbw
            rw [hao]
            have x0 := fun st : ExtW wr => st.cell g0
            have x1 := fun st : ExtW wr => st.cell g1
            have heq := fun W => eql_place p1 p2 b u W
            obtain ⟨d2, hd2⟩ : ∃ d2, d2 = (p1 == b && p2 == u) := ⟨_, rfl⟩
            rw [← hd2] at heq
            have HD2 := Lib.hid hd2
            clear hd htk hlk hj hjl hao hbw psr g0 g1 hd2
            go_upto_region 19 with (fail)
            cases d
            all_goals
              refine wp_region_ext (by kernel_rfl) (by kernel_rfl) ?_
              repeat (go_big_quiet_step (fail))
              refine wpQuiet_nil ?_
              rintro W ⟨⟨W2, hW⟩, rfl⟩
              clear x0 x1 x2 x3 heq
              have HBW2 := Lib.hid (HBW.out.trans (hW.mono HBW.out.size))
              clear hW
              go_wp2_with fail
              go_roundw
              case rel => exact ⟨j + 1, _, HJL.out, by go_num, rfl, by rw [HTK.out]; first | rfl | (rw [HD2.out]; rfl), HBW2.out⟩
              case measure => have := HJL.out; simp [intOf]; omega
          · obtain rfl : j = Lp.length := by omega
            rw [List.take_length, decide_eq_true HPL.out] at hd
            subst hd
            have hn40 := HN40.out
            have D4 := C4.out.below hbw
            have c4 : wr.cell? ⟨q4, n + 1, none⟩ = some (.int .i64 (stC s.val b k (n + 1))) := (hcell D4 (n + 1)).trans HCL.out
            have f4 := hfrz D4 (n + 1)
            have hst := HSTC.out
            have i64x : ((n : Int) + 1).toNat = n + 1 := by omega
            have D2 := Lib.hid (C2.out.below hbw); have D4H := Lib.hid D4; have HBW := Lib.hid (HB11.out.trans (hbw.mono HB11.out.size))
            clear hbw D4 hj hjl
            go_wp2_with (go_at_call 56; refine (hTg.out _).mono ?_; intro e w10 hh; obtain ⟨hh1, hh2⟩ := hh; subst hh1; obtain rfl := hh2.symm)
            go_roundw
            case rel =>
              have hS := setCell_same D4H.out (n + 1) (.int .i64 ((stC s.val b k (n + 1) : Int) + 1))
              refine ⟨k + 1, HLT.out, by go_num, ?_, ?_, HBW.out.setCell (p := ⟨q4, n + 1, none⟩) HQ.out.2.1 _⟩
              · rw [E.out]
                rw [List.setIfInBounds_toArray] at hS
                exact hS
              · exact ((setCell_keeps wr q4 (n + 1) _).block q2 (Array.getElem?_eq_some_iff.1 D2.out).1 HQ.out.2.2).trans D2.out
            case measure => have := HLT.out; simp [intOf]; omega
    · obtain rfl : k = N := by omega
      have hszr : Hid ((Tryz.prog.info? 131).map (·.size) = some (stRow s.val b k 64).toArray.size) := by show _ = some (stRow s.val b k 64).toArray.size; rw [List.size_toArray, stRow_len]; kernel_rfl
      have hold : Hid ((stRow s.val b 0 64).toArray.size = (stRow s.val b k 64).toArray.size) := by show _ = _; rw [List.size_toArray, stRow_len, List.size_toArray, stRow_len]
      have Z4 := Lib.hid hz4; have Z2 := Lib.hid hz2; have HBL := Lib.hid hbl
      clear hz4 hz2 hbl hlt hk
      go_upto_region 23 with fail
      go_wp2_with (first
        | (refine wpList_load_row rfl 131 _ rfl q4 rfl 131 (stRow s.val b k 64).toArray (0, 0) _ Z4.out Tryz.underlying131 rfl hszr.out ?_)
        | (refine wpList_store_row rfl 131 _ _ rfl q2 (stRow s.val b k 64).toArray rfl rfl 131 (stRow s.val b 0 64).toArray Z2.out hszr.out hold.out (stRow_one _ _ _ _) ?_))
      have hz9 : (wr.setRow q2 (stRow s.val b k 64).toArray).heap[q2]? = some (.cells (stRow s.val b k 64).toArray 131 (0, 0)) := setRow_heap wr q2 _ _ _ _ Z2.out
      have hB9 : Below w.heap.size w (wr.setRow q2 (stRow s.val b k 64).toArray) := below_setRow HBL.out HQ.out.1 _
      generalize wr.setRow q2 (stRow s.val b k 64).toArray = w9 at *
      have hld := run_loadVar_row (P := Tryz.prog) w9 q2 131 131 (stRow s.val b k 64).toArray (0, 0) _ hz9 Tryz.underlying131 rfl hszr.out
      exact bodyPost_ret (v := .tuple #[.agg (stRow s.val b k 64).toArray, .bool true]) (by simp [results, Tryz.results52, asAddr, hld]) rfl ⟨rfl, hB9⟩
set_option maxRecDepth 10000 in
/-- No version is odd. -/
theorem odds18_any {w0 w : World} {B : WB} {V : WV} {s : CS} (h : WS w0 w B V s) (hev : ∀ a, 64 ≤ a → a < 128 → s.val a % 2 = 0) :
    Calls Tryz.prog 63 #[.pointer (some ⟨B.wb, 0, none⟩)] w fun e w' => e = .returned (.int .i64 0) ∧ w' = w := by
  have H := Lib.hid h; have HEV := Lib.hid hev
  clear h hev
  go_enter Tryz.func63, Tryz.ntmps63
  go_wp2_with fail
  go_loopw [3, 4] (fun v i wr => ∃ k : Nat, k ≤ 64 ∧ v = .int .i64 0 ∧ i = .int .i64 k ∧ wr = w) (fun _ i _ => 64 - (intOf i).toNat)
  case atStart => exact ⟨0, by omega, rfl, rfl, rfl⟩
  case round =>
    obtain ⟨k, hk, rfl, rfl, rfl⟩ := hrel
    by_cases hlt : k < 64
    · have hlt' : (k : Int) < 64 := by omega
      have q1 : IntKind.u64.wrap (k : Int) = k := by rw [IntKind.wrap_u64]; omega
      have q2 : IntKind.u64.wrap (64 + (k : Int)) = 64 + (k : Int) := by rw [IntKind.wrap_u64]; omega
      have hpk := H.out.peek (64 + (k : Int)) (by simp [Lit.wf, IntKind.min, IntKind.max, IntKind.bits, IntKind.signed]; omega)
      have hod := odd18 (s.val (64 + (k : Int))) (H.out.own.wf _) wr
      rw [show (s.val (64 + (k : Int)) % 2 == 1) = false from beq_eq_false_iff_ne.2 (by have := HEV.out (64 + (k : Int)) (by omega) (by omega); omega)] at hod
      have c0 := H.out.c0
      have HLT := Lib.hid hlt
      clear hk hlt
      go_wp2_with (first
        | (go_at_call 33; refine hpk.mono ?_; intro e w' hh; obtain ⟨hh1, hh2⟩ := hh; subst hh1; obtain rfl := hh2.symm; clear hpk c0)
        | (go_at_call 145; refine hod.mono ?_; intro e w' hh; obtain ⟨hh1, hh2⟩ := hh; subst hh1; obtain rfl := hh2.symm; clear hod))
      go_roundw
      case rel => exact ⟨k + 1, HLT.out, rfl, by go_num, by first | trivial | rfl⟩
      case measure => have := HLT.out; simp [intOf]; omega
    · obtain rfl : k = 64 := by omega
      clear hlt hk
      go_wp2_with fail
      go_ret
      exact ⟨rfl, rfl⟩
end Go.Proofs.YtdbgfidnccpmdaaGreat
