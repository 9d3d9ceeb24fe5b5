/-
  Texts of this prover, merged: Room, RoomLook, RoomLives, RoomsFree.
-/
import Derived.Test.YtcgnkgbiaafdcaaGreatP3
import Derived.Test.YtcgnkgbiaafdcaaGreatP1
import Derived.Test.YtcgnkgbiaafdcaaGreatPA
import Derived.Test.YtcgnkgbiaafdcaaGreatPB
import Derived.Laws.EntriesVeiled
import Derived.OwnWalk
import Derived.Deep.RegionHeld2
/-
  A Room: what lies in memory; what is told of it; how it begins.
-/
namespace Go.Proofs.YtcgnkgbiaafdcaaGreat
open Go.RowKit Go.Maps TagPure
set_option linter.unusedVariables false

/-- What comes next. -/
inductive RPh where
  | look | search | hop | off
deriving DecidableEq
def RPh.fn : RPh → Value
  | .look => .func (.func 130) #[] #[]
  | .search => .func (.func 198) #[] #[]
  | .hop => .func (.func 240) #[] #[]
  | .off => .nilFunc
/-- A Room's words. -/
structure RM where
  bits : Int
  l : List Int
  a : Int
  b : Int
  ph : RPh
  way : Option Addr
  hops : Option Addr
  sb : Int
  su : Int
  sk : Int
  is : Bool
def RM.cells (x : RM) (v : Value) : Array Value := #[.int .i64 x.bits, v, .int .i64 x.a, .int .i64 x.b, x.ph.fn, .pointer x.way, .pointer x.hops, .int .i64 x.sb, .int .i64 x.su, .int .i64 x.sk, .bool x.is]
/-- A row of numbers, from somewhere in its block on. -/
def SlI (w : World) (v : Value) (l : List Int) : Prop :=
  ∃ a c, v = .slice a l.length c ∧ l.length ≤ c ∧ c ≤ maxLen ∧ (l = [] ∨ ∃ g o cur, a = some ⟨g, o, none⟩ ∧ w.heap[g]? = some (.cells cur 3 (0, 0)) ∧ ∀ i, (hi : i < l.length) → cur[o + i]? = some (.int .i64 l[i]))
structure RoomAt (w : World) (lo rb : Nat) (x : RM) : Prop where
  low : lo ≤ rb
  ex : ∃ v, w.heap[rb]? = some (.cells (x.cells v) 254 (0, 0)) ∧ SlI w v x.l
section
variable {w w' : World} {lo lo' rb : Nat} {x y : RM}
theorem SlI.fr {v : Value} {l : List Int} {K : TypeId → Bool} {mp : Bool} (h : SlI w v l) (hf : Fr K mp w w') (hK : K 3 = false) : SlI w' v l := by
  obtain ⟨a, c, h1, h2, h3, h4⟩ := h
  refine ⟨a, c, h1, h2, h3, h4.imp id ?_⟩
  rintro ⟨g, o, cur, h5, h6, h7⟩
  exact ⟨g, o, cur, h5, hf.cells _ _ _ _ h6 hK, h7⟩
theorem RoomAt.fr {K : TypeId → Bool} {mp : Bool} (h : RoomAt w lo rb x) (hf : Fr K mp w w') (h1 : K 254 = false) (h2 : K 3 = false) : RoomAt w' lo rb x := by
  obtain ⟨l0, v, b1, b2⟩ := h
  exact ⟨l0, v, hf.cells _ _ _ _ b1 h1, b2.fr hf h2⟩
theorem RoomAt.below (h : RoomAt w lo rb x) (hb : Below w.heap.size w w') : RoomAt w' lo rb x := h.fr (below_fr hb (fun _ => false) false) rfl rfl
theorem RoomAt.lower (h : RoomAt w lo rb x) (hl : lo' ≤ lo) : RoomAt w lo' rb x := ⟨Nat.le_trans hl h.low, h.ex⟩
theorem RoomAt.set (h : RoomAt w lo rb x) (o : Nat) (u : Value) (hl : y.l = x.l) (hc : ∀ v, (x.cells v).setIfInBounds o u = y.cells v) : RoomAt (w.setCell ⟨rb, o, none⟩ u) lo rb y := by
  obtain ⟨l0, v, b1, b2⟩ := h
  have g := setCell_same b1 o u
  rw [hc] at g
  refine ⟨l0, v, g, ?_⟩
  rw [hl]
  exact b2.fr (set_ty b1 o u) rfl
theorem RoomAt.blk (h : RoomAt w lo rb x) : ∃ cs, w.heap[rb]? = some (.cells cs 254 (0, 0)) := by obtain ⟨_, v, b1, _⟩ := h; exact ⟨_, b1⟩
theorem RoomAt.lt (h : RoomAt w lo rb x) : rb < w.heap.size := by obtain ⟨cs, b1⟩ := h.blk; exact (Array.getElem?_eq_some_iff.1 b1).1
theorem RoomAt.c (h : RoomAt w lo rb x) : w.cell? ⟨rb, 0, none⟩ = some (.int .i64 x.bits) ∧ w.cell? ⟨rb, 2, none⟩ = some (.int .i64 x.a) ∧ w.cell? ⟨rb, 3, none⟩ = some (.int .i64 x.b) ∧ w.cell? ⟨rb, 4, none⟩ = some x.ph.fn ∧ w.cell? ⟨rb, 5, none⟩ = some (.pointer x.way) ∧ w.cell? ⟨rb, 6, none⟩ = some (.pointer x.hops) ∧ w.cell? ⟨rb, 7, none⟩ = some (.int .i64 x.sb) ∧ w.cell? ⟨rb, 8, none⟩ = some (.int .i64 x.su) ∧ w.cell? ⟨rb, 9, none⟩ = some (.int .i64 x.sk) ∧ w.cell? ⟨rb, 10, none⟩ = some (.bool x.is) := by
  obtain ⟨_, v, b1, b2⟩ := h
  exact ⟨hcell b1 0, hcell b1 2, hcell b1 3, hcell b1 4, hcell b1 5, hcell b1 6, hcell b1 7, hcell b1 8, hcell b1 9, hcell b1 10⟩
theorem RoomAt.f (h : RoomAt w lo rb x) (o : Nat) : w.frozen? ⟨rb, o, none⟩ = false := by obtain ⟨cs, b1⟩ := h.blk; exact hfrz b1 o
end
theorem rfn_eql (p : RPh) (W : World) : Sem.run Tryz.prog (binOp BinOp.eql 252 p.fn Value.nilFunc) W = .ok (.bool (decide (p = .off))) W := by cases p <;> kernel_rfl
/-- Is it over? -/
theorem rmover {w : World} {lo rb : Nat} {x : RM} (h : RoomAt w lo rb x) : Calls Tryz.prog 65 #[.pointer (some ⟨rb, 0, none⟩)] w fun e w' => e = .returned (.bool (decide (x.ph = .off))) ∧ w' = w := by
  obtain ⟨-, -, -, c4, -⟩ := h.c
  have hrun := rfn_eql x.ph w
  clear h
  generalize x.ph = q at *
  generalize hd : decide (q = .off) = d at *
  cases q
  all_goals
    simp only [RPh.fn] at c4 hrun
    clear hd
    go_enter Tryz.func65, Tryz.ntmps65
    go_wp2
    go_ret
    exact ⟨rfl, rfl⟩
theorem rmover_nil (w : World) : Calls Tryz.prog 65 #[.pointer none] w fun e w' => e = .returned (.bool true) ∧ w' = w := by
  go_enter Tryz.func65, Tryz.ntmps65
  go_wp2
  go_ret
  exact ⟨rfl, rfl⟩
theorem rmstep_nil (u : Value) (w : World) : Calls Tryz.prog 52 #[.pointer none, u] w fun e w' => e = .returned (.bool true) ∧ w' = w := by
  go_enter Tryz.func52, Tryz.ntmps52
  go_wp2_with (go_at_call 65; refine (rmover_nil _).mono ?_; intro e w2 hh; obtain ⟨hh1, hh2⟩ := hh; subst hh1; obtain rfl := hh2.symm)
  go_ret
  exact ⟨rfl, rfl⟩
theorem rmstep_over {w : World} {lo rb : Nat} {x : RM} (h : RoomAt w lo rb x) (ho : x.ph = .off) (u : Value) : Calls Tryz.prog 52 #[.pointer (some ⟨rb, 0, none⟩), u] w fun e w' => e = .returned (.bool true) ∧ w' = w := by
  have hv := rmover h
  rw [decide_eq_true ho] at hv
  clear h ho
  go_enter Tryz.func52, Tryz.ntmps52
  go_wp2_with (go_at_call 65; refine hv.mono ?_; intro e w2 hh; obtain ⟨hh1, hh2⟩ := hh; subst hh1; obtain rfl := hh2.symm)
  go_ret
  exact ⟨rfl, rfl⟩
theorem rmstep_no {w : World} {lo rb : Nat} {x : RM} (h : RoomAt w lo rb x) (ho : x.ph ≠ .off) : Calls Tryz.prog 52 #[.pointer (some ⟨rb, 0, none⟩), .pointer none] w fun e w' => e = .returned (.bool false) ∧ w' = w := by
  have hv := rmover h
  rw [decide_eq_false ho] at hv
  clear h ho
  go_enter Tryz.func52, Tryz.ntmps52
  go_wp2_with (go_at_call 65; refine hv.mono ?_; intro e w2 hh; obtain ⟨hh1, hh2⟩ := hh; subst hh1; obtain rfl := hh2.symm)
  go_ret
  exact ⟨rfl, rfl⟩
theorem rmgot_nil (w : World) : Calls Tryz.prog 61 #[.pointer none] w fun e w' => e = .returned (.tuple #[.agg #[.int .i64 0, .int .i64 0, .int .i64 0], .bool false]) ∧ Below w.heap.size w w' := by
  have hb := below_alloc w (.cells #[.int .i64 0, .int .i64 0, .int .i64 0] 43)
  go_enter Tryz.func61, Tryz.ntmps61
  go_wp2
  refine bodyPost_ret (v := .tuple #[.agg #[.int .i64 0, .int .i64 0, .int .i64 0], .bool false]) (by simp [results, Tryz.results61, go_sem]) rfl ⟨rfl, ?_⟩
  exact hb
theorem rmgot {w : World} {lo rb : Nat} {x : RM} (h : RoomAt w lo rb x) : Calls Tryz.prog 61 #[.pointer (some ⟨rb, 0, none⟩)] w fun e w' => e = .returned (.tuple (if x.is = true then #[.agg #[.int .i64 x.sb, .int .i64 x.su, .int .i64 x.sk], .bool true] else #[.agg #[.int .i64 0, .int .i64 0, .int .i64 0], .bool false])) ∧ Below w.heap.size w w' := by
  obtain ⟨-, -, -, -, -, -, c7, c8, c9, c10⟩ := h.c
  have hne := h.lt
  have hb := below_alloc w (.cells #[.int .i64 0, .int .i64 0, .int .i64 0] 43)
  have hz := heap_alloc_new w (.cells #[.int .i64 0, .int .i64 0, .int .i64 0] 43)
  have k : ∀ {j : Nat} {u : Value}, w.cell? ⟨rb, j, none⟩ = some u → (w.alloc (.cells #[.int .i64 0, .int .i64 0, .int .i64 0] 43)).cell? ⟨rb, j, none⟩ = some u := fun h => (hb.cell hne).trans h
  have hne2 : rb ≠ w.heap.size := Nat.ne_of_lt hne
  have g7 := k c7; have g8 := k c8; have g9 := k c9; have g10 := k c10
  have d0 := hcell hz 0; have d1 := hcell hz 1; have d2 := hcell hz 2
  have f0 := hfrz hz 0; have f1 := hfrz hz 1; have f2 := hfrz hz 2
  have HB := Lib.hid hb; have HZ := Lib.hid hz
  clear h c7 c8 c9 c10 k hb hz hne
  generalize x.is = is at *
  cases is
  · go_enter Tryz.func61, Tryz.ntmps61
    go_upto_region 1 with (fail)
    change Code.wp _ _ _ _ (w.alloc (.cells #[.int .i64 0, .int .i64 0, .int .i64 0] 43))
    generalize w.alloc (.cells #[.int .i64 0, .int .i64 0, .int .i64 0] 43) = w1 at *
    have s1 := setCell_same HZ.out 0 (.int .i64 0)
    have s2 := setCell_same s1 1 (.int .i64 0)
    have s3 := setCell_same s2 2 (.int .i64 0)
    have h0 := hcell s3 0; have h1 := hcell s3 1; have h2 := hcell s3 2
    have b1 := set_below HB.out HB.out.size (Nat.le_refl _) 0 (.int .i64 0)
    have b2 := set_below b1 b1.size (Nat.le_refl _) 1 (.int .i64 0)
    have b3 := set_below b2 b2.size (Nat.le_refl _) 2 (.int .i64 0)
    have B3 := Lib.hid b3; have H0 := Lib.hid h0; have H1 := Lib.hid h1; have H2 := Lib.hid h2
    clear s1 s2 s3 h0 h1 h2 b1 b2 b3
    go_wp2_with fail
    have h0 := H0.out; have h1 := H1.out; have h2 := H2.out
    refine bodyPost_ret (v := .tuple #[.agg #[.int .i64 0, .int .i64 0, .int .i64 0], .bool false]) (by simp [results, Tryz.results61, go_sem, h0, h1, h2]) rfl ⟨rfl, B3.out⟩
  · go_enter Tryz.func61, Tryz.ntmps61
    go_upto_region 1 with (fail)
    change Code.wp _ _ _ _ (w.alloc (.cells #[.int .i64 0, .int .i64 0, .int .i64 0] 43))
    generalize w.alloc (.cells #[.int .i64 0, .int .i64 0, .int .i64 0] 43) = w1 at *
    have s1 := setCell_same HZ.out 0 (.int .i64 x.sb)
    have s2 := setCell_same s1 1 (.int .i64 x.su)
    have s3 := setCell_same s2 2 (.int .i64 x.sk)
    have h0 := hcell s3 0; have h1 := hcell s3 1; have h2 := hcell s3 2
    have b1 := set_below HB.out HB.out.size (Nat.le_refl _) 0 (.int .i64 x.sb)
    have b2 := set_below b1 b1.size (Nat.le_refl _) 1 (.int .i64 x.su)
    have b3 := set_below b2 b2.size (Nat.le_refl _) 2 (.int .i64 x.sk)
    have B3 := Lib.hid b3; have H0 := Lib.hid h0; have H1 := Lib.hid h1; have H2 := Lib.hid h2
    clear s1 s2 s3 h0 h1 h2 b1 b2 b3
    go_wp2_with fail
    have h0 := H0.out; have h1 := H1.out; have h2 := H2.out
    refine bodyPost_ret (v := .tuple #[.agg #[.int .i64 x.sb, .int .i64 x.su, .int .i64 x.sk], .bool true]) (by simp [results, Tryz.results61, go_sem, h0, h1, h2]) rfl ⟨rfl, B3.out⟩
def rmvoid : RM := ⟨0, [], 0, 0, .off, none, none, 0, 0, 0, false⟩
def rmnew (bits a b : Int) : RM := ⟨bits, if b = a then [a] else [a, b], a, b, .look, none, none, 0, 0, 0, false⟩
theorem newroom_no (bits h : Int) (hb : tsize bits = 0) (w : World) : Calls Tryz.prog 48 #[.int .i64 bits, .int .u64 h] w fun e w' => ∃ rb, e = .returned (.pointer (some ⟨rb, 0, none⟩)) ∧ RoomAt w' w.heap.size rb rmvoid ∧ Below w.heap.size w w' := by
  have hs := fun W => size_any bits W
  rw [hb] at hs
  have b1 := below_alloc w (.cells (rmvoid.cells (.slice none 0 0)) 254)
  have z1 := heap_alloc_new w (.cells (rmvoid.cells (.slice none 0 0)) 254)
  have HB := Lib.hid b1; have HZ := Lib.hid z1
  clear hb b1 z1
  go_enter Tryz.func48, Tryz.ntmps48
  go_wp2_with (go_at_call 129; refine (hs _).mono ?_; intro e w2 hh; obtain ⟨hh1, hh2⟩ := hh; subst hh1; obtain rfl := hh2.symm)
  go_ret
  exact ⟨_, rfl, ⟨Nat.le_refl _, _, HZ.out, none, 0, rfl, Nat.le_refl _, Nat.zero_le _, .inl rfl⟩, HB.out⟩
set_option maxRecDepth 10000 in
set_option maxHeartbeats 1000000 in
theorem newroom_ok (bits h : Int) (hb : 1 ≤ bits ∧ bits ≤ 12) (h0 : 0 ≤ h ∧ h < 18446744073709551616) (w : World) : Calls Tryz.prog 48 #[.int .i64 bits, .int .u64 h] w fun e w' => ∃ rb, e = .returned (.pointer (some ⟨rb, 0, none⟩)) ∧ RoomAt w' w.heap.size rb (rmnew bits (bk h bits) (oth (bk h bits) (tag01 h) bits)) ∧ Below w.heap.size w w' := by
  have hs := fun W => size_any bits W
  have hbk := fun W => bucket_fn h bits h0.1 h0.2 hb W
  have htg := fun W => tag_fn h h0.1 h0.2 W
  have hko := bk_bd h bits hb
  have hto := tag01_bd h h0.1 h0.2
  have hot := fun W => other_fn (bk h bits) (tag01 h) bits hb hko hto W
  have hsz : (tsize bits == 0) = false := beq_eq_false_iff_ne.2 (by omega)
  obtain ⟨a, ha⟩ : ∃ a, a = bk h bits := ⟨_, rfl⟩
  obtain ⟨b, hbb⟩ : ∃ b, b = oth (bk h bits) (tag01 h) bits := ⟨_, rfl⟩
  obtain ⟨tg0, htg0⟩ : ∃ tg0, tg0 = tag01 h := ⟨_, rfl⟩
  rw [← hbb] at hot ⊢
  rw [← ha] at hbk hot ⊢
  rw [← htg0] at htg hot
  obtain ⟨i0, hi0, hz0, hz1, hz2⟩ := info_parts info_int1
  have HI := Lib.hid hi0; have HZ0 := Lib.hid hz0; have HZ1 := Lib.hid hz1; have HZ2 := Lib.hid hz2
  generalize tsize bits = ts at *
  clear hb h0 hko hto ha hbb htg0 hi0 hz0 hz1 hz2
  have k1 := below_alloc w (.cells #[.int .i64 a] 3)
  have n1 := heap_alloc_new w (.cells #[.int .i64 a] 3)
  have hs1 : (w.alloc (.cells #[.int .i64 a] 3)).heap.size = w.heap.size + 1 := by simp
  have k2 := below_alloc (w.alloc (.cells #[.int .i64 a] 3)) (.cells ((⟨bits, [a], a, b, .look, none, none, 0, 0, 0, false⟩ : RM).cells (.slice (some ⟨w.heap.size, 0, none⟩) 1 1)) 254)
  have n2 := heap_alloc_new (w.alloc (.cells #[.int .i64 a] 3)) (.cells ((⟨bits, [a], a, b, .look, none, none, 0, 0, 0, false⟩ : RM).cells (.slice (some ⟨w.heap.size, 0, none⟩) 1 1)) 254)
  have n1' := (k2.block _ (Array.getElem?_eq_some_iff.1 n1).1).trans n1
  rw [hs1] at n2
  have KB := Lib.hid (k1.trans (k2.mono k1.size)); have N1 := Lib.hid n1'; have N2 := Lib.hid n2
  clear k1 n1 hs1 k2 n2 n1'
  go_enter Tryz.func48, Tryz.ntmps48
  go_upto_region 6 with (first
    | (go_at_call 129; refine (hs _).mono ?_; intro e w2 hh; obtain ⟨hh1, hh2⟩ := hh; subst hh1; obtain rfl := hh2.symm)
    | (go_at_call 56; refine (hbk _).mono ?_; intro e w2 hh; obtain ⟨hh1, hh2⟩ := hh; subst hh1; obtain rfl := hh2.symm)
    | (go_at_call 58; refine (htg _).mono ?_; intro e w2 hh; obtain ⟨hh1, hh2⟩ := hh; subst hh1; obtain rfl := hh2.symm)
    | (go_at_call 57; refine (hot _).mono ?_; intro e w2 hh; obtain ⟨hh1, hh2⟩ := hh; subst hh1; obtain rfl := hh2.symm))
  change Code.wp _ _ _ _ ((w.alloc (.cells #[.int .i64 a] 3)).alloc (.cells ((⟨bits, [a], a, b, .look, none, none, 0, 0, 0, false⟩ : RM).cells (.slice (some ⟨w.heap.size, 0, none⟩) 1 1)) 254))
  generalize (w.alloc (.cells #[.int .i64 a] 3)).alloc (.cells ((⟨bits, [a], a, b, .look, none, none, 0, 0, 0, false⟩ : RM).cells (.slice (some ⟨w.heap.size, 0, none⟩) 1 1)) 254) = w1 at *
  by_cases hba : b = a
  · subst hba
    have hq : (b != b) = false := by simp
    go_wp2
    go_ret
    refine ⟨w.heap.size + 1, rfl, ⟨Nat.le_succ _, .slice (some ⟨w.heap.size, 0, none⟩) 1 1, ?_, ?_⟩, KB.out⟩
    · have e : (rmnew bits b b) = ⟨bits, [b], b, b, .look, none, none, 0, 0, 0, false⟩ := by unfold rmnew; rw [if_pos rfl]
      rw [e]; exact N2.out
    · have e : (rmnew bits b b).l = [b] := by show (if b = b then [b] else [b, b]) = [b]; rw [if_pos rfl]
      rw [e]
      exact ⟨_, 1, rfl, Nat.le_refl _, by unfold maxLen; omega, .inr ⟨w.heap.size, 0, _, rfl, N1.out, fun i hi => by
        have : i = 0 := by simp at hi; omega
        subst this; rfl⟩⟩
  · have hq : (b != a) = true := bne_iff_ne.2 hba
    have HBA := Lib.hid hba
    have hs1 : Hid (w.heap.size + 1 < w1.heap.size) := Lib.hid (Array.getElem?_eq_some_iff.1 N2.out).1
    have OW : Hid (w1.ownsRow w.heap.size 3 1 (.slice (some ⟨w.heap.size, 0, none⟩) 1 1) 1 [.int .i64 a]) := Lib.hid ⟨rfl, .inr ⟨w.heap.size, 1, _, rfl, Nat.le_refl _, N1.out, Nat.le_refl _, by unfold maxLen; decide, rfl, rfl⟩⟩
    have c1 : w1.cell? ⟨w.heap.size + 1, 1, none⟩ = some (.slice (some ⟨w.heap.size, 0, none⟩) 1 1) := hcell N2.out 1
    clear hba
    go_wp2_with (at_builtin; refine wpList_append_lies _ rfl _ _ 103 rfl w.heap.size 3 i0 (.int .i64 0) 1 8 Tryz.underlying103 HI.out HZ0.out HZ1.out HZ2.out rfl (by decide) (.slice (some ⟨w.heap.size, 0, none⟩) 1 1) 1 [.int .i64 a] rfl (OW.out.alloc _) ⟨w1.heap.size, 0, none⟩ 1 1 [.int .i64 b] rfl rfl ?c1 ?c2 (by decide) ?c3 ?c4 ?c5 (w1.heap.size + 1) (by simp) ?_)
    case c1 => exact World.news_of_block (heap_alloc_new w1 _)
    case c2 => simp [Value.oneCell']
    case c3 => unfold maxLen; omega
    case c4 => omega
    case c5 => have := hs1.out; simp; omega
    intro g2 c6 w6 hown' hgrow hkb hlt6
    have kb3 := below_alloc w1 (.cells #[.int .i64 b] 3)
    have gk := grown_keeps hgrow
    have hx2 := (kb3.block _ (Array.getElem?_eq_some_iff.1 N2.out).1).trans N2.out
    have hx6 := (gk.block _ (Array.getElem?_eq_some_iff.1 hx2).1 (fun c => by simp only [Value.ownBlock, Option.some.injEq] at c; omega)).trans hx2
    have c6' : w6.cell? ⟨w.heap.size + 1, 1, none⟩ = some (.slice (some ⟨w.heap.size, 0, none⟩) 1 1) := hcell hx6 1
    have f6 : w6.frozen? ⟨w.heap.size + 1, 1, none⟩ = false := hfrz hx6 1
    have bw2 := KB.out.trans (kb3.mono KB.out.size)
    have bw6 := keeps_below gk bw2 bw2.size (fun k hk => by simp only [Value.ownBlock, Option.some.injEq] at hk; omega)
    have BW := Lib.hid (bw6.setCell (p := ⟨w.heap.size + 1, 1, none⟩) (Nat.le_succ _) (.slice (some ⟨g2, 0, none⟩) 2 c6))
    have hxE := setCell_same hx6 1 (.slice (some ⟨g2, 0, none⟩) 2 c6)
    have hge : g2 ≠ w.heap.size + 1 := by
      have := hs1.out
      rcases hkb with e | e
      · simp only [Value.ownBlock, Option.some.injEq] at e; omega
      · omega
    have hsl : SlI (w6.setCell ⟨w.heap.size + 1, 1, none⟩ (.slice (some ⟨g2, 0, none⟩) 2 c6)) (.slice (some ⟨g2, 0, none⟩) 2 c6) [a, b] := by
      obtain ⟨-, ⟨e, -⟩ | ⟨g, cap, cur, e, h2, h3, h4, h5, h6, h7⟩⟩ := hown'
      · cases e
      · simp only [Value.slice.injEq, Option.some.injEq, Addr.mk.injEq, and_true, true_and] at e
        obtain ⟨rfl, rfl⟩ := e
        refine ⟨_, c6, rfl, h4, h5, .inr ⟨g2, 0, cur, rfl, ?_, fun i hi => ?_⟩⟩
        · exact (set_ty hx6 1 _).cells _ _ _ _ h3 rfl
        · have hi2 : i < 2 := hi
          have h8 : (cur.toList.take ((1 + 1) * 1))[i]? = ([.int .i64 a] ++ [.int .i64 b] : List Value)[i]? := by rw [h7]; rfl
          rw [List.getElem?_take, if_pos (by omega), Array.getElem?_toList] at h8
          rw [Nat.zero_add, h8]
          rcases (show i = 0 ∨ i = 1 by omega) with rfl | rfl <;> rfl
    have FIN := Lib.hid (And.intro hxE hsl)
    clear kb3 gk hx2 hx6 bw2 bw6 hxE hge hsl hown' hgrow hkb hlt6 c1
    go_wp2
    go_ret
    refine ⟨w.heap.size + 1, rfl, ⟨Nat.le_succ _, .slice (some ⟨g2, 0, none⟩) 2 c6, ?_, ?_⟩, BW.out⟩
    rotate_left
    · have e : (rmnew bits a b).l = [a, b] := by show (if b = a then [a] else [a, b]) = [a, b]; rw [if_neg HBA.out]
      rw [e]; exact FIN.out.2
    · have e : (rmnew bits a b) = ⟨bits, [a, b], a, b, .look, none, none, 0, 0, 0, false⟩ := by unfold rmnew; rw [if_neg HBA.out]
      rw [e]; exact FIN.out.1
end Go.Proofs.YtcgnkgbiaafdcaaGreat

/-
  A Room: a look into a bucket.
-/
namespace Go.Proofs.YtcgnkgbiaafdcaaGreat
open Go.RowKit Go.Maps TagPure
set_option linter.unusedVariables false

/-- A world, and a Room in it. -/
structure RMB (w0 w W : World) (B : WB) (V : WV) (s : CS) (rb : Nat) (x : RM) : Prop where
  ws : WS w0 W B V s
  rm : RoomAt W w0.heap.size rb x
  fx : Fx wTy true rb w W
section
variable {w0 w W W' : World} {B : WB} {V : WV} {s s' : CS} {rb : Nat} {x y : RM}
theorem RMB.below (h : RMB w0 w W B V s rb x) (hb : Below W.heap.size W W') : RMB w0 w W' B V s rb x := ⟨h.ws.keep hb, h.rm.below hb, h.fx.trans ((below_fr hb wTy true).fx rb)⟩
theorem RMB.set (h : RMB w0 w W B V s rb x) (o : Nat) (u : Value) (hl : y.l = x.l) (hc : ∀ v, (x.cells v).setIfInBounds o u = y.cells v) : RMB w0 w (W.setCell ⟨rb, o, none⟩ u) B V s rb y := by
  obtain ⟨cs, b1⟩ := h.rm.blk
  exact ⟨set_take h.ws b1 rfl h.rm.low u, h.rm.set o u hl hc, h.fx.trans (set_fx wTy true W rb o u)⟩
theorem RMB.setl (h : RMB w0 w W B V s rb x) {v : Value} {l : List Int} (hv : SlI W v l) : RMB w0 w (W.setCell ⟨rb, 1, none⟩ v) B V s rb { x with l := l } := by
  obtain ⟨l0, u, b1, b2⟩ := h.rm
  exact ⟨set_take h.ws b1 rfl l0 v, ⟨l0, v, setCell_same b1 1 v, hv.fr (set_ty b1 1 v) rfl⟩, h.fx.trans (set_fx wTy true W rb 1 v)⟩
theorem RMB.move (h : RMB w0 w W B V s rb x) (h2 : WS w0 W' B V s') (hf : Fr wTy true W W') : RMB w0 w W' B V s' rb x := ⟨h2, h.rm.fr hf rfl rfl, h.fx.trans (hf.fx rb)⟩
end
theorem sli_pop {w : World} {v : Value} {c : Int} {r : List Int} (h : SlI w v (c :: r)) : ∃ g o k, v = .slice (some ⟨g, o, none⟩) (r.length + 1) (k + 1) ∧ w.cell? ⟨g, o, none⟩ = some (.int .i64 c) ∧ r.length ≤ k ∧ k + 1 ≤ maxLen ∧ SlI w (.slice (some ⟨g, if k = 0 then o else o + 1, none⟩) r.length k) r := by
  obtain ⟨a, q, rfl, h1, h2, h3 | ⟨g, o, cur, rfl, hg, hi⟩⟩ := h
  · cases h3
  · have h0 := hi 0 (by simp)
    rw [Nat.add_zero] at h0
    rw [List.length_cons] at h1
    obtain ⟨k, rfl⟩ : ∃ k, q = k + 1 := ⟨q - 1, by omega⟩
    refine ⟨g, o, k, rfl, by rw [hcell hg]; exact h0, by omega, h2, _, k, rfl, by omega, by omega, ?_⟩
    by_cases hk : k = 0
    · exact .inl (List.eq_nil_of_length_eq_zero (by omega))
    · rw [if_neg hk]
      refine .inr ⟨g, o + 1, cur, rfl, hg, fun i hir => ?_⟩
      have := hi (i + 1) (by simp; exact hir)
      rw [show o + 1 + i = o + (i + 1) by omega, this]
      simp
theorem ends_any {w0 w W : World} {B : WB} {V : WV} {s : CS} {rb : Nat} {x : RM} (h : RMB w0 w W B V s rb x) (p q k : Int) : Calls Tryz.prog 197 #[.pointer (some ⟨rb, 0, none⟩), .agg #[.int .i64 p, .int .i64 q, .int .i64 k]] W fun e w' => e = .returned (.tuple #[]) ∧ RMB w0 w w' B V s rb { x with sb := p, su := q, sk := k, is := true, ph := .off } := by
  have hb := below_alloc W (.cells #[.int .i64 p, .int .i64 q, .int .i64 k] 43)
  have hz := heap_alloc_new W (.cells #[.int .i64 p, .int .i64 q, .int .i64 k] 43)
  have H1 := Lib.hid (h.below hb); have HZ := Lib.hid hz
  clear h hb hz
  go_enter Tryz.func197, Tryz.ntmps197
  go_upto_region 1 with (fail)
  change Code.wp _ _ _ _ (W.alloc (.cells #[.int .i64 p, .int .i64 q, .int .i64 k] 43))
  generalize W.alloc (.cells #[.int .i64 p, .int .i64 q, .int .i64 k] 43) = W1 at *
  generalize W.heap.size = sb at *
  have m0 := hcell HZ.out 0
  have m1 := hcell HZ.out 1
  have m2 := hcell HZ.out 2
  obtain ⟨-, -, -, c4, -, -, c7, c8, c9, c10⟩ := H1.out.rm.c
  have ff := H1.out.rm.f
  have H2 := Lib.hid (((((H1.out.set (y := { x with sb := p }) 7 (.int .i64 p) rfl (fun _ => rfl)).set (y := { x with sb := p, su := q }) 8 (.int .i64 q) rfl (fun _ => rfl)).set (y := { x with sb := p, su := q, sk := k }) 9 (.int .i64 k) rfl (fun _ => rfl)).set (y := { x with sb := p, su := q, sk := k, is := true }) 10 (.bool true) rfl (fun _ => rfl)).set (y := { x with sb := p, su := q, sk := k, is := true, ph := .off }) 4 (.nilFunc) rfl (fun _ => rfl))
  generalize hph : x.ph = ph at *
  cases ph
  all_goals
    simp only [RPh.fn] at c4
    go_wp2_with fail
    go_end0
    first | exact ⟨rfl, H2.out⟩ | (rw [← hph] at H2; exact ⟨rfl, H2.out⟩)
abbrev TLk (nb wb cb : Nat) (b c : Int) (W : World) : Prop := W.cell? ⟨wb, 0, none⟩ = some (.pointer (some ⟨cb, 0, none⟩)) ∧ W.cell? ⟨nb, 0, none⟩ = some (.int .i64 b) ∧ W.cell? ⟨nb, 1, none⟩ = some (.int .i64 c)
/-- A Room behind a look, the bucket's word being v. -/
def RM.look (x : RM) (v : Int) : RM := match x.l with
  | [] => x
  | c :: r => if frW v = -1 then { x with l := r } else { x with l := r, sb := x.bits, su := c, sk := frW v, is := true, ph := .off }
def RM.adr (x : RM) : Int := match x.l with
  | [] => 0
  | c :: _ => tagsA x.bits c
set_option maxRecDepth 10000 in
set_option maxHeartbeats 4000000 in
/-- A look that finds a free slot, or where a bucket is left. -/
theorem look_any {w0 w : World} {B : WB} {V : WV} {s : CS} {rb : Nat} {x : RM} (h : WS w0 w B V s) (hr : s.room) (hx : RoomAt w w0.heap.size rb x) (c : Int) (r : List Int) (hl : x.l = c :: r) (hll : r.length ≤ 10) (hgo : 0 ≤ frW (s.val (tagsA x.bits c)) ∨ r ≠ []) :
    Calls Tryz.prog 130 #[.pointer (some ⟨rb, 0, none⟩), .pointer (some ⟨B.wb, 0, none⟩)] w fun e w' => e = .returned (.tuple #[]) ∧ RMB w0 w w' B V (s.acc 1 (tagsA x.bits c) (s.val (tagsA x.bits c))) rb (x.look (s.val (tagsA x.bits c))) := by
  have hB : RMB w0 w w B V s rb x := ⟨h, hx, ((below_fr (Below.refl _ _) wTy true).fx rb)⟩
  obtain ⟨v, hv⟩ : ∃ v, v = s.val (tagsA x.bits c) := ⟨_, rfl⟩
  have hvb := wf_bd (h.own.wf (tagsA x.bits c))
  have hfin : x.look v = if frW v = -1 then { x with l := r } else { x with l := r, sb := x.bits, su := c, sk := frW v, is := true, ph := .off } := by unfold RM.look; rw [hl]
  rw [← hv] at hvb hgo ⊢
  obtain ⟨A, hA⟩ : ∃ A, A = tagsA x.bits c := ⟨_, rfl⟩
  have hTG := fun W => tags_any x.bits c W
  have hAw : (Lit.int .u64 A).wf = true := by rw [hA]; exact tagsA_wf _ _
  rw [← hA] at hTG hv ⊢
  obtain ⟨l0, u, b1, b2⟩ := hx
  rw [hl] at b2
  obtain ⟨g, o, k, rfl, hc, hrk, hkm, hpop⟩ := sli_pop b2
  obtain ⟨c0, -⟩ := hB.rm.c
  have c1 : w.cell? ⟨rb, 1, none⟩ = some (.slice (some ⟨g, o, none⟩) (r.length + 1) (k + 1)) := hcell b1 1
  have f1 := hfrz b1 1
  obtain ⟨bits, hbt⟩ : ∃ bits, bits = x.bits := ⟨_, rfl⟩
  rw [← hbt] at c0 hTG
  unfold maxLen at hkm
  have hkm2 : (k : Int) + 1 ≤ 9223372036854775807 := by omega
  have al : ∀ (ob : Obj) {q j : Nat} {u : Value}, w.cell? ⟨q, j, none⟩ = some u → (w.alloc ob).cell? ⟨q, j, none⟩ = some u := fun ob q j u hu => by rw [World.cell?_alloc_past _ _ _ (World.block_lt_of_cell? _ _ hu)]; exact hu
  have c0' := fun ob => al ob c0
  have c1' := fun ob => al ob c1
  have hc' := fun ob => al ob hc
  have HB := Lib.hid hB; have HV := Lib.hid hv; have HVB := Lib.hid hvb; have HFIN := Lib.hid hfin; have HGO := Lib.hid hgo; have HAW := Lib.hid hAw; have HR := Lib.hid hr; have HPOP := Lib.hid hpop; have HL := Lib.hid hl; have HLL := Lib.hid hll; have HRK := Lib.hid hrk; have HBT := Lib.hid hbt; have HC1 := Lib.hid c1
  clear h hr hl hll hgo hB hv hvb hfin hA hAw b1 b2 hpop hrk hbt al f1 l0
  go_enter Tryz.func130, Tryz.ntmps130
  go_upto_region 0 with (fail)
  go_region
  go_upto_region 1 with (fail)
  have n1 : (w.alloc (.cells #[.int .i64 bits, .int .i64 c] 41)).drew.heap[w.heap.size]? = some (.cells #[.int .i64 bits, .int .i64 c] 41 (0, 0)) := heap_alloc_new w (.cells #[.int .i64 bits, .int .i64 c] 41)
  have k1 := (below_alloc w (.cells #[.int .i64 bits, .int .i64 c] 41)).drew
  have HB2 := Lib.hid (HB.out.below k1); have N1 := Lib.hid n1
  have HPOP2 := Lib.hid (HPOP.out.fr (below_fr k1 (fun _ => false) false) rfl)
  have c12 : (w.alloc (.cells #[.int .i64 bits, .int .i64 c] 41)).drew.cell? ⟨rb, 1, none⟩ = some (.slice (some ⟨g, o, none⟩) (r.length + 1) (k + 1)) := (k1.cell (World.block_lt_of_cell? _ _ HC1.out)).trans HC1.out
  have f12 := HB2.out.rm.f 1
  clear n1 k1 c0 c1 hc c0' c1' hc' HB HPOP HC1
  generalize (w.alloc (.cells #[.int .i64 bits, .int .i64 c] 41)).drew = w2 at *
  obtain ⟨nb, hnb⟩ : ∃ nb, nb = w.heap.size := ⟨_, rfl⟩
  rw [← hnb] at N1
  try simp only [← hnb]
  clear hnb
  have HB3 := Lib.hid (HB2.out.setl HPOP2.out)
  have HN3 := Lib.hid ((set_ty (show w2.heap[rb]? = some (.cells _ 254 (0, 0)) from HB2.out.rm.blk.choose_spec) 1 (.slice (some ⟨g, if k = 0 then o else o + 1, none⟩) r.length k)).cells _ _ _ _ N1.out rfl)
  clear HB2 HPOP2 N1
  go_cut [22] (fun v22 wx => RMB w0 w wx B V s rb { x with l := r } ∧ wx.heap[nb]? = some (.cells #[.int .i64 bits, .int .i64 c] 41 (0, 0)))
  case first =>
    have hkm3 : ¬ ((k : Int) + 1 = 0) := by omega
    rcases k with _ | k
    · go_wp2_with (fail)
      go_meet
      have h3 := HB3.out
      have n3 := HN3.out
      rw [if_pos trivial] at h3 n3
      exact ⟨h3, n3⟩
    · go_wp2_with (fail)
      go_meet
      have h3 := HB3.out
      have n3 := HN3.out
      rw [if_neg (Nat.succ_ne_zero k)] at h3 n3
      exact ⟨h3, n3⟩
  case rest =>
    obtain ⟨h3, n3⟩ := hcut
    have HB4 := Lib.hid h3; have N4 := Lib.hid n3
    clear h3 n3 HB3 HN3 c12 f12
    generalize wc = w3 at *
    have hb0 : Below w3.heap.size w3 w3.drew := (Below.refl _ _).drew
    have HB5 := Lib.hid (HB4.out.below hb0); have N5 : Hid (w3.drew.heap[nb]? = some (.cells #[.int .i64 bits, .int .i64 c] 41 (0, 0))) := N4.out
    have s1 : TLk nb B.wb B.cb bits c w3.drew := ⟨HB5.out.ws.c0, hcell N5.out 0, hcell N5.out 1⟩
    have hfree := fun W => free_any v W HVB.out.1 HVB.out.2
    have hfe : freeFrom v 0 4 = frW v := rfl
    rw [hfe] at hfree
    clear hfe hb0
    go_upto_region 2 with (fail)
    go_region_held2 (fun W => TLk nb B.wb B.cb bits c W) (assumption) (first
      | (go_at_call 60; refine (hTG _).mono ?_; intro e w4 hh; obtain ⟨hh1, b4⟩ := hh; subst hh1; have HB6 := Lib.hid (HB5.out.below b4); have n6 := (b4.block _ (Array.getElem?_eq_some_iff.1 N5.out).1).trans N5.out; have N6 := Lib.hid n6; have s4 : TLk nb B.wb B.cb bits c w4 := ⟨HB6.out.ws.c0, hcell N6.out 0, hcell N6.out 1⟩; have hld := HB6.out.ws.load HR.out A HAW.out; rw [← HV.out] at hld; clear b4 n6 s1 HB5 N5 hTG)
      | (go_at_call 156; refine hld.mono ?_; intro e w5 hh; obtain ⟨hh1, h5, f5⟩ := hh; subst hh1; have HB7 := Lib.hid (HB6.out.move h5 f5); have N7 := Lib.hid (f5.cells _ _ _ _ N6.out rfl); have s5 : TLk nb B.wb B.cb bits c w5 := ⟨HB7.out.ws.c0, hcell N7.out 0, hcell N7.out 1⟩; clear h5 f5 hld s4 HB6 N6)
      | (go_at_call 59; refine (hfree _).mono ?_; intro e w6 hh; obtain ⟨hh1, b6⟩ := hh; subst hh1; have HB8 := Lib.hid (HB7.out.below b6); have n8 := (b6.block _ (Array.getElem?_eq_some_iff.1 N7.out).1).trans N7.out; have N8 := Lib.hid n8; have s6 : TLk nb B.wb B.cb bits c w6 := ⟨HB8.out.ws.c0, hcell N8.out 0, hcell N8.out 1⟩; clear b6 n8 hfree s5 HB7 N7))
    clear s6 HB4 N4
    obtain ⟨fv, hfv⟩ : ∃ fv, fv = frW v := ⟨_, rfl⟩
    rw [← hfv] at HFIN HGO
    try rw [← hfv]
    have HFV := Lib.hid hfv
    have hfc := free_casesW v
    rw [show freeFrom v 0 4 = fv from hfv.symm] at hfc
    clear hfv
    by_cases hf : fv = -1
    · subst hf
      have hr0 : r ≠ [] := by rcases HGO.out with h | h; exact absurd h (by decide); exact h
      have hlr : 0 < r.length := List.length_pos_iff.2 hr0
      obtain ⟨_, ur, ub, ⟨ua, uc, hua, -⟩⟩ := HB8.out.rm
      have c1 : w6.cell? ⟨rb, 1, none⟩ = some (.slice ua r.length uc) := by have h := hcell ub 1; rw [hua] at h; exact h
      have hz1 : ((r.length : Int) == 0) = false := beq_eq_false_iff_ne.2 (by omega)
      have hz2 : (r.length == 0) = false := beq_eq_false_iff_ne.2 (by omega)
      clear ub hua hfc hr0 hlr
      go_wp2_with (fail)
      go_end0
      refine ⟨rfl, ?_⟩
      rw [HFIN.out, if_pos trivial]
      exact HB8.out
    · have hf0 : 0 ≤ fv := by rcases hfc with h | ⟨q, _, h, _⟩ <;> omega
      have m0 := hcell N8.out 0
      have m1 := hcell N8.out 1
      have hen := ends_any HB8.out bits c fv
      have HNE := Lib.hid hf
      clear hfc hf
      go_wp2_with (go_at_call 197; refine hen.mono ?_; intro e w7 hh; obtain ⟨hh1, h7⟩ := hh; subst hh1; have HB9 := Lib.hid h7; clear h7 hen m0 m1)
      go_end0
      refine ⟨rfl, ?_⟩
      rw [HFIN.out, if_neg HNE.out]
      have h9 := HB9.out
      rw [HBT.out] at h9
      exact h9
/-- A step that looks. -/
theorem rmstep_look {w0 w : World} {B : WB} {V : WV} {s : CS} {rb : Nat} {x : RM} (h : WS w0 w B V s) (hr : s.room) (hx : RoomAt w w0.heap.size rb x) (hp : x.ph = .look) (c : Int) (r : List Int) (hl : x.l = c :: r) (hll : r.length ≤ 10) (hgo : 0 ≤ frW (s.val (tagsA x.bits c)) ∨ r ≠ []) :
    Calls Tryz.prog 52 #[.pointer (some ⟨rb, 0, none⟩), .pointer (some ⟨B.wb, 0, none⟩)] w fun e w' => e = .returned (.bool (decide ((x.look (s.val (tagsA x.bits c))).ph = .off))) ∧ RMB w0 w w' B V (s.acc 1 (tagsA x.bits c) (s.val (tagsA x.bits c))) rb (x.look (s.val (tagsA x.bits c))) := by
  have hov := rmover hx
  rw [decide_eq_false (show x.ph ≠ .off by rw [hp]; decide)] at hov
  have hlk := look_any h hr hx c r hl hll hgo
  obtain ⟨-, -, -, c4, -⟩ := hx.c
  rw [hp] at c4
  simp only [RPh.fn] at c4
  obtain ⟨y, hy⟩ : ∃ y, y = x.look (s.val (tagsA x.bits c)) := ⟨_, rfl⟩
  rw [← hy] at hlk ⊢
  clear h hr hx hp hl hll hgo hy
  go_enter Tryz.func52, Tryz.ntmps52
  go_upto_region 2 with (go_at_call 65; refine hov.mono ?_; intro e w2 hh; obtain ⟨hh1, hh2⟩ := hh; subst hh1; obtain rfl := hh2.symm; clear hov)
  go_upto_region 3 with (go_at_call 130; refine hlk.mono ?_; intro e w3 hh; obtain ⟨hh1, h3⟩ := hh; subst hh1; have H3 := Lib.hid h3; have ho3 := rmover h3.rm; clear h3 hlk c4)
  go_wp2_with (go_at_call 65; refine ho3.mono ?_; intro e w4 hh; obtain ⟨hh1, hh2⟩ := hh; subst hh1; obtain rfl := hh2.symm; clear ho3)
  go_ret
  exact ⟨rfl, H3.out⟩
/-- A Room's looks, one behind the other. -/
def rmit (q : CS × RM) : CS × RM := (q.1.acc 1 q.2.adr (q.1.val q.2.adr), q.2.look (q.1.val q.2.adr))
def rmits (q : CS × RM) : Nat → CS × RM
  | 0 => q
  | n + 1 => rmit (rmits q n)
/-- May it look? -/
def RmGo (q : CS × RM) : Prop := q.2.ph = .look ∧ q.1.room ∧ ∃ c r, q.2.l = c :: r ∧ r.length ≤ 10 ∧ (0 ≤ frW (q.1.val (tagsA q.2.bits c)) ∨ r ≠ [])
set_option maxRecDepth 10000 in
set_option maxHeartbeats 2000000 in
theorem rmrun {w0 w : World} {B : WB} {V : WV} {s : CS} {rb : Nat} {x : RM} (n m : Nat) (hn : n < m) (hm : m ≤ 1000) (hB : RMB w0 w w B V s rb x) (hgo : ∀ k, k < n → RmGo (rmits (s, x) k)) (hend : (rmits (s, x) n).2.ph = .off) :
    Calls Tryz.prog 39 #[.pointer (some ⟨B.wb, 0, none⟩), .iface 116 (.pointer (some ⟨rb, 0, none⟩)), .int .i64 m] w fun e w' => e = .returned (.int .i64 n) ∧ RMB w0 w w' B V (rmits (s, x) n).1 rb (rmits (s, x) n).2 := by
  have HB := Lib.hid hB; have HGO := Lib.hid hgo; have HEND := Lib.hid hend; have HN := Lib.hid hn
  clear hB hgo hend hn
  go_enter Tryz.func39, Tryz.ntmps39
  go_wp2
  go_loopw [7] (fun i wr => ∃ k : Nat, k ≤ n ∧ i = .int .i64 k ∧ RMB w0 w wr B V (rmits (s, x) k).1 rb (rmits (s, x) k).2) (fun i _ => n - (intOf i).toNat)
  case atStart => exact ⟨0, Nat.zero_le _, rfl, HB.out⟩
  case round =>
    clear HB
    obtain ⟨k, hk, rfl, hb⟩ := hrel
    have hkm : (k : Int) < m := by have := HN.out; omega
    have hov := rmover hb.rm
    by_cases hlt : k < n
    · obtain ⟨hp, hr, c, r, hl, hll, hg⟩ := HGO.out k hlt
      rw [decide_eq_false (show (rmits (s, x) k).2.ph ≠ .off by rw [hp]; decide)] at hov
      have hst := rmstep_look hb.ws hr hb.rm hp c r hl hll hg
      have had : (rmits (s, x) k).2.adr = tagsA (rmits (s, x) k).2.bits c := by unfold RM.adr; rw [hl]
      rw [← had] at hst
      obtain ⟨d, hd⟩ : ∃ d, d = decide (((rmits (s, x) k).2.look ((rmits (s, x) k).1.val (rmits (s, x) k).2.adr)).ph = .off) := ⟨_, rfl⟩
      rw [← hd] at hst
      have hfx := hb.fx
      have HLT := Lib.hid hlt; have HFX := Lib.hid hfx
      clear hb hp hr hl hll hg had hd hlt hk hfx
      go_wp2_with (first
        | (go_at_call 65; refine hov.mono ?_; intro e w2 hh; obtain ⟨hh1, hh2⟩ := hh; subst hh1; obtain rfl := hh2.symm; clear hov)
        | (go_at_call 52; refine hst.mono ?_; intro e w3 hh; obtain ⟨hh1, h3⟩ := hh; subst hh1; have H3 := Lib.hid h3; clear h3 hst))
      go_roundw
      case measure => have := HLT.out; simp [intOf]; omega
      case rel => exact ⟨k + 1, HLT.out, by have := HLT.out; go_num, H3.out.ws, H3.out.rm, HFX.out.trans H3.out.fx⟩
    · obtain rfl : k = n := by omega
      rw [decide_eq_true HEND.out] at hov
      have HBB := Lib.hid hb
      clear hb hk hlt
      go_wp2_with (go_at_call 65; refine hov.mono ?_; intro e w2 hh; obtain ⟨hh1, hh2⟩ := hh; subst hh1; obtain rfl := hh2.symm; clear hov)
      go_ret
      exact ⟨rfl, HBB.out⟩
end Go.Proofs.YtcgnkgbiaafdcaaGreat

/-
  Rooms: layer 18's examples.
-/
namespace Go.Proofs.YtcgnkgbiaafdcaaGreat
open Go.RowKit Go.Maps TagPure
set_option linter.unusedVariables false

def h18 : Int := 216172782113783809
theorem h18_bk : bk h18 2 = 1 := by kernel_rfl
theorem h18_ot : oth 1 (tag01 h18) 2 = 2 := by kernel_rfl
def s18 : CS := CS.init [(2, tword 2 0)]
def x18 : RM := rmnew 2 1 2
def q18 : CS := (rmits (s18, x18) 1).1.acc 2 (tagsA 2 1) 151587081
def y18 : RM := ⟨2, [2], 1, 2, .off, none, none, 2, 1, 0, true⟩
def z18 : RM := ⟨2, [], 1, 2, .off, none, none, 2, 2, 0, true⟩
def x18b : RM := ⟨2, [2], 1, 2, .look, none, none, 0, 0, 0, false⟩
theorem x18_is : x18 = ⟨2, [1, 2], 1, 2, .look, none, none, 0, 0, 0, false⟩ := by kernel_rfl
theorem ex18a : frW (s18.val (tagsA 2 1)) = 0 := by kernel_rfl
theorem ex18b : frW (q18.val (tagsA 2 1)) = -1 := by kernel_rfl
theorem ex18c : frW ((rmits (q18, x18) 1).1.val (tagsA 2 2)) = 0 := by kernel_rfl
theorem ex18d : (rmits (q18, x18) 1).2 = x18b := by kernel_rfl
theorem ex18e : (rmits (s18, x18) 1).2 = y18 := by kernel_rfl
theorem ex18f : (rmits (q18, x18) 2).2 = z18 := by kernel_rfl
theorem s18_n : s18.n ≤ 100 ∧ s18.cnt ≤ 100 := by
  have h := CS.init_n [(2, tword 2 0)]
  unfold s18
  rw [h.1, h.2.1]
  simp
theorem q18_n : q18.n ≤ 200 ∧ q18.cnt ≤ 200 := by
  have h := s18_n
  show s18.n + 1 + 1 ≤ 200 ∧ s18.cnt + 1 + 1 ≤ 200
  omega
theorem q18_n1 : (rmits (q18, x18) 1).1.n ≤ 300 ∧ (rmits (q18, x18) 1).1.cnt ≤ 300 := by
  have h := q18_n
  show q18.n + 1 ≤ 300 ∧ q18.cnt + 1 ≤ 300
  omega
theorem go18a : ∀ k, k < 1 → RmGo (rmits (s18, x18) k) := by
  intro k hk
  obtain rfl : k = 0 := by omega
  exact ⟨rfl, CS.room_of 100 s18_n (by unfold lim; omega), 1, [2], by rw [show rmits (s18, x18) 0 = (s18, x18) from rfl, x18_is], by decide, .inr (by decide)⟩
theorem go18b : ∀ k, k < 2 → RmGo (rmits (q18, x18) k) := by
  intro k hk
  rcases (show k = 0 ∨ k = 1 by omega) with rfl | rfl
  · exact ⟨rfl, CS.room_of 200 q18_n (by unfold lim; omega), 1, [2], by rw [show rmits (q18, x18) 0 = (q18, x18) from rfl, x18_is], by decide, .inr (by decide)⟩
  · refine ⟨by rw [ex18d]; rfl, CS.room_of 300 q18_n1 (by unfold lim; omega), 2, [], by rw [ex18d]; rfl, by decide, .inl ?_⟩
    rw [ex18d]
    rw [show x18b.bits = 2 from rfl, ex18c]
    decide
theorem room18 (w : World) : Calls Tryz.prog 48 #[.int .i64 2, .int .u64 h18] w fun e w' => ∃ rb, e = .returned (.pointer (some ⟨rb, 0, none⟩)) ∧ RoomAt w' w.heap.size rb x18 ∧ Below w.heap.size w w' := by
  have h := newroom_ok 2 h18 (by decide) (by decide) w
  rw [h18_bk, h18_ot] at h
  exact h
theorem eql_spotR1 (W : World) : (binOp .eql 43 (.agg #[.int .i64 2, .int .i64 1, .int .i64 0]) (.agg #[.int .i64 2, .int .i64 1, .int .i64 0])).run Tryz.prog W = .ok (.bool true) W := by
  kernel_rfl
theorem eql_spotR2 (W : World) : (binOp .eql 43 (.agg #[.int .i64 2, .int .i64 2, .int .i64 0]) (.agg #[.int .i64 2, .int .i64 2, .int .i64 0])).run Tryz.prog W = .ok (.bool true) W := by
  kernel_rfl
theorem spot2_any (u : Int) (hu : u = 1 ∨ u = 2) (w : World) : Calls Tryz.prog 128 #[.int .i64 2, .int .i64 u, .int .i64 0] w fun e w' => e = .returned (.agg #[.int .i64 2, .int .i64 u, .int .i64 0]) ∧ Below w.heap.size w w' := by
  have hsz := fun w => size_any 2 w
  have e0 : tsize 2 = 4 := by decide
  simp only [e0] at hsz
  rcases hu with rfl | rfl
  all_goals
    go_enter Tryz.func128, Tryz.ntmps128
    go_wp2_with (go_at_call 129; refine (hsz _).mono ?_; rintro e w1 ⟨rfl, hw⟩; obtain rfl := hw.symm)
    refine bodyPost_ret (v := .agg #[.int .i64 2, .int .i64 _, .int .i64 0]) (by simp [results, Tryz.results128, go_sem]) rfl ⟨rfl, ?_⟩
    exact below_alloc' _ _
abbrev TWr (wb cb : Nat) (W : World) : Prop := W.cell? ⟨wb, 0, none⟩ = some (.pointer (some ⟨cb, 0, none⟩))
abbrev TSp2 (p q : Nat) (W : World) : Prop := W.cell? ⟨p, 0, none⟩ = some (.int .i64 2) ∧ W.cell? ⟨p, 1, none⟩ = some (.int .i64 1) ∧ W.cell? ⟨p, 2, none⟩ = some (.int .i64 0) ∧ W.cell? ⟨q, 0, none⟩ = some (.int .i64 2) ∧ W.cell? ⟨q, 1, none⟩ = some (.int .i64 2) ∧ W.cell? ⟨q, 2, none⟩ = some (.int .i64 0)
set_option maxRecDepth 10000 in
set_option maxHeartbeats 4000000 in
theorem lives18 (w : World) : Calls Tryz.prog 47 #[] w fun e w' => e = .returned (.bool true) ∧ Below w.heap.size w w' := by
  have hNR := Lib.hid (fun W => room18 W)
  have hTG := Lib.hid (fun W => tags_any 2 1 W)
  have hS1 := Lib.hid (fun W => spot2_any 1 (.inl rfl) W)
  have hS2 := Lib.hid (fun W => spot2_any 2 (.inr rfl) W)
  go_enter Tryz.func47, Tryz.ntmps47
  go_upto_region 5 with (first
    | (go_at_call 97; refine (world12v 2 (by decide) w).mono ?_; intro e w1 hh; obtain ⟨B, hh1, h1⟩ := hh; subst hh1; have H1 : Hid (WS w w1 B (v0 ⟨2, 8, 3, 1, 16⟩) s18) := h1; clear h1)
    | (go_at_call 48; refine (hNR.out _).mono ?_; intro e w2 hh; obtain ⟨rb, hh1, a2, b2⟩ := hh; subst hh1; have H2 := Lib.hid (H1.out.keep b2); have hB2 : RMB w w2 w2 B (v0 ⟨2, 8, 3, 1, 16⟩) s18 rb x18 := ⟨H2.out, a2.lower H1.out.slow, (below_fr (Below.refl _ _) wTy true).fx rb⟩; have hr2 := rmrun 1 9 (by decide) (by decide) hB2 go18a (by rw [ex18e]; rfl); rw [ex18e] at hr2; clear a2 b2 hB2 H1))
  go_upto_region 6 with (go_at_call 39; refine hr2.mono ?_; intro e w3 hh; obtain ⟨hh1, h3⟩ := hh; subst hh1; have H3 := Lib.hid h3.ws; have hg3 := rmgot h3.rm; clear h3 hr2 H2)
  rw [if_pos (show y18.is = true from rfl)] at hg3
  have hg3 : Calls Tryz.prog 61 #[.pointer (some ⟨rb, 0, none⟩)] w3 fun e w' => e = .returned (.tuple #[.agg #[.int .i64 2, .int .i64 1, .int .i64 0], .bool true]) ∧ Below w3.heap.size w3 w' := hg3
  go_upto_region 7 with (go_at_call 61; refine hg3.mono ?_; intro e w4 hh; obtain ⟨hh1, b4⟩ := hh; subst hh1; have H4 := Lib.hid (H3.out.keep b4); clear b4 hg3 H3)
  have b5 := below_alloc w4 (.cells #[.int .i64 2, .int .i64 1, .int .i64 0] 43)
  have Z5 := Lib.hid (heap_alloc_new w4 (.cells #[.int .i64 2, .int .i64 1, .int .i64 0] 43))
  have H5 := Lib.hid (H4.out.keep b5)
  clear b5 H4
  change Code.wp _ _ _ _ (w4.alloc (.cells #[.int .i64 2, .int .i64 1, .int .i64 0] 43))
  generalize w4.alloc (.cells #[.int .i64 2, .int .i64 1, .int .i64 0] 43) = w5 at *
  generalize w4.heap.size = pa at *
  have hst5 : Hid (∀ W, Below w5.heap.size w5 W → Calls Tryz.prog 101 #[.pointer (some ⟨B.cb, 0, none⟩), .int .u64 (tagsA 2 1), .int .u64 151587081] W fun e w' => e = .returned (.int .u64 ((rmits (s18, x18) 1).1.val (tagsA 2 1))) ∧ WS w w' B (v0 ⟨2, 8, 3, 1, 16⟩) q18 ∧ Fr wTy true W w') := fun W hW => (H5.out.keep hW).store (CS.room_of 200 (by have h := s18_n; show s18.n + 1 ≤ 200 ∧ s18.cnt + 1 ≤ 200; omega) (by unfold lim; omega)) _ (tagsA_wf _ _) _ (by decide)
  have hs5 : TWr B.wb B.cb w5.drew := H5.out.c0
  have htg := hTG.out
  obtain ⟨A, hA⟩ : ∃ A, A = tagsA 2 1 := ⟨_, rfl⟩
  rw [← hA] at hst5 htg
  obtain ⟨R, hR⟩ : ∃ R, R = (rmits (s18, x18) 1).1.val A := ⟨_, rfl⟩
  rw [← hR] at hst5
  clear hA hR
  go_region_held2 (fun W => TWr B.wb B.cb W) (assumption) (first
    | (go_at_call 60; refine (htg _).mono ?_; intro e w6 hh; obtain ⟨hh1, b6⟩ := hh; subst hh1; have b6' := (Below.refl w5.heap.size w5).drew.trans b6; have s6 : TWr B.wb B.cb w6 := (H5.out.keep b6').c0; have Z6 := Lib.hid ((b6'.block _ (Array.getElem?_eq_some_iff.1 Z5.out).1).trans Z5.out); have hst6 := hst5.out w6 b6'; clear b6 b6' hs5 htg hst5 Z5)
    | (go_at_call 101; refine hst6.mono ?_; intro e w7 hh; obtain ⟨hh1, h7, f7⟩ := hh; subst hh1; have H7 := Lib.hid h7; have Z7 := Lib.hid (f7.cells _ _ _ _ Z6.out rfl); have s7 : TWr B.wb B.cb w7 := h7.c0; clear h7 f7 hst6 s6 Z6))
  clear s7 H5
  go_upto_region 10 with (first
    | (go_at_call 48; refine (hNR.out _).mono ?_; intro e w8 hh; obtain ⟨rc, hh1, a8, b8⟩ := hh; subst hh1; have H8 := Lib.hid (H7.out.keep b8); have hB8 : RMB w w8 w8 B (v0 ⟨2, 8, 3, 1, 16⟩) q18 rc x18 := ⟨H8.out, a8.lower H7.out.slow, (below_fr (Below.refl _ _) wTy true).fx rc⟩; have hr8 := rmrun 2 9 (by decide) (by decide) hB8 go18b (by rw [ex18f]; rfl); rw [ex18f] at hr8; have Z8 := Lib.hid ((b8.block _ (Array.getElem?_eq_some_iff.1 Z7.out).1).trans Z7.out); have NE8 := Lib.hid (Nat.ne_of_lt (Nat.lt_of_lt_of_le (Array.getElem?_eq_some_iff.1 Z7.out).1 a8.low)); clear a8 b8 hB8 H7 Z7)
    | (go_at_call 39; refine hr8.mono ?_; intro e w9 hh; obtain ⟨hh1, h9⟩ := hh; subst hh1; have H9 := Lib.hid h9.ws; have hg9 := rmgot h9.rm; have Z9 := Lib.hid (h9.fx.cells _ _ _ _ Z8.out rfl NE8.out); clear h9 hr8 H8 Z8 NE8))
  rw [if_pos (show z18.is = true from rfl)] at hg9
  have hg9 : Calls Tryz.prog 61 #[.pointer (some ⟨rc, 0, none⟩)] w9 fun e w' => e = .returned (.tuple #[.agg #[.int .i64 2, .int .i64 2, .int .i64 0], .bool true]) ∧ Below w9.heap.size w9 w' := hg9
  go_upto_region 11 with (go_at_call 61; refine hg9.mono ?_; intro e w10 hh; obtain ⟨hh1, b10⟩ := hh; subst hh1; have H10 := Lib.hid (H9.out.keep b10); have Z10 := Lib.hid ((b10.block _ (Array.getElem?_eq_some_iff.1 Z9.out).1).trans Z9.out); clear b10 hg9 H9 Z9)
  have b11 := below_alloc w10 (.cells #[.int .i64 2, .int .i64 2, .int .i64 0] 43)
  have Y11 := Lib.hid (heap_alloc_new w10 (.cells #[.int .i64 2, .int .i64 2, .int .i64 0] 43))
  have Z11 := Lib.hid ((b11.block _ (Array.getElem?_eq_some_iff.1 Z10.out).1).trans Z10.out)
  have H11 := Lib.hid (H10.out.keep b11)
  clear b11 H10 Z10
  change Code.wp _ _ _ _ (w10.alloc (.cells #[.int .i64 2, .int .i64 2, .int .i64 0] 43))
  generalize w10.alloc (.cells #[.int .i64 2, .int .i64 2, .int .i64 0] 43) = w11 at *
  generalize w10.heap.size = pb at *
  have za : ∀ st : ExtW w11, st.val.cell? ⟨pa, 0, none⟩ = some (.int .i64 2) ∧ st.val.cell? ⟨pa, 1, none⟩ = some (.int .i64 1) ∧ st.val.cell? ⟨pa, 2, none⟩ = some (.int .i64 0) := fun st => ⟨st.cell (hcell Z11.out 0), st.cell (hcell Z11.out 1), st.cell (hcell Z11.out 2)⟩
  have zb : ∀ st : ExtW w11, st.val.cell? ⟨pb, 0, none⟩ = some (.int .i64 2) ∧ st.val.cell? ⟨pb, 1, none⟩ = some (.int .i64 2) ∧ st.val.cell? ⟨pb, 2, none⟩ = some (.int .i64 0) := fun st => ⟨st.cell (hcell Y11.out 0), st.cell (hcell Y11.out 1), st.cell (hcell Y11.out 2)⟩
  have za0 := fun st => (za st).1; have za1 := fun st => (za st).2.1; have za2 := fun st => (za st).2.2
  have zb0 := fun st => (zb st).1; have zb1 := fun st => (zb st).2.1; have zb2 := fun st => (zb st).2.2
  have m1 := fun st : ExtW w11 => hS1.out st.val
  have m2 := fun st : ExtW w11 => hS2.out st.val
  have hq1 := fun W => eql_spotR1 W
  have hq2 := fun W => eql_spotR2 W
  clear za zb
  refine wp_region_ext (by kernel_rfl) (by kernel_rfl) ?_
  repeat (go_big_quiet_step (first
    | (go_at_call 128; with_reducible refine calls_ext (m1 _))
    | (go_at_call 128; with_reducible refine calls_ext (m2 _))))
  refine wpQuiet_nil ?_
  rintro W13 ⟨⟨W14, hW⟩, rfl⟩
  clear za0 za1 za2 zb0 zb1 zb2 m1 m2 hq1 hq2
  have H14 := Lib.hid (H11.out.keep hW)
  clear hW
  go_wp2_with (fail)
  go_ret
  exact ⟨rfl, H14.out.below⟩
end Go.Proofs.YtcgnkgbiaafdcaaGreat

/-
  RoomsFree: where one of the key's buckets has a free slot.
-/
namespace Go.Proofs.YtcgnkgbiaafdcaaGreat
open Go.RowKit Go.Maps TagPure
set_option linter.unusedVariables false

theorem eql_spot18 (a b c : Int) (W : World) : (binOp .eql 43 (.agg #[.int .i64 a, .int .i64 b, .int .i64 c]) (.agg #[.int .i64 a, .int .i64 b, .int .i64 c])).run Tryz.prog W = .ok (.bool true) W := by
  have e : ∀ z : Int, (z == z) = true := fun z => beq_iff_eq.2 rfl
  have h1 := e a; have h2 := e b; have h3 := e c
  go_simp
theorem fld18 (a b c d : Int) (W : World) : (Instr.field 110 (.agg #[.int .u8 a, .int .u64 b, .int .u64 c, .int .u64 d]) 0).run Tryz.prog W = .ok (.int .u8 a) W := by kernel_rfl
def RunFr (w0 w : World) (B : WB) (V : WV) (s : CS) (rb : Nat) (b : Int) (n : Nat) (u k : Int) (e : Ending) (w' : World) : Prop :=
  e = .returned (.int .i64 n) ∧ ∃ s' x', RMB w0 w w' B V s' rb x' ∧ s'.cnt = s.cnt + n ∧ s'.kind = 1 ∧ x'.is = true ∧ x'.sb = b ∧ x'.su = u ∧ x'.sk = k ∧ x'.ph = .off
theorem run_free1 {w0 w : World} {B : WB} {V : WV} {s : CS} {rb : Nat} {b u1 u2 : Int} (hB : RMB w0 w w B V s rb (rmnew b u1 u2)) (hr : s.room) (h1 : 0 ≤ frW (s.val (tagsA b u1))) :
    Calls Tryz.prog 39 #[.pointer (some ⟨B.wb, 0, none⟩), .iface 116 (.pointer (some ⟨rb, 0, none⟩)), .int .i64 (900 : Nat)] w (RunFr w0 w B V s rb b 1 u1 (frW (s.val (tagsA b u1)))) := by
  obtain ⟨r, hl, hlr⟩ : ∃ r, (rmnew b u1 u2).l = u1 :: r ∧ r.length ≤ 10 := by
    unfold rmnew
    by_cases h : u2 = u1
    · exact ⟨[], by simp [h], by simp⟩
    · exact ⟨[u2], by simp [h], by simp⟩
  have had : (rmnew b u1 u2).adr = tagsA b u1 := by unfold RM.adr; rw [hl]; rfl
  have hlk : (rmnew b u1 u2).look (s.val (tagsA b u1)) = { rmnew b u1 u2 with l := r, sb := b, su := u1, sk := frW (s.val (tagsA b u1)), is := true, ph := .off } := by
    unfold RM.look; rw [hl]
    simp only
    rw [if_neg (by omega)]; rfl
  have h2 : (rmits (s, rmnew b u1 u2) 1) = (s.acc 1 (tagsA b u1) (s.val (tagsA b u1)), { rmnew b u1 u2 with l := r, sb := b, su := u1, sk := frW (s.val (tagsA b u1)), is := true, ph := .off }) := by
    show (s.acc 1 (rmnew b u1 u2).adr (s.val (rmnew b u1 u2).adr), (rmnew b u1 u2).look (s.val (rmnew b u1 u2).adr)) = _
    rw [had, hlk]
  refine (rmrun 1 900 (by decide) (by decide) hB (fun k hk => ?_) (by rw [h2])).mono fun e w' ⟨e1, e2⟩ => ⟨e1, _, _, e2, ?_⟩
  · obtain rfl : k = 0 := by omega
    exact ⟨rfl, hr, u1, r, hl, hlr, .inl h1⟩
  · rw [h2]; exact ⟨rfl, rfl, rfl, rfl, rfl, rfl, rfl⟩
theorem run_free2 {w0 w : World} {B : WB} {V : WV} {s : CS} {rb : Nat} {b u1 u2 : Int} (hB : RMB w0 w w B V s rb (rmnew b u1 u2)) (m : Nat) (hm : s.n ≤ m ∧ s.cnt ≤ m) (hml : m + 2 < lim) (hne : u2 ≠ u1) (h1 : frW (s.val (tagsA b u1)) = -1) (h2 : 0 ≤ frW (s.val (tagsA b u2))) :
    Calls Tryz.prog 39 #[.pointer (some ⟨B.wb, 0, none⟩), .iface 116 (.pointer (some ⟨rb, 0, none⟩)), .int .i64 (900 : Nat)] w (RunFr w0 w B V s rb b 2 u2 (frW (s.val (tagsA b u2)))) := by
  have hl : (rmnew b u1 u2).l = [u1, u2] := by unfold rmnew; simp [hne]
  have had : (rmnew b u1 u2).adr = tagsA b u1 := by unfold RM.adr; rw [hl]; rfl
  have hlk : (rmnew b u1 u2).look (s.val (tagsA b u1)) = { rmnew b u1 u2 with l := [u2] } := by
    unfold RM.look; rw [hl]
    simp only
    rw [if_pos h1]
  have q1 : (rmits (s, rmnew b u1 u2) 1) = (s.acc 1 (tagsA b u1) (s.val (tagsA b u1)), { rmnew b u1 u2 with l := [u2] }) := by
    show (s.acc 1 (rmnew b u1 u2).adr (s.val (rmnew b u1 u2).adr), (rmnew b u1 u2).look (s.val (rmnew b u1 u2).adr)) = _
    rw [had, hlk]
  have hv : (s.acc 1 (tagsA b u1) (s.val (tagsA b u1))).val = s.val := upd_me _ _
  have q2 : (rmits (s, rmnew b u1 u2) 2) = ((s.acc 1 (tagsA b u1) (s.val (tagsA b u1))).acc 1 (tagsA b u2) (s.val (tagsA b u2)), { rmnew b u1 u2 with l := [], sb := b, su := u2, sk := frW (s.val (tagsA b u2)), is := true, ph := .off }) := by
    show rmit (rmits (s, rmnew b u1 u2) 1) = _
    rw [q1]
    unfold rmit
    have e1 : ({ rmnew b u1 u2 with l := [u2] } : RM).adr = tagsA b u2 := rfl
    simp only [e1, hv]
    congr 1
    unfold RM.look
    simp only
    rw [if_neg (by omega)]; rfl
  refine (rmrun 2 900 (by decide) (by decide) hB (fun k hk => ?_) (by rw [q2])).mono fun e w' ⟨e1, e2⟩ => ⟨e1, _, _, e2, ?_⟩
  · rcases (show k = 0 ∨ k = 1 by omega) with rfl | rfl
    · exact ⟨rfl, CS.room_of m hm (by omega), u1, [u2], hl, by simp, .inr (by simp)⟩
    · rw [q1]
      exact ⟨rfl, CS.room_of (m + 1) (room_acc m hm) (by omega), u2, [], rfl, by simp, .inl (by simp only [hv]; exact h2)⟩
  · rw [q2]; exact ⟨rfl, rfl, rfl, rfl, rfl, rfl, rfl⟩
/-- A key's two buckets, beside a table. -/
structure KB (h b : Int) : Prop where
  b1 : 1 ≤ b
  b3 : b ≤ 3
  h0 : 0 ≤ h
  h1 : h < 18446744073709551616
abbrev TFr (wb cb pa : Nat) (b u : Int) (W : World) : Prop := W.cell? ⟨wb, 0, none⟩ = some (.pointer (some ⟨cb, 0, none⟩)) ∧ W.cell? ⟨pa, 0, none⟩ = some (.int .i64 b) ∧ W.cell? ⟨pa, 1, none⟩ = some (.int .i64 u)
set_option maxRecDepth 100000 in
set_option maxHeartbeats 8000000 in
theorem rfree_any (f : Ful) (w : World) (hr : FulRd w f) : Calls Tryz.prog 8 #[.agg f.cells] w fun e w' => e = .returned (.bool true) ∧ Below w.heap.size w w' := by
  have hB := below_alloc w (.cells f.cells 130)
  have z := heap_alloc_new w (.cells f.cells 130)
  have HR := Lib.hid (hr.below hB); have HB := Lib.hid hB; have HZ := Lib.hid z
  clear hr hB z
  go_enter Tryz.func8, Tryz.ntmps8
  go_upto_region 1 with (fail)
  change Code.wp _ _ _ _ (w.alloc (.cells f.cells 130))
  obtain ⟨w1, hw1⟩ : ∃ w1, w1 = w.alloc (.cells f.cells 130) := ⟨_, rfl⟩
  rw [← hw1] at HR HB HZ ⊢
  clear hw1
  obtain ⟨pq, hpq⟩ : ∃ pq, pq = w.heap.size := ⟨_, rfl⟩
  rw [← hpq] at HZ ⊢
  have HPQ := Lib.hid hpq
  clear hpq
  obtain ⟨e0, e1, e2, e3, e4, e5⟩ := ful_cells HZ.out
  have hgr := ful_great f w1 HR.out
  unfold FulGr at hgr
  go_upto_if 17 with (go_at_call 53; refine hgr.mono ?_; intro e w2 hh; obtain ⟨g, hh1, b2, hg⟩ := hh; subst hh1; have B2 := Lib.hid b2; have HG := Lib.hid hg; clear b2 hg hgr e0 e1 e2 e3 e4 e5; cases g)
  rotate_left
  · go_wp2_with (go_at_call 47; refine (lives18 _).mono ?_; rintro e w3 ⟨rfl, b3⟩)
    go_ret
    have h1 := HB.out.trans (B2.out.mono HB.out.size)
    exact ⟨rfl, h1.trans (b3.mono h1.size)⟩
  obtain ⟨hkl, hll, hsl⟩ := HG.out trivial
  have hr2 := HR.out.below B2.out
  have HB2 := Lib.hid (HB.out.trans (B2.out.mono HB.out.size))
  have hz2 := (B2.out.block _ (Array.getElem?_eq_some_iff.1 HZ.out).1).trans HZ.out
  have HZ2 := Lib.hid hz2
  obtain ⟨e0, e1, e2, e3, e4, e5⟩ := ful_cells hz2
  have hfw := ful_world f w2 hr2 hkl hll
  unfold FWPost at hfw
  have HFK := Lib.hid hr2.key
  have HKL := Lib.hid hkl
  clear hr2 hz2 hkl hll hsl HG B2 HB HR HZ
  obtain ⟨b, hb⟩ : ∃ b, b = fbits f := ⟨_, rfl⟩
  have hbi := fbits_in f
  rw [← hb] at hfw hbi
  have HBI := Lib.hid hbi
  clear hb hbi
  go_upto_region 6 with (go_at_call 54; refine hfw.mono ?_; intro e w3 hh; obtain ⟨w0, B, s, had, hbw, hh1, hf⟩ := hh; subst hh1; have HF := Lib.hid hf; have HBW := Lib.hid hbw; clear hfw hf hbw e0 e1 e2 e3 e4 e5)
  obtain ⟨q1, q2, q3⟩ := as_one (b := b) ⟨HBI.out.1, by have := HBI.out.2; omega⟩
  have has := fun W => as_any (tword b 0) (tword_wf4 ⟨HBI.out.1, by have := HBI.out.2; omega⟩) W
  rw [q1, q2] at has
  obtain ⟨V, hV⟩ : ∃ V : WV, V = { v0 ⟨b, 8, 3, 1, 16⟩ with its := fitms f, fm := [] } := ⟨_, rfl⟩
  have hws := HF.out.ws
  rw [← hV] at hws
  have hpk := hws.peek 2 (by decide)
  rw [HF.out.tb.tbl.word] at hpk
  have c0 := hws.c0
  have HWS := Lib.hid hws
  have h30 : Below w2.heap.size w2 w3 := HBW.out.trans (hws.below.mono HBW.out.size)
  have HZ3 := Lib.hid ((h30.block _ (Array.getElem?_eq_some_iff.1 HZ2.out).1).trans HZ2.out)
  have HBB := Lib.hid (HB2.out.trans (HBW.out.mono HB2.out.size))
  clear hws hV q1 q2 q3 h30 HZ2 HB2 HBW
  go_upto_region 7 with (first
    | (go_at_call 36; refine hpk.mono ?_; intro e w' hh; obtain ⟨hh1, hh2⟩ := hh; subst hh1; obtain rfl := hh2.symm; clear hpk)
    | (go_at_call 55; refine (has _).mono ?_; intro e w' hh; obtain ⟨hh1, hh2⟩ := hh; subst hh1; obtain rfl := hh2.symm; clear has))
  obtain ⟨-, -, -, e3, -, -⟩ := ful_cells HZ3.out
  obtain ⟨h0, h1⟩ := hfold_bd f.key f.key.size
  obtain ⟨hs, hhs⟩ : ∃ hs, hs = hashOf f.key := ⟨_, rfl⟩
  have hha := fun W => hash_big f.key HFK.out W
  have h0 : 0 ≤ hs := by rw [hhs]; exact h0
  have h1 : hs < 18446744073709551616 := by rw [hhs]; exact h1
  rw [← hhs] at hha
  have HKB : Hid (KB hs b) := Lib.hid ⟨HBI.out.1, HBI.out.2, h0, h1⟩
  have hbk := fun W => bucket_fn hs b h0 h1 ⟨HBI.out.1, by have := HBI.out.2; omega⟩ W
  have htg := fun W => tag_fn hs h0 h1 W
  have hkb := bk_bd hs b ⟨HBI.out.1, by have := HBI.out.2; omega⟩
  have htb := tag01_bd hs h0 h1
  have hot := fun W => other_fn (bk hs b) (tag01 hs) b ⟨HBI.out.1, by have := HBI.out.2; omega⟩ hkb htb W
  have hob := oth_bd0 (bk hs b) (tag01 hs) b ⟨HBI.out.1, by have := HBI.out.2; omega⟩ hkb (by omega)
  have hnr := fun W => newroom_ok b hs ⟨HBI.out.1, by have := HBI.out.2; omega⟩ ⟨h0, h1⟩ W
  generalize oth (bk hs b) (tag01 hs) b = u2 at *
  generalize bk hs b = u1 at *
  generalize tag01 hs = tgx at *
  have HHA := Lib.hid hha; have HBK := Lib.hid hbk; have HTG := Lib.hid htg; have HOT := Lib.hid hot; have HNR := Lib.hid hnr; have HKU := Lib.hid hkb; have HOU := Lib.hid hob
  clear hha hbk htg hot hnr hkb htb hob h0 h1 hhs c0
  go_upto_region 9 with (first
    | (go_at_call 35; refine (HHA.out _).mono ?_; intro e w4 hh; obtain ⟨hh1, b4⟩ := hh; subst hh1; have HB4 := Lib.hid b4; clear b4 e3)
    | (go_at_call 56; refine (HBK.out _).mono ?_; intro e w' hh; obtain ⟨hh1, hh2⟩ := hh; subst hh1; obtain rfl := hh2.symm))
  have hb5 := below_alloc w4 (.cells #[.int .i64 b, .int .i64 u1] 41)
  have hz5 := heap_alloc_new w4 (.cells #[.int .i64 b, .int .i64 u1] 41)
  have H5 := Lib.hid ((HWS.out.keep HB4.out).keep hb5)
  have HB45 := HB4.out.trans (hb5.mono HB4.out.size)
  have PA := Lib.hid hz5
  change Code.wp _ _ _ _ (w4.alloc (.cells #[.int .i64 b, .int .i64 u1] 41))
  have HPL : Hid (w0.heap.size ≤ w4.heap.size) := Nat.le_trans HWS.out.below.size HB4.out.size
  clear hb5 hz5 HB45 HB4 HWS HZ3
  generalize w4.alloc (.cells #[.int .i64 b, .int .i64 u1] 41) = w5 at *
  generalize w4.heap.size = pa at *
  have a1 : w5.cell? ⟨pa, 1, none⟩ = some (.int .i64 u1) := hcell PA.out 1
  go_cut [8] (fun v8 wx => ∃ pb, v8 = .pointer (some ⟨pb, 0, none⟩) ∧ wx.heap[pb]? = some (.cells #[.int .i64 b, .int .i64 u2] 41 (0, 0)) ∧ w5.heap.size ≤ pb ∧ Below w5.heap.size w5 wx)
  case first =>
    have a1' : ∀ o, (w5.alloc o).cell? ⟨pa, 1, none⟩ = some (.int .i64 u1) := fun o => by rw [World.cell?_alloc_past _ _ _ (World.block_lt_of_cell? _ _ a1)]; exact a1
    go_region_with (first
      | (go_at_call 58; refine (HTG.out _).mono ?_; intro e w10 hh; obtain ⟨hh1, hh2⟩ := hh; subst hh1; obtain rfl := hh2.symm)
      | (go_at_call 57; refine (HOT.out _).mono ?_; intro e w10 hh; obtain ⟨hh1, hh2⟩ := hh; subst hh1; obtain rfl := hh2.symm))
    all_goals (try go_wp2_with fail)
    all_goals go_meet
    all_goals exact ⟨w5.heap.size, rfl, heap_alloc_new w5 _, Nat.le_refl _, ((Below.refl _ _).alloc (Nat.le_refl _) _).drew⟩
  case rest =>
  obtain ⟨pb, hv8, hzb, hpb, hbx⟩ := hcut
  subst hv8
  have PA6 := Lib.hid ((hbx.block _ (Array.getElem?_eq_some_iff.1 PA.out).1).trans PA.out)
  have PB6 := Lib.hid hzb
  have HNE := Lib.hid (show pa ≠ pb by have := (Array.getElem?_eq_some_iff.1 PA.out).1; omega)
  have H6 := Lib.hid (H5.out.keep hbx)
  clear hzb hpb hbx a1 PA H5 HTG HOT HBK
  have hvb := fun a => wf_bd (H6.out.own.wf a)
  obtain ⟨v1, hv1⟩ : ∃ v1, v1 = s.val (tagsA b u1) := ⟨_, rfl⟩
  obtain ⟨v2, hv2⟩ : ∃ v2, v2 = s.val (tagsA b u2) := ⟨_, rfl⟩
  have ht1 := Lib.hid (fun W => tags_any b u1 W)
  have ht2 := Lib.hid (fun W => tags_any b u2 W)
  have hp1 := Lib.hid (fun (W : World) (h : WS w0 W B V s) => h.peek (tagsA b u1) (tagsA_wf b u1))
  have hp2 := Lib.hid (fun (W : World) (h : WS w0 W B V s) => h.peek (tagsA b u2) (tagsA_wf b u2))
  rw [← hv1] at hp1
  rw [← hv2] at hp2
  have hf1 := Lib.hid (fun W => free_any v1 W (by rw [hv1]; exact (hvb _).1) (by rw [hv1]; exact (hvb _).2))
  have hf2 := Lib.hid (fun W => free_any v2 W (by rw [hv2]; exact (hvb _).1) (by rw [hv2]; exact (hvb _).2))
  have HV1 := Lib.hid hv1; have HV2 := Lib.hid hv2
  obtain ⟨f1, hfr1⟩ : ∃ f1, f1 = freeFrom v1 0 4 := ⟨_, rfl⟩
  obtain ⟨f2, hfr2⟩ : ∃ f2, f2 = freeFrom v2 0 4 := ⟨_, rfl⟩
  rw [← hfr1] at hf1
  rw [← hfr2] at hf2
  have HFR1 := Lib.hid hfr1; have HFR2 := Lib.hid hfr2
  clear hv1 hv2 hvb hfr1 hfr2
  go_upto_region 10 with (fail)
  have t6 : TFr B.wb B.cb pa b u1 wc.drew := ⟨H6.out.c0, hcell (w := wc.drew) PA6.out 0, hcell (w := wc.drew) PA6.out 1⟩
  go_region_held2 (fun W => TFr B.wb B.cb pa b u1 W) (assumption) (first
    | (go_at_call 60; refine (ht1.out _).mono ?_; intro e w7 hh; obtain ⟨hh1, b7⟩ := hh; subst hh1; have b7' := (Below.refl wc.heap.size wc).drew.trans b7; have H7 := Lib.hid (H6.out.keep b7'); have PA7 := Lib.hid ((b7'.block _ (Array.getElem?_eq_some_iff.1 PA6.out).1).trans PA6.out); have PB7 := Lib.hid ((b7'.block _ (Array.getElem?_eq_some_iff.1 PB6.out).1).trans PB6.out); have t7 : TFr B.wb B.cb pa b u1 w7 := ⟨H7.out.c0, hcell PA7.out 0, hcell PA7.out 1⟩; have hpk7 := hp1.out w7 H7.out; clear b7 b7' t6)
    | (go_at_call 36; refine hpk7.mono ?_; intro e w' hh; obtain ⟨hh1, hh2⟩ := hh; subst hh1; obtain rfl := hh2.symm; clear hpk7)
    | (go_at_call 59; refine (hf1.out _).mono ?_; intro e w8 hh; obtain ⟨hh1, b8⟩ := hh; subst hh1; have H8 := Lib.hid (H7.out.keep b8); have PA8 := Lib.hid ((b8.block _ (Array.getElem?_eq_some_iff.1 PA7.out).1).trans PA7.out); have PB8 := Lib.hid ((b8.block _ (Array.getElem?_eq_some_iff.1 PB7.out).1).trans PB7.out); have t8 : TFr B.wb B.cb pa b u1 w8 := ⟨H8.out.c0, hcell PA8.out 0, hcell PA8.out 1⟩; clear b8 t7))
  clear H6 H7 PA6 PA7 PB6 PB7 t8
  obtain ⟨g1, hg1⟩ : ∃ g1, decide (f1 < 0) = g1 := ⟨_, rfl⟩
  go_upto_if 57 with (fail)
  have HG1 := Lib.hid hg1
  clear hg1
  go_cut [9, 10] (fun v9 v10 wx => ∃ (fr u : Int) (n : Nat), v9 = .int .i64 fr ∧ v10 = .int .i64 n ∧ WS w0 wx B V s ∧ wx.heap[pa]? = some (.cells #[.int .i64 b, .int .i64 u] 41 (0, 0)) ∧ ((0 ≤ f1 ∧ fr = f1 ∧ u = u1 ∧ n = 1) ∨ (f1 < 0 ∧ fr = f2 ∧ u = u2 ∧ n = 2)))
  case first =>
    cases g1
    rotate_left
    · -- the other one
      have k0 := hcell PA8.out 0; have k1 := hcell PA8.out 1
      have l0 := hcell PB8.out 0; have l1 := hcell PB8.out 1
      have fz := hfrz PA8.out
      simp only [List.getElem?_toArray, List.getElem?_cons_zero, List.getElem?_cons_succ] at k0 k1 l0 l1
      have HC1 := Lib.hid (of_decide_eq_true HG1.out)
      go_upto_region 14 with (fail)
      have hS := setCell_same (setCell_same PA8.out 0 (.int .i64 b)) 1 (.int .i64 u2)
      have HLO := Lib.hid HPL.out
      have H9 := Lib.hid ((set_take (o := 1) (set_take (o := 0) H8.out PA8.out rfl HPL.out (.int .i64 b)) (setCell_same PA8.out 0 (.int .i64 b)) rfl HPL.out (.int .i64 u2)))
      have PA9 := Lib.hid hS
      clear hS k0 k1 l0 l1 fz H8 PA8 PB8
      generalize (w8.setCell ⟨pa, 0, none⟩ (.int .i64 b)).setCell ⟨pa, 1, none⟩ (.int .i64 u2) = w9 at *
      have t9 : TFr B.wb B.cb pa b u2 w9.drew := ⟨H9.out.c0, hcell (w := w9.drew) PA9.out 0, hcell (w := w9.drew) PA9.out 1⟩
      go_region_held2 (fun W => TFr B.wb B.cb pa b u2 W) (assumption) (first
        | (go_at_call 60; refine (ht2.out _).mono ?_; intro e w7 hh; obtain ⟨hh1, b7⟩ := hh; subst hh1; have b7' := (Below.refl w9.heap.size w9).drew.trans b7; have H7 := Lib.hid (H9.out.keep b7'); have PA7 := Lib.hid ((b7'.block _ (Array.getElem?_eq_some_iff.1 PA9.out).1).trans PA9.out); have t7 : TFr B.wb B.cb pa b u2 w7 := ⟨H7.out.c0, hcell PA7.out 0, hcell PA7.out 1⟩; have hpk7 := hp2.out w7 H7.out; clear b7 b7' t9)
        | (go_at_call 36; refine hpk7.mono ?_; intro e w' hh; obtain ⟨hh1, hh2⟩ := hh; subst hh1; obtain rfl := hh2.symm; clear hpk7)
        | (go_at_call 59; refine (hf2.out _).mono ?_; intro e w10 hh; obtain ⟨hh1, b8⟩ := hh; subst hh1; have H10 := Lib.hid (H7.out.keep b8); have PA10 := Lib.hid ((b8.block _ (Array.getElem?_eq_some_iff.1 PA7.out).1).trans PA7.out); have t8 : TFr B.wb B.cb pa b u2 w10 := ⟨H10.out.c0, hcell PA10.out 0, hcell PA10.out 1⟩; clear b8 t7))
      clear t8
      go_wp2_with fail
      go_meet
      case rel => exact ⟨f2, u2, 2, rfl, rfl, H10.out, PA10.out, .inr ⟨HC1.out, rfl, rfl, rfl⟩⟩
    · have HC1 := Lib.hid (of_decide_eq_false HG1.out)
      go_wp2_with fail
      go_meet
      case rel => exact ⟨f1, u1, 1, rfl, rfl, H8.out, PA8.out, .inl ⟨by have := HC1.out; omega, rfl, rfl, rfl⟩⟩
  case rest =>
  obtain ⟨fr, u, n, hv9, hv10, h11, z11, hcs⟩ := hcut
  subst hv9
  subst hv10
  have H11 := Lib.hid h11; have PA11 := Lib.hid z11; have HCS := Lib.hid hcs
  clear h11 z11 hcs H8 PA8 PB8 hf1 hf2 hp1 hp2 ht1 ht2
  obtain ⟨g2, hg2⟩ : ∃ g2, decide (fr < 0) = g2 := ⟨_, rfl⟩
  go_upto_if 68 with (fail)
  have HG2 := Lib.hid hg2
  clear hg2
  cases g2
  rotate_left
  · 
    go_wp2_with (go_at_call 47; refine (lives18 _).mono ?_; rintro e w13 ⟨rfl, b13⟩)
    go_ret
    have h1 : Below w.heap.size w wc := HBB.out.trans (H11.out.below.mono HBB.out.size)
    exact ⟨rfl, h1.trans (b13.mono h1.size)⟩
  · have hfr : ¬ fr < 0 := of_decide_eq_false HG2.out
    have hbd : s.n ≤ 241 ∧ s.cnt ≤ 241 := by have := HF.out.bd; omega
    have hlim : 241 + 2 < lim := by unfold lim; decide
    have hrun : ∀ W rb, WS w0 W B V s → RoomAt W w0.heap.size rb (rmnew b u1 u2) → Calls Tryz.prog 39 #[.pointer (some ⟨B.wb, 0, none⟩), .iface 116 (.pointer (some ⟨rb, 0, none⟩)), .int .i64 900] W (RunFr w0 W B V s rb b n u fr) := fun W rb h1 h2 => by
      have hB : RMB w0 W W B V s rb (rmnew b u1 u2) := ⟨h1, h2, (below_fr (Below.refl _ _) wTy true).fx rb⟩
      have e1 : f1 = frW (s.val (tagsA b u1)) := by rw [HFR1.out, HV1.out]; rfl
      have e2 : f2 = frW (s.val (tagsA b u2)) := by rw [HFR2.out, HV2.out]; rfl
      rcases HCS.out with ⟨g0, q1, q2, q3⟩ | ⟨g0, q1, q2, q3⟩
      · rw [q1, q2, q3, e1]
        exact run_free1 hB (CS.room_of 241 hbd (by omega)) (by rw [← e1]; exact g0)
      · have hne : u2 ≠ u1 := fun c => by
          rw [c] at e2
          rw [q1] at hfr
          omega
        rw [q1] at hfr
        rw [q1, q2, q3, e2]
        refine run_free2 hB 241 hbd hlim hne ?_ (by rw [← e2]; omega)
        have := frW_nn (s.val (tagsA b u1))
        omega
    have HRUN := Lib.hid hrun
    have hst := H11.out.steps5
    have HBD := Lib.hid hbd
    have hn2 : n ≤ 2 := by rcases HCS.out with ⟨-, -, -, h⟩ | ⟨-, -, -, h⟩ <;> omega
    have HN2 := Lib.hid hn2
    clear hfr hbd hlim hrun hn2
    go_upto_region 20 with (first
      | (go_at_call 45; refine hst.mono ?_; intro e w' hh; obtain ⟨hh1, hh2⟩ := hh; subst hh1; obtain rfl := hh2.symm; clear hst)
      | (go_at_call 48; refine (HNR.out _).mono ?_; intro e w12 hh; obtain ⟨rb, hh1, a2, b2⟩ := hh; subst hh1; have H12 := Lib.hid (H11.out.keep b2); have hr12 := HRUN.out w12 rb H12.out (a2.lower H11.out.below.size); have Z12 := Lib.hid ((b2.block _ (Array.getElem?_eq_some_iff.1 PA11.out).1).trans PA11.out); have NE12 := Lib.hid (show pa ≠ rb by have h1 := (Array.getElem?_eq_some_iff.1 PA11.out).1; have h2 := a2.low; omega); clear a2 b2))
    unfold RunFr at hr12
    go_upto_region 21 with (go_at_call 39; refine hr12.mono ?_; intro e w14 hh; obtain ⟨hh1, s', x', h14, p1, p2, p3, p4, p5, p6, p7⟩ := hh; subst hh1; have H14 := Lib.hid h14; have P14 := Lib.hid (And.intro p1 p2); have Z14 := Lib.hid (h14.fx.cells _ _ _ _ Z12.out rfl NE12.out); have hg := rmgot h14.rm; rw [if_pos p3, p4, p5, p6] at hg; clear h14 p1 p2 p3 p4 p5 p6 p7 hr12)
    go_upto_region 22 with (go_at_call 61; refine hg.mono ?_; intro e w15 hh; obtain ⟨hh1, b15⟩ := hh; subst hh1; have H15 := Lib.hid (H14.out.ws.keep b15); have Z15 := Lib.hid ((b15.block _ (Array.getElem?_eq_some_iff.1 Z14.out).1).trans Z14.out); clear b15 hg)
    have hb16 := below_alloc w15 (.cells #[.int .i64 b, .int .i64 u, .int .i64 fr] 43)
    have hz16 := heap_alloc_new w15 (.cells #[.int .i64 b, .int .i64 u, .int .i64 fr] 43)
    have H16 := Lib.hid (H15.out.keep hb16)
    have hz17 := (hb16.block _ (Array.getElem?_eq_some_iff.1 Z15.out).1).trans Z15.out
    change Code.wp _ _ _ _ (w15.alloc (.cells #[.int .i64 b, .int .i64 u, .int .i64 fr] 43))
    clear hb16
    generalize w15.alloc (.cells #[.int .i64 b, .int .i64 u, .int .i64 fr] 43) = w16 at *
    generalize w15.heap.size = ps at *
    have k0 := hcell hz16 0; have k1 := hcell hz16 1; have k2 := hcell hz16 2
    have l0 := hcell hz17 0; have l1 := hcell hz17 1
    simp only [List.getElem?_toArray, List.getElem?_cons_zero, List.getElem?_cons_succ] at k0 k1 k2 l0 l1
    have hst2 := H16.out.steps5
    rw [P14.out.1] at hst2
    have hla := H16.out.last5
    rw [P14.out.2] at hla
    have c0 := H16.out.c0
    have hq := fun W => eql_spot18 b u fr W
    have hfd := fun a b c d W => fld18 a b c d W
    have hw6 : wrap64 ((s.cnt : Int) + (n : Int)) = ((s.cnt + n : Nat) : Int) := w64s (by omega) (by have := HBD.out; have := HN2.out; omega)
    have Z16 := Lib.hid hz16; have Z17 := Lib.hid hz17
    clear hz16 hz17
    go_wp2_with (first
      | (go_at_call 45; refine hst2.mono ?_; intro e w' hh; obtain ⟨hh1, hh2⟩ := hh; subst hh1; obtain rfl := hh2.symm; clear hst2)
      | (go_at_call 46; refine hla.mono ?_; intro e w17 hh; obtain ⟨hh1, b17⟩ := hh; subst hh1; have H17 := Lib.hid (H16.out.keep b17); have y0 := (b17.block _ (Array.getElem?_eq_some_iff.1 Z16.out).1).trans Z16.out; have y1 := (b17.block _ (Array.getElem?_eq_some_iff.1 Z17.out).1).trans Z17.out; clear k0 k1 k2 l0 l1; have k0 := hcell y0 0; have k1 := hcell y0 1; have k2 := hcell y0 2; have l0 := hcell y1 0; have l1 := hcell y1 1; simp only [List.getElem?_toArray, List.getElem?_cons_zero, List.getElem?_cons_succ] at k0 k1 k2 l0 l1; clear y0 y1 b17 hla c0)
      | (go_at_call 47; refine (lives18 _).mono ?_; rintro e w18 ⟨rfl, b18⟩))
    go_ret
    have h17 := HBB.out.trans (H17.out.below.mono HBB.out.size)
    exact ⟨rfl, h17.trans (b18.mono h17.size)⟩
set_option maxRecDepth 10000 in
theorem walkRoomsFree {H1 : Type} (w : World) (enc : TypeId × Value → H1) (base : Nat) (v : Value) (d : DataW H1) (p : List MemPlace) (k : DataW.Trod enc Tryz.prog w 0 (fun _ => true) true 130 v d p) (o : Value.okWide Tryz.prog w .any base 130 v) :
    Calls Tryz.prog 8 #[v] w fun e w' => e = .returned (.bool true) ∧ Below w.heap.size w w' := by
  obtain ⟨f, rfl, hr⟩ := ful_open k o
  exact rfree_any f w hr
end Go.Proofs.YtcgnkgbiaafdcaaGreat
