import Derived.Test.YtmakjfeepmiggaaGreatZ30
import Derived.Test.YtmakjfeepmiggaaGreatZ22
import Derived.Test.YtmakjfeepmiggaaGreatZ7
import Derived.Laws.EntriesVeiled
import Derived.OwnWalk
namespace Go.Proofs.YtmakjfeepmiggaaGreat
open Go.RowKit Go.Maps TagPure
set_option linter.unusedVariables false
inductive RPh where
  | look | search | hop | off
deriving DecidableEq
def RPh.fn : RPh → Value
  | .look => .func (.func 109) #[] #[]
  | .search => .func (.func 167) #[] #[]
  | .hop => .func (.func 213) #[] #[]
  | .off => .nilFunc
structure RM where
  bits : Int
  l : List Int
  a : Int
  b : Int
  ph : RPh
  way : Option Addr
  hops : Option Addr
  sb : Int
  su : Int
  sk : Int
  is : Bool
def RM.cells (x : RM) (v : Value) : Array Value := #[.int .i64 x.bits, v, .int .i64 x.a, .int .i64 x.b, x.ph.fn, .pointer x.way, .pointer x.hops, .int .i64 x.sb, .int .i64 x.su, .int .i64 x.sk, .bool x.is]
def SlI (w : World) (v : Value) (l : List Int) : Prop :=
  ∃ a c, v = .slice a l.length c ∧ l.length ≤ c ∧ c ≤ maxLen ∧ (l = [] ∨ ∃ g o cur, a = some ⟨g, o, none⟩ ∧ w.heap[g]? = some (.cells cur 3 (0, 0)) ∧ ∀ i, (hi : i < l.length) → cur[o + i]? = some (.int .i64 l[i]))
structure RoomAt (w : World) (lo rb : Nat) (x : RM) : Prop where
  low : lo ≤ rb
  ex : ∃ v, w.heap[rb]? = some (.cells (x.cells v) 206 (0, 0)) ∧ SlI w v x.l
section
variable {w w' : World} {lo lo' rb : Nat} {x y : RM}
theorem SlI.fr {v : Value} {l : List Int} {K : TypeId → Bool} {mp : Bool} (h : SlI w v l) (hf : Fr K mp w w') (hK : K 3 = false) : SlI w' v l := by
  obtain ⟨a, c, h1, h2, h3, h4⟩ := h
  refine ⟨a, c, h1, h2, h3, h4.imp id ?_⟩
  rintro ⟨g, o, cur, h5, h6, h7⟩
  exact ⟨g, o, cur, h5, hf.cells _ _ _ _ h6 hK, h7⟩
theorem RoomAt.fr {K : TypeId → Bool} {mp : Bool} (h : RoomAt w lo rb x) (hf : Fr K mp w w') (h1 : K 206 = false) (h2 : K 3 = false) : RoomAt w' lo rb x := by
  obtain ⟨l0, v, b1, b2⟩ := h
  exact ⟨l0, v, hf.cells _ _ _ _ b1 h1, b2.fr hf h2⟩
theorem RoomAt.below (h : RoomAt w lo rb x) (hb : Below w.heap.size w w') : RoomAt w' lo rb x := h.fr (below_fr hb (fun _ => false) false) rfl rfl
theorem RoomAt.lower (h : RoomAt w lo rb x) (hl : lo' ≤ lo) : RoomAt w lo' rb x := ⟨Nat.le_trans hl h.low, h.ex⟩
theorem RoomAt.set (h : RoomAt w lo rb x) (o : Nat) (u : Value) (hl : y.l = x.l) (hc : ∀ v, (x.cells v).setIfInBounds o u = y.cells v) : RoomAt (w.setCell ⟨rb, o, none⟩ u) lo rb y := by
  obtain ⟨l0, v, b1, b2⟩ := h
  have g := setCell_same b1 o u
  rw [hc] at g
  refine ⟨l0, v, g, ?_⟩
  rw [hl]
  exact b2.fr (set_ty b1 o u) rfl
theorem RoomAt.blk (h : RoomAt w lo rb x) : ∃ cs, w.heap[rb]? = some (.cells cs 206 (0, 0)) := by obtain ⟨_, v, b1, _⟩ := h; exact ⟨_, b1⟩
theorem RoomAt.lt (h : RoomAt w lo rb x) : rb < w.heap.size := by obtain ⟨cs, b1⟩ := h.blk; exact (Array.getElem?_eq_some_iff.1 b1).1
theorem RoomAt.c (h : RoomAt w lo rb x) : w.cell? ⟨rb, 0, none⟩ = some (.int .i64 x.bits) ∧ w.cell? ⟨rb, 2, none⟩ = some (.int .i64 x.a) ∧ w.cell? ⟨rb, 3, none⟩ = some (.int .i64 x.b) ∧ w.cell? ⟨rb, 4, none⟩ = some x.ph.fn ∧ w.cell? ⟨rb, 5, none⟩ = some (.pointer x.way) ∧ w.cell? ⟨rb, 6, none⟩ = some (.pointer x.hops) ∧ w.cell? ⟨rb, 7, none⟩ = some (.int .i64 x.sb) ∧ w.cell? ⟨rb, 8, none⟩ = some (.int .i64 x.su) ∧ w.cell? ⟨rb, 9, none⟩ = some (.int .i64 x.sk) ∧ w.cell? ⟨rb, 10, none⟩ = some (.bool x.is) := by
  obtain ⟨_, v, b1, b2⟩ := h
  exact ⟨hcell b1 0, hcell b1 2, hcell b1 3, hcell b1 4, hcell b1 5, hcell b1 6, hcell b1 7, hcell b1 8, hcell b1 9, hcell b1 10⟩
theorem RoomAt.f (h : RoomAt w lo rb x) (o : Nat) : w.frozen? ⟨rb, o, none⟩ = false := by obtain ⟨cs, b1⟩ := h.blk; exact hfrz b1 o
end
theorem rfn_eql (p : RPh) (W : World) : Sem.run Tryz.prog (binOp BinOp.eql 203 p.fn Value.nilFunc) W = .ok (.bool (decide (p = .off))) W := by cases p <;> kernel_rfl
theorem rmover {w : World} {lo rb : Nat} {x : RM} (h : RoomAt w lo rb x) : Calls Tryz.prog 113 #[.pointer (some ⟨rb, 0, none⟩)] w fun e w' => e = .returned (.bool (decide (x.ph = .off))) ∧ w' = w := by
  obtain ⟨-, -, -, c4, -⟩ := h.c
  have hrun := rfn_eql x.ph w
  clear h
  generalize x.ph = q at *
  generalize hd : decide (q = .off) = d at *
  cases q
  all_goals
    simp only [RPh.fn] at c4 hrun
    clear hd
    go_enter Tryz.func113, Tryz.ntmps113
    go_wp2
    go_ret
    exact ⟨rfl, rfl⟩
theorem rmstep_over {w : World} {lo rb : Nat} {x : RM} (h : RoomAt w lo rb x) (ho : x.ph = .off) (u : Value) : Calls Tryz.prog 37 #[.pointer (some ⟨rb, 0, none⟩), u] w fun e w' => e = .returned (.bool true) ∧ w' = w := by
  have hv := rmover h
  rw [decide_eq_true ho] at hv
  clear h ho
  go_enter Tryz.func37, Tryz.ntmps37
  go_wp2_with (go_at_call 113; refine hv.mono ?_; intro e w2 hh; obtain ⟨hh1, hh2⟩ := hh; subst hh1; obtain rfl := hh2.symm)
  go_ret
  exact ⟨rfl, rfl⟩
theorem rmgot {w : World} {lo rb : Nat} {x : RM} (h : RoomAt w lo rb x) : Calls Tryz.prog 106 #[.pointer (some ⟨rb, 0, none⟩)] w fun e w' => e = .returned (.tuple (if x.is = true then #[.agg #[.int .i64 x.sb, .int .i64 x.su, .int .i64 x.sk], .bool true] else #[.agg #[.int .i64 0, .int .i64 0, .int .i64 0], .bool false])) ∧ Below w.heap.size w w' := by
  obtain ⟨-, -, -, -, -, -, c7, c8, c9, c10⟩ := h.c
  have hne := h.lt
  have hb := below_alloc w (.cells #[.int .i64 0, .int .i64 0, .int .i64 0] 71)
  have hz := heap_alloc_new w (.cells #[.int .i64 0, .int .i64 0, .int .i64 0] 71)
  have k : ∀ {j : Nat} {u : Value}, w.cell? ⟨rb, j, none⟩ = some u → (w.alloc (.cells #[.int .i64 0, .int .i64 0, .int .i64 0] 71)).cell? ⟨rb, j, none⟩ = some u := fun h => (hb.cell hne).trans h
  have hne2 : rb ≠ w.heap.size := Nat.ne_of_lt hne
  have g7 := k c7; have g8 := k c8; have g9 := k c9; have g10 := k c10
  have d0 := hcell hz 0; have d1 := hcell hz 1; have d2 := hcell hz 2
  have f0 := hfrz hz 0; have f1 := hfrz hz 1; have f2 := hfrz hz 2
  have HB := Lib.hid hb; have HZ := Lib.hid hz
  clear h c7 c8 c9 c10 k hb hz hne
  generalize x.is = is at *
  cases is
  · go_enter Tryz.func106, Tryz.ntmps106
    go_upto_region 1 with (fail)
    change Code.wp _ _ _ _ (w.alloc (.cells #[.int .i64 0, .int .i64 0, .int .i64 0] 71))
    generalize w.alloc (.cells #[.int .i64 0, .int .i64 0, .int .i64 0] 71) = w1 at *
    have s1 := setCell_same HZ.out 0 (.int .i64 0)
    have s2 := setCell_same s1 1 (.int .i64 0)
    have s3 := setCell_same s2 2 (.int .i64 0)
    have h0 := hcell s3 0; have h1 := hcell s3 1; have h2 := hcell s3 2
    have b1 := set_below HB.out HB.out.size (Nat.le_refl _) 0 (.int .i64 0)
    have b2 := set_below b1 b1.size (Nat.le_refl _) 1 (.int .i64 0)
    have b3 := set_below b2 b2.size (Nat.le_refl _) 2 (.int .i64 0)
    have B3 := Lib.hid b3; have H0 := Lib.hid h0; have H1 := Lib.hid h1; have H2 := Lib.hid h2
    clear s1 s2 s3 h0 h1 h2 b1 b2 b3
    go_wp2_with fail
    have h0 := H0.out; have h1 := H1.out; have h2 := H2.out
    refine bodyPost_ret (v := .tuple #[.agg #[.int .i64 0, .int .i64 0, .int .i64 0], .bool false]) (by simp [results, Tryz.results106, go_sem, h0, h1, h2]) rfl ⟨rfl, B3.out⟩
  · go_enter Tryz.func106, Tryz.ntmps106
    go_upto_region 1 with (fail)
    change Code.wp _ _ _ _ (w.alloc (.cells #[.int .i64 0, .int .i64 0, .int .i64 0] 71))
    generalize w.alloc (.cells #[.int .i64 0, .int .i64 0, .int .i64 0] 71) = w1 at *
    have s1 := setCell_same HZ.out 0 (.int .i64 x.sb)
    have s2 := setCell_same s1 1 (.int .i64 x.su)
    have s3 := setCell_same s2 2 (.int .i64 x.sk)
    have h0 := hcell s3 0; have h1 := hcell s3 1; have h2 := hcell s3 2
    have b1 := set_below HB.out HB.out.size (Nat.le_refl _) 0 (.int .i64 x.sb)
    have b2 := set_below b1 b1.size (Nat.le_refl _) 1 (.int .i64 x.su)
    have b3 := set_below b2 b2.size (Nat.le_refl _) 2 (.int .i64 x.sk)
    have B3 := Lib.hid b3; have H0 := Lib.hid h0; have H1 := Lib.hid h1; have H2 := Lib.hid h2
    clear s1 s2 s3 h0 h1 h2 b1 b2 b3
    go_wp2_with fail
    have h0 := H0.out; have h1 := H1.out; have h2 := H2.out
    refine bodyPost_ret (v := .tuple #[.agg #[.int .i64 x.sb, .int .i64 x.su, .int .i64 x.sk], .bool true]) (by simp [results, Tryz.results106, go_sem, h0, h1, h2]) rfl ⟨rfl, B3.out⟩
def rmvoid : RM := ⟨0, [], 0, 0, .off, none, none, 0, 0, 0, false⟩
def rmnew (bits a b : Int) : RM := ⟨bits, if b = a then [a] else [a, b], a, b, .look, none, none, 0, 0, 0, false⟩
theorem newroom_no (bits h : Int) (hb : tsize bits = 0) (w : World) : Calls Tryz.prog 33 #[.int .i64 bits, .int .u64 h] w fun e w' => ∃ rb, e = .returned (.pointer (some ⟨rb, 0, none⟩)) ∧ RoomAt w' w.heap.size rb rmvoid ∧ Below w.heap.size w w' := by
  have hs := fun W => size_any bits W
  rw [hb] at hs
  have b1 := below_alloc w (.cells (rmvoid.cells (.slice none 0 0)) 206)
  have z1 := heap_alloc_new w (.cells (rmvoid.cells (.slice none 0 0)) 206)
  have HB := Lib.hid b1; have HZ := Lib.hid z1
  clear hb b1 z1
  go_enter Tryz.func33, Tryz.ntmps33
  go_wp2_with (go_at_call 49; refine (hs _).mono ?_; intro e w2 hh; obtain ⟨hh1, hh2⟩ := hh; subst hh1; obtain rfl := hh2.symm)
  go_ret
  exact ⟨_, rfl, ⟨Nat.le_refl _, _, HZ.out, none, 0, rfl, Nat.le_refl _, Nat.zero_le _, .inl rfl⟩, HB.out⟩
set_option maxRecDepth 10000 in
set_option maxHeartbeats 1000000 in
theorem newroom_ok (bits h : Int) (hb : 1 ≤ bits ∧ bits ≤ 12) (h0 : 0 ≤ h ∧ h < 18446744073709551616) (w : World) : Calls Tryz.prog 33 #[.int .i64 bits, .int .u64 h] w fun e w' => ∃ rb, e = .returned (.pointer (some ⟨rb, 0, none⟩)) ∧ RoomAt w' w.heap.size rb (rmnew bits (bk h bits) (oth (bk h bits) (tag01 h) bits)) ∧ Below w.heap.size w w' := by
  have hs := fun W => size_any bits W
  have hbk := fun W => bucket_fn h bits h0.1 h0.2 hb W
  have htg := fun W => tag_fn h h0.1 h0.2 W
  have hko := bk_bd h bits hb
  have hto := tag01_bd h h0.1 h0.2
  have hot := fun W => other_fn (bk h bits) (tag01 h) bits hb hko hto W
  have hsz : (tsize bits == 0) = false := beq_eq_false_iff_ne.2 (by omega)
  obtain ⟨a, ha⟩ : ∃ a, a = bk h bits := ⟨_, rfl⟩
  obtain ⟨b, hbb⟩ : ∃ b, b = oth (bk h bits) (tag01 h) bits := ⟨_, rfl⟩
  obtain ⟨tg0, htg0⟩ : ∃ tg0, tg0 = tag01 h := ⟨_, rfl⟩
  rw [← hbb] at hot ⊢
  rw [← ha] at hbk hot ⊢
  rw [← htg0] at htg hot
  obtain ⟨i0, hi0, hz0, hz1, hz2⟩ := info_parts info_int1
  have HI := Lib.hid hi0; have HZ0 := Lib.hid hz0; have HZ1 := Lib.hid hz1; have HZ2 := Lib.hid hz2
  generalize tsize bits = ts at *
  clear hb h0 hko hto ha hbb htg0 hi0 hz0 hz1 hz2
  have k1 := below_alloc w (.cells #[.int .i64 a] 3)
  have n1 := heap_alloc_new w (.cells #[.int .i64 a] 3)
  have hs1 : (w.alloc (.cells #[.int .i64 a] 3)).heap.size = w.heap.size + 1 := by simp
  have k2 := below_alloc (w.alloc (.cells #[.int .i64 a] 3)) (.cells ((⟨bits, [a], a, b, .look, none, none, 0, 0, 0, false⟩ : RM).cells (.slice (some ⟨w.heap.size, 0, none⟩) 1 1)) 206)
  have n2 := heap_alloc_new (w.alloc (.cells #[.int .i64 a] 3)) (.cells ((⟨bits, [a], a, b, .look, none, none, 0, 0, 0, false⟩ : RM).cells (.slice (some ⟨w.heap.size, 0, none⟩) 1 1)) 206)
  have n1' := (k2.block _ (Array.getElem?_eq_some_iff.1 n1).1).trans n1
  rw [hs1] at n2
  have KB := Lib.hid (k1.trans (k2.mono k1.size)); have N1 := Lib.hid n1'; have N2 := Lib.hid n2
  clear k1 n1 hs1 k2 n2 n1'
  go_enter Tryz.func33, Tryz.ntmps33
  go_upto_region 6 with (first
    | (go_at_call 49; refine (hs _).mono ?_; intro e w2 hh; obtain ⟨hh1, hh2⟩ := hh; subst hh1; obtain rfl := hh2.symm)
    | (go_at_call 108; refine (hbk _).mono ?_; intro e w2 hh; obtain ⟨hh1, hh2⟩ := hh; subst hh1; obtain rfl := hh2.symm)
    | (go_at_call 83; refine (htg _).mono ?_; intro e w2 hh; obtain ⟨hh1, hh2⟩ := hh; subst hh1; obtain rfl := hh2.symm)
    | (go_at_call 65; refine (hot _).mono ?_; intro e w2 hh; obtain ⟨hh1, hh2⟩ := hh; subst hh1; obtain rfl := hh2.symm))
  change Code.wp _ _ _ _ ((w.alloc (.cells #[.int .i64 a] 3)).alloc (.cells ((⟨bits, [a], a, b, .look, none, none, 0, 0, 0, false⟩ : RM).cells (.slice (some ⟨w.heap.size, 0, none⟩) 1 1)) 206))
  generalize (w.alloc (.cells #[.int .i64 a] 3)).alloc (.cells ((⟨bits, [a], a, b, .look, none, none, 0, 0, 0, false⟩ : RM).cells (.slice (some ⟨w.heap.size, 0, none⟩) 1 1)) 206) = w1 at *
  by_cases hba : b = a
  · subst hba
    have hq : (b != b) = false := by simp
    go_wp2
    go_ret
    refine ⟨w.heap.size + 1, rfl, ⟨Nat.le_succ _, .slice (some ⟨w.heap.size, 0, none⟩) 1 1, ?_, ?_⟩, KB.out⟩
    · have e : (rmnew bits b b) = ⟨bits, [b], b, b, .look, none, none, 0, 0, 0, false⟩ := by unfold rmnew; rw [if_pos rfl]
      rw [e]; exact N2.out
    · have e : (rmnew bits b b).l = [b] := by show (if b = b then [b] else [b, b]) = [b]; rw [if_pos rfl]
      rw [e]
      exact ⟨_, 1, rfl, Nat.le_refl _, by unfold maxLen; omega, .inr ⟨w.heap.size, 0, _, rfl, N1.out, fun i hi => by
        have : i = 0 := by simp at hi; omega
        subst this; rfl⟩⟩
  · have hq : (b != a) = true := bne_iff_ne.2 hba
    have HBA := Lib.hid hba
    have hs1 : Hid (w.heap.size + 1 < w1.heap.size) := Lib.hid (Array.getElem?_eq_some_iff.1 N2.out).1
    have OW : Hid (w1.ownsRow w.heap.size 3 1 (.slice (some ⟨w.heap.size, 0, none⟩) 1 1) 1 [.int .i64 a]) := Lib.hid ⟨rfl, .inr ⟨w.heap.size, 1, _, rfl, Nat.le_refl _, N1.out, Nat.le_refl _, by unfold maxLen; decide, rfl, rfl⟩⟩
    have c1 : w1.cell? ⟨w.heap.size + 1, 1, none⟩ = some (.slice (some ⟨w.heap.size, 0, none⟩) 1 1) := hcell N2.out 1
    clear hba
    go_wp2_with (at_builtin; refine wpList_append_lies _ rfl _ _ 132 rfl w.heap.size 3 i0 (.int .i64 0) 1 8 Tryz.underlying132 HI.out HZ0.out HZ1.out HZ2.out rfl (by decide) (.slice (some ⟨w.heap.size, 0, none⟩) 1 1) 1 [.int .i64 a] rfl (OW.out.alloc _) ⟨w1.heap.size, 0, none⟩ 1 1 [.int .i64 b] rfl rfl ?c1 ?c2 (by decide) ?c3 ?c4 ?c5 (w1.heap.size + 1) (by simp) ?_)
    case c1 => exact World.news_of_block (heap_alloc_new w1 _)
    case c2 => simp [Value.oneCell']
    case c3 => unfold maxLen; omega
    case c4 => omega
    case c5 => have := hs1.out; simp; omega
    intro g2 c6 w6 hown' hgrow hkb hlt6
    have kb3 := below_alloc w1 (.cells #[.int .i64 b] 3)
    have gk := grown_keeps hgrow
    have hx2 := (kb3.block _ (Array.getElem?_eq_some_iff.1 N2.out).1).trans N2.out
    have hx6 := (gk.block _ (Array.getElem?_eq_some_iff.1 hx2).1 (fun c => by simp only [Value.ownBlock, Option.some.injEq] at c; omega)).trans hx2
    have c6' : w6.cell? ⟨w.heap.size + 1, 1, none⟩ = some (.slice (some ⟨w.heap.size, 0, none⟩) 1 1) := hcell hx6 1
    have f6 : w6.frozen? ⟨w.heap.size + 1, 1, none⟩ = false := hfrz hx6 1
    have bw2 := KB.out.trans (kb3.mono KB.out.size)
    have bw6 := keeps_below gk bw2 bw2.size (fun k hk => by simp only [Value.ownBlock, Option.some.injEq] at hk; omega)
    have BW := Lib.hid (bw6.setCell (p := ⟨w.heap.size + 1, 1, none⟩) (Nat.le_succ _) (.slice (some ⟨g2, 0, none⟩) 2 c6))
    have hxE := setCell_same hx6 1 (.slice (some ⟨g2, 0, none⟩) 2 c6)
    have hge : g2 ≠ w.heap.size + 1 := by
      have := hs1.out
      rcases hkb with e | e
      · simp only [Value.ownBlock, Option.some.injEq] at e; omega
      · omega
    have hsl : SlI (w6.setCell ⟨w.heap.size + 1, 1, none⟩ (.slice (some ⟨g2, 0, none⟩) 2 c6)) (.slice (some ⟨g2, 0, none⟩) 2 c6) [a, b] := by
      obtain ⟨-, ⟨e, -⟩ | ⟨g, cap, cur, e, h2, h3, h4, h5, h6, h7⟩⟩ := hown'
      · cases e
      · simp only [Value.slice.injEq, Option.some.injEq, Addr.mk.injEq, and_true, true_and] at e
        obtain ⟨rfl, rfl⟩ := e
        refine ⟨_, c6, rfl, h4, h5, .inr ⟨g2, 0, cur, rfl, ?_, fun i hi => ?_⟩⟩
        · exact (set_ty hx6 1 _).cells _ _ _ _ h3 rfl
        · have hi2 : i < 2 := hi
          have h8 : (cur.toList.take ((1 + 1) * 1))[i]? = ([.int .i64 a] ++ [.int .i64 b] : List Value)[i]? := by rw [h7]; rfl
          rw [List.getElem?_take, if_pos (by omega), Array.getElem?_toList] at h8
          rw [Nat.zero_add, h8]
          rcases (show i = 0 ∨ i = 1 by omega) with rfl | rfl <;> rfl
    have FIN := Lib.hid (And.intro hxE hsl)
    clear kb3 gk hx2 hx6 bw2 bw6 hxE hge hsl hown' hgrow hkb hlt6 c1
    go_wp2
    go_ret
    refine ⟨w.heap.size + 1, rfl, ⟨Nat.le_succ _, .slice (some ⟨g2, 0, none⟩) 2 c6, ?_, ?_⟩, BW.out⟩
    rotate_left
    · have e : (rmnew bits a b).l = [a, b] := by show (if b = a then [a] else [a, b]) = [a, b]; rw [if_neg HBA.out]
      rw [e]; exact FIN.out.2
    · have e : (rmnew bits a b) = ⟨bits, [a, b], a, b, .look, none, none, 0, 0, 0, false⟩ := by unfold rmnew; rw [if_neg HBA.out]
      rw [e]; exact FIN.out.1
end Go.Proofs.YtmakjfeepmiggaaGreat