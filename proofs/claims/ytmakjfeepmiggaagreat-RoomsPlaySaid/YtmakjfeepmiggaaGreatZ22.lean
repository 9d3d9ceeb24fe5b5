import Derived.Test.YtmakjfeepmiggaaGreatZ21
import Derived.Test.YtmakjfeepmiggaaGreatZ9
import Derived.Test.YtmakjfeepmiggaaGreatZ1
import Derived.Test.YtmakjfeepmiggaaGreatZ5
import Derived.Laws.EntriesVeiled
import Derived.Laws.AppendOwnNone
import Derived.Deep.DeepCutAuto
namespace Go.Proofs.YtmakjfeepmiggaaGreat
open Go.RowKit Go.Maps
set_option linter.unusedVariables false
theorem pover_nil (w : World) : Calls Tryz.prog 271 #[.pointer none] w fun e w' => e = .returned (.bool true) ∧ Below w.heap.size w w' := by
  go_enter Tryz.func271, Tryz.ntmps271
  go_wp2_with fail
  refine wp_region_ext (by kernel_rfl) (by kernel_rfl) ?_
  repeat (go_big_quiet_step (fail))
  refine wpQuiet_nil ?_
  rintro W ⟨⟨W2, hW⟩, rfl⟩
  go_wp2
  go_ret
  exact ⟨rfl, hW⟩
theorem oover_nil (w : World) : Calls Tryz.prog 287 #[.pointer none] w fun e w' => e = .returned (.bool true) ∧ Below w.heap.size w w' := by
  go_enter Tryz.func287, Tryz.ntmps287
  go_wp2_with fail
  refine wp_region_ext (by kernel_rfl) (by kernel_rfl) ?_
  repeat (go_big_quiet_step (fail))
  refine wpQuiet_nil ?_
  rintro W ⟨⟨W2, hW⟩, rfl⟩
  go_wp2
  go_ret
  exact ⟨rfl, hW⟩
def VPut (w : World) (v : Value) : Prop := v = .pointer none ∨ ∃ b σ rest, v = .pointer (some ⟨b, 0, none⟩) ∧ SlotAt w b 261 σ rest ∧ σ.tg = 0
def VOut (w : World) (v : Value) : Prop := v = .pointer none ∨ ∃ b σ rest, v = .pointer (some ⟨b, 0, none⟩) ∧ SlotAt w b 360 σ rest ∧ σ.tg = 0
theorem VPut.fr {K : TypeId → Bool} {mp : Bool} {w w' : World} {v : Value} (h : VPut w v) (hf : Fr K mp w w') (h1 : K 261 = false) : VPut w' v := by
  rcases h with rfl | ⟨b, σ, rest, rfl, h, hz⟩
  · exact .inl rfl
  · exact .inr ⟨b, σ, rest, rfl, hf.cells _ _ _ _ h h1, hz⟩
theorem VOut.fr {K : TypeId → Bool} {mp : Bool} {w w' : World} {v : Value} (h : VOut w v) (hf : Fr K mp w w') (h1 : K 360 = false) : VOut w' v := by
  rcases h with rfl | ⟨b, σ, rest, rfl, h, hz⟩
  · exact .inl rfl
  · exact .inr ⟨b, σ, rest, rfl, hf.cells _ _ _ _ h h1, hz⟩
theorem VPut.below {w w' : World} {v : Value} (h : VPut w v) (hb : Below w.heap.size w w') : VPut w' v := h.fr (below_fr hb (fun _ => false) false) rfl
theorem VOut.below {w w' : World} {v : Value} (h : VOut w v) (hb : Below w.heap.size w w') : VOut w' v := h.fr (below_fr hb (fun _ => false) false) rfl
theorem VPut.over {w : World} {v : Value} (h : VPut w v) : Calls Tryz.prog 271 #[v] w fun e w' => e = .returned (.bool true) ∧ Below w.heap.size w w' := by
  rcases h with rfl | ⟨b, σ, rest, rfl, h, hz⟩
  · exact pover_nil w
  · exact Putover h true (σ.ln == 3) (by rw [hz]; rfl) rfl
theorem VOut.over {w : World} {v : Value} (h : VOut w v) : Calls Tryz.prog 287 #[v] w fun e w' => e = .returned (.bool true) ∧ Below w.heap.size w w' := by
  rcases h with rfl | ⟨b, σ, rest, rfl, h, hz⟩
  · exact oover_nil w
  · exact Outover h true (σ.ln == 3) (by rw [hz]; rfl) rfl
theorem VPut.step {w : World} {v : Value} (u : Value) (h : VPut w v) : Calls Tryz.prog 272 #[v, u] w fun e w' => e = .returned (.bool true) ∧ Below w.heap.size w w' := by
  have ho := h.over
  have H := Lib.hid h
  clear h
  go_enter Tryz.func272, Tryz.ntmps272
  go_upto_region 4 with (go_at_call 271; refine ho.mono ?_; rintro e w1 ⟨rfl, b1⟩; have HB := Lib.hid b1; have ho2 := (H.out.below b1).over; clear b1 ho)
  go_wp2_with (go_at_call 271; refine ho2.mono ?_; rintro e w2 ⟨rfl, b2⟩)
  go_ret
  exact ⟨rfl, HB.out.trans (b2.mono HB.out.size)⟩
theorem VOut.step {w : World} {v : Value} (u : Value) (h : VOut w v) : Calls Tryz.prog 288 #[v, u] w fun e w' => e = .returned (.bool true) ∧ Below w.heap.size w w' := by
  have ho := h.over
  have H := Lib.hid h
  clear h
  go_enter Tryz.func288, Tryz.ntmps288
  go_upto_region 4 with (go_at_call 287; refine ho.mono ?_; rintro e w1 ⟨rfl, b1⟩; have HB := Lib.hid b1; have ho2 := (H.out.below b1).over; clear b1 ho)
  go_wp2_with (go_at_call 287; refine ho2.mono ?_; rintro e w2 ⟨rfl, b2⟩)
  go_ret
  exact ⟨rfl, HB.out.trans (b2.mono HB.out.size)⟩
end Go.Proofs.YtmakjfeepmiggaaGreat
namespace Go.Proofs.YtmakjfeepmiggaaGreat
open Go.RowKit Go.Maps TagPure
set_option linter.unusedVariables false
end Go.Proofs.YtmakjfeepmiggaaGreat
namespace Go.Proofs.YtmakjfeepmiggaaGreat
open Go.RowKit Go.Maps
set_option linter.unusedVariables false
structure Po where
  out : Bool
  pb : Nat
  rb : Nat
  b : Int
  u : Int
  s : Int
  g : Int
  r : Int
  n : Nat
  y : Int
  dead : Bool
def Po.vals (o : Po) : List Value := if o.out then [.pointer none, .pointer (some ⟨o.pb, 0, none⟩), .pointer (some ⟨o.rb, 0, none⟩)] else [.pointer (some ⟨o.pb, 0, none⟩), .pointer none, .pointer (some ⟨o.rb, 0, none⟩)]
def Po.T (o : Po) : TypeId := if o.out then 360 else 261
def Po.sl (o : Po) : SL := ⟨tagsA o.b o.u, itemA o.b o.u o.s, o.s, o.y, o.n⟩
def Po.rest (o : Po) : List Value := if o.out then [] else [.int .i64 o.g, .int .i64 o.r]
def Po.line (o : Po) : Int := if o.dead then 0 else (((o.n + 1) % 4 : Nat) : Int)
def Po.gone (o : Po) : Bool := !o.dead && o.out && decide (2 ≤ o.n)
structure Po.ok (w : World) (base : Nat) (o : Po) : Prop where
  p : (o.dead = true ∧ ∃ σ rest, SlotAt w o.pb o.T σ rest ∧ σ.tg = 0) ∨ (o.dead = false ∧ SlotAt w o.pb o.T o.sl o.rest)
  r : ROp w o.rb o.line o.gone o.out o.b o.u o.s o.g o.r o.y
  al : o.dead = false → itemA o.b o.u o.s ≠ 0 ∧ 0 ≤ o.r ∧ o.r < 9223372036854775808
  ls : (Lit.int .i64 o.s).wf = true
  nn : o.n ≤ 3
  yb : 0 ≤ o.y ∧ o.y < 18446744073709551616
  lop : base ≤ o.pb
  lor : base ≤ o.rb
theorem itemA_tags {b u s : Int} (h : itemA b u s ≠ 0) : tagsA b u ≠ 0 := by
  have hs := hasP_bits (b := b) (u := u)
  have ht := tsize_bd b
  unfold itemA hasS at h
  unfold tagsA
  by_cases hp : hasP b u = true
  · have := (hs hp).2.2.1
    rw [if_pos hp]; omega
  · exfalso; apply h
    rw [Bool.eq_false_iff.2 hp]
    rfl
theorem slot_fr {K : TypeId → Bool} {mp : Bool} {w w' : World} {b T : Nat} {σ : SL} {rest : List Value} (h : SlotAt w b T σ rest) (hf : Fr K mp w w') (hT : K T = false) : SlotAt w' b T σ rest := hf.cells _ _ _ _ h hT
theorem Po.T_or (o : Po) : o.T = 261 ∨ o.T = 360 := by unfold Po.T; split <;> simp
theorem Po.ok.fr {K : TypeId → Bool} {mp : Bool} {w w' : World} {base : Nat} {o : Po} (h : o.ok w base) (hf : Fr K mp w w') (h1 : K 261 = false) (h2 : K 360 = false) (h3 : K 321 = false) : o.ok w' base := by
  have hT : K o.T = false := by rcases o.T_or with e | e <;> rw [e] <;> assumption
  refine ⟨?_, hf.cells _ _ _ _ h.r h3, h.al, h.ls, h.nn, h.yb, h.lop, h.lor⟩
  rcases h.p with ⟨e, σ, rest, g1, g2⟩ | ⟨e, g1⟩
  · exact .inl ⟨e, σ, rest, slot_fr g1 hf hT, g2⟩
  · exact .inr ⟨e, slot_fr g1 hf hT⟩
theorem Po.ok.below {w w' : World} {base : Nat} {o : Po} (h : o.ok w base) (hb : Below w.heap.size w w') : o.ok w' base := h.fr (below_fr hb (fun _ => false) false) rfl rfl rfl
theorem Po.ok.base {w : World} {base base' : Nat} {o : Po} (h : o.ok w base) (hb : base' ≤ base) : o.ok w base' := ⟨h.p, h.r, h.al, h.ls, h.nn, h.yb, Nat.le_trans hb h.lop, Nat.le_trans hb h.lor⟩
def Po.over (o : Po) : Bool := o.dead || o.n == 3
end Go.Proofs.YtmakjfeepmiggaaGreat
namespace Go.Proofs.YtmakjfeepmiggaaGreat
open Go.RowKit Go.Maps
set_option linter.unusedVariables false
def Po.pk (w : World) (o : Po) : Prop := (o.dead = true ∧ ∃ σ rest, SlotAt w o.pb o.T σ rest ∧ σ.tg = 0) ∨ (o.dead = false ∧ SlotAt w o.pb o.T o.sl o.rest)
structure PTw (x y : Nat) (w w' : World) : Prop where
  size : w.heap.size ≤ w'.heap.size
  cells : ∀ (k : Nat) (cs : Array Value) (T : TypeId) (fr : Nat × Nat), w.heap[k]? = some (.cells cs T fr) → wrTy T = false → k ≠ x → k ≠ y → w'.heap[k]? = some (.cells cs T fr)
theorem PTw.trans {x y : Nat} {a b c : World} (h : PTw x y a b) (k : PTw x y b c) : PTw x y a c :=
  ⟨Nat.le_trans h.size k.size, fun i cs T fr hi hT h1 h2 => k.cells i cs T fr (h.cells i cs T fr hi hT h1 h2) hT h1 h2⟩
section
variable {w0 w : World} {B R : WB} {V : WV} {s s' : CS} {x x' : RS} {o : Po} {n' : Nat} {y' : Int}
end
theorem Po.pk.below {w w' : World} {o : Po} (h : o.pk w) (hb : Below w.heap.size w w') : o.pk w' := by
  rcases h with ⟨e, σ, rest, g1, g2⟩ | ⟨e, g1⟩
  · exact .inl ⟨e, σ, rest, g1.below hb, g2⟩
  · exact .inr ⟨e, g1.below hb⟩
theorem Po.pk.eq {w w' : World} {o : Po} (h : o.pk w) (hb : w'.heap[o.pb]? = w.heap[o.pb]?) : o.pk w' := by
  rcases h with ⟨e, σ, rest, g1, g2⟩ | ⟨e, g1⟩
  · exact .inl ⟨e, σ, rest, hb.trans g1, g2⟩
  · exact .inr ⟨e, hb.trans g1⟩
end Go.Proofs.YtmakjfeepmiggaaGreat
namespace Go.Proofs.YtmakjfeepmiggaaGreat
open Go.RowKit Go.Maps
set_option linter.unusedVariables false
def aliveP (b u s g r : Int) : Bool := itemA b u s != 0 && decide (0 < g) && decide (g < 256) && decide (0 < r)
def aliveO (b u s : Int) : Bool := itemA b u s != 0
theorem rbout (b u s : Int) (hs : (Lit.int .i64 s).wf = true) (w : World) : Calls Tryz.prog 170 #[.agg #[.int .i64 b, .int .i64 u, .int .i64 s]] w
    fun e w' => ∃ rb, e = .returned (.pointer (some ⟨rb, 0, none⟩)) ∧ ROp w' rb (if aliveO b u s then 1 else 0) false true b u s 0 0 0 ∧ w.heap.size ≤ rb ∧ Below w.heap.size w w' := by
  have hi := fun W => ritem_any b u s hs W
  have hb1 := below_alloc w (.cells #[.int .i64 b, .int .i64 u, .int .i64 s] 71)
  have hb := hb1.trans ((below_alloc (w.alloc (.cells #[.int .i64 b, .int .i64 u, .int .i64 s] 71)) (.cells (opC 0 false true b u s 0 0 0) 321)).mono hb1.size)
  have zs : ((w.alloc (.cells #[.int .i64 b, .int .i64 u, .int .i64 s] 71)).alloc (.cells (opC 0 false true b u s 0 0 0) 321)).heap[w.heap.size]? = some (.cells #[.int .i64 b, .int .i64 u, .int .i64 s] 71 (0, 0)) := heap_alloc_old (heap_alloc_new w _)
  have zo : ROp ((w.alloc (.cells #[.int .i64 b, .int .i64 u, .int .i64 s] 71)).alloc (.cells (opC 0 false true b u s 0 0 0) 321)) (w.heap.size + 1) 0 false true b u s 0 0 0 := heap_alloc_at _ _ (by simp)
  have HB := Lib.hid hb; have ZS := Lib.hid zs; have ZO := Lib.hid zo
  clear hb1 hb zs zo
  have d0 : (itemA b u s != 0) = aliveO b u s := rfl
  generalize itemA b u s = ia at *
  generalize aliveO b u s = al at *
  cases al
  all_goals
   go_enter Tryz.func170, Tryz.ntmps170
   go_upto_region 2 with (fail)
   change Code.wp _ _ _ _ ((w.alloc (.cells #[.int .i64 b, .int .i64 u, .int .i64 s] 71)).alloc (.cells (opC 0 false true b u s 0 0 0) 321))
   generalize (w.alloc (.cells #[.int .i64 b, .int .i64 u, .int .i64 s] 71)).alloc (.cells (opC 0 false true b u s 0 0 0) 321) = w1 at *
   have c0 := hcell ZS.out 0
   have c1 := hcell ZS.out 1
   have c2 := hcell ZS.out 2
   have hlt : w.heap.size ≤ w.heap.size + 1 := Nat.le_succ _
   generalize w.heap.size + 1 = rb at *
   go_wp2_with (go_at_call 89; refine (hi _).mono ?_; intro e w2 hh; obtain ⟨hh1, b2⟩ := hh; subst hh1; have z2 := (b2.block _ (Array.getElem?_eq_some_iff.1 ZO.out).1).trans ZO.out; have q0 := hcell z2 0; have qf := hfrz z2 0; have Z2 := Lib.hid z2; have B2 := Lib.hid b2; clear b2 hi z2 c0 c1 c2)
   go_ret
   have hB2 := HB.out.trans (B2.out.mono HB.out.size)
   first
     | exact ⟨rb, rfl, Z2.out, hlt, hB2⟩
     | exact ⟨rb, rfl, setCell_same Z2.out 0 _, hlt, set_below hB2 hB2.size hlt 0 _⟩
set_option maxHeartbeats 4000000 in
theorem rbput (b u s g r : Int) (hs : (Lit.int .i64 s).wf = true) (w : World) : Calls Tryz.prog 171 #[.agg #[.int .i64 b, .int .i64 u, .int .i64 s], .int .i64 g, .int .i64 r] w
    fun e w' => ∃ rb, e = .returned (.pointer (some ⟨rb, 0, none⟩)) ∧ ROp w' rb (if aliveP b u s g r then 1 else 0) false false b u s g r 0 ∧ w.heap.size ≤ rb ∧ Below w.heap.size w w' := by
  have hi := fun W => ritem_any b u s hs W
  have hb1 := below_alloc w (.cells #[.int .i64 b, .int .i64 u, .int .i64 s] 71)
  have hb := hb1.trans ((below_alloc (w.alloc (.cells #[.int .i64 b, .int .i64 u, .int .i64 s] 71)) (.cells (opC 0 false false b u s g r 0) 321)).mono hb1.size)
  have zs : ((w.alloc (.cells #[.int .i64 b, .int .i64 u, .int .i64 s] 71)).alloc (.cells (opC 0 false false b u s g r 0) 321)).heap[w.heap.size]? = some (.cells #[.int .i64 b, .int .i64 u, .int .i64 s] 71 (0, 0)) := heap_alloc_old (heap_alloc_new w _)
  have zo : ROp ((w.alloc (.cells #[.int .i64 b, .int .i64 u, .int .i64 s] 71)).alloc (.cells (opC 0 false false b u s g r 0) 321)) (w.heap.size + 1) 0 false false b u s g r 0 := heap_alloc_at _ _ (by simp)
  have HB := Lib.hid hb; have ZS := Lib.hid zs; have ZO := Lib.hid zo
  clear hb1 hb zs zo
  have hal : aliveP b u s g r = (itemA b u s != 0 && decide (0 < g) && decide (g < 256) && decide (0 < r)) := rfl
  rw [hal]
  clear hal
  generalize itemA b u s = ia at *
  generalize e0 : (ia != 0) = d0 at *
  generalize e1 : decide (0 < g) = d1 at *
  generalize e2 : decide (g < 256) = d2 at *
  generalize e3 : decide (0 < r) = d3 at *
  cases d0 <;> cases d1 <;> cases d2 <;> cases d3
  all_goals
   go_enter Tryz.func171, Tryz.ntmps171
   go_upto_region 2 with (fail)
   change Code.wp _ _ _ _ ((w.alloc (.cells #[.int .i64 b, .int .i64 u, .int .i64 s] 71)).alloc (.cells (opC 0 false false b u s g r 0) 321))
   generalize (w.alloc (.cells #[.int .i64 b, .int .i64 u, .int .i64 s] 71)).alloc (.cells (opC 0 false false b u s g r 0) 321) = w1 at *
   have c0 := hcell ZS.out 0
   have c1 := hcell ZS.out 1
   have c2 := hcell ZS.out 2
   have hlt : w.heap.size ≤ w.heap.size + 1 := Nat.le_succ _
   generalize w.heap.size + 1 = rb at *
   go_wp2_with (go_at_call 89; refine (hi _).mono ?_; intro e w2 hh; obtain ⟨hh1, b2⟩ := hh; subst hh1; have z2 := (b2.block _ (Array.getElem?_eq_some_iff.1 ZO.out).1).trans ZO.out; have q0 := hcell z2 0; have qf := hfrz z2 0; have Z2 := Lib.hid z2; have B2 := Lib.hid b2; clear b2 hi z2 c0 c1 c2)
   go_ret
   have hB2 := HB.out.trans (B2.out.mono HB.out.size)
   first
     | exact ⟨rb, rfl, Z2.out, hlt, hB2⟩
     | exact ⟨rb, rfl, setCell_same Z2.out 0 _, hlt, set_below hB2 hB2.size hlt 0 _⟩
end Go.Proofs.YtmakjfeepmiggaaGreat
namespace Go.Proofs.YtmakjfeepmiggaaGreat
open Go.RowKit
set_option linter.unusedVariables false
theorem tag_fn (x : Int) (h0 : 0 ≤ x) (h1 : x < 18446744073709551616) (w : World) : Calls Tryz.prog 83 #[.int .u64 x] w fun e w' => e = .returned (.int .i64 (tag01 x)) ∧ w' = w := by
  obtain ⟨q, hq⟩ : ∃ q, q = x / 72057594037927936 := ⟨_, rfl⟩
  have e3 : wrap64 (x / 72057594037927936) = x / 72057594037927936 := IntWalk.wrap64_in _ (by omega)
  by_cases hz : q < 1
  · have ht : Hid (tag01 x = 1) := by show tag01 x = 1; unfold tag01; rw [← hq, if_pos (by omega)]
    have e1 : x / 72057594037927936 < 1 := by omega
    have e2 : decide (x / 72057594037927936 < 1) = true := decide_eq_true e1
    clear hz hq
    go_enter Tryz.func83, Tryz.ntmps83
    go_wp2
    all_goals go_ret
    all_goals exact ⟨ret_i64 (by first | exact ht.out.symm | (rw [ht.out]; omega)), rfl⟩
  · have ht : Hid (tag01 x = x / 72057594037927936) := by show tag01 x = _; unfold tag01; rw [if_neg (by omega)]
    have e1 : ¬ x / 72057594037927936 < 1 := by omega
    have e2 : decide (x / 72057594037927936 < 1) = false := decide_eq_false e1
    clear hq hz
    go_enter Tryz.func83, Tryz.ntmps83
    go_wp2
    all_goals go_ret
    all_goals exact ⟨ret_i64 (by first | exact ht.out.symm | (rw [ht.out]; omega)), rfl⟩
def bk (h b : Int) : Int := h % tsize b
theorem tsize_pos {b : Int} (hb : 1 ≤ b ∧ b ≤ 12) : 2 ≤ tsize b ∧ tsize b ≤ 4096 := by
  rcases twelve hb with rfl | rfl | rfl | rfl | rfl | rfl | rfl | rfl | rfl | rfl | rfl | rfl <;> decide
theorem bk_bd (h b : Int) (hb : 1 ≤ b ∧ b ≤ 12) : 0 ≤ bk h b ∧ bk h b < tsize b := by
  have := tsize_pos hb
  unfold bk; exact ⟨Int.emod_nonneg _ (by omega), Int.emod_lt_of_pos _ (by omega)⟩
theorem bucket_fn (x b : Int) (h0 : 0 ≤ x) (h1 : x < 18446744073709551616) (hb : 1 ≤ b ∧ b ≤ 12) (w : World) : Calls Tryz.prog 108 #[.int .u64 x, .int .i64 b] w fun e w' => e = .returned (.int .i64 (bk x b)) ∧ w' = w := by
  have hs := fun w => size_any b w
  have hp := tsize_pos hb
  have hbd := bk_bd x b hb
  have hm : bits .and .u64 x (tsize b - 1) = bk x b := by
    unfold bk; rw [tsize_in hb]
    rcases twelve hb with rfl | rfl | rfl | rfl | rfl | rfl | rfl | rfl | rfl | rfl | rfl | rfl
    all_goals (first
      | exact mask_u64 x 1 1 rfl (by decide) h0 h1 | exact mask_u64 x 3 2 rfl (by decide) h0 h1 | exact mask_u64 x 7 3 rfl (by decide) h0 h1 | exact mask_u64 x 15 4 rfl (by decide) h0 h1 | exact mask_u64 x 31 5 rfl (by decide) h0 h1 | exact mask_u64 x 63 6 rfl (by decide) h0 h1 | exact mask_u64 x 127 7 rfl (by decide) h0 h1 | exact mask_u64 x 255 8 rfl (by decide) h0 h1 | exact mask_u64 x 511 9 rfl (by decide) h0 h1 | exact mask_u64 x 1023 10 rfl (by decide) h0 h1 | exact mask_u64 x 2047 11 rfl (by decide) h0 h1 | exact mask_u64 x 4095 12 rfl (by decide) h0 h1)
  generalize bk x b = B at *
  generalize tsize b = S at *
  have e0 : decide (0 < S) = true := decide_eq_true (by omega)
  obtain ⟨S1, hS1⟩ : ∃ S1, S1 = S - 1 := ⟨_, rfl⟩
  rw [← hS1] at hm
  have e1 : wrap64 (S - 1) = S1 := by rw [hS1]; exact IntWalk.wrap64_in _ (by omega)
  have e2 : IntKind.u64.wrap S1 = S1 := by rw [IntKind.wrap_u64]; omega
  have e3 : wrap64 B = B := IntWalk.wrap64_in _ (by omega)
  clear hS1 hbd hp hb
  go_enter Tryz.func108, Tryz.ntmps108
  go_wp2_with (go_at_call 49; refine (hs _).mono ?_; rintro e w1 ⟨rfl, rfl⟩)
  go_ret
  exact ⟨ret_i64 e3, rfl⟩
def oth (k t b : Int) : Int := bits .xor .i64 k (bits .and .i64 (t * 1540483477) (tsize b - 1))
theorem tag01_bd (x : Int) (h0 : 0 ≤ x) (h1 : x < 18446744073709551616) : 1 ≤ tag01 x ∧ tag01 x ≤ 255 := by
  unfold tag01; split <;> omega
theorem other_fn (k t b : Int) (hb : 1 ≤ b ∧ b ≤ 12) (hk : 0 ≤ k ∧ k < tsize b) (ht : 1 ≤ t ∧ t ≤ 255) (w : World) : Calls Tryz.prog 65 #[.int .i64 k, .int .i64 t, .int .i64 b] w fun e w' => e = .returned (.int .i64 (oth k t b)) ∧ w' = w := by
  have hs := fun w => size_any b w
  have hp := tsize_pos hb
  unfold oth
  generalize tsize b = S at *
  have e0 : decide (k < 0) = false := decide_eq_false (by omega)
  have e1 : decide (S ≤ k) = false := decide_eq_false (by omega)
  have e2 : decide (t < 1) = false := decide_eq_false (by omega)
  have e3 : decide (255 < t) = false := decide_eq_false (by omega)
  obtain ⟨S1, hS1⟩ : ∃ S1, S1 = S - 1 := ⟨_, rfl⟩
  have e4 : wrap64 (S - 1) = S1 := by rw [hS1]; exact IntWalk.wrap64_in _ (by omega)
  obtain ⟨t1, ht1⟩ : ∃ t1, t1 = t * 1540483477 := ⟨_, rfl⟩
  have e5 : wrap64 (t * 1540483477) = t1 := by rw [ht1]; exact IntWalk.wrap64_in _ (by omega)
  rw [← hS1, ← ht1]
  clear hS1 ht1 hp hb hk ht
  go_enter Tryz.func65, Tryz.ntmps65
  go_wp2_with (go_at_call 49; refine (hs _).mono ?_; rintro e w1 ⟨rfl, rfl⟩)
  go_ret
  exact ⟨rfl, rfl⟩
end Go.Proofs.YtmakjfeepmiggaaGreat
namespace Go.Proofs.YtmakjfeepmiggaaGreat
open Go.RowKit
set_option linter.unusedVariables false
def PlN (w : World) (base : Nat) (v : Value) (l : List (Int × Int)) : Prop :=
  (v = .slice none 0 0 ∧ l = []) ∨ ∃ g cur, v = .slice (some ⟨g, 0, none⟩) l.length l.length ∧ base ≤ g ∧ w.heap[g]? = some (.cells cur 69 (0, 0)) ∧ l.length ≤ maxLen ∧ cur.toList.take (l.length * 2) = flatP l
theorem PlN.below {w w' : World} {base : Nat} {v : Value} {l : List (Int × Int)} (h : PlN w base v l) (hb : Below w.heap.size w w') : PlN w' base v l := by
  rcases h with h | ⟨g, cur, h1, h2, h3, h4⟩
  · exact .inl h
  · exact .inr ⟨g, cur, h1, h2, (hb.block _ (Array.getElem?_eq_some_iff.1 h3).1).trans h3, h4⟩
end Go.Proofs.YtmakjfeepmiggaaGreat
namespace Go.Proofs.YtmakjfeepmiggaaGreat
open Go.RowKit
set_option linter.unusedVariables false
theorem rbucket_eq (x b : Int) (h0 : 0 ≤ x) (h1 : x < 18446744073709551616) (hb : 1 ≤ b ∧ b ≤ 12) (w : World) : Calls Tryz.prog 110 #[.int .u64 x, .int .i64 b] w fun e w' => e = .returned (.int .i64 (bk x b)) ∧ w' = w := by
  have hp := tsize_pos hb
  have hs := rsize_any b
  unfold bk
  generalize tsize b = t at *
  have e0 : (t == 0) = false := beq_eq_false_iff_ne.2 (by omega)
  have e00 : ¬ t = 0 := by omega
  have e1 : IntKind.u64.wrap t = t := by rw [IntKind.wrap_u64]; omega
  obtain ⟨R, hR⟩ : ∃ R, R = x % t := ⟨_, rfl⟩
  have hRb : 0 ≤ R ∧ R < t := by rw [hR]; exact ⟨Int.emod_nonneg _ (by omega), Int.emod_lt_of_pos _ (by omega)⟩
  have e2 : x.tmod t = R := by rw [hR]; exact Int.tmod_eq_emod_of_nonneg h0
  have e3 : x % t = R := hR.symm
  have e4 : wrap64 R = R := IntWalk.wrap64_in _ (by omega)
  have e5 : IntKind.u64.wrap R = R := by rw [IntKind.wrap_u64]; omega
  rw [e3]
  have ht1 : 1 ≤ t := by omega
  clear hR hRb hp hb
  go_enter Tryz.func110, Tryz.ntmps110
  go_wp2_with (go_at_call 51; refine (hs _).mono ?_; rintro e w1 ⟨rfl, rfl⟩)
  go_ret
  first | exact ⟨rfl, rfl⟩ | exact ⟨ret_i64 (by first | exact e4 | (rw [e3]; exact e4) | (rw [e2]; exact e4)), rfl⟩
theorem mask_i64 (x : Int) (m k : Nat) (hm : m = 2 ^ k - 1) (hk : k ≤ 62) (h0 : 0 ≤ x) (h1 : x < 9223372036854775808) : bits .and .i64 x (m : Int) = x % ((2 ^ k : Nat) : Int) := by
  have hp : (2 : Nat) ^ k ≤ 2 ^ 62 := Nat.pow_le_pow_right (by decide) hk
  have hp0 : 0 < (2 : Nat) ^ k := Nat.two_pow_pos k
  have hmm : (BitVec.ofInt 64 (m : Int)).toNat = 2 ^ k - 1 := by
    rw [BitVec.toNat_ofInt]; omega
  have key : (BitVec.ofInt 64 x &&& BitVec.ofInt 64 (m : Int)).toNat = (x % ((2 ^ 64 : Nat) : Int)).toNat % 2 ^ k := by
    rw [BitVec.toNat_and, BitVec.toNat_ofInt, hmm, Nat.and_two_pow_sub_one_eq_mod]
  show IntKind.i64.wrap ((BitVec.ofInt 64 x &&& BitVec.ofInt 64 (m : Int)).toNat : Nat) = _
  rw [key, IntKind.wrap_i64]
  obtain ⟨n, rfl⟩ := Int.eq_ofNat_of_zero_le h0
  have e : ((n : Int) % ((2 ^ 64 : Nat) : Int)).toNat = n := by omega
  rw [e]
  have hlt := Nat.mod_lt n hp0
  rw [← Int.natCast_emod]
  omega
theorem mask_mod (m b : Int) (hm : 0 ≤ m) (hm2 : m < 9223372036854775808) (hb : 1 ≤ b ∧ b ≤ 12) : bits .and .i64 m (tsize b - 1) = m % tsize b := by
  rw [tsize_in hb]
  rcases twelve hb with rfl | rfl | rfl | rfl | rfl | rfl | rfl | rfl | rfl | rfl | rfl | rfl
  all_goals (first
    | exact mask_i64 m 1 1 rfl (by decide) hm hm2 | exact mask_i64 m 3 2 rfl (by decide) hm hm2 | exact mask_i64 m 7 3 rfl (by decide) hm hm2 | exact mask_i64 m 15 4 rfl (by decide) hm hm2 | exact mask_i64 m 31 5 rfl (by decide) hm hm2 | exact mask_i64 m 63 6 rfl (by decide) hm hm2 | exact mask_i64 m 127 7 rfl (by decide) hm hm2 | exact mask_i64 m 255 8 rfl (by decide) hm hm2 | exact mask_i64 m 511 9 rfl (by decide) hm hm2 | exact mask_i64 m 1023 10 rfl (by decide) hm hm2 | exact mask_i64 m 2047 11 rfl (by decide) hm hm2 | exact mask_i64 m 4095 12 rfl (by decide) hm hm2)
theorem oth_eq (k t b : Int) (hb : 1 ≤ b ∧ b ≤ 12) (hk : 0 ≤ k ∧ k < tsize b) (ht : 1 ≤ t ∧ t ≤ 255) : oth01 k t b = oth k t b := by
  unfold oth01 oth
  rw [if_neg (by omega), mask_mod _ _ (by omega) (by omega) hb]
end Go.Proofs.YtmakjfeepmiggaaGreat