/-
  Texts of this prover, merged: Look, LookDo, LookPl, LookStp, LookVer, LookTag, LookItm, LookFst, LookRun, LookOk, LookIter.
-/
import Derived.Test.YtmakjfeepmiggaaGreatK1
import Derived.Test.YtmakjfeepmiggaaGreatP1
import Derived.Test.YtmakjfeepmiggaaGreatStripes
import Derived.Laws.EntriesVeiled
import Derived.OwnWalk
import Derived.Deep.RegionHeld2
import Derived.Deep.CutBlock
import Derived.Deep.AppendLies
/-
  A Look: what lies in memory; what is told of it.
-/
namespace Go.Proofs.YtmakjfeepmiggaaGreat
open Go.RowKit Go.Maps TagPure
set_option linter.unusedVariables false

/-- What comes next. -/
inductive LPh where
  | fst | snd | thd | tag | itm | fif | six | off
deriving DecidableEq
def LPh.fn : LPh → Value
  | .fst => .func (.func 97) #[] #[]
  | .snd => .func (.func 158) #[] #[]
  | .thd => .func (.func 200) #[] #[]
  | .tag => .func (.func 225) #[] #[]
  | .itm => .func (.func 248) #[] #[]
  | .fif => .func (.func 249) #[] #[]
  | .six => .func (.func 254) #[] #[]
  | .off => .nilFunc
/-- A Look's words. -/
structure LK where
  key : ByteArray
  h : Int
  left : Int
  ph : LPh
  tab : Int
  all : List (Int × Int)
  vs : List (Int × Int)
  at_ : Nat
  sl : List Nat
  ref : Int
  ep : Int
  pt : Int
  bad : Bool
  vb : Nat
def LK.cells (x : LK) (va vv vs : Value) : Array Value := #[.string x.key, .int .u64 x.h, .int .i64 x.left, x.ph.fn, .int .u64 x.tab, va, vv, .int .i64 x.at_, vs, .int .i64 x.ref, .int .u64 x.ep, .int .i64 x.pt, .bool x.bad]
def flatU (l : List (Int × Int)) : List Value := l.flatMap fun p => [.int .u64 p.1, .int .u64 p.2]
/-- The slots that are still to be looked at. -/
def SlR (w : World) (v : Value) (N : List Nat) : Prop :=
  (N = [] ∧ ∃ ao c, v = .slice ao 0 c ∧ c ≤ maxLen) ∨ ∃ g off cap cur, v = .slice (some ⟨g, off, none⟩) N.length cap ∧ N.length ≤ cap ∧ cap ≤ maxLen ∧ w.heap[g]? = some (.cells cur 3 (0, 0)) ∧ ∀ i, (hi : i < N.length) → cur[off + i]? = some (.int .i64 (N[i] : Nat))
/-- The block of the versions; the Look's own number, where there is none. -/
def VbOk (v : Value) (vb fb : Nat) : Prop := v.ownBlock = some vb ∨ (v.ownBlock = none ∧ vb = fb)
structure LookAt (w : World) (lo fb : Nat) (x : LK) : Prop where
  low : lo ≤ fb
  ex : ∃ va vv vs, w.heap[fb]? = some (.cells (x.cells va vv vs) 199 (0, 0)) ∧ PlN w 0 va x.all ∧ w.ownsRow lo 269 2 vv x.vs.length (flatU x.vs) ∧ SlR w vs x.sl ∧ VbOk vv x.vb fb
def lTy (T : TypeId) : Bool := T == 199 || T == 269 || T == 69 || T == 3
section
variable {w w' : World} {lo fb : Nat} {x : LK}
theorem PlN.fr {b : Nat} {v : Value} {l : List (Int × Int)} {K : TypeId → Bool} {mp : Bool} (h : PlN w b v l) (hf : Fr K mp w w') (hK : K 69 = false) : PlN w' b v l := by
  rcases h with h | ⟨g, cur, h1, h2, h3, h4⟩
  · exact .inl h
  · exact .inr ⟨g, cur, h1, h2, hf.cells _ _ _ _ h3 hK, h4⟩
theorem PlN.low {b c : Nat} {v : Value} {l : List (Int × Int)} (h : PlN w b v l) (hc : c ≤ b) : PlN w c v l := by
  rcases h with h | ⟨g, cur, h1, h2, h3⟩
  · exact .inl h
  · exact .inr ⟨g, cur, h1, Nat.le_trans hc h2, h3⟩
theorem SlR.fr {v : Value} {N : List Nat} {K : TypeId → Bool} {mp : Bool} (h : SlR w v N) (hf : Fr K mp w w') (hK : K 3 = false) : SlR w' v N := by
  rcases h with h | ⟨g, off, cap, cur, h1, h2, h3, h4, h5⟩
  · exact .inl h
  · exact .inr ⟨g, off, cap, cur, h1, h2, h3, hf.cells _ _ _ _ h4 hK, h5⟩
theorem LookAt.fr {K : TypeId → Bool} {mp : Bool} (h : LookAt w lo fb x) (hf : Fr K mp w w') (hK : ∀ T, lTy T = true → K T = false) : LookAt w' lo fb x := by
  obtain ⟨h0, va, vv, vs, h1, h2, h3, h4, h5⟩ := h
  exact ⟨h0, va, vv, vs, hf.cells _ _ _ _ h1 (hK _ rfl), h2.fr hf (hK _ rfl), own_fr h3 hf (hK _ rfl), h4.fr hf (hK _ rfl), h5⟩
theorem LookAt.below (h : LookAt w lo fb x) (hb : Below w.heap.size w w') : LookAt w' lo fb x := h.fr (below_fr hb (fun _ => false) false) (fun _ _ => rfl)
theorem LookAt.lt (h : LookAt w lo fb x) : fb < w.heap.size := by obtain ⟨_, va, vv, vs, h1, _⟩ := h; exact (Array.getElem?_eq_some_iff.1 h1).1
theorem w_not_l (T : TypeId) (h : lTy T = true) : wTy T = false := by
  unfold lTy at h
  simp only [Bool.or_eq_true, beq_iff_eq] at h
  rcases h with ((rfl | rfl) | rfl) | rfl <;> rfl
end
theorem lk_cells {W : World} {q : Nat} {x : LK} {va vv vs : Value} (z : W.heap[q]? = some (.cells (x.cells va vv vs) 199 (0, 0))) :
    W.cell? ⟨q, 0, none⟩ = some (.string x.key) ∧ W.cell? ⟨q, 1, none⟩ = some (.int .u64 x.h) ∧ W.cell? ⟨q, 2, none⟩ = some (.int .i64 x.left) ∧ W.cell? ⟨q, 3, none⟩ = some x.ph.fn ∧ W.cell? ⟨q, 4, none⟩ = some (.int .u64 x.tab) ∧ W.cell? ⟨q, 5, none⟩ = some va ∧ W.cell? ⟨q, 6, none⟩ = some vv ∧ W.cell? ⟨q, 7, none⟩ = some (.int .i64 x.at_) ∧
    W.cell? ⟨q, 8, none⟩ = some vs ∧ W.cell? ⟨q, 9, none⟩ = some (.int .i64 x.ref) ∧ W.cell? ⟨q, 10, none⟩ = some (.int .u64 x.ep) ∧ W.cell? ⟨q, 11, none⟩ = some (.int .i64 x.pt) ∧ W.cell? ⟨q, 12, none⟩ = some (.bool x.bad) :=
  ⟨hcell z 0, hcell z 1, hcell z 2, hcell z 3, hcell z 4, hcell z 5, hcell z 6, hcell z 7, hcell z 8, hcell z 9, hcell z 10, hcell z 11, hcell z 12⟩
theorem fn_eql (p : LPh) (W : World) : Sem.run Tryz.prog (binOp BinOp.eql 195 p.fn Value.nilFunc) W = .ok (.bool (decide (p = .off))) W := by cases p <;> kernel_rfl
theorem fn_neq (p : LPh) (W : World) : Sem.run Tryz.prog (binOp BinOp.neq 195 p.fn Value.nilFunc) W = .ok (.bool (!decide (p = .off))) W := by cases p <;> kernel_rfl
/-- Is it over? -/
theorem lover {w : World} {lo fb : Nat} {x : LK} (h : LookAt w lo fb x) : Calls Tryz.prog 99 #[.pointer (some ⟨fb, 0, none⟩)] w fun e w' => e = .returned (.bool (decide (x.ph = .off))) ∧ w' = w := by
  obtain ⟨_, va, vv, vs, h1, -⟩ := h
  obtain ⟨-, -, -, c3, -⟩ := lk_cells h1
  have hrun := fn_eql x.ph w
  clear h1
  generalize x.ph = q at *
  generalize hd : decide (q = .off) = d at *
  cases q
  all_goals
    simp only [LPh.fn] at c3 hrun
    clear hd
    go_enter Tryz.func99, Tryz.ntmps99
    go_wp2
    go_ret
    exact ⟨rfl, rfl⟩
theorem lover_nil (w : World) : Calls Tryz.prog 99 #[.pointer none] w fun e w' => e = .returned (.bool true) ∧ w' = w := by
  go_enter Tryz.func99, Tryz.ntmps99
  go_wp2
  go_ret
  exact ⟨rfl, rfl⟩
theorem lfails {w : World} {lo fb : Nat} {x : LK} (h : LookAt w lo fb x) : Calls Tryz.prog 96 #[.pointer (some ⟨fb, 0, none⟩)] w fun e w' => e = .returned (.bool x.bad) ∧ w' = w := by
  obtain ⟨_, va, vv, vs, h1, -⟩ := h
  obtain ⟨-, -, -, -, -, -, -, -, -, -, -, -, c12⟩ := lk_cells h1
  clear h1
  generalize x.bad = b at *
  go_enter Tryz.func96, Tryz.ntmps96
  go_wp2
  go_ret
  exact ⟨rfl, rfl⟩
theorem lfails_nil (w : World) : Calls Tryz.prog 96 #[.pointer none] w fun e w' => e = .returned (.bool false) ∧ w' = w := by
  go_enter Tryz.func96, Tryz.ntmps96
  go_wp2
  go_ret
  exact ⟨rfl, rfl⟩
theorem lstep_nil (u : Value) (w : World) : Calls Tryz.prog 31 #[.pointer none, u] w fun e w' => e = .returned (.bool true) ∧ w' = w := by
  go_enter Tryz.func31, Tryz.ntmps31
  go_wp2_with (go_at_call 99; refine (lover_nil _).mono ?_; intro e w2 hh; obtain ⟨hh1, hh2⟩ := hh; subst hh1; obtain rfl := hh2.symm)
  go_ret
  exact ⟨rfl, rfl⟩
theorem lstep_over {w : World} {lo fb : Nat} {x : LK} (h : LookAt w lo fb x) (hp : x.ph = .off) (u : Value) : Calls Tryz.prog 31 #[.pointer (some ⟨fb, 0, none⟩), u] w fun e w' => e = .returned (.bool true) ∧ w' = w := by
  have ho := lover h
  rw [decide_eq_true hp] at ho
  clear h hp
  go_enter Tryz.func31, Tryz.ntmps31
  go_wp2_with (go_at_call 99; refine ho.mono ?_; intro e w2 hh; obtain ⟨hh1, hh2⟩ := hh; subst hh1; obtain rfl := hh2.symm)
  go_ret
  exact ⟨rfl, rfl⟩
theorem lstep_no {w : World} {lo fb : Nat} {x : LK} (h : LookAt w lo fb x) (hp : x.ph ≠ .off) : Calls Tryz.prog 31 #[.pointer (some ⟨fb, 0, none⟩), .pointer none] w fun e w' => e = .returned (.bool false) ∧ w' = w := by
  have ho := lover h
  rw [decide_eq_false hp] at ho
  clear h hp
  go_enter Tryz.func31, Tryz.ntmps31
  go_wp2_with (go_at_call 99; refine ho.mono ?_; intro e w2 hh; obtain ⟨hh1, hh2⟩ := hh; subst hh1; obtain rfl := hh2.symm)
  go_ret
  exact ⟨rfl, rfl⟩
/-- What is told at the end. -/
def LK.got (x : LK) : Int × Int × Int := if x.ph = .off ∧ x.bad = false then (x.ref, x.ep, x.pt) else (0, 0, 0)
theorem lgot {w : World} {lo fb : Nat} {x : LK} (h : LookAt w lo fb x) : Calls Tryz.prog 95 #[.pointer (some ⟨fb, 0, none⟩)] w fun e w' => e = .returned (.tuple #[.int .i64 x.got.1, .int .u64 x.got.2.1, .int .i64 x.got.2.2]) ∧ Below w.heap.size w w' := by
  obtain ⟨_, va, vv, vs, h1, -⟩ := h
  obtain ⟨-, -, -, c3, -, -, -, -, -, c9, c10, c11, c12⟩ := lk_cells h1
  have hrun := fn_neq x.ph w
  have hg : x.got = if x.ph = .off ∧ x.bad = false then (x.ref, x.ep, x.pt) else (0, 0, 0) := rfl
  rw [hg]
  clear h1 hg
  generalize x.bad = b at *
  generalize x.ph = q at *
  have F : q ≠ .off → (if q = .off ∧ b = false then (x.ref, x.ep, x.pt) else (0, 0, 0)) = (0, 0, 0) := fun h => if_neg fun c => h c.1
  cases q
  case off =>
    clear F
    simp only [LPh.fn] at c3 hrun
    rw [show (!decide True) = false from rfl] at hrun
    cases b
    · rw [show (if LPh.off = LPh.off ∧ false = false then (x.ref, x.ep, x.pt) else (0, 0, 0)) = (x.ref, x.ep, x.pt) from if_pos ⟨rfl, rfl⟩]
      go_enter Tryz.func95, Tryz.ntmps95
      go_upto_region 3 with (fail)
      have x1 := fun st : ExtW w => st.cell c9
      have x2 := fun st : ExtW w => st.cell c10
      have x3 := fun st : ExtW w => st.cell c11
      refine wp_region_ext (by kernel_rfl) (by kernel_rfl) ?_
      repeat (go_big_quiet_step (fail))
      refine wpQuiet_nil ?_
      rintro W ⟨⟨W2, hW⟩, rfl⟩
      clear x1 x2 x3
      go_wp2
      go_ret3
      exact ⟨rfl, hW⟩
    · rw [show (if LPh.off = LPh.off ∧ true = false then (x.ref, x.ep, x.pt) else (0, 0, 0)) = (0, 0, 0) from if_neg (fun c => by cases c.2)]
      go_enter Tryz.func95, Tryz.ntmps95
      go_wp2
      go_ret3
      exact ⟨rfl, Below.refl _ _⟩
  all_goals
    rw [F (by decide)]
    clear F c9 c10 c11 c12
    simp only [LPh.fn] at c3 hrun
    simp only [reduceCtorEq, decide_false, Bool.not_false] at hrun
    go_enter Tryz.func95, Tryz.ntmps95
    go_wp2
    go_ret3
    exact ⟨rfl, Below.refl _ _⟩
theorem lgot_nil (w : World) : Calls Tryz.prog 95 #[.pointer none] w fun e w' => e = .returned (.tuple #[.int .i64 0, .int .u64 0, .int .i64 0]) ∧ w' = w := by
  go_enter Tryz.func95, Tryz.ntmps95
  go_wp2
  go_ret3
  exact ⟨rfl, rfl⟩
theorem newlook (key : ByteArray) (hk : key.size ≤ 1000000) (n m : Int) (hm : m = if n < 0 then 0 else n) (w : World) : Calls Tryz.prog 25 #[.string key, .int .i64 n] w fun e w' => ∃ fb, e = .returned (.pointer (some ⟨fb, 0, none⟩)) ∧ LookAt w' w.heap.size fb ⟨key, hashOf key, m, .fst, 0, [], [], 0, [], 0, 0, 0, false, fb⟩ ∧ Below w.heap.size w w' := by
  have hh := fun W => hash_any key hk W
  have HM := Lib.hid hm
  have fin : Hid (∀ w2, Below w.heap.size w w2 → LookAt (w2.alloc (.cells #[.string key, .int .u64 (hashOf key), .int .i64 m, .func (.func 97) #[] #[], .int .u64 0, .slice none 0 0, .slice none 0 0, .int .i64 0, .slice none 0 0, .int .i64 0, .int .u64 0, .int .i64 0, .bool false] 199)) w.heap.size w2.heap.size ⟨key, hashOf key, m, .fst, 0, [], [], 0, [], 0, 0, 0, false, w2.heap.size⟩ ∧ Below w.heap.size w (w2.alloc (.cells #[.string key, .int .u64 (hashOf key), .int .i64 m, .func (.func 97) #[] #[], .int .u64 0, .slice none 0 0, .slice none 0 0, .int .i64 0, .slice none 0 0, .int .i64 0, .int .u64 0, .int .i64 0, .bool false] 199))) := fun w2 b2 =>
    ⟨⟨b2.size, _, _, _, heap_alloc_new w2 _, .inl ⟨rfl, rfl⟩, World.ownsRow_nil _ _ _ _, .inl ⟨rfl, _, _, rfl, Nat.zero_le _⟩, .inr ⟨rfl, rfl⟩⟩, bnext b2 (below_alloc _ _)⟩
  by_cases hn : n < 0
  · rw [if_pos hn] at hm
    have h0 : n ≤ 0 := by omega
    clear hm
    have E : Hid (m = 0) := by show m = 0; rw [HM.out, if_pos hn]
    go_enter Tryz.func25, Tryz.ntmps25
    go_wp2_with (go_at_call 80; refine (hh _).mono ?_; intro e w2 hh; obtain ⟨hh1, b2⟩ := hh; subst hh1; have B2 := Lib.hid b2; clear b2 hh)
    go_ret
    (try rw [show max n 0 = 0 by omega])
    have := fin.out w2 B2.out
    rw [E.out] at this ⊢
    exact ⟨_, rfl, this.1, this.2⟩
  · rw [if_neg hn] at hm
    have h0 : 0 ≤ n := by omega
    clear hm
    have E : Hid (m = n) := by show m = n; rw [HM.out, if_neg hn]
    go_enter Tryz.func25, Tryz.ntmps25
    go_wp2_with (go_at_call 80; refine (hh _).mono ?_; intro e w2 hh; obtain ⟨hh1, b2⟩ := hh; subst hh1; have B2 := Lib.hid b2; clear b2 hh)
    go_ret
    (try rw [show max n 0 = n by omega])
    have := fin.out w2 B2.out
    rw [E.out] at this ⊢
    exact ⟨_, rfl, this.1, this.2⟩
end Go.Proofs.YtmakjfeepmiggaaGreat

/-
  A Look: all begins anew; on to the next slot.
-/
namespace Go.Proofs.YtmakjfeepmiggaaGreat
open Go.RowKit Go.Maps TagPure
set_option linter.unusedVariables false

/-- A Look and its world, the Look's cells apart. -/
structure LR (w0 w : World) (B : WB) (V : WV) (s : CS) (fb : Nat) (cs : Array Value) (va vv vs : Value) (al ve : List (Int × Int)) (sl : List Nat) (vb : Nat) : Prop where
  ws : WS w0 w B V s
  lo : w0.heap.size ≤ fb
  z : w.heap[fb]? = some (.cells cs 199 (0, 0))
  pl : PlN w 0 va al
  vr : w.ownsRow w0.heap.size 269 2 vv ve.length (flatU ve)
  sr : SlR w vs sl
  ob : VbOk vv vb fb
section
variable {w0 w w' : World} {B : WB} {V V' : WV} {s s' : CS} {fb : Nat} {cs : Array Value} {va vv vs : Value} {al ve : List (Int × Int)} {sl : List Nat} {vb : Nat} {x : LK}
theorem LR.of (h : WS w0 w B V s) (hx : LookAt w w0.heap.size fb x) : ∃ va vv vs, LR w0 w B V s fb (x.cells va vv vs) va vv vs x.all x.vs x.sl x.vb := by
  obtain ⟨h0, va, vv, vs, h1, h2, h3, h4, h5⟩ := hx
  exact ⟨va, vv, vs, h, h0, h1, h2, h3, h4, h5⟩
theorem LR.look (h : LR w0 w B V s fb (x.cells va vv vs) va vv vs x.all x.vs x.sl x.vb) : LookAt w w0.heap.size fb x := ⟨h.lo, va, vv, vs, h.z, h.pl, h.vr, h.sr, h.ob⟩
theorem LR.set (h : LR w0 w B V s fb cs va vv vs al ve sl vb) (o : Nat) (v : Value) : LR w0 (w.setCell ⟨fb, o, none⟩ v) B V s fb (cs.setIfInBounds o v) va vv vs al ve sl vb :=
  ⟨set_take (o := o) h.ws h.z rfl h.lo v, h.lo, setCell_same h.z o v, h.pl.fr (set_ty h.z o v) rfl, own_fr h.vr (set_ty h.z o v) rfl, h.sr.fr (set_ty h.z o v) rfl, h.ob⟩
theorem LR.below (h : LR w0 w B V s fb cs va vv vs al ve sl vb) (hb : Below w.heap.size w w') : LR w0 w' B V s fb cs va vv vs al ve sl vb :=
  ⟨h.ws.keep hb, h.lo, (hb.block _ (Array.getElem?_eq_some_iff.1 h.z).1).trans h.z, h.pl.fr (below_fr hb (fun _ => false) false) rfl, own_fr h.vr (below_fr hb (fun _ => false) false) rfl, h.sr.fr (below_fr hb (fun _ => false) false) rfl, h.ob⟩
theorem LR.move (h : LR w0 w B V s fb cs va vv vs al ve sl vb) (h2 : WS w0 w' B V' s') (hf : Fr wTy true w w') : LR w0 w' B V' s' fb cs va vv vs al ve sl vb :=
  ⟨h2, h.lo, hf.cells _ _ _ _ h.z rfl, h.pl.fr hf rfl, own_fr h.vr hf rfl, h.sr.fr hf rfl, h.ob⟩
theorem LR.c (h : LR w0 w B V s fb cs va vv vs al ve sl vb) (o : Nat) : w.cell? ⟨fb, o, none⟩ = cs[o]? := hcell h.z o
theorem LR.f (h : LR w0 w B V s fb cs va vv vs al ve sl vb) (o : Nat) : w.frozen? ⟨fb, o, none⟩ = false := hfrz h.z o
end
set_option maxRecDepth 10000 in
/-- No try is left. -/
theorem lagain0 {w0 w : World} {B : WB} {V : WV} {s : CS} {fb : Nat} {x : LK} (h : WS w0 w B V s) (hx : LookAt w w0.heap.size fb x) (hl : x.left = 0) (u : Value) :
    Calls Tryz.prog 199 #[.pointer (some ⟨fb, 0, none⟩), u] w fun e w' => e = .returned (.tuple #[]) ∧ WS w0 w' B V s ∧ LookAt w' w0.heap.size fb { x with ph := .off, bad := true } ∧ Fx wTy true fb w w' := by
  obtain ⟨va, vv, vs, L⟩ := LR.of h hx
  have c2 : w.cell? ⟨fb, 2, none⟩ = some (.int .i64 0) := by rw [← hl]; exact L.c 2
  have c3 : w.cell? ⟨fb, 3, none⟩ = some x.ph.fn := L.c 3
  have c12 : w.cell? ⟨fb, 12, none⟩ = some (.bool x.bad) := L.c 12
  have f3 := L.f 3; have f12 := L.f 12
  have HL := Lib.hid L
  clear h hx L hl
  generalize x.ph.fn = F at c3
  go_enter Tryz.func199, Tryz.ntmps199
  go_wp2
  refine bodyPost_ret (v := .tuple #[]) (by simp [results, Tryz.results199, go_sem]) rfl ?_
  have L2 := (HL.out.set 3 .nilFunc).set 12 (.bool true)
  exact ⟨rfl, L2.ws, LR.look (x := { x with ph := .off, bad := true }) L2, (set_fx _ _ _ _ _ _).trans (set_fx _ _ _ _ _ _)⟩
set_option maxRecDepth 10000 in
/-- A try is left: it is noted. -/
theorem lagain1 {w0 w : World} {B : WB} {V : WV} {s : CS} {fb : Nat} {x : LK} (h : WS w0 w B V s) (hx : LookAt w w0.heap.size fb x) (hl : 0 < x.left ∧ x.left < 9223372036854775808) (hn : V.nts.length < 1048576) (hs : Nsteps V.nts s.cnt) :
    Calls Tryz.prog 199 #[.pointer (some ⟨fb, 0, none⟩), .pointer (some ⟨B.wb, 0, none⟩)] w fun e w' => e = .returned (.tuple #[]) ∧ WS w0 w' B { V with nts := nadd V.nts ⟨s.cnt, V.hd, 6, 0, 0, 0, 0, x.left - 1⟩ } s ∧ LookAt w' w0.heap.size fb { x with ph := .fst, left := x.left - 1 } ∧ Fx wTy true fb w w' := by
  obtain ⟨va, vv, vs, L⟩ := LR.of h hx
  obtain ⟨lf, hlf⟩ : ∃ lf, lf = x.left := ⟨_, rfl⟩
  have c2 : w.cell? ⟨fb, 2, none⟩ = some (.int .i64 lf) := by rw [hlf]; exact L.c 2
  have c3 : w.cell? ⟨fb, 3, none⟩ = some x.ph.fn := L.c 3
  have f3 := L.f 3; have f2 := L.f 2
  rw [← hlf] at hl
  have l1 : (lf == 0) = false := beq_eq_false_iff_ne.2 (by omega)
  obtain ⟨lg, hlg⟩ : ∃ lg, lg = lf - 1 := ⟨_, rfl⟩
  have l2 : wrap64 (lf - 1) = lg := by rw [hlg]; exact IntWalk.wrap64_in _ (by omega)
  have L2 := (L.set 2 (.int .i64 lg)).set 3 (.func (.func 97) #[] #[])
  have hnt := wnote_any L2.ws 6 0 0 0 0 lg hn (by decide) hs
  have HL := Lib.hid L2; have HLF := Lib.hid hlf; have HLG := Lib.hid hlg
  clear h hx L L2 hl hn hs hlf hlg
  generalize x.ph.fn = F at c3
  go_enter Tryz.func199, Tryz.ntmps199
  go_wp2_with (go_at_call 212; refine hnt.mono ?_; intro e w3 hh; obtain ⟨hh1, h3, f3⟩ := hh; subst hh1; have H3 := Lib.hid h3; have F3 := Lib.hid f3; clear h3 f3 hnt)
  go_end0
  have L3 := HL.out.move H3.out F3.out
  rw [← HLF.out, ← HLG.out]
  exact ⟨rfl, L3.ws, LR.look (x := { x with ph := .fst, left := lg }) L3, ((set_fx _ _ _ _ _ _).trans (set_fx _ _ _ _ _ _)).trans (F3.out.fx fb)⟩
theorem SlR.sl' {w : World} {v : Value} {N : List Nat} (h : SlR w v N) : ∃ ao c, v = .slice ao N.length c ∧ N.length ≤ maxLen := by
  rcases h with ⟨rfl, ao, c, rfl, hc⟩ | ⟨g, off, cap, cur, rfl, h1, h2, -⟩
  · exact ⟨ao, c, rfl, Nat.zero_le _⟩
  · exact ⟨_, _, rfl, Nat.le_trans h1 h2⟩
theorem PlN.sl' {w : World} {b : Nat} {v : Value} {l : List (Int × Int)} (h : PlN w b v l) : ∃ ao, v = .slice ao l.length l.length := by
  rcases h with ⟨rfl, rfl⟩ | ⟨g, cur, rfl, -⟩
  · exact ⟨none, rfl⟩
  · exact ⟨_, rfl⟩
/-- On to the next slot, the next place, or the check. -/
def LK.on (x : LK) : LK := if x.sl = [] then (if x.at_ + 1 < x.all.length then { x with at_ := x.at_ + 1, ph := .tag } else { x with ph := .fif }) else { x with ph := .itm }
set_option maxRecDepth 10000 in
theorem lon {w0 w : World} {B : WB} {V : WV} {s : CS} {fb : Nat} {x : LK} (h : WS w0 w B V s) (hx : LookAt w w0.heap.size fb x) (ha : x.at_ ≤ 1000) (hal : x.all.length ≤ 1000) :
    Calls Tryz.prog 240 #[.pointer (some ⟨fb, 0, none⟩)] w fun e w' => e = .returned (.tuple #[]) ∧ WS w0 w' B V s ∧ LookAt w' w0.heap.size fb x.on ∧ Fx wTy true fb w w' := by
  obtain ⟨va, vv, vs, L⟩ := LR.of h hx
  have c3 : w.cell? ⟨fb, 3, none⟩ = some x.ph.fn := L.c 3
  have c5 : w.cell? ⟨fb, 5, none⟩ = some va := L.c 5
  have c7 : w.cell? ⟨fb, 7, none⟩ = some (.int .i64 x.at_) := L.c 7
  have c8 : w.cell? ⟨fb, 8, none⟩ = some vs := L.c 8
  have f3 := L.f 3; have f7 := L.f 7
  obtain ⟨ao, ho⟩ := L.pl.sl'
  obtain ⟨so, sc, hso, hsm⟩ := L.sr.sl'
  rw [ho] at c5
  rw [hso] at c8
  have HL := Lib.hid L
  have E : x.on = if x.sl = [] then (if x.at_ + 1 < x.all.length then { x with at_ := x.at_ + 1, ph := .tag } else { x with ph := .fif }) else { x with ph := .itm } := rfl
  rw [E]
  clear h hx L ho hso E
  generalize x.ph.fn = F at c3
  unfold maxLen at hsm
  by_cases h1 : x.sl = []
  · rw [if_pos h1]
    have n0 : x.sl.length = 0 := by rw [h1]; rfl
    rw [n0] at c8
    clear h1 hsm n0
    by_cases h2 : x.at_ + 1 < x.all.length
    · rw [if_pos h2]
      have h2' : (x.at_ : Int) + 1 < x.all.length := by omega
      clear h2
      go_enter Tryz.func240, Tryz.ntmps240
      go_upto_region 3 with (fail)
      have y5 := fun st : ExtW w => st.cell c5
      have y7 := fun st : ExtW w => st.cell c7
      refine wp_region_ext (by kernel_rfl) (by kernel_rfl) ?_
      repeat (go_big_quiet_step (fail))
      refine wpQuiet_nil ?_
      rintro W ⟨⟨W2, hW⟩, rfl⟩
      have LW := HL.out.below hW
      clear y5 y7 c3 c5 c7 c8 f3 f7
      have c3 : W.cell? ⟨fb, 3, none⟩ = some x.ph.fn := LW.c 3
      have c7 : W.cell? ⟨fb, 7, none⟩ = some (.int .i64 x.at_) := LW.c 7
      have f3 := LW.f 3; have f7 := LW.f 7
      have HLW := Lib.hid LW; have HW := Lib.hid hW
      clear LW hW HL
      generalize x.ph.fn = F at c3
      go_wp2
      go_end0
      have L2 := (HLW.out.set 7 (.int .i64 ((x.at_ + 1 : Nat) : Int))).set 3 (.func (.func 225) #[] #[])
      exact ⟨rfl, L2.ws, LR.look (x := { x with at_ := x.at_ + 1, ph := .tag }) L2, ((below_fr HW.out wTy true).fx fb).trans ((set_fx _ _ _ _ _ _).trans (set_fx _ _ _ _ _ _))⟩
    · rw [if_neg h2]
      have h2' : ¬ (x.at_ : Int) + 1 < x.all.length := by omega
      clear h2
      go_enter Tryz.func240, Tryz.ntmps240
      go_upto_region 3 with (fail)
      have y5 := fun st : ExtW w => st.cell c5
      have y7 := fun st : ExtW w => st.cell c7
      refine wp_region_ext (by kernel_rfl) (by kernel_rfl) ?_
      repeat (go_big_quiet_step (fail))
      refine wpQuiet_nil ?_
      rintro W ⟨⟨W2, hW⟩, rfl⟩
      have LW := HL.out.below hW
      clear y5 y7 c3 c5 c7 c8 f3 f7
      have c3 : W.cell? ⟨fb, 3, none⟩ = some x.ph.fn := LW.c 3
      have f3 := LW.f 3
      have HLW := Lib.hid LW; have HW := Lib.hid hW
      clear LW hW HL
      generalize x.ph.fn = F at c3
      go_wp2
      go_end0
      have L2 := HLW.out.set 3 (.func (.func 249) #[] #[])
      exact ⟨rfl, L2.ws, LR.look (x := { x with ph := .fif }) L2, ((below_fr HW.out wTy true).fx fb).trans (set_fx _ _ _ _ _ _)⟩
  · rw [if_neg h1]
    have n1 : (0 : Int) < x.sl.length := by have := List.length_pos_iff.2 h1; omega
    clear h1 c5 c7 f7
    go_enter Tryz.func240, Tryz.ntmps240
    go_wp2
    go_end0
    have L2 := HL.out.set 3 (.func (.func 248) #[] #[])
    exact ⟨rfl, L2.ws, LR.look (x := { x with ph := .itm }) L2, set_fx _ _ _ _ _ _⟩
end Go.Proofs.YtmakjfeepmiggaaGreat

/-
  Looks: places and stripes, small facts.
-/
namespace Go.Proofs.YtmakjfeepmiggaaGreat
open Go.RowKit Go.Maps TagPure
set_option linter.unusedVariables false

theorem xor_ltL (x y : Int) (n : Nat) (hn : n ≤ 12) (hx : 0 ≤ x ∧ x < ((2 ^ n : Nat) : Int)) (hy : 0 ≤ y ∧ y < ((2 ^ n : Nat) : Int)) : 0 ≤ bits .xor .i64 x y ∧ bits .xor .i64 x y < ((2 ^ n : Nat) : Int) := by
  have hp : (2 : Nat) ^ n ≤ 2 ^ 12 := Nat.pow_le_pow_right (by decide) hn
  obtain ⟨a, rfl⟩ := Int.eq_ofNat_of_zero_le hx.1
  obtain ⟨b, rfl⟩ := Int.eq_ofNat_of_zero_le hy.1
  have ha : a < 2 ^ n := by exact_mod_cast hx.2
  have hb : b < 2 ^ n := by exact_mod_cast hy.2
  have key : (BitVec.ofInt 64 (a : Int) ^^^ BitVec.ofInt 64 (b : Int)).toNat = a ^^^ b := by
    rw [BitVec.toNat_xor, BitVec.toNat_ofInt, BitVec.toNat_ofInt]
    congr 1 <;> omega
  have hlt := Nat.xor_lt_two_pow ha hb
  have e : bits .xor .i64 (a : Int) (b : Int) = IntKind.i64.wrap (((BitVec.ofInt 64 (a : Int) ^^^ BitVec.ofInt 64 (b : Int)).toNat : Nat) : Int) := rfl
  rw [e, key, IntKind.wrap_i64]
  omega
theorem tsize_powL {b : Int} (hb : 1 ≤ b ∧ b ≤ 12) : tsize b = ((2 ^ b.toNat : Nat) : Int) := by
  rw [tsize_in hb]
  rcases twelve hb with rfl | rfl | rfl | rfl | rfl | rfl | rfl | rfl | rfl | rfl | rfl | rfl <;> rfl
theorem mask_i64L (x : Int) (m k : Nat) (hm : m = 2 ^ k - 1) (hk : k ≤ 62) (h0 : 0 ≤ x) (h1 : x < 9223372036854775808) : bits .and .i64 x (m : Int) = x % ((2 ^ k : Nat) : Int) := by
  have hp : (2 : Nat) ^ k ≤ 2 ^ 62 := Nat.pow_le_pow_right (by decide) hk
  have hp0 : 0 < (2 : Nat) ^ k := Nat.two_pow_pos k
  have hmm : (BitVec.ofInt 64 (m : Int)).toNat = 2 ^ k - 1 := by
    rw [BitVec.toNat_ofInt]; omega
  have key : (BitVec.ofInt 64 x &&& BitVec.ofInt 64 (m : Int)).toNat = (x % ((2 ^ 64 : Nat) : Int)).toNat % 2 ^ k := by
    rw [BitVec.toNat_and, BitVec.toNat_ofInt, hmm, Nat.and_two_pow_sub_one_eq_mod]
  show IntKind.i64.wrap ((BitVec.ofInt 64 x &&& BitVec.ofInt 64 (m : Int)).toNat : Nat) = _
  rw [key, IntKind.wrap_i64]
  obtain ⟨n, rfl⟩ := Int.eq_ofNat_of_zero_le h0
  have e : ((n : Int) % ((2 ^ 64 : Nat) : Int)).toNat = n := by omega
  rw [e]
  have hlt := Nat.mod_lt n hp0
  rw [← Int.natCast_emod]
  omega
theorem mask_modL (m b : Int) (hm : 0 ≤ m) (hm2 : m < 9223372036854775808) (hb : 1 ≤ b ∧ b ≤ 12) : bits .and .i64 m (tsize b - 1) = m % tsize b := by
  rw [tsize_in hb]
  rcases twelve hb with rfl | rfl | rfl | rfl | rfl | rfl | rfl | rfl | rfl | rfl | rfl | rfl
  all_goals (first
    | exact mask_i64L m 1 1 rfl (by decide) hm hm2 | exact mask_i64L m 3 2 rfl (by decide) hm hm2 | exact mask_i64L m 7 3 rfl (by decide) hm hm2 | exact mask_i64L m 15 4 rfl (by decide) hm hm2 | exact mask_i64L m 31 5 rfl (by decide) hm hm2 | exact mask_i64L m 63 6 rfl (by decide) hm hm2 | exact mask_i64L m 127 7 rfl (by decide) hm hm2 | exact mask_i64L m 255 8 rfl (by decide) hm hm2 | exact mask_i64L m 511 9 rfl (by decide) hm hm2 | exact mask_i64L m 1023 10 rfl (by decide) hm hm2 | exact mask_i64L m 2047 11 rfl (by decide) hm hm2 | exact mask_i64L m 4095 12 rfl (by decide) hm hm2)
theorem oth_bdL (k t b : Int) (hb : 1 ≤ b ∧ b ≤ 12) (hk : 0 ≤ k ∧ k < tsize b) (ht : 1 ≤ t ∧ t ≤ 255) : 0 ≤ oth k t b ∧ oth k t b < tsize b := by
  unfold oth
  rw [mask_modL _ _ (by omega) (by omega) hb]
  have hp := tsize_pos hb
  have h1 := Int.emod_nonneg (t * 1540483477) (b := tsize b) (by omega)
  have h2 := Int.emod_lt_of_pos (t * 1540483477) (show 0 < tsize b by omega)
  rw [tsize_powL hb] at hk h1 h2 ⊢
  exact xor_ltL _ _ _ (by omega) hk ⟨h1, h2⟩
def POk12L (p : Int × Int) : Prop := (1 ≤ p.1 ∧ p.1 ≤ 12) ∧ 0 ≤ p.2 ∧ p.2 < tsize p.1
theorem dedup_subL (l : List (Int × Int)) : ∀ p ∈ dedup l, p ∈ l := by
  have key : ∀ (l o : List (Int × Int)), ∀ p ∈ l.foldl (fun out p => if p ∈ out then out else out ++ [p]) o, p ∈ o ∨ p ∈ l := by
    intro l
    induction l with
    | nil => intro o p hp; exact .inl hp
    | cons x l ih =>
      intro o p hp
      rcases ih _ p hp with h | h
      · simp only at h
        split at h
        · exact .inl h
        · rcases List.mem_append.1 h with h | h
          · exact .inl h
          · rw [List.mem_singleton.1 h]; exact .inr (by simp)
      · exact .inr (by simp [h])
  intro p hp
  rcases key l [] p hp with h | h
  · cases h
  · exact h
theorem pair_okL (h b : Int) (h0 : 0 ≤ h) (h1 : h < 18446744073709551616) (hb : 1 ≤ b ∧ b ≤ 12) : ∀ p ∈ pairOf h b, POk12L p := by
  intro p hp
  rw [pairOf_in h b hb] at hp
  have hbu := bk_bd h b hb
  rcases List.mem_cons.1 hp with rfl | hp
  · exact ⟨hb, hbu⟩
  · rw [List.mem_singleton.1 hp]
    exact ⟨hb, oth_bdL _ _ _ hb hbu (tag01_bd h h0 h1)⟩
theorem plist_okL (h v : Int) (h0 : 0 ≤ h) (h1 : h < 18446744073709551616) : ∀ p ∈ plist h v, POk12L p := by
  intro p hp
  have h12 := as_in12 v
  rcases List.mem_append.1 (dedup_subL _ p hp) with hp | hp
  · exact pair_okL h _ h0 h1 h12.1 p hp
  · rcases h12.2 with hz | hz
    · rw [hz, show pairOf h 0 = [] from if_pos rfl] at hp; cases hp
    · exact pair_okL h _ h0 h1 hz p hp
def wthFL (l : List (Int × Int)) (p : Int × Int) : List (Int × Int) := if p ∈ l then l else l ++ [p]
theorem dedup_growsL (l : List (Int × Int)) : ∀ acc : List (Int × Int), acc.length ≤ (l.foldl wthFL acc).length := by
  induction l with
  | nil => intro acc; exact Nat.le_refl _
  | cons p l ih =>
    intro acc
    refine Nat.le_trans ?_ (ih (wthFL acc p))
    unfold wthFL; split <;> simp
theorem dedup_posL (p : Int × Int) (l : List (Int × Int)) : 1 ≤ (dedup (p :: l)).length := dedup_growsL l [p]
theorem plist_posL (h v : Int) : 1 ≤ (plist h v).length := by
  have h12 := as_in12 v
  have hne : asOld v ≠ 0 := by have := h12.1; omega
  unfold plist
  have e : pairOf h (asOld v) = [(asOld v, bk h (asOld v)), (asOld v, oth (bk h (asOld v)) (tag01 h) (asOld v))] := pairOf_in h _ h12.1
  rw [e]
  exact dedup_posL _ _
theorem odd_anyL (v : Int) (hv : (Lit.int .u64 v).wf = true) (w : World) : Calls Tryz.prog 198 #[.int .u64 v] w fun e w' => e = .returned (.bool (v % 2 == 1)) ∧ w' = w := by
  have h : 0 ≤ v ∧ v < 18446744073709551616 := by
    have hmin : IntKind.u64.min = 0 := rfl
    have hmax : IntKind.u64.max = 18446744073709551615 := rfl
    simp only [Lit.wf, Bool.and_eq_true, decide_eq_true_eq] at hv; omega
  have hb : bits .and .u64 v 1 = v % 2 := mask_u64 v 1 1 (by decide) (by decide) h.1 h.2
  go_enter Tryz.func198, Tryz.ntmps198
  go_wp2
  go_ret
  exact ⟨rfl, rfl⟩
def flatL (l : List (Int × Int)) : List Value := l.flatMap fun p => [.int .i64 p.1, .int .i64 p.2]
theorem flat_lenL (l : List (Int × Int)) : (flatL l).length = l.length * 2 := by
  unfold flatL
  induction l with
  | nil => rfl
  | cons p l ih => simp only [List.flatMap_cons, List.length_append, ih, List.length_cons, List.length_nil]; omega
theorem flat_atL (l : List (Int × Int)) (i : Nat) (hi : i < l.length) : (flatL l)[i * 2]? = some (.int .i64 (l[i]).1) ∧ (flatL l)[i * 2 + 1]? = some (.int .i64 (l[i]).2) := by
  induction l generalizing i with
  | nil => simp at hi
  | cons p l ih =>
    have e : flatL (p :: l) = .int .i64 p.1 :: .int .i64 p.2 :: flatL l := rfl
    rw [e]
    cases i with
    | zero => exact ⟨rfl, rfl⟩
    | succ i =>
      have := ih i (by simpa using hi)
      rw [show (i + 1) * 2 = i * 2 + 1 + 1 by omega]
      simpa using this
theorem adr_formL {w : World} {base : Nat} {v : Value} {xs : List Int} (h : Adr w base v xs) : ∃ a ga, v = .slice a xs.length xs.length ∧ base ≤ ga ∧ (0 < xs.length → a = some ⟨ga, 0, none⟩ ∧ ga < w.heap.size ∧ (∀ (j : Nat) (hj : j < xs.length), w.cell? ⟨ga, j, none⟩ = some (.int .u64 xs[j])) ∧ (∀ j, w.frozen? ⟨ga, j, none⟩ = false)) := by
  rcases h with ⟨rfl, rfl⟩ | ⟨g, cur, rfl, h1, h2, h3, h4⟩
  · exact ⟨none, base, rfl, Nat.le_refl _, fun h => by simp at h⟩
  · refine ⟨_, g, rfl, h1, fun _ => ⟨rfl, (Array.getElem?_eq_some_iff.1 h2).1, fun j hj => ?_, fun j => by simp [World.frozen?, h2]⟩⟩
    have : (cur.toList.take xs.length)[j]? = some (.int .u64 xs[j]) := by rw [h4]; simp [cu, hj]
    rw [List.getElem?_take, if_pos hj, Array.getElem?_toList] at this
    simp [World.cell?, h2, this]
theorem keeps_cellL {S : Nat → Prop} {w w' : World} (h : Keeps S w w') {b o : Nat} {v : Value} (hc : w.cell? ⟨b, o, none⟩ = some v) (hb : ¬ S b) : w'.cell? ⟨b, o, none⟩ = some v :=
  (World.cell?_of_block (w := w) (a := ⟨b, o, none⟩) (h.block b (World.block_lt_of_cell? _ _ hc) hb)).trans hc

end Go.Proofs.YtmakjfeepmiggaaGreat

/-
  A Look: its lines 3, 5 and 6, and 2.
-/
namespace Go.Proofs.YtmakjfeepmiggaaGreat
open Go.RowKit Go.Maps TagPure
set_option linter.unusedVariables false

def LK.again (x : LK) : LK := if x.left = 0 then { x with ph := .off, bad := true } else { x with ph := .fst, left := x.left - 1 }
def agV (V : WV) (s : CS) (x : LK) : WV := if x.left = 0 then V else { V with nts := nadd V.nts ⟨s.cnt, V.hd, 6, 0, 0, 0, 0, x.left - 1⟩ }
theorem lagain {w0 w : World} {B : WB} {V : WV} {s : CS} {fb : Nat} {x : LK} (h : WS w0 w B V s) (hx : LookAt w w0.heap.size fb x) (hl : 0 ≤ x.left ∧ x.left < 9223372036854775808) (hn : V.nts.length < 1048576) (hs : Nsteps V.nts s.cnt) :
    Calls Tryz.prog 199 #[.pointer (some ⟨fb, 0, none⟩), .pointer (some ⟨B.wb, 0, none⟩)] w fun e w' => e = .returned (.tuple #[]) ∧ WS w0 w' B (agV V s x) s ∧ LookAt w' w0.heap.size fb x.again ∧ Fx wTy true fb w w' := by
  by_cases h0 : x.left = 0
  · unfold LK.again agV
    rw [if_pos h0, if_pos h0]
    exact lagain0 h hx h0 _
  · unfold LK.again agV
    rw [if_neg h0, if_neg h0]
    exact lagain1 h hx ⟨by omega, hl.2⟩ hn hs
section
variable {w0 w : World} {B : WB} {V : WV} {s : CS} {fb : Nat} {x : LK} (h : WS w0 w B V s) (hr : s.room) (hx : LookAt w w0.heap.size fb x)
include h hr hx
set_option maxRecDepth 10000 in
theorem lthird : Calls Tryz.prog 200 #[.pointer (some ⟨fb, 0, none⟩), .pointer (some ⟨B.wb, 0, none⟩)] w fun e w' => e = .returned (.tuple #[]) ∧ WS w0 w' B V (s.acc 1 8 (s.val 8)) ∧ LookAt w' w0.heap.size fb { x with ep := s.val 8, at_ := 0, pt := ((s.acc 1 8 (s.val 8)).cnt : Int), ph := .tag } ∧ Fx wTy true fb w w' := by
  obtain ⟨va, vv, vs, L⟩ := LR.of h hx
  have c0 := h.c0
  have hld := h.load hr 8 (by decide)
  have HL := Lib.hid L
  clear h hx L hr
  obtain ⟨s1, hs1⟩ : ∃ s1, s1 = s.acc 1 8 (s.val 8) := ⟨_, rfl⟩
  rw [← hs1] at hld ⊢
  clear hs1
  generalize s.val 8 = ep at *
  go_enter Tryz.func200, Tryz.ntmps200
  go_upto_region 1 with (go_at_call 62; refine hld.mono ?_; intro e w2 hh; obtain ⟨hh1, h2, f2⟩ := hh; subst hh1; have L2 := HL.out.move h2 f2; have c10 : w2.cell? ⟨fb, 10, none⟩ = some (.int .u64 x.ep) := L2.c 10; have k10 := L2.f 10; have HL2 := Lib.hid L2; have F2 := Lib.hid f2; clear h2 f2 L2 hld c0)
  have L3 := HL2.out.set 10 (.int .u64 ep)
  have F3 := (F2.out.fx fb).trans (set_fx wTy true w2 fb 10 (.int .u64 ep))
  clear c10 k10 HL2 F2 HL
  generalize w2.setCell ⟨fb, 10, none⟩ (.int .u64 ep) = w3 at *
  have hst := L3.ws.steps5
  have c3 : w3.cell? ⟨fb, 3, none⟩ = some x.ph.fn := L3.c 3
  have c7 : w3.cell? ⟨fb, 7, none⟩ = some (.int .i64 x.at_) := L3.c 7
  have c11 : w3.cell? ⟨fb, 11, none⟩ = some (.int .i64 x.pt) := L3.c 11
  have k3 := L3.f 3; have k7 := L3.f 7; have k11 := L3.f 11
  have HL3 := Lib.hid L3; have HF3 := Lib.hid F3
  clear L3 F3
  generalize x.ph.fn = F at c3
  go_wp2_with (go_at_call 67; refine hst.mono ?_; intro e w4 hh; obtain ⟨hh1, hh2⟩ := hh; subst hh1; obtain rfl := hh2.symm; clear hst)
  go_end0
  have L4 := ((HL3.out.set 7 (.int .i64 ((0 : Nat) : Int))).set 11 (.int .i64 (s1.cnt : Int))).set 3 (.func (.func 225) #[] #[])
  exact ⟨rfl, L4.ws, LR.look (x := { x with ep := ep, at_ := 0, pt := (s1.cnt : Int), ph := .tag }) L4, ((HF3.out.trans (set_fx _ _ _ _ _ _)).trans (set_fx _ _ _ _ _ _)).trans (set_fx _ _ _ _ _ _)⟩
end
abbrev TFif (fb wb cb : Nat) (t : Int) (W : World) : Prop := W.cell? ⟨fb, 4, none⟩ = some (.int .u64 t) ∧ W.cell? ⟨wb, 0, none⟩ = some (.pointer (some ⟨cb, 0, none⟩))
def LK.fifth (x : LK) (t : Int) : LK := if t = x.tab then { x with at_ := 0, ph := .six } else x.again
set_option maxRecDepth 10000 in
theorem lfifth {w0 w : World} {B : WB} {V : WV} {s : CS} {fb : Nat} {x : LK} (h : WS w0 w B V s) (hr : s.room) (hx : LookAt w w0.heap.size fb x) (hl : 0 ≤ x.left ∧ x.left < 9223372036854775808) (hn : V.nts.length < 1048576) (hs : Nsteps V.nts s.cnt) :
    Calls Tryz.prog 249 #[.pointer (some ⟨fb, 0, none⟩), .pointer (some ⟨B.wb, 0, none⟩)] w fun e w' => e = .returned (.tuple #[]) ∧ WS w0 w' B (if s.val 2 = x.tab then V else agV V (s.acc 1 2 (s.val 2)) x) (s.acc 1 2 (s.val 2)) ∧ LookAt w' w0.heap.size fb (x.fifth (s.val 2)) ∧ Fx wTy true fb w w' := by
  obtain ⟨va, vv, vs, L⟩ := LR.of h hx
  have c0 := h.c0
  have LD := L.below (Below.refl w.heap.size w).drew
  have hld := LD.ws.load hr 2 (by decide)
  have ss : TFif fb B.wb B.cb x.tab w.drew := ⟨LD.c 4, LD.ws.c0⟩
  have HL := Lib.hid LD; have HLL := Lib.hid hl; have HN := Lib.hid hn
  have FD := Lib.hid (below_fr (Below.refl w.heap.size w).drew wTy true)
  have hs2 : Nsteps V.nts ((s.acc 1 2 (s.val 2)).cnt : Int) := hs.le (by show (s.cnt : Int) ≤ ((s.cnt + 1 : Nat) : Int); omega)
  have HNS := Lib.hid hs2
  clear h hx L hr LD hs hl hn hs2 c0
  obtain ⟨s1, hs1⟩ : ∃ s1, s1 = s.acc 1 2 (s.val 2) := ⟨_, rfl⟩
  rw [← hs1] at hld HNS ⊢
  clear hs1
  generalize s.val 2 = t at *
  obtain ⟨V2, hV2⟩ : ∃ V2, V2 = (if t = x.tab then V else agV V s1 x) := ⟨_, rfl⟩
  obtain ⟨x2, hx2⟩ : ∃ x2, x2 = x.fifth t := ⟨_, rfl⟩
  rw [← hV2, ← hx2]
  have HV2 := Lib.hid hV2; have HX2 := Lib.hid hx2
  clear hV2 hx2
  go_enter Tryz.func249, Tryz.ntmps249
  obtain ⟨b, hb⟩ : ∃ b, (t != x.tab) = b := ⟨_, rfl⟩
  go_upto_region 0 with (fail)
  go_region_held2 (fun W => TFif fb B.wb B.cb x.tab W) (assumption) (first | (go_at_call 62; refine hld.mono ?_; intro e w2 hh; obtain ⟨hh1, h2, f2⟩ := hh; subst hh1; have L2 := HL.out.move h2 f2; have s2 : TFif fb B.wb B.cb x.tab w2 := ⟨L2.c 4, L2.ws.c0⟩; have HL2 := Lib.hid L2; have F2 := Lib.hid (FD.out.trans f2); clear h2 f2 L2 hld ss))
  have HB := Lib.hid hb
  clear s2 HL FD
  have c3 : w2.cell? ⟨fb, 3, none⟩ = some x.ph.fn := HL2.out.c 3
  have c7 : w2.cell? ⟨fb, 7, none⟩ = some (.int .i64 x.at_) := HL2.out.c 7
  have k3 := HL2.out.f 3; have k7 := HL2.out.f 7
  have hag := lagain HL2.out.ws (LR.look HL2.out) HLL.out HN.out HNS.out
  cases b
  · have he : t = x.tab := by have := HB.out; simpa using this
    have E1 : x2 = { x with at_ := 0, ph := .six } := HX2.out.trans (if_pos he)
    have E0 : V2 = V := HV2.out.trans (if_pos he)
    have EE := Lib.hid (And.intro E0 E1)
    clear hag hb he E1 E0
    generalize x.ph.fn = F at c3
    go_wp2
    go_end0
    have L4 := (HL2.out.set 7 (.int .i64 ((0 : Nat) : Int))).set 3 (.func (.func 254) #[] #[])
    rw [EE.out.1, EE.out.2]
    exact ⟨rfl, L4.ws, LR.look (x := { x with at_ := 0, ph := .six }) L4, ((F2.out.fx fb).trans (set_fx _ _ _ _ _ _)).trans (set_fx _ _ _ _ _ _)⟩
  · have he : ¬ t = x.tab := by have := HB.out; simpa using this
    have E1 : x2 = x.again := HX2.out.trans (if_neg he)
    have E0 : V2 = agV V s1 x := HV2.out.trans (if_neg he)
    have EE := Lib.hid (And.intro E0 E1)
    clear hb he E1 E0 c3 c7 k3 k7
    go_wp2_with (go_at_call 199; refine hag.mono ?_; intro e w3 hh; obtain ⟨hh1, h3, a3, f3⟩ := hh; subst hh1; have P := Lib.hid (And.intro h3 (And.intro a3 ((F2.out.fx fb).trans f3))); clear h3 a3 f3 hag)
    refine bodyPost_ret (v := .tuple #[]) (by simp [results, Tryz.results249, go_sem]) rfl ?_
    rw [EE.out.1, EE.out.2]
    exact ⟨rfl, P.out.1, P.out.2.1, P.out.2.2⟩
/-- A step's frame: of the blocks that are no world's only the Look's own ones turn. -/
structure Fz (b c : Nat) (w w' : World) : Prop where
  size : w.heap.size ≤ w'.heap.size
  cells : ∀ (k : Nat) (cs : Array Value) (T : TypeId) (fr : Nat × Nat), w.heap[k]? = some (.cells cs T fr) → wTy T = false → k ≠ b → k ≠ c → w'.heap[k]? = some (.cells cs T fr)
theorem Fx.fz {b c : Nat} {w w' : World} (h : Fx wTy true b w w') : Fz b c w w' := ⟨h.size, fun k cs T fr h1 h2 h3 _ => h.cells k cs T fr h1 h2 h3⟩
theorem Fz.trans {b c : Nat} {w w' w'' : World} (h : Fz b c w w') (k : Fz b c w' w'') : Fz b c w w'' := ⟨Nat.le_trans h.size k.size, fun i cs T fr h1 h2 h3 h4 => k.cells i cs T fr (h.cells i cs T fr h1 h2 h3 h4) h2 h3 h4⟩
theorem set_fz {b c : Nat} (w : World) (o : Nat) (v : Value) : Fz b c w (w.setCell ⟨c, o, none⟩ v) :=
  ⟨by simp [World.setCell], fun k cs T fr h _ _ hb => (Below.heap_setCell _ _ _ _ hb).trans h⟩
theorem flatU_len (l : List (Int × Int)) : (flatU l).length = l.length * 2 := by
  induction l with
  | nil => rfl
  | cons x r ih => simp only [flatU, List.flatMap_cons, List.length_append, List.length_cons, List.length_nil] at ih ⊢; omega
theorem flatU_at (l : List (Int × Int)) (i : Nat) (hi : i < l.length) : (flatU l)[i * 2]? = some (.int .u64 (l[i]).1) ∧ (flatU l)[i * 2 + 1]? = some (.int .u64 (l[i]).2) := by
  induction l generalizing i with
  | nil => simp at hi
  | cons x r ih =>
    unfold flatU at *
    rw [List.flatMap_cons]
    match i with
    | 0 => exact ⟨rfl, rfl⟩
    | i + 1 =>
      have := ih i (by simp at hi; omega)
      refine ⟨?_, ?_⟩
      · rw [List.getElem?_append_right (by simp; omega), show (i + 1) * 2 - [Value.int .u64 x.1, Value.int .u64 x.2].length = i * 2 by simp; omega]; exact this.1
      · rw [List.getElem?_append_right (by simp; omega), show (i + 1) * 2 + 1 - [Value.int .u64 x.1, Value.int .u64 x.2].length = i * 2 + 1 by simp; omega]; exact this.2
theorem flatU_set (l : List (Int × Int)) (i : Nat) (hi : i < l.length) (v : Int) : (flatU l).set (i * 2 + 1) (.int .u64 v) = flatU (l.set i ((l[i]).1, v)) := by
  induction l generalizing i with
  | nil => simp at hi
  | cons x r ih =>
    match i with
    | 0 => rfl
    | i + 1 =>
      have h1 := ih i (by simp at hi; omega)
      have e : (i + 1) * 2 + 1 = (i * 2 + 1) + 1 + 1 := by omega
      rw [e]
      show (Value.int .u64 x.1 :: Value.int .u64 x.2 :: flatU r).set _ _ = _
      rw [List.set_cons_succ, List.set_cons_succ, h1]
      rfl
/-- A version of the row. -/
theorem ver_at {w0 w : World} {B : WB} {V : WV} {s : CS} {fb : Nat} {cs : Array Value} {va vv vs : Value} {al ve : List (Int × Int)} {sl : List Nat} {vb : Nat} (h : LR w0 w B V s fb cs va vv vs al ve sl vb) (k : Nat) (hk : k < ve.length) :
    ∃ cap, vv = .slice (some ⟨vb, 0, none⟩) ve.length cap ∧ ve.length ≤ maxLen ∧ fb ≠ vb ∧ w0.heap.size ≤ vb ∧ w.cell? ⟨vb, k * 2, none⟩ = some (.int .u64 (ve[k]).1) ∧ w.cell? ⟨vb, k * 2 + 1, none⟩ = some (.int .u64 (ve[k]).2) ∧ w.frozen? ⟨vb, k * 2 + 1, none⟩ = false ∧
      ∀ v : Int, LR w0 (w.setCell ⟨vb, k * 2 + 1, none⟩ (.int .u64 v)) B V s fb cs va vv vs al (ve.set k ((ve[k]).1, v)) sl vb := by
  obtain ⟨h1, ⟨e, h2⟩ | ⟨g, cap, cur, e, hb, hg, hn, hm, hs, ht⟩⟩ := h.vr
  · rw [h2] at hk; exact absurd hk (Nat.not_lt_zero _)
  have hob : vb = g := by
    rcases h.ob with h3 | ⟨h3, -⟩
    · rw [e] at h3; simp [Value.ownBlock] at h3; exact h3.symm
    · rw [e] at h3; simp [Value.ownBlock] at h3
  subst hob
  have hne : fb ≠ vb := fun c => by
    have h5 := h.z
    rw [c] at h5
    have := h5.symm.trans hg
    simp at this
  have hat := flatU_at ve k hk
  rw [← ht] at hat
  have hcl : ∀ j, j < ve.length * 2 → w.cell? ⟨vb, j, none⟩ = cur.toList[j]? := fun j hj => by rw [hcell hg, Array.getElem?_toList]
  have hfl := flatU_len ve
  refine ⟨cap, e, Nat.le_trans hn hm, hne, hb, ?_, ?_, hfrz hg _, fun v => ?_⟩
  · rw [hcl _ (by omega), ← hat.1, List.getElem?_take_of_lt (by omega)]
  · rw [hcl _ (by omega), ← hat.2, List.getElem?_take_of_lt (by omega)]
  · have ft := set_ty hg (k * 2 + 1) (.int .u64 v)
    refine ⟨set_take (o := k * 2 + 1) h.ws hg rfl hb _, h.lo, ft.cells _ _ _ _ h.z rfl, h.pl.fr ft rfl, ?_, h.sr.fr ft rfl, h.ob⟩
    refine ⟨by rw [flatU_len, List.length_set], .inr ⟨vb, cap, cur.setIfInBounds (k * 2 + 1) (.int .u64 v), by rw [List.length_set]; exact e, hb, setCell_same hg _ _, by rw [List.length_set]; exact hn, hm, by simp [hs], ?_⟩⟩
    rw [← flatU_set ve k hk v, ← ht, Array.toList_setIfInBounds, List.length_set]
    exact List.take_set
end Go.Proofs.YtmakjfeepmiggaaGreat

/-
  A Look: its lines 2 and 6.
-/
namespace Go.Proofs.YtmakjfeepmiggaaGreat
open Go.RowKit Go.Maps TagPure
set_option linter.unusedVariables false

def LK.seen (x : LK) (v : Int) : LK := { x with vs := x.vs.set x.at_ ((x.vs.getD x.at_ (0, 0)).1, v) }
def LK.second (x : LK) (v : Int) : LK := if v % 2 = 1 then (x.seen v).again else if x.at_ + 1 = x.vs.length then { x.seen v with at_ := x.at_ + 1, ph := .thd } else { x.seen v with at_ := x.at_ + 1 }
theorem nsteps1 {V : WV} {s : CS} {a v : Int} (hs : Nsteps V.nts s.cnt) : Nsteps V.nts ((s.acc 1 a v).cnt : Int) := hs.le (by show (s.cnt : Int) ≤ ((s.cnt + 1 : Nat) : Int); omega)
abbrev TSec (vb k wb cb : Nat) (a : Int) (W : World) : Prop := W.cell? ⟨wb, 0, none⟩ = some (.pointer (some ⟨cb, 0, none⟩)) ∧ W.cell? ⟨vb, k, none⟩ = some (.int .u64 a)
set_option maxRecDepth 10000 in
set_option maxHeartbeats 1000000 in
theorem lsecond {w0 w : World} {B : WB} {V : WV} {s : CS} {fb : Nat} {x : LK} (h : WS w0 w B V s) (hr : s.room) (hx : LookAt w w0.heap.size fb x) (hl : 0 ≤ x.left ∧ x.left < 9223372036854775808) (hn : V.nts.length < 1048576) (hs : Nsteps V.nts s.cnt) (hk : x.at_ < x.vs.length) (hm : x.vs.length ≤ 1000) (a o : Int) (hao : x.vs[x.at_]? = some (a, o)) (ha : (Lit.int .u64 a).wf = true) :
    Calls Tryz.prog 158 #[.pointer (some ⟨fb, 0, none⟩), .pointer (some ⟨B.wb, 0, none⟩)] w fun e w' => e = .returned (.tuple #[]) ∧ WS w0 w' B (if s.val a % 2 = 1 then agV V (s.acc 1 a (s.val a)) (x.seen (s.val a)) else V) (s.acc 1 a (s.val a)) ∧ LookAt w' w0.heap.size fb (x.second (s.val a)) ∧ Fz fb x.vb w w' := by
  obtain ⟨va, vv, vs, L⟩ := LR.of h hx
  obtain ⟨cap, e0, hm2, hne, hlo, c0a, c0s, k0, -⟩ := ver_at L x.at_ hk
  have hget : x.vs[x.at_] = (a, o) := by rw [List.getElem?_eq_getElem hk] at hao; exact Option.some.inj hao
  rw [hget] at c0a c0s
  have hseen : ∀ v, x.seen v = { x with vs := x.vs.set x.at_ (a, v) } := fun v => by unfold LK.seen; rw [List.getD_eq_getElem?_getD, hao]; rfl
  have hwv := h.own.wf a
  have c6 : w.cell? ⟨fb, 6, none⟩ = some vv := L.c 6
  have c7 : w.cell? ⟨fb, 7, none⟩ = some (.int .i64 x.at_) := L.c 7
  rw [e0] at c6
  obtain ⟨s1, hs1⟩ : ∃ s1, s1 = s.acc 1 a (s.val a) := ⟨_, rfl⟩
  have hns : Nsteps V.nts (s1.cnt : Int) := by rw [hs1]; exact nsteps1 hs
  have HL := Lib.hid L; have HLL := Lib.hid hl; have HN := Lib.hid hn; have HNS := Lib.hid hns; have HR := Lib.hid hr; have HA := Lib.hid ha; have HK := Lib.hid hk; have HG := Lib.hid hget; have HS1 := Lib.hid hs1; have HSE := Lib.hid (hseen (s.val a)); have HWV := Lib.hid hwv; have HE0 := Lib.hid e0; have HNE := Lib.hid hne
  obtain ⟨V2, hV2⟩ : ∃ V2, V2 = (if s.val a % 2 = 1 then agV V s1 (x.seen (s.val a)) else V) := ⟨_, rfl⟩
  obtain ⟨x2, hx2⟩ : ∃ x2, x2 = x.second (s.val a) := ⟨_, rfl⟩
  rw [← hs1, ← hV2, ← hx2]
  have HV2 := Lib.hid hV2; have HX2 := Lib.hid hx2
  clear h hx L hl hn hs hns hr ha hget hs1 hseen hao hV2 hx2 hlo hm2 c0s k0 hwv e0 hne
  have hk' : (x.at_ : Int) < x.vs.length := by omega
  have hmz : (x.vs.length : Int) ≤ 1000 := by omega
  go_enter Tryz.func158, Tryz.ntmps158
  go_upto_region 0 with (fail)
  have y6 := fun st : ExtW w => st.cell c6
  have y7 := fun st : ExtW w => st.cell c7
  refine wp_region_ext (by kernel_rfl) (by kernel_rfl) ?_
  repeat (go_big_quiet_step (fail))
  refine wpQuiet_nil ?_
  rintro W ⟨⟨W2, hW⟩, rfl⟩
  have HLW := Lib.hid (HL.out.below hW)
  have FW := Lib.hid ((below_fr hW wTy true).fx fb)
  clear y6 y7 c6 c7 hW HL
  go_upto_region 1 with (fail)
  have HLX := Lib.hid (HLW.out.below (Below.refl W.heap.size W).drew)
  have FX := Lib.hid (FW.out.trans ((below_fr (Below.refl W.heap.size W).drew wTy true).fx fb))
  have ss : TSec x.vb (x.at_ * 2) B.wb B.cb a W.drew := ⟨HLX.out.ws.c0, by
    obtain ⟨cap', -, -, -, -, h5, -⟩ := ver_at HLX.out x.at_ hk
    rw [HG.out] at h5; exact h5⟩
  have hld := HLX.out.ws.load HR.out a HA.out
  rw [← HS1.out] at hld
  clear HLW FW
  obtain ⟨v, hv⟩ : ∃ v, v = s.val a := ⟨_, rfl⟩
  rw [← hv] at hld
  have HVV := Lib.hid hv
  clear hv
  go_region_held2 (fun W => TSec x.vb (x.at_ * 2) B.wb B.cb a W) (assumption) (first | (go_at_call 62; refine hld.mono ?_; intro e w2 hh; obtain ⟨hh1, h2, f2⟩ := hh; subst hh1; have L2 := HLX.out.move h2 f2; obtain ⟨cap2, -, -, -, -, q0, q1, q2, q3⟩ := ver_at L2 x.at_ hk; have s2 : TSec x.vb (x.at_ * 2) B.wb B.cb a w2 := ⟨L2.ws.c0, by rw [HG.out] at q0; exact q0⟩; have s3 : TSec x.vb (x.at_ * 2) B.wb B.cb a (w2.setCell ⟨x.vb, x.at_ * 2 + 1, none⟩ (.int .u64 v)) := ⟨(q3 v).ws.c0, by { obtain ⟨cap', -, -, -, -, h5, -⟩ := ver_at (q3 v) x.at_ (by rw [List.length_set]; exact hk); rw [List.getElem_set_self, HG.out] at h5; exact h5 }⟩; have HL2 := Lib.hid (q3 v); have F2 := Lib.hid (FX.out.trans (f2.fx fb)); clear h2 f2 L2 hld q3 q0 ss))
  obtain ⟨y, hy⟩ : ∃ y : LK, y = { x with vs := x.vs.set x.at_ (a, v) } := ⟨_, rfl⟩
  have HL5 : Hid (LR w0 (w2.setCell ⟨x.vb, x.at_ * 2 + 1, none⟩ (.int .u64 v)) B V s1 fb (y.cells va vv vs) va vv vs y.all y.vs y.sl y.vb) := by have h5 := HL2.out; rw [HG.out] at h5; rw [hy]; exact h5
  have F5 := Lib.hid ((F2.out.fz (c := x.vb)).trans (set_fz w2 (x.at_ * 2 + 1) (.int .u64 v)))
  have hyk : y.at_ < y.vs.length := by rw [hy]; simp only [List.length_set]; exact hk
  have q5 : (w2.setCell ⟨x.vb, x.at_ * 2 + 1, none⟩ (.int .u64 v)).cell? ⟨x.vb, x.at_ * 2 + 1, none⟩ = some (.int .u64 v) := by
    obtain ⟨c', -, -, -, -, -, h6, -⟩ := ver_at HL2.out x.at_ (by rw [List.length_set]; exact hk)
    rw [List.getElem_set_self] at h6; exact h6
  have EX : Hid (x2 = if v % 2 = 1 then y.again else if y.at_ + 1 = y.vs.length then { y with at_ := y.at_ + 1, ph := .thd } else { y with at_ := y.at_ + 1 }) := by
    show x2 = _
    rw [HX2.out]; unfold LK.second; rw [HSE.out, ← HVV.out, hy]; simp only [List.length_set]
  have EV : Hid (V2 = if v % 2 = 1 then agV V s1 y else V) := by show V2 = _; rw [HV2.out, HSE.out, ← HVV.out, hy]
  have hyl : 0 ≤ y.left ∧ y.left < 9223372036854775808 := by rw [hy]; exact HLL.out
  have hod := fun W => odd_anyL v (by rw [HVV.out]; exact HWV.out) W
  have hym : (y.vs.length : Int) ≤ 1000 := by rw [hy]; simp only [List.length_set]; exact hmz
  clear hy HX2 HV2 HSE HL2 F2 q1 q2 s2 s3 hk' hmz HG HWV HLX FX HA HR HE0
  generalize w2.setCell ⟨x.vb, x.at_ * 2 + 1, none⟩ (.int .u64 v) = w5 at *
  have hag := lagain HL5.out.ws (LR.look HL5.out) hyl HN.out HNS.out
  by_cases ho : v % 2 = 1
  · have hb : (v % 2 == 1) = true := beq_iff_eq.2 ho
    have E1 := Lib.hid (EX.out.trans (if_pos ho)); have E2 := Lib.hid (EV.out.trans (if_pos ho))
    simp only [hb] at hod
    clear hb ho EX EV
    go_wp2_with (first
      | (go_at_call 198; refine (hod _).mono ?_; intro e w6 hh; obtain ⟨hh1, hh2⟩ := hh; subst hh1; obtain rfl := hh2.symm; clear hod)
      | (go_at_call 199; refine hag.mono ?_; intro e w3 hh; obtain ⟨hh1, h3, a3, f3⟩ := hh; subst hh1; have P := Lib.hid (And.intro h3 (And.intro a3 (F5.out.trans f3.fz))); clear h3 a3 f3 hag))
    refine bodyPost_ret (v := .tuple #[]) (by simp [results, Tryz.results158, go_sem]) rfl ?_
    rw [E1.out, E2.out]
    exact ⟨rfl, P.out.1, P.out.2.1, P.out.2.2⟩
  · have hb : (v % 2 == 1) = false := beq_eq_false_iff_ne.2 ho
    have E1 := Lib.hid (EX.out.trans (if_neg ho)); have E2 := Lib.hid (EV.out.trans (if_neg ho))
    simp only [hb] at hod
    clear hb ho EX EV hag
    have c7 : w5.cell? ⟨fb, 7, none⟩ = some (.int .i64 y.at_) := HL5.out.c 7
    have k7 := HL5.out.f 7
    have hya : (y.at_ : Int) < 1000 := by omega
    go_upto_region 5 with (go_at_call 198; refine (hod _).mono ?_; intro e w6 hh; obtain ⟨hh1, hh2⟩ := hh; subst hh1; obtain rfl := hh2.symm; clear hod)
    have HL6 := Lib.hid (HL5.out.set 7 (.int .i64 ((y.at_ : Int) + 1)))
    have F6 := Lib.hid (F5.out.trans (set_fx wTy true w5 fb 7 (.int .i64 ((y.at_ : Int) + 1))).fz)
    clear HL5 F5 c7 k7 q5
    generalize w5.setCell ⟨fb, 7, none⟩ (.int .i64 ((y.at_ : Int) + 1)) = w6 at *
    obtain ⟨cap6, e6, -⟩ := ver_at HL6.out y.at_ hyk
    have c6 : w6.cell? ⟨fb, 6, none⟩ = some vv := HL6.out.c 6
    have c7 : w6.cell? ⟨fb, 7, none⟩ = some (.int .i64 ((y.at_ : Int) + 1)) := HL6.out.c 7
    rw [e6] at c6
    have y6 := fun st : ExtW w6 => st.cell c6
    have y7 := fun st : ExtW w6 => st.cell c7
    by_cases he : y.at_ + 1 = y.vs.length
    · have eb : ((y.at_ : Int) + 1 == (y.vs.length : Int)) = true := beq_iff_eq.2 (by omega)
      have E3 := Lib.hid (E1.out.trans (if_pos he))
      clear he E1 e6 c6 c7
      refine wp_region_ext (by kernel_rfl) (by kernel_rfl) ?_
      repeat (go_big_quiet_step (fail))
      refine wpQuiet_nil ?_
      rintro W7 ⟨⟨W8, hW7⟩, rfl⟩
      have HL7 := Lib.hid (HL6.out.below hW7)
      have F7 := Lib.hid (F6.out.trans ((below_fr hW7 wTy true).fx fb).fz)
      clear y6 y7 eb hW7 HL6 F6
      have c3 : W7.cell? ⟨fb, 3, none⟩ = some y.ph.fn := HL7.out.c 3
      have k3 := HL7.out.f 3
      generalize y.ph.fn = F at c3
      go_wp2
      go_end0
      have L8 := HL7.out.set 3 (.func (.func 200) #[] #[])
      rw [E3.out, E2.out]
      exact ⟨rfl, L8.ws, LR.look (x := { y with at_ := y.at_ + 1, ph := .thd }) L8, F7.out.trans (set_fx _ _ _ _ _ _).fz⟩
    · have eb : ((y.at_ : Int) + 1 == (y.vs.length : Int)) = false := beq_eq_false_iff_ne.2 (by omega)
      have E3 := Lib.hid (E1.out.trans (if_neg he))
      clear he E1 e6 c6 c7
      refine wp_region_ext (by kernel_rfl) (by kernel_rfl) ?_
      repeat (go_big_quiet_step (fail))
      refine wpQuiet_nil ?_
      rintro W7 ⟨⟨W8, hW7⟩, rfl⟩
      have HL7 := Lib.hid (HL6.out.below hW7)
      have F7 := Lib.hid (F6.out.trans ((below_fr hW7 wTy true).fx fb).fz)
      clear y6 y7 eb hW7 HL6 F6
      go_wp2
      go_end0
      rw [E3.out, E2.out]
      exact ⟨rfl, HL7.out.ws, LR.look (x := { y with at_ := y.at_ + 1 }) HL7.out, F7.out⟩
def LK.sixth (x : LK) (o v : Int) : LK := if v = o then (if x.at_ + 1 = x.vs.length then { x with at_ := x.at_ + 1, ph := .off } else { x with at_ := x.at_ + 1 }) else x.again
abbrev TSix (q wb cb : Nat) (a o : Int) (W : World) : Prop := W.cell? ⟨wb, 0, none⟩ = some (.pointer (some ⟨cb, 0, none⟩)) ∧ W.cell? ⟨q, 0, none⟩ = some (.int .u64 a) ∧ W.cell? ⟨q, 1, none⟩ = some (.int .u64 o)
set_option maxRecDepth 10000 in
set_option maxHeartbeats 1000000 in
theorem lsixth {w0 w : World} {B : WB} {V : WV} {s : CS} {fb : Nat} {x : LK} (h : WS w0 w B V s) (hr : s.room) (hx : LookAt w w0.heap.size fb x) (hl : 0 ≤ x.left ∧ x.left < 9223372036854775808) (hn : V.nts.length < 1048576) (hs : Nsteps V.nts s.cnt) (hk : x.at_ < x.vs.length) (hm : x.vs.length ≤ 1000) (a o : Int) (hao : x.vs[x.at_]? = some (a, o)) (ha : (Lit.int .u64 a).wf = true) :
    Calls Tryz.prog 254 #[.pointer (some ⟨fb, 0, none⟩), .pointer (some ⟨B.wb, 0, none⟩)] w fun e w' => e = .returned (.tuple #[]) ∧ WS w0 w' B (if s.val a = o then V else agV V (s.acc 1 a (s.val a)) x) (s.acc 1 a (s.val a)) ∧ LookAt w' w0.heap.size fb (x.sixth o (s.val a)) ∧ Fx wTy true fb w w' := by
  obtain ⟨va, vv, vs, L⟩ := LR.of h hx
  obtain ⟨cap, e0, hm2, hne, hlo, c0a, c0s, k0, -⟩ := ver_at L x.at_ hk
  have hget : x.vs[x.at_] = (a, o) := by rw [List.getElem?_eq_getElem hk] at hao; exact Option.some.inj hao
  rw [hget] at c0a c0s
  have c6 : w.cell? ⟨fb, 6, none⟩ = some vv := L.c 6
  have c7 : w.cell? ⟨fb, 7, none⟩ = some (.int .i64 x.at_) := L.c 7
  rw [e0] at c6
  obtain ⟨s1, hs1⟩ : ∃ s1, s1 = s.acc 1 a (s.val a) := ⟨_, rfl⟩
  have hns : Nsteps V.nts (s1.cnt : Int) := by rw [hs1]; exact nsteps1 hs
  have HL := Lib.hid L; have HLL := Lib.hid hl; have HN := Lib.hid hn; have HNS := Lib.hid hns; have HR := Lib.hid hr; have HA := Lib.hid ha; have HS1 := Lib.hid hs1
  obtain ⟨V2, hV2⟩ : ∃ V2, V2 = (if s.val a = o then V else agV V s1 x) := ⟨_, rfl⟩
  obtain ⟨x2, hx2⟩ : ∃ x2, x2 = x.sixth o (s.val a) := ⟨_, rfl⟩
  rw [← hs1, ← hV2, ← hx2]
  have HV2 := Lib.hid hV2; have HX2 := Lib.hid hx2
  clear h hx L hl hn hs hns hr ha hget hs1 hao hV2 hx2 hlo hm2 k0 e0 hne
  have hk' : (x.at_ : Int) < x.vs.length := by omega
  have hmz : (x.vs.length : Int) ≤ 1000 := by omega
  go_enter Tryz.func254, Tryz.ntmps254
  go_upto_region 0 with (fail)
  have y6 := fun st : ExtW w => st.cell c6
  have y7 := fun st : ExtW w => st.cell c7
  have ya := fun st : ExtW w => st.cell c0a
  have yo := fun st : ExtW w => st.cell c0s
  clear c6 c7 c0a c0s
  refine wp_region_any (by kernel_rfl) ?_
  try (change wpAny _ _ _ _ _ _ _ (World.drew _))
  refine wpAny_take (i := 0) (v := .pointer (some ⟨fb, 0, none⟩)) rfl (by kernel_rfl) (by kernel_rfl) (by kernel_rfl) (fun _ _ _ h => h) (Or.inl ⟨by rfl, by intro w; go_simp⟩) ?_
  refine wpAny_take (i := 1) (v := .pointer (some ⟨fb, 0, none⟩)) rfl (by kernel_rfl) (by kernel_rfl) (by kernel_rfl) (fun _ _ _ h => h) (Or.inl ⟨by rfl, by intro w; go_simp⟩) ?_
  refine wpAny_take (i := 4) (v := .pointer (some ⟨fb, 0, none⟩)) rfl (by kernel_rfl) (by kernel_rfl) (by kernel_rfl) (fun _ _ _ h => h) (Or.inl ⟨by rfl, by intro w; go_simp⟩) ?_
  refine wpAny_take (i := 5) (v := .pointer (some ⟨fb, 0, none⟩)) rfl (by kernel_rfl) (by kernel_rfl) (by kernel_rfl) (fun _ _ _ h => h) (Or.inl ⟨by rfl, by intro w; go_simp⟩) ?_
  simp only [List.getElem_toArray, List.getElem_cons_succ, List.getElem_cons_zero]
  go_frame
  refine any_of_mix (D := fun W => ∃ s : ExtW w, W = s.val) [2, 3, 6, 7, 8, 9] [10] 11 [] (by kernel_rfl) (by kernel_rfl) (by kernel_rfl) (by kernel_rfl) (by decide) (by kernel_rfl) (fun c d v a w h => by cases d <;> exact h) ⟨⟨_, (Below.refl _ _).drew⟩, rfl⟩ ?_
  simp only [pickL_cons, pickL_nil, List.drop_succ_cons, List.drop_zero, List.take_succ_cons, List.take_zero, List.cons_append, List.nil_append]
  repeat (go_big_quiet_step (fail))
  refine wpQuiet_nil ?_
  refine tailM_op rfl rfl ?_
  go_simp
  refine ⟨⟨⟨_, ((Below.refl _ _).drew).alloc (Nat.le_refl _) _⟩, rfl⟩, ?_⟩
  change tailE Tryz.prog _ _ [11] _ _
  refine tailE_op rfl rfl ?_
  refine wp_store_new 269 (.tmp 4) (.tmp 14) rfl w.drew _ #[.int .u64 a, .int .u64 o] rfl rfl (by kernel_rfl) rfl (by simp [Value.oneCell']) ?_
  try (simp only [List.getElem_toArray, List.getElem_cons_succ, List.getElem_cons_zero])
  try go_frame
  unfold tailE
  have bS := ((Below.refl w.heap.size w).drew).alloc (o := .cells #[.int .u64 a, .int .u64 o] 269) (Nat.le_refl _)
  have zS := heap_alloc_new w.drew (.cells #[.int .u64 a, .int .u64 o] 269)
  have HLS := Lib.hid (HL.out.below bS)
  have FS := Lib.hid ((below_fr bS wTy true).fx fb)
  have ZS := Lib.hid (show (w.drew.alloc (.cells #[.int .u64 a, .int .u64 o] 269)).heap[w.heap.size]? = some (.cells #[.int .u64 a, .int .u64 o] 269 (0, 0)) from zS)
  clear bS zS HL y6 y7 ya yo
  generalize w.drew.alloc (.cells #[.int .u64 a, .int .u64 o] 269) = wS at *
  generalize w.heap.size = q at *
  obtain ⟨v, hv⟩ : ∃ v, v = s.val a := ⟨_, rfl⟩
  have HVV := Lib.hid hv
  have HLD := Lib.hid (HLS.out.below (Below.refl wS.heap.size wS).drew)
  have FD := Lib.hid (FS.out.trans ((below_fr (Below.refl wS.heap.size wS).drew wTy true).fx fb))
  have hld := HLD.out.ws.load HR.out a HA.out
  rw [← HS1.out, ← hv] at hld
  have ss : TSix q B.wb B.cb a o wS.drew := ⟨HLD.out.ws.c0, hcell (w := wS.drew) ZS.out 0, hcell (w := wS.drew) ZS.out 1⟩
  obtain ⟨b, hb⟩ : ∃ b, (v != o) = b := ⟨_, rfl⟩
  clear hv HLS FS
  go_upto_region 1 with (fail)
  go_region_held2 (fun W => TSix q B.wb B.cb a o W) (assumption) (first | (go_at_call 62; refine hld.mono ?_; intro e w2 hh; obtain ⟨hh1, h2, f2⟩ := hh; subst hh1; have L2 := HLD.out.move h2 f2; have z2 := f2.cells _ _ _ _ (show wS.drew.heap[q]? = _ from ZS.out) rfl; have s2 : TSix q B.wb B.cb a o w2 := ⟨L2.ws.c0, hcell z2 0, hcell z2 1⟩; have HL2 := Lib.hid L2; have F2 := Lib.hid (FD.out.trans (f2.fx fb)); clear h2 f2 L2 hld ss z2))
  have HB := Lib.hid hb
  clear s2 HLD FD
  have EX : Hid (x2 = if v = o then (if x.at_ + 1 = x.vs.length then { x with at_ := x.at_ + 1, ph := .off } else { x with at_ := x.at_ + 1 }) else x.again) := by
    show x2 = _
    rw [HX2.out, ← HVV.out]; rfl
  have EV : Hid (V2 = if v = o then V else agV V s1 x) := by show V2 = _; rw [HV2.out, ← HVV.out]
  have c7 : w2.cell? ⟨fb, 7, none⟩ = some (.int .i64 x.at_) := HL2.out.c 7
  have k7 := HL2.out.f 7
  have hag := lagain HL2.out.ws (LR.look HL2.out) HLL.out HN.out HNS.out
  cases b
  · have he : v = o := by have := HB.out; simpa using this
    have E1 := Lib.hid (EX.out.trans (if_pos he)); have E2 := Lib.hid (EV.out.trans (if_pos he))
    clear hag hb he EX EV
    go_upto_region 4 with (fail)
    have HL6 := Lib.hid (HL2.out.set 7 (.int .i64 ((x.at_ : Int) + 1)))
    have F6 := Lib.hid (F2.out.trans (set_fx wTy true w2 fb 7 (.int .i64 ((x.at_ : Int) + 1))))
    clear HL2 F2 c7 k7
    generalize w2.setCell ⟨fb, 7, none⟩ (.int .i64 ((x.at_ : Int) + 1)) = w6 at *
    obtain ⟨cap6, e6, -⟩ := ver_at HL6.out x.at_ hk
    have c6 : w6.cell? ⟨fb, 6, none⟩ = some vv := HL6.out.c 6
    have c7 : w6.cell? ⟨fb, 7, none⟩ = some (.int .i64 ((x.at_ : Int) + 1)) := HL6.out.c 7
    rw [e6] at c6
    have y6 := fun st : ExtW w6 => st.cell c6
    have y7 := fun st : ExtW w6 => st.cell c7
    by_cases he : x.at_ + 1 = x.vs.length
    · have eb : ((x.at_ : Int) + 1 == (x.vs.length : Int)) = true := beq_iff_eq.2 (by omega)
      have E3 := Lib.hid (E1.out.trans (if_pos he))
      clear he E1 e6 c6 c7
      refine wp_region_ext (by kernel_rfl) (by kernel_rfl) ?_
      repeat (go_big_quiet_step (fail))
      refine wpQuiet_nil ?_
      rintro W7 ⟨⟨W8, hW7⟩, rfl⟩
      have HL7 := Lib.hid (HL6.out.below hW7)
      have F7 := Lib.hid (F6.out.trans ((below_fr hW7 wTy true).fx fb))
      clear y6 y7 eb hW7 HL6 F6
      have c3 : W7.cell? ⟨fb, 3, none⟩ = some x.ph.fn := HL7.out.c 3
      have k3 := HL7.out.f 3
      generalize x.ph.fn = F at c3
      go_wp2
      go_end0
      have L8 := HL7.out.set 3 .nilFunc
      rw [E3.out, E2.out]
      exact ⟨rfl, L8.ws, LR.look (x := { x with at_ := x.at_ + 1, ph := .off }) L8, F7.out.trans (set_fx _ _ _ _ _ _)⟩
    · have eb : ((x.at_ : Int) + 1 == (x.vs.length : Int)) = false := beq_eq_false_iff_ne.2 (by omega)
      have E3 := Lib.hid (E1.out.trans (if_neg he))
      clear he E1 e6 c6 c7
      refine wp_region_ext (by kernel_rfl) (by kernel_rfl) ?_
      repeat (go_big_quiet_step (fail))
      refine wpQuiet_nil ?_
      rintro W7 ⟨⟨W8, hW7⟩, rfl⟩
      have HL7 := Lib.hid (HL6.out.below hW7)
      have F7 := Lib.hid (F6.out.trans ((below_fr hW7 wTy true).fx fb))
      clear y6 y7 eb hW7 HL6 F6
      go_wp2
      go_end0
      rw [E3.out, E2.out]
      exact ⟨rfl, HL7.out.ws, LR.look (x := { x with at_ := x.at_ + 1 }) HL7.out, F7.out⟩
  · have he : ¬ v = o := by have := HB.out; simpa using this
    have E1 := Lib.hid (EX.out.trans (if_neg he)); have E2 := Lib.hid (EV.out.trans (if_neg he))
    clear hb he EX EV c7 k7
    go_wp2_with (go_at_call 199; refine hag.mono ?_; intro e w3 hh; obtain ⟨hh1, h3, a3, f3⟩ := hh; subst hh1; have P := Lib.hid (And.intro h3 (And.intro a3 (F2.out.trans f3))); clear h3 a3 f3 hag)
    refine bodyPost_ret (v := .tuple #[]) (by simp [results, Tryz.results254, go_sem]) rfl ?_
    rw [E1.out, E2.out]
    exact ⟨rfl, P.out.1, P.out.2.1, P.out.2.2⟩
end Go.Proofs.YtmakjfeepmiggaaGreat

/-
  A Look: its line 4.
-/
namespace Go.Proofs.YtmakjfeepmiggaaGreat
open Go.RowKit Go.Maps TagPure
set_option linter.unusedVariables false

theorem clip_slr (v : Value) (base : Nat) (N : List Nat) (w : World) (h : w.ownsRow base 3 1 v N.length (cells N)) :
    Calls Tryz.prog 224 #[v] w fun e w' => ∃ v', e = .returned v' ∧ SlR w v' N ∧ w' = w := by
  obtain ⟨h1, ⟨rfl, h0⟩ | ⟨g, cap, cur, rfl, hb, hg, hn, hm, hs, ht⟩⟩ := h
  · have : N = [] := List.length_eq_zero_iff.1 h0
    subst this
    clear h1 h0
    go_enter Tryz.func224, Tryz.ntmps224
    go_wp2
    go_ret
    exact ⟨_, rfl, .inl ⟨rfl, _, _, rfl, Nat.zero_le _⟩, rfl⟩
  · have hm2 := Nat.le_trans hn hm
    have hi : ∀ i, (hi : i < N.length) → cur[0 + i]? = some (.int .i64 (N[i] : Nat)) := fun i hi => by
      have h5 : (cells N)[i]? = some (.int .i64 (N[i] : Nat)) := by simp [cells, hi]
      rw [← ht, List.getElem?_take_of_lt (by omega), Array.getElem?_toList] at h5
      rw [Nat.zero_add]; exact h5
    unfold maxLen at hm hm2
    have HG := Lib.hid hg; have HI := Lib.hid hi
    clear ht hg hs h1 hi
    go_enter Tryz.func224, Tryz.ntmps224
    go_wp2
    go_ret
    exact ⟨_, rfl, .inr ⟨g, 0, _, cur, rfl, Nat.le_refl _, by unfold maxLen; omega, HG.out, HI.out⟩, rfl⟩
set_option maxRecDepth 100000 in
set_option maxHeartbeats 1600000 in
theorem has_slr (x t : Int) (w : World) (h0 : 0 ≤ x) (h1 : x < 18446744073709551616) (ht : t ≠ 0) :
    Calls Tryz.prog 193 #[.int .u64 x, .int .i64 t] w fun e w' => ∃ v, e = .returned v ∧ SlR w' v (has x t 4) ∧ Below w.heap.size w w' := by
  have ht' : (t == 0) = false := by simp [ht]
  clear ht
  obtain ⟨i0, hi0, hz0, hz1, hz2⟩ := info_parts info_int
  have HI := Lib.hid hi0; have HZ0 := Lib.hid hz0; have HZ1 := Lib.hid hz1; have HZ2 := Lib.hid hz2
  clear hi0 hz0 hz1 hz2
  go_enter Tryz.func193, Tryz.ntmps193
  go_wp2_with (go_at_call 136; refine (parts_any _ _ h0 h1).mono ?_; rintro e w1 ⟨rfl, hb⟩)
  go_loopw [5, 12] (fun v i wr => ∃ k : Nat, k ≤ 4 ∧ i = .int .i64 k ∧ wr.ownsRow w.heap.size 3 1 v (has x t k).length (cells (has x t k)) ∧ Below w.heap.size w wr) (fun _ i _ => 4 - (intOf i).toNat)
  case atStart => exact ⟨0, by omega, rfl, World.ownsRow_nil _ _ _ _, hb⟩
  case round =>
    obtain ⟨k, hk, rfl, hown, hbl⟩ := hrel
    have hlen := has_le x t k
    by_cases hlt : k < 4
    · have hi := tags_get x k hlt
      by_cases hz : tg x k = t
      · have hz' : (tg x k == t) = true := by simp [hz]
        have HC : Hid (has x t (k + 1) = has x t k ++ [k]) := by show _ = _; simp [has, hz]
        clear hz
        go_wp2_with (at_builtin; refine wpList_append_own _ rfl _ _ 132 rfl w.heap.size 3 i0 (.int .i64 0) 1 8 Tryz.underlying132 HI.out HZ0.out HZ1.out HZ2.out rfl (by decide) _ _ _ rfl (hown.alloc _) ⟨wr.heap.size, 0, none⟩ 1 1 [.int .i64 k] rfl rfl ?c1 ?c2 ?c3 ?c4 ?c5 ?_)
        case c1 => exact cell_one_new _ _ _
        case c2 => simp [Value.oneCell']
        case c3 => unfold maxLen; omega
        case c4 => omega
        case c5 => simp; have := hbl.size; omega
        intro v' w2 hown' hgrow _
        go_wp2
        go_roundw
        case rel =>
          refine ⟨k + 1, by omega, by go_num, ?_, (hbl.alloc hbl.size _).grown hgrow (by simp; have := hbl.size; omega) (fun j hj => (hown.lt j hj).1)⟩
          rw [HC.out]; simpa [cells] using hown'
        case measure => simp [intOf]; omega
      · have hz' : (tg x k == t) = false := by simp [hz]
        have HC : Hid (has x t (k + 1) = has x t k) := by show _ = _; simp [has, hz]
        clear hz
        go_wp2
        go_roundw
        case rel => exact ⟨k + 1, by omega, by go_num, by rw [HC.out]; exact hown, hbl⟩
        case measure => simp [intOf]; omega
    · obtain rfl : k = 4 := by omega
      go_wp2_with (go_at_call 224; refine (clip_slr _ _ _ _ hown).mono ?_; rintro e w2 ⟨v', rfl, hl, rfl⟩)
      go_ret
      exact ⟨_, rfl, hl, hbl⟩
theorem pl_at {w : World} {b : Nat} {v : Value} {l : List (Int × Int)} (h : PlN w b v l) (k : Nat) (hk : k < l.length) : ∃ g, v = .slice (some ⟨g, 0, none⟩) l.length l.length ∧ l.length ≤ maxLen ∧ w.cell? ⟨g, k * 2, none⟩ = some (.int .i64 (l[k]).1) ∧ w.cell? ⟨g, k * 2 + 1, none⟩ = some (.int .i64 (l[k]).2) := by
  rcases h with ⟨-, rfl⟩ | ⟨g, cur, rfl, -, hg, hm, ht⟩
  · simp at hk
  have hat := flat_atL l k hk
  have hfl : (flatP l).length = l.length * 2 := flat_lenL l
  have hat' : (flatP l)[k * 2]? = some (.int .i64 (l[k]).1) ∧ (flatP l)[k * 2 + 1]? = some (.int .i64 (l[k]).2) := hat
  rw [← ht] at hat'
  refine ⟨g, rfl, hm, ?_, ?_⟩
  · rw [hcell hg, ← Array.getElem?_toList, ← hat'.1, List.getElem?_take_of_lt (by omega)]
  · rw [hcell hg, ← Array.getElem?_toList, ← hat'.2, List.getElem?_take_of_lt (by omega)]
theorem LR.slots {w0 w : World} {B : WB} {V : WV} {s : CS} {fb : Nat} {cs : Array Value} {va vv vs : Value} {al ve : List (Int × Int)} {sl : List Nat} {vb : Nat} (h : LR w0 w B V s fb cs va vv vs al ve sl vb) (v : Value) (N : List Nat) (hN : SlR w v N) : LR w0 (w.setCell ⟨fb, 8, none⟩ v) B V s fb (cs.setIfInBounds 8 v) va vv v al ve N vb :=
  ⟨(h.set 8 v).ws, h.lo, (h.set 8 v).z, (h.set 8 v).pl, (h.set 8 v).vr, hN.fr (set_ty h.z 8 v) rfl, h.ob⟩
abbrev TTg (fb g k n wb cb : Nat) (hsh : Int) (p : Int × Int) (W : World) : Prop := W.cell? ⟨wb, 0, none⟩ = some (.pointer (some ⟨cb, 0, none⟩)) ∧ W.cell? ⟨fb, 1, none⟩ = some (.int .u64 hsh) ∧ W.cell? ⟨fb, 5, none⟩ = some (.slice (some ⟨g, 0, none⟩) n n) ∧ W.cell? ⟨fb, 7, none⟩ = some (.int .i64 k) ∧ W.cell? ⟨g, k * 2, none⟩ = some (.int .i64 p.1) ∧ W.cell? ⟨g, k * 2 + 1, none⟩ = some (.int .i64 p.2)
theorem LR.tt {w0 w : World} {B : WB} {V : WV} {s : CS} {fb g : Nat} {x : LK} {vv vs : Value} (h : LR w0 w B V s fb (x.cells (.slice (some ⟨g, 0, none⟩) x.all.length x.all.length) vv vs) (.slice (some ⟨g, 0, none⟩) x.all.length x.all.length) vv vs x.all x.vs x.sl x.vb) (hk : x.at_ < x.all.length) (p : Int × Int) (hp : x.all[x.at_]? = some p) :
    TTg fb g x.at_ x.all.length B.wb B.cb x.h p w := by
  obtain ⟨g', e, -, h1, h2⟩ := pl_at h.pl x.at_ hk
  simp only [Value.slice.injEq, Option.some.injEq, Addr.mk.injEq, and_true] at e
  obtain rfl := e
  rw [List.getElem?_eq_getElem hk, Option.some.injEq] at hp
  rw [hp] at h1 h2
  exact ⟨h.ws.c0, h.c 1, h.c 5, h.c 7, h1, h2⟩
set_option maxRecDepth 10000 in
set_option maxHeartbeats 2000000 in
theorem ltags {w0 w : World} {B : WB} {V : WV} {s : CS} {fb : Nat} {x : LK} (h : WS w0 w B V s) (hr : s.room) (hx : LookAt w w0.heap.size fb x) (hk : x.at_ < x.all.length) (hm : x.all.length ≤ 1000) (hh : 0 ≤ x.h ∧ x.h < 18446744073709551616) (p1 p2 : Int) (hp : x.all[x.at_]? = some (p1, p2)) :
    Calls Tryz.prog 225 #[.pointer (some ⟨fb, 0, none⟩), .pointer (some ⟨B.wb, 0, none⟩)] w fun e w' => e = .returned (.tuple #[]) ∧ WS w0 w' B V (s.acc 1 (tagsA p1 p2) (s.val (tagsA p1 p2))) ∧ LookAt w' w0.heap.size fb ({ x with sl := has (s.val (tagsA p1 p2)) (tag01 x.h) 4 } : LK).on ∧ Fx wTy true fb w w' := by
  obtain ⟨va, vv, vs, L⟩ := LR.of h hx
  obtain ⟨g, e0, -, -, -⟩ := pl_at L.pl x.at_ hk
  subst e0
  have HWF := Lib.hid (h.own.wf (tagsA p1 p2))
  have HTA := Lib.hid (tagsA_wf p1 p2)
  have HTG := Lib.hid (fun W => tags_any p1 p2 W)
  have HTN := Lib.hid (fun W => tag_fn x.h hh.1 hh.2 W)
  have htn : tag01 x.h ≠ 0 := by have := tag01_bd x.h hh.1 hh.2; omega
  have hwb : 0 ≤ s.val (tagsA p1 p2) ∧ s.val (tagsA p1 p2) < 18446744073709551616 := wf_bd HWF.out
  have HHS := Lib.hid (fun W => has_slr (s.val (tagsA p1 p2)) (tag01 x.h) W hwb.1 hwb.2 htn)
  have HL1 := Lib.hid (L.below (Below.refl w.heap.size w).drew)
  have F1 := Lib.hid ((below_fr (Below.refl w.heap.size w).drew wTy true).fx fb)
  have hs1 := HL1.out.tt hk _ hp
  have HR := Lib.hid hr; have HP := Lib.hid hp; have HK := Lib.hid hk; have HM := Lib.hid hm
  clear h hr hx L htn hwb hh hp
  obtain ⟨N, hN⟩ : ∃ N, N = has (s.val (tagsA p1 p2)) (tag01 x.h) 4 := ⟨_, rfl⟩
  obtain ⟨s1, hs1'⟩ : ∃ s1, s1 = s.acc 1 (tagsA p1 p2) (s.val (tagsA p1 p2)) := ⟨_, rfl⟩
  rw [← hN] at HHS
  rw [← hN, ← hs1']
  have HS1 := Lib.hid hs1'
  clear hN hs1'
  have hk' : (x.at_ : Int) < x.all.length := by omega
  have hm' : (x.all.length : Int) ≤ 1000 := by omega
  clear hk hm
  go_enter Tryz.func225, Tryz.ntmps225
  go_upto_region 0 with (fail)
  go_region_held2 (fun W => TTg fb g x.at_ x.all.length B.wb B.cb x.h (p1, p2) W) (assumption) (first
    | (go_at_call 42; refine (HTG.out _).mono ?_; intro e w2 hh; obtain ⟨hh1, b2⟩ := hh; subst hh1; have HL2 := Lib.hid (HL1.out.below b2); have F2 := Lib.hid (F1.out.trans ((below_fr b2 wTy true).fx fb)); have s2 := HL2.out.tt HK.out _ HP.out; have hld := HL2.out.ws.load HR.out (tagsA p1 p2) HTA.out; rw [← HS1.out] at hld; clear b2 hs1 HL1 F1)
    | (go_at_call 62; refine hld.mono ?_; intro e w3 hh; obtain ⟨hh1, h3, f3⟩ := hh; subst hh1; have HL3 := Lib.hid (HL2.out.move h3 f3); have F3 := Lib.hid (F2.out.trans (f3.fx fb)); have s3 := HL3.out.tt HK.out _ HP.out; clear h3 f3 hld s2 HL2 F2)
    | (go_at_call 83; refine (HTN.out _).mono ?_; intro e w5 hh; obtain ⟨hh1, hh2⟩ := hh; subst hh1; obtain rfl := hh2.symm)
    | (go_at_call 193; refine (HHS.out _).mono ?_; intro e w6 hh; obtain ⟨hv, hh1, hl6, b6⟩ := hh; subst hh1; obtain ⟨ha, hc, rfl, hl7⟩ := hl6.sl'; have HL6 := Lib.hid (HL3.out.below b6); have F6 := Lib.hid (F3.out.trans ((below_fr b6 wTy true).fx fb)); have s6 := HL6.out.tt HK.out _ HP.out; have HL7 := Lib.hid (HL6.out.slots _ _ hl6); have c8 : w6.cell? ⟨fb, 8, none⟩ = some vs := HL6.out.c 8; have k8 := HL6.out.f 8; have s7 : TTg fb g x.at_ x.all.length B.wb B.cb x.h (p1, p2) (w6.setCell ⟨fb, 8, none⟩ (.slice ha N.length hc)) := LR.tt (x := { x with sl := N }) HL7.out HK.out _ HP.out; clear b6 hl6 hl7 s3 HL3 F3))
  have F7 := Lib.hid (F6.out.trans (set_fx wTy true w6 fb 8 (.slice ha N.length hc)))
  clear s6 s7 c8 k8 HL6 F6 HTG HTN HHS
  generalize w6.setCell ⟨fb, 8, none⟩ (.slice ha N.length hc) = w7 at *
  have hon := lon (x := { x with sl := N }) HL7.out.ws (LR.look (x := { x with sl := N }) HL7.out) (by show x.at_ ≤ 1000; omega) HM.out
  go_wp2_with (go_at_call 240; refine hon.mono ?_; intro e w8 hh; obtain ⟨hh1, h8, a8, f8⟩ := hh; subst hh1; have P := Lib.hid (And.intro h8 (And.intro a8 (F7.out.trans f8))); clear h8 a8 f8 hon)
  go_end0
  exact ⟨rfl, P.out.1, P.out.2.1, P.out.2.2⟩
end Go.Proofs.YtmakjfeepmiggaaGreat

/-
  A Look: its line 4, a slot's item.
-/
namespace Go.Proofs.YtmakjfeepmiggaaGreat
open Go.RowKit Go.Maps TagPure
set_option linter.unusedVariables false

def LK.item (x : LK) (its : List Itm) (r : Int) : LK := if ((atOf its r).2 && decide ((atOf its r).1.key = x.key)) = true then { x with sl := x.sl.tail, ref := r, ph := .fif } else ({ x with sl := x.sl.tail } : LK).on
theorem slr_pop {w : World} {v : Value} {n : Nat} {tl : List Nat} (h : SlR w v (n :: tl)) : ∃ q off k, v = .slice (some ⟨q, off, none⟩) (tl.length + 1) (k + 1) ∧ k + 1 ≤ maxLen ∧ tl.length ≤ k ∧ w.cell? ⟨q, off, none⟩ = some (.int .i64 (n : Nat)) ∧ SlR w (.slice (some ⟨q, if k = 0 then off else off + 1, none⟩) tl.length k) tl := by
  rcases h with ⟨h, -⟩ | ⟨q, off, cap, cur, rfl, h1, h2, h3, h4⟩
  · cases h
  rw [List.length_cons] at h1
  obtain ⟨k, rfl⟩ : ∃ k, cap = k + 1 := ⟨cap - 1, by omega⟩
  refine ⟨q, off, k, rfl, h2, by omega, ?_, ?_⟩
  · rw [hcell h3]; exact h4 0 (by simp)
  · by_cases hk : k = 0
    · have : tl = [] := List.eq_nil_of_length_eq_zero (by omega)
      subst this
      exact .inl ⟨rfl, _, _, rfl, by omega⟩
    · rw [if_neg hk]
      refine .inr ⟨q, off + 1, k, cur, rfl, by omega, by omega, h3, fun i hi => ?_⟩
      have := h4 (i + 1) (by simp; omega)
      rw [show off + 1 + i = off + (i + 1) by omega]
      simpa using this
abbrev TIm (fb g k n q off m c wb cb : Nat) (p : Int × Int) (sn : Nat) (W : World) : Prop := W.cell? ⟨wb, 0, none⟩ = some (.pointer (some ⟨cb, 0, none⟩)) ∧ W.cell? ⟨fb, 5, none⟩ = some (.slice (some ⟨g, 0, none⟩) n n) ∧ W.cell? ⟨fb, 7, none⟩ = some (.int .i64 k) ∧ W.cell? ⟨fb, 8, none⟩ = some (.slice (some ⟨q, off, none⟩) m c) ∧ W.cell? ⟨g, k * 2, none⟩ = some (.int .i64 p.1) ∧ W.cell? ⟨g, k * 2 + 1, none⟩ = some (.int .i64 p.2) ∧ W.cell? ⟨q, off, none⟩ = some (.int .i64 sn)
theorem LR.ti {w0 w : World} {B : WB} {V : WV} {s : CS} {fb g q off k n : Nat} {tl : List Nat} {x : LK} {vv : Value} (h : LR w0 w B V s fb (x.cells (.slice (some ⟨g, 0, none⟩) x.all.length x.all.length) vv (.slice (some ⟨q, off, none⟩) (tl.length + 1) (k + 1))) (.slice (some ⟨g, 0, none⟩) x.all.length x.all.length) vv (.slice (some ⟨q, off, none⟩) (tl.length + 1) (k + 1)) x.all x.vs (n :: tl) x.vb) (hk : x.at_ < x.all.length) (p : Int × Int) (hp : x.all[x.at_]? = some p) :
    TIm fb g x.at_ x.all.length q off (tl.length + 1) (k + 1) B.wb B.cb p n w := by
  obtain ⟨g', e, -, h1, h2⟩ := pl_at h.pl x.at_ hk
  simp only [Value.slice.injEq, Option.some.injEq, Addr.mk.injEq, and_true] at e
  obtain rfl := e
  rw [List.getElem?_eq_getElem hk, Option.some.injEq] at hp
  rw [hp] at h1 h2
  obtain ⟨q', off', k', e, -, -, h5, -⟩ := slr_pop h.sr
  simp only [Value.slice.injEq, Option.some.injEq, Addr.mk.injEq, and_true] at e
  obtain ⟨⟨rfl, rfl⟩, -, -⟩ := e
  exact ⟨h.ws.c0, h.c 5, h.c 7, h.c 8, h1, h2, h5⟩
set_option maxRecDepth 10000 in
set_option maxHeartbeats 4000000 in
theorem litem {w0 w : World} {B : WB} {V : WV} {s : CS} {fb : Nat} {x : LK} (h : WS w0 w B V s) (hr : s.room) (hx : LookAt w w0.heap.size fb x) (hits : V.its.length ≤ 1048576) (hk : x.at_ < x.all.length) (hm : x.all.length ≤ 1000) (p1 p2 : Int) (hp : x.all[x.at_]? = some (p1, p2)) (n : Nat) (tl : List Nat) (hsl : x.sl = n :: tl) (hn : (Lit.int .i64 (n : Int)).wf = true) :
    Calls Tryz.prog 248 #[.pointer (some ⟨fb, 0, none⟩), .pointer (some ⟨B.wb, 0, none⟩)] w fun e w' => e = .returned (.tuple #[]) ∧ WS w0 w' B V (s.acc 1 (itemA p1 p2 n) (s.val (itemA p1 p2 n))) ∧ LookAt w' w0.heap.size fb (x.item V.its (wrap64 (s.val (itemA p1 p2 n)))) ∧ Fx wTy true fb w w' := by
  obtain ⟨va, vv, vs, L⟩ := LR.of h hx
  obtain ⟨g, e0, -, -, -⟩ := pl_at L.pl x.at_ hk
  subst e0
  have L0 := L
  rw [hsl] at L0
  obtain ⟨q, off, k, e1, hkm, htk, -, -⟩ := slr_pop L0.sr
  subst e1
  have HTA := Lib.hid (itemA_wf p1 p2 n)
  have HTG := Lib.hid (fun W => item_any p1 p2 n hn W)
  have HL1 := Lib.hid (L0.below (Below.refl w.heap.size w).drew)
  have F1 := Lib.hid ((below_fr (Below.refl w.heap.size w).drew wTy true).fx fb)
  have hs1 := HL1.out.ti hk _ hp
  have HR := Lib.hid hr; have HP := Lib.hid hp; have HK := Lib.hid hk; have HM := Lib.hid hm; have HI := Lib.hid hits; have HSL := Lib.hid hsl; have HSLX := Lib.hid (show x.sl.tail = tl by rw [hsl]; rfl)
  clear h hr hx L L0 hp hn hits hsl
  obtain ⟨ref, href⟩ : ∃ ref, ref = wrap64 (s.val (itemA p1 p2 n)) := ⟨_, rfl⟩
  obtain ⟨s1, hs1'⟩ : ∃ s1, s1 = s.acc 1 (itemA p1 p2 n) (s.val (itemA p1 p2 n)) := ⟨_, rfl⟩
  obtain ⟨x2, hx2⟩ : ∃ x2, x2 = x.item V.its ref := ⟨_, rfl⟩
  rw [← href, ← hs1', ← hx2]
  have HS1 := Lib.hid hs1'; have HRF := Lib.hid href; have HX2 := Lib.hid hx2
  clear hs1' href hx2
  have hk' : (x.at_ : Int) < x.all.length := by omega
  have hm' : (x.all.length : Int) ≤ 1000 := by omega
  unfold maxLen at hkm
  clear hk hm
  go_enter Tryz.func248, Tryz.ntmps248
  go_upto_region 0 with (fail)
  go_cut [4] (fun v4 wx => v4 = .int .i64 ref ∧ LR w0 wx B V s1 fb (x.cells (.slice (some ⟨g, 0, none⟩) x.all.length x.all.length) vv (.slice (some ⟨q, off, none⟩) (tl.length + 1) (k + 1))) (.slice (some ⟨g, 0, none⟩) x.all.length x.all.length) vv (.slice (some ⟨q, off, none⟩) (tl.length + 1) (k + 1)) x.all x.vs (n :: tl) x.vb ∧ Fx wTy true fb w wx)
  case first =>
    go_region_held2 (fun W => TIm fb g x.at_ x.all.length q off (tl.length + 1) (k + 1) B.wb B.cb (p1, p2) n W) (assumption) (first
      | (go_at_call 192; refine (HTG.out _).mono ?_; intro e w2 hh; obtain ⟨hh1, b2⟩ := hh; subst hh1; have HL2 := Lib.hid (HL1.out.below b2); have F2 := Lib.hid (F1.out.trans ((below_fr b2 wTy true).fx fb)); have s2 := HL2.out.ti HK.out _ HP.out; have hld := HL2.out.ws.load HR.out (itemA p1 p2 n) HTA.out; rw [← HS1.out] at hld; clear b2 hs1 HL1 F1)
      | (go_at_call 62; refine hld.mono ?_; intro e w3 hh; obtain ⟨hh1, h3, f3⟩ := hh; subst hh1; have HL3 := Lib.hid (HL2.out.move h3 f3); have F3 := Lib.hid (F2.out.trans (f3.fx fb)); have s3 := HL3.out.ti HK.out _ HP.out; clear h3 f3 hld s2 HL2 F2))
    all_goals (try go_wp2_with fail)
    all_goals go_meet
    all_goals exact ⟨congrArg (Value.int IntKind.i64) ((IntWalk.i64_left _).trans HRF.out.symm), HL3.out, F3.out⟩
  case rest =>
    obtain ⟨rfl, hl2, fx2⟩ := hcut
    clear HL1 F1 HTG hs1
    have HL2 := Lib.hid hl2; have F2 := Lib.hid fx2
    obtain ⟨q2, off2, k2, e2, -, -, -, hsr⟩ := slr_pop hl2.sr
    simp only [Value.slice.injEq, Option.some.injEq, Addr.mk.injEq, and_true, Nat.add_right_cancel_iff, true_and] at e2
    obtain ⟨⟨rfl, rfl⟩, rfl⟩ := e2
    obtain ⟨o2, ho2⟩ : ∃ o2, o2 = (if k = 0 then off else off + 1) := ⟨_, rfl⟩
    rw [← ho2] at hsr
    have HO2 := Lib.hid ho2
    clear ho2
    have hst := hl2.slots _ _ hsr
    have HST := Lib.hid hst
    have HFS := Lib.hid (fx2.trans (set_fx wTy true wc fb 8 (.slice (some ⟨q, o2, none⟩) tl.length k)))
    clear hl2 fx2 hsr hst
    go_upto_region 1 with (fail)
    go_cut [] (fun wx => LR w0 wx B V s1 fb ((x.cells (.slice (some ⟨g, 0, none⟩) x.all.length x.all.length) vv (.slice (some ⟨q, off, none⟩) (tl.length + 1) (k + 1))).setIfInBounds 8 (.slice (some ⟨q, o2, none⟩) tl.length k)) (.slice (some ⟨g, 0, none⟩) x.all.length x.all.length) vv (.slice (some ⟨q, o2, none⟩) tl.length k) x.all x.vs tl x.vb ∧ Fx wTy true fb w wx)
    case first =>
      have c8 : wc.cell? ⟨fb, 8, none⟩ = some (.slice (some ⟨q, off, none⟩) (tl.length + 1) (k + 1)) := HL2.out.c 8
      have k8 := HL2.out.f 8
      by_cases hk0 : k = 0
      · have ho := HO2.out
        rw [if_pos hk0] at ho
        subst hk0
        have ht0 : tl = [] := List.eq_nil_of_length_eq_zero (by omega)
        subst ht0
        clear HO2
        subst ho
        go_wp2
        all_goals go_meet
        all_goals exact ⟨HST.out, HFS.out⟩
      · have ho := HO2.out
        rw [if_neg hk0] at ho
        clear HO2
        subst ho
        go_wp2
        all_goals go_meet
        all_goals exact ⟨HST.out, HFS.out⟩
    case rest =>
      obtain ⟨hl3, fx3⟩ := hcut
      clear HL2 F2 HO2 HST HFS HSL
      obtain ⟨y, hy⟩ : ∃ y : LK, y = { x with sl := tl } := ⟨_, rfl⟩
      have hl4 : LR w0 wc B V s1 fb (y.cells (.slice (some ⟨g, 0, none⟩) x.all.length x.all.length) vv (.slice (some ⟨q, o2, none⟩) tl.length k)) (.slice (some ⟨g, 0, none⟩) x.all.length x.all.length) vv (.slice (some ⟨q, o2, none⟩) tl.length k) y.all y.vs y.sl y.vb := by rw [hy]; exact hl3
      have hat := hl4.ws.iat5 HI.out ref
      have x1 := hl4.ws.hd5.2.1
      obtain ⟨it, hit⟩ : ∃ it, it = (atOf V.its ref).1 := ⟨_, rfl⟩
      obtain ⟨is, his⟩ : ∃ is, is = (atOf V.its ref).2 := ⟨_, rfl⟩
      rw [← hit, ← his] at hat
      have HIT := Lib.hid hit; have HIS := Lib.hid his; have HL4 := Lib.hid hl4; have F4 := Lib.hid fx3; have HY := Lib.hid hy
      clear hit his hl3 hl4 fx3 hy
      go_upto_region 3 with (go_at_call 75; refine hat.mono ?_; intro e w4 hh; obtain ⟨hh1, b4⟩ := hh; subst hh1; have HL5 := Lib.hid (HL4.out.below b4); have F5 := Lib.hid (F4.out.trans ((below_fr b4 wTy true).fx fb)); clear b4 hat x1 HL4 F4)
      change Code.wp _ _ _ _ (w4.alloc (.cells it.cells.toArray 80))
      have hb5 := below_alloc w4 (.cells it.cells.toArray 80)
      have hz5 := heap_alloc_new w4 (.cells it.cells.toArray 80)
      have HL6 := Lib.hid (HL5.out.below hb5); have F6 := Lib.hid (F5.out.trans ((below_fr hb5 wTy true).fx fb)); have HZ5 := Lib.hid hz5
      clear hb5 hz5 HL5 F5
      generalize w4.alloc (.cells it.cells.toArray 80) = w5 at *
      generalize w4.heap.size = tb at *
      obtain ⟨d, hd⟩ : ∃ d, d = (is && decide (it.key = x.key)) := ⟨_, rfl⟩
      have HD := Lib.hid hd
      have HYK : Hid (y.key = x.key) := by show y.key = x.key; rw [HY.out]
      clear hd
      go_cut [57] (fun v57 wx => v57 = .bool d ∧ LR w0 wx B V s1 fb (y.cells (.slice (some ⟨g, 0, none⟩) x.all.length x.all.length) vv (.slice (some ⟨q, o2, none⟩) tl.length k)) (.slice (some ⟨g, 0, none⟩) x.all.length x.all.length) vv (.slice (some ⟨q, o2, none⟩) tl.length k) y.all y.vs y.sl y.vb ∧ Fx wTy true fb w wx)
      case first =>
        have c0 : w5.cell? ⟨tb, 0, none⟩ = some (.string it.key) := hcell HZ5.out 0
        have c1 : w5.cell? ⟨fb, 0, none⟩ = some (.string x.key) := by rw [← HYK.out]; exact HL6.out.c 0
        have hdr : Below w5.heap.size w5 w5.drew := (Below.refl _ _).drew
        have HL7 := Lib.hid (HL6.out.below hdr); have F7 := Lib.hid (F6.out.trans ((below_fr hdr wTy true).fx fb))
        clear hdr
        cases is
        · go_region
          all_goals (try go_wp2_with fail)
          all_goals go_meet
          all_goals exact ⟨by rw [HD.out]; rfl, HL7.out, F7.out⟩
        · by_cases hke : it.key = x.key
          · rw [hke] at c0
            have HKE := Lib.hid hke
            clear hke
            go_region
            all_goals (try go_wp2_with fail)
            all_goals go_meet
            all_goals exact ⟨by rw [HD.out, decide_eq_true HKE.out]; rfl, HL7.out, F7.out⟩
          · have HKE := Lib.hid hke
            have kn := key_ne hke
            clear hke
            go_region
            all_goals (try go_wp2_with fail)
            all_goals go_meet
            all_goals exact ⟨by rw [HD.out, decide_eq_false HKE.out]; rfl, HL7.out, F7.out⟩
      case rest =>
        obtain ⟨rfl, hl7, fx7⟩ := hcut
        rw [HIS.out, HIT.out] at HD
        have HL7 := Lib.hid hl7; have F7 := Lib.hid fx7
        have EX : Hid (x2 = if d = true then { y with ref := ref, ph := .fif } else y.on) := by
          show x2 = _
          rw [HX2.out, HD.out, HY.out]
          unfold LK.item
          rw [HSLX.out]
        clear hl7 fx7 HL6 F6 HZ5
        cases d
        · have E := EX.out
          rw [if_neg Bool.false_ne_true] at E
          have HE := Lib.hid E
          clear E EX
          have hon := lon HL7.out.ws (LR.look HL7.out) (by rw [HY.out]; show x.at_ ≤ 1000; omega) (by rw [HY.out]; exact HM.out)
          go_wp2_with (go_at_call 240; refine hon.mono ?_; intro e w8 hh; obtain ⟨hh1, h8, a8, f8⟩ := hh; subst hh1; have P := Lib.hid (And.intro h8 (And.intro a8 (F7.out.trans f8))); clear h8 a8 f8 hon)
          go_end0
          rw [HE.out]
          exact ⟨rfl, P.out.1, P.out.2.1, P.out.2.2⟩
        · have E := EX.out
          rw [if_pos rfl] at E
          have HE := Lib.hid E
          clear E EX
          have c3 : wc.cell? ⟨fb, 3, none⟩ = some y.ph.fn := HL7.out.c 3
          have c9 : wc.cell? ⟨fb, 9, none⟩ = some (.int .i64 y.ref) := HL7.out.c 9
          have k3 := HL7.out.f 3; have k9 := HL7.out.f 9
          generalize y.ph.fn = F at c3
          go_wp2
          refine bodyPost_ret (v := .tuple #[]) (by simp [results, Tryz.results248, go_sem]) rfl ?_
          have L8 := (HL7.out.set 9 (.int .i64 ref)).set 3 (.func (.func 249) #[] #[])
          rw [HE.out]
          exact ⟨rfl, L8.ws, LR.look (x := { y with ref := ref, ph := .fif }) L8, (F7.out.trans (set_fx _ _ _ _ _ _)).trans (set_fx _ _ _ _ _ _)⟩
end Go.Proofs.YtmakjfeepmiggaaGreat

/-
  A Look: its line 1.
-/
namespace Go.Proofs.YtmakjfeepmiggaaGreat
open Go.RowKit Go.Maps TagPure
set_option linter.unusedVariables false

def vers (l : List Int) : List (Int × Int) := l.map fun a => (a, 0)
def LK.first (x : LK) (t : Int) (vb : Nat) : LK := { x with tab := t, all := plist x.h t, vs := vers (vof (plist x.h t)), at_ := 0, ref := 0, ph := .snd, vb := vb }
theorem info_ver : (Tryz.prog.info? 269).map (fun i => (i.zero, i.size, i.bytes)) = some (some (.agg #[.int .u64 0, .int .u64 0]), 2, 16) := by kernel_rfl
theorem vers_take (l : List Int) (k : Nat) (hk : k < l.length) : vers (l.take (k + 1)) = vers (l.take k) ++ [(l[k], 0)] := by
  unfold vers
  rw [List.take_add_one, List.getElem?_eq_getElem hk, List.map_append]; rfl
theorem flatU_snoc (l : List (Int × Int)) (a b : Int) : flatU (l ++ [(a, b)]) = flatU l ++ [.int .u64 a, .int .u64 b] := by simp [flatU]
theorem LR.setall {w0 w : World} {B : WB} {V : WV} {s : CS} {fb : Nat} {cs : Array Value} {va vv vs : Value} {al ve : List (Int × Int)} {sl : List Nat} {vb : Nat} (h : LR w0 w B V s fb cs va vv vs al ve sl vb) (v : Value) (l : List (Int × Int)) (hl : PlN w 0 v l) : LR w0 (w.setCell ⟨fb, 5, none⟩ v) B V s fb (cs.setIfInBounds 5 v) v vv vs l ve sl vb :=
  ⟨(h.set 5 v).ws, h.lo, (h.set 5 v).z, hl.fr (set_ty h.z 5 v) rfl, (h.set 5 v).vr, (h.set 5 v).sr, h.ob⟩
theorem own_lo {w : World} {base base' e size n : Nat} {v : Value} {xs : List Value} (h : w.ownsRow base e size v n xs) (hb : base' ≤ base) : w.ownsRow base' e size v n xs := by
  obtain ⟨h1, h2 | ⟨g, cap, cur, e, hb2, r⟩⟩ := h
  · exact ⟨h1, .inl h2⟩
  · exact ⟨h1, .inr ⟨g, cap, cur, e, Nat.le_trans hb hb2, r⟩⟩
abbrev TFst (fb : Nat) (h t : Int) (W : World) : Prop := W.cell? ⟨fb, 1, none⟩ = some (.int .u64 h) ∧ W.cell? ⟨fb, 4, none⟩ = some (.int .u64 t)
set_option maxRecDepth 10000 in
set_option maxHeartbeats 4000000 in
theorem lfirst {w0 w : World} {B : WB} {V : WV} {s : CS} {fb : Nat} {x : LK} (h : WS w0 w B V s) (hr : s.room) (hx : LookAt w w0.heap.size fb x) (hh : 0 ≤ x.h ∧ x.h < 18446744073709551616) :
    Calls Tryz.prog 97 #[.pointer (some ⟨fb, 0, none⟩), .pointer (some ⟨B.wb, 0, none⟩)] w fun e w' => e = .returned (.tuple #[]) ∧ WS w0 w' B V (s.acc 1 2 (s.val 2)) ∧ (∃ vb, (w.heap.size ≤ vb ∨ vb = fb) ∧ LookAt w' w0.heap.size fb (x.first (s.val 2) vb)) ∧ Fx wTy true fb w w' := by
  obtain ⟨va, vv, vs, L⟩ := LR.of h hx
  have c0 := h.c0
  have hld := h.load hr 2 (by decide)
  have hwf := h.own.wf 2
  have HFB := Lib.hid (Array.getElem?_eq_some_iff.1 L.z).1
  have HL := Lib.hid L
  clear h hx L hr
  obtain ⟨s1, hs1⟩ : ∃ s1, s1 = s.acc 1 2 (s.val 2) := ⟨_, rfl⟩
  rw [← hs1] at hld ⊢
  clear hs1
  generalize s.val 2 = t at *
  obtain ⟨L, hL⟩ : ∃ L, L = plist x.h t := ⟨_, rfl⟩
  have hpl := fun W => places_any x.h t hh.1 hh.2 hwf W
  have hll : L.length ≤ 4 := by rw [hL]; exact plist_len _ _
  rw [← hL] at hpl
  have HPL := Lib.hid hpl; have HLL := Lib.hid hll; have HLE := Lib.hid hL
  clear hpl hh hwf hll hL
  go_enter Tryz.func97, Tryz.ntmps97
  go_upto_region 1 with (go_at_call 62; refine hld.mono ?_; intro e w2 hh; obtain ⟨hh1, h2, f2⟩ := hh; subst hh1; have L2 := HL.out.move h2 f2; have c4 : w2.cell? ⟨fb, 4, none⟩ = some (.int .u64 x.tab) := L2.c 4; have k4 := L2.f 4; have HL2 := Lib.hid L2; have F2 := Lib.hid f2; clear h2 f2 L2 hld c0)
  have HL3 := Lib.hid (HL2.out.set 4 (.int .u64 t))
  have F3 := Lib.hid ((F2.out.fx fb).trans (set_fx wTy true w2 fb 4 (.int .u64 t)))
  clear c4 k4 HL2 F2 HL
  generalize w2.setCell ⟨fb, 4, none⟩ (.int .u64 t) = w3 at *
  have HL4 := Lib.hid (HL3.out.below (Below.refl w3.heap.size w3).drew)
  have F4 := Lib.hid (F3.out.trans ((below_fr (Below.refl w3.heap.size w3).drew wTy true).fx fb))
  have ss : TFst fb x.h t w3.drew := ⟨HL4.out.c 1, HL4.out.c 4⟩
  go_region_held2 (fun W => TFst fb x.h t W) (assumption) (first
    | (go_at_call 81; refine (HPL.out _).mono ?_; intro e w5 hh; obtain ⟨pv, hh1, hp, b5⟩ := hh; subst hh1; obtain ⟨ao, hao⟩ := hp.sl'; subst hao; have HL5 := Lib.hid (HL4.out.below b5); have F5 := Lib.hid (F4.out.trans ((below_fr b5 wTy true).fx fb)); have HP5 := Lib.hid (hp.low (Nat.zero_le _)); have s5 : TFst fb x.h t w5 := ⟨HL5.out.c 1, HL5.out.c 4⟩; have c5 : w5.cell? ⟨fb, 5, none⟩ = some va := HL5.out.c 5; have k5 := HL5.out.f 5; have HL6 := Lib.hid (HL5.out.setall _ _ HP5.out); have s6 : TFst fb x.h t (w5.setCell ⟨fb, 5, none⟩ (.slice ao L.length L.length)) := ⟨HL6.out.c 1, HL6.out.c 4⟩; clear b5 hp ss))
  have F6 := Lib.hid (F5.out.trans (set_fx wTy true w5 fb 5 (.slice ao L.length L.length)))
  clear s5 s6 c5 k5 HL5 F5 HP5 HL4 F4 HL3 F3 HPL
  generalize w5.setCell ⟨fb, 5, none⟩ (.slice ao L.length L.length) = w6 at *
  have c6 : w6.cell? ⟨fb, 6, none⟩ = some vv := HL6.out.c 6
  have c7 : w6.cell? ⟨fb, 7, none⟩ = some (.int .i64 x.at_) := HL6.out.c 7
  have c9 : w6.cell? ⟨fb, 9, none⟩ = some (.int .i64 x.ref) := HL6.out.c 9
  have k6 := HL6.out.f 6; have k7 := HL6.out.f 7; have k9 := HL6.out.f 9
  go_upto_region 3 with (fail)
  have l7 := ((HL6.out.set 6 (.slice none 0 0)).set 7 (.int .i64 ((0 : Nat) : Int))).set 9 (.int .i64 0)
  have f7 := ((F6.out.trans (set_fx wTy true _ fb 6 (.slice none 0 0))).trans (set_fx wTy true _ fb 7 (.int .i64 ((0 : Nat) : Int)))).trans (set_fx wTy true _ fb 9 (.int .i64 0))
  have HL7 := Lib.hid l7; have F7 := Lib.hid f7
  clear c6 c7 c9 k6 k7 k9 HL6 F6 l7 f7
  change Code.wp _ _ _ _ (((w6.setCell ⟨fb, 6, none⟩ (.slice none 0 0)).setCell ⟨fb, 7, none⟩ (.int .i64 ((0 : Nat) : Int))).setCell ⟨fb, 9, none⟩ (.int .i64 0))
  generalize ((w6.setCell ⟨fb, 6, none⟩ (.slice none 0 0)).setCell ⟨fb, 7, none⟩ (.int .i64 ((0 : Nat) : Int))).setCell ⟨fb, 9, none⟩ (.int .i64 0) = w7 at *
  have HWW := Lib.hid F7.out.size
  have hpc := pln_at HL7.out.pl
  have c5 : w7.cell? ⟨fb, 5, none⟩ = some (.slice ao L.length L.length) := HL7.out.c 5
  have hof := of_any L ao L.length w7 hpc (by have := HLL.out; omega)
  obtain ⟨A, hA⟩ : ∃ A, A = vof L := ⟨_, rfl⟩
  rw [← hA] at hof
  have hAl : A.length ≤ 4 := by rw [hA]; exact Nat.le_trans (vof_len L) HLL.out
  have HA := Lib.hid hA; have HAL := Lib.hid hAl
  clear hpc hA hAl
  go_upto_region 4 with (go_at_call 94; refine hof.mono ?_; intro e w8 hh; obtain ⟨av, hh1, ha8, b8⟩ := hh; subst hh1; obtain ⟨aa, ga, rfl, hga⟩ := adr_formL ha8; have HL8 := Lib.hid (HL7.out.below b8); have F8 := Lib.hid (F7.out.trans ((below_fr b8 wTy true).fx fb)); have HAF := Lib.hid hga; have HW8 := Lib.hid b8.size; have HA8 := Lib.hid ha8; clear b8 ha8 hof c5)
  obtain ⟨y, hy⟩ : ∃ y : LK, y = { x with tab := t, all := L, at_ := 0, ref := 0 } := ⟨_, rfl⟩
  have Z8 : Hid (w8.heap[fb]? = some (.cells (y.cells (.slice ao L.length L.length) (.slice none 0 0) vs) 199 (0, 0))) := by rw [hy]; exact HL8.out.z
  have HY := Lib.hid hy
  clear hy
  obtain ⟨i0, hi0, hz0, hz1, hz2⟩ := info_parts info_ver
  have HI := Lib.hid hi0; have HZ0 := Lib.hid hz0; have HZ1 := Lib.hid hz1; have HZ2 := Lib.hid hz2
  clear hi0 hz0 hz1 hz2
  have HGB : Hid (∀ g n c, Value.slice aa A.length A.length = .slice (some ⟨g, 0, none⟩) n c → 0 < A.length → g ≠ fb) := by
    intro g n c e hp
    rcases HA8.out with ⟨e2, hnil⟩ | ⟨g2, cur, e2, -, hg2, -⟩
    · rw [hnil] at hp; simp at hp
    · rw [e2] at e
      simp only [Value.slice.injEq, Option.some.injEq, Addr.mk.injEq, and_true] at e
      obtain ⟨rfl, -⟩ := e
      intro c2
      subst c2
      have := hg2.symm.trans Z8.out
      simp at this
  go_loopw [5, 41] (fun _ v41 wr => ∃ (k : Nat) (v6 : Value), k ≤ A.length ∧ v41 = .int .i64 k ∧ wr.heap[fb]? = some (.cells (y.cells (.slice ao L.length L.length) v6 vs) 199 (0, 0)) ∧ wr.ownsRow w8.heap.size 269 2 v6 k (flatU (vers (A.take k))) ∧ Keeps (· = fb) w8 wr) (fun _ v41 _ => A.length - (intOf v41).toNat)
  case atStart => exact ⟨0, _, by omega, rfl, Z8.out, World.ownsRow_nil _ _ _ _, below_keeps (Below.refl _ _) _⟩
  case round =>
    obtain ⟨k, v6, hk, rfl, hz, hown, hkp⟩ := hrel
    by_cases hlt : k < A.length
    · have hlt' : (k : Int) < A.length := by omega
      obtain ⟨haa, hga2, hac, -⟩ := HAF.out.2 (by omega)
      have hgf := HGB.out ga A.length A.length (by rw [haa]) (by omega)
      have ca : wr.cell? ⟨ga, k, none⟩ = some (.int .u64 A[k]) := keeps_cellL hkp (hac k hlt) hgf
      have hvt := vers_take A k hlt
      obtain ⟨la, lc, hv6⟩ := own_sl2 hown
      obtain ⟨a, ha⟩ : ∃ a, a = A[k] := ⟨_, rfl⟩
      rw [← ha] at ca hvt
      clear ha
      have hba := below_alloc wr (.cells #[.int .u64 a, .int .u64 0] 269)
      have hA4 : (A.length : Int) ≤ 4 := by have := HAL.out; omega
      have HK := Lib.hid hkp; have HZR := Lib.hid hz; have HOWN := Lib.hid hown; have HVT := Lib.hid hvt; have HLT := Lib.hid hlt; have HV6 := Lib.hid hv6
      have c6 : wr.cell? ⟨fb, 6, none⟩ = some v6 := (hcell hz 6).trans rfl
      rw [hv6] at c6
      rw [haa]
      have HAA := Lib.hid haa
      clear hkp hz hvt hlt hac hown hba haa hv6
      go_wp2_with (at_builtin; refine wpList_append_own _ rfl _ _ 197 rfl w8.heap.size 269 i0 (.agg #[.int .u64 0, .int .u64 0]) 2 16 Tryz.underlying197 HI.out HZ0.out HZ1.out HZ2.out rfl (by decide) _ k (flatU (vers (A.take k))) (by rw [HV6.out]; rfl) (HOWN.out.alloc _) ⟨_, 0, none⟩ 1 1 [.int .u64 a, .int .u64 0] rfl rfl (World.news_of_block (cs := #[.int .u64 a, .int .u64 0]) (t := 269) (fr := (0, 0)) (heap_alloc_new wr _)) ?c2 ?c3 ?c4 ?c5 ?_)
      case c2 => simp [Value.oneCell']
      case c3 => unfold maxLen; omega
      case c4 => omega
      case c5 => have := HK.out.size; simp; omega
      intro v' w9 hown' hgrow _
      have hfb8 := (Array.getElem?_eq_some_iff.1 Z8.out).1
      have hba := below_alloc wr (.cells #[.int .u64 a, .int .u64 0] 269)
      have hza := (hba.block _ (Array.getElem?_eq_some_iff.1 HZR.out).1).trans HZR.out
      have hz9 := (hgrow.block fb (Array.getElem?_eq_some_iff.1 hza).1 (fun c => by have := (HOWN.out.lt fb c.symm).1; omega)).trans hza
      have c6 : w9.cell? ⟨fb, 6, none⟩ = some v6 := (hcell hz9 6).trans rfl
      have k6 := hfrz hz9 6
      have hk9 : Keeps (· = fb) w8 w9 := by
        have h1 := HK.out.again (below_keeps hba (· = fb))
        refine ⟨h1.os.symm ▸ hgrow.os.trans (by rfl), hgrow.tape.trans h1.tape, hgrow.output.trans h1.output, Nat.le_trans h1.size hgrow.size, fun j hj hne => ?_⟩
        exact (hgrow.block j (Nat.lt_of_lt_of_le hj h1.size) (fun c => by have := (HOWN.out.lt j c.symm).1; omega)).trans (h1.block j hj hne)
      obtain ⟨lb, lc2, hv'⟩ := own_sl2 hown'
      subst hv'
      have hown9 := own_fr hown' (set_ty hz9 6 (.slice lb (k + 1) lc2)) rfl
      have hz10 := setCell_same hz9 6 (.slice lb (k + 1) lc2)
      have hk10 := hk9.again (setCell_keeps w9 fb 6 (.slice lb (k + 1) lc2))
      have Q : Hid ((w9.setCell ⟨fb, 6, none⟩ (.slice lb (k + 1) lc2)).heap[fb]? = some (.cells (y.cells (.slice ao L.length L.length) (.slice lb (k + 1) lc2) vs) 199 (0, 0)) ∧ (w9.setCell ⟨fb, 6, none⟩ (.slice lb (k + 1) lc2)).ownsRow w8.heap.size 269 2 (.slice lb (k + 1) lc2) (k + 1) (flatU (vers (A.take (k + 1)))) ∧ Keeps (· = fb) w8 (w9.setCell ⟨fb, 6, none⟩ (.slice lb (k + 1) lc2))) := by
        refine ⟨hz10, ?_, hk10⟩
        rw [HVT.out, flatU_snoc]; exact hown9
      clear hown9 hz10 hk10 hk9 hown' hgrow hza hba hfb8 hz9
      have hvl : ∃ z, v6 = z := ⟨_, rfl⟩
      rw [HV6.out] at c6
      go_wp2
      go_roundw
      case rel => exact ⟨k + 1, _, HLT.out, by go_num, Q.out.1, Q.out.2.1, Q.out.2.2⟩
      case measure => have := HLT.out; simp [intOf]; omega
    · obtain rfl : k = A.length := by omega
      rw [List.take_length] at hown
      have hf : Fr (fun X => X == 199) false w8 wr := keeps_fr hkp _ false (fun k e => ⟨_, _, _, e ▸ Z8.out, by simp⟩)
      obtain ⟨vb, hvb, hob⟩ : ∃ vb, (w8.heap.size ≤ vb ∨ vb = fb) ∧ VbOk v6 vb fb := by
        obtain ⟨-, ⟨e, -⟩ | ⟨g, cap, cur, e, hb, -⟩⟩ := hown
        · exact ⟨fb, .inr rfl, .inr ⟨by rw [e]; rfl, rfl⟩⟩
        · exact ⟨g, .inl hb, .inl (by rw [e]; rfl)⟩
      have hown0 := own_lo hown HL8.out.ws.below.size
      have hvl : (vers A).length = A.length := by simp [vers]
      have L9 : LR w0 wr B V s1 fb (y.cells (.slice ao L.length L.length) v6 vs) (.slice ao L.length L.length) v6 vs L (vers A) x.sl vb :=
        ⟨ws_keeps HL8.out.ws hkp Z8.out rfl HL8.out.lo, HL8.out.lo, hz, HL8.out.pl.fr hf rfl, by rw [hvl]; exact hown0, HL8.out.sr.fr hf rfl, hob⟩
      have F9 := F8.out.trans (keeps_fx hkp wTy true)
      have c3 : wr.cell? ⟨fb, 3, none⟩ = some y.ph.fn := L9.c 3
      have k3 := L9.f 3
      have HL9 := Lib.hid L9; have HF9 := Lib.hid F9; have HVB := Lib.hid hvb
      clear L9 F9 hob hvb hown0 hvl hf hz hown hkp hlt hk HAF HL8 F8 Z8 HGB
      generalize y.ph.fn = F at c3
      go_wp2
      go_end0
      have L10 := HL9.out.set 3 (.func (.func 158) #[] #[])
      have hE : x.first t vb = { x with tab := t, all := L, vs := vers A, at_ := 0, ref := 0, ph := .snd, vb := vb } := by unfold LK.first; rw [← HLE.out, ← HA.out]
      have hY := HY.out
      subst hY
      refine ⟨rfl, L10.ws, ⟨vb, ?_, ?_⟩, HF9.out.trans (set_fx _ _ _ _ _ _)⟩
      · rcases HVB.out with h1 | h1
        · exact .inl (by have h2 := HW8.out; have h3 := HWW.out; omega)
        · exact .inr h1
      · rw [hE]
        exact LR.look (x := { x with tab := t, all := L, vs := vers A, at_ := 0, ref := 0, ph := .snd, vb := vb }) L10
end Go.Proofs.YtmakjfeepmiggaaGreat

/-
  A Look: any step; a run.
-/
namespace Go.Proofs.YtmakjfeepmiggaaGreat
open Go.RowKit Go.Maps TagPure
set_option linter.unusedVariables false

/-- A step: the words, the notes, the Look. -/
def lnS (s : CS) (x : LK) : CS :=
  match x.ph with
  | .fst => s.acc 1 2 (s.val 2)
  | .snd => s.acc 1 (x.vs.getD x.at_ (0, 0)).1 (s.val (x.vs.getD x.at_ (0, 0)).1)
  | .thd => s.acc 1 8 (s.val 8)
  | .tag => s.acc 1 (tagsA (x.all.getD x.at_ (0, 0)).1 (x.all.getD x.at_ (0, 0)).2) (s.val (tagsA (x.all.getD x.at_ (0, 0)).1 (x.all.getD x.at_ (0, 0)).2))
  | .itm => s.acc 1 (itemA (x.all.getD x.at_ (0, 0)).1 (x.all.getD x.at_ (0, 0)).2 (x.sl.headD 0 : Nat)) (s.val (itemA (x.all.getD x.at_ (0, 0)).1 (x.all.getD x.at_ (0, 0)).2 (x.sl.headD 0 : Nat)))
  | .fif => s.acc 1 2 (s.val 2)
  | .six => s.acc 1 (x.vs.getD x.at_ (0, 0)).1 (s.val (x.vs.getD x.at_ (0, 0)).1)
  | .off => s
def lnV (V : WV) (s : CS) (x : LK) : WV :=
  match x.ph with
  | .snd => if s.val (x.vs.getD x.at_ (0, 0)).1 % 2 = 1 then agV V (lnS s x) (x.seen (s.val (x.vs.getD x.at_ (0, 0)).1)) else V
  | .fif => if s.val 2 = x.tab then V else agV V (lnS s x) x
  | .six => if s.val (x.vs.getD x.at_ (0, 0)).1 = (x.vs.getD x.at_ (0, 0)).2 then V else agV V (lnS s x) x
  | _ => V
def lnX (its : List Itm) (s : CS) (x : LK) (vb : Nat) : LK :=
  match x.ph with
  | .fst => x.first (s.val 2) vb
  | .snd => x.second (s.val (x.vs.getD x.at_ (0, 0)).1)
  | .thd => { x with ep := s.val 8, at_ := 0, pt := ((s.acc 1 8 (s.val 8)).cnt : Int), ph := .tag }
  | .tag => ({ x with sl := has (s.val (tagsA (x.all.getD x.at_ (0, 0)).1 (x.all.getD x.at_ (0, 0)).2)) (tag01 x.h) 4 } : LK).on
  | .itm => x.item its (wrap64 (s.val (itemA (x.all.getD x.at_ (0, 0)).1 (x.all.getD x.at_ (0, 0)).2 (x.sl.headD 0 : Nat))))
  | .fif => x.fifth (s.val 2)
  | .six => x.sixth (x.vs.getD x.at_ (0, 0)).2 (s.val (x.vs.getD x.at_ (0, 0)).1)
  | .off => x
structure LOk (x : LK) : Prop where
  left : 0 ≤ x.left ∧ x.left < 9223372036854775808
  h : 0 ≤ x.h ∧ x.h < 18446744073709551616
  al : x.all.length ≤ 1000
  vl : x.vs.length ≤ 1000
  vw : ∀ p ∈ x.vs, (Lit.int .u64 p.1).wf = true
  mid : x.ph ≠ .fst → x.ph ≠ .off → 0 < x.all.length ∧ 0 < x.vs.length
  atv : x.ph = .snd ∨ x.ph = .six → x.at_ < x.vs.length
  ata : x.ph = .tag ∨ x.ph = .itm → x.at_ < x.all.length
  sl : x.ph = .itm → x.sl ≠ []
  s4 : ∀ n ∈ x.sl, n < 4
theorem getD_at {α : Type} {l : List α} {d : α} {i : Nat} (hi : i < l.length) : l[i]? = some (l.getD i d) := by rw [List.getD_eq_getElem?_getD, List.getElem?_eq_getElem hi]; rfl
theorem n4_wf {n : Nat} (h : n < 4) : (Lit.int .i64 (n : Int)).wf = true := by
  have : n = 0 ∨ n = 1 ∨ n = 2 ∨ n = 3 := by omega
  rcases this with h | h | h | h <;> rw [h] <;> rfl
section
variable {w0 w : World} {B : WB} {V : WV} {s : CS} {fb : Nat} {x : LK} (h : WS w0 w B V s) (hr : s.room) (hx : LookAt w w0.heap.size fb x) (ho : LOk x) (hi : V.its.length ≤ 1048576) (hn : V.nts.length < 1048576) (hs : Nsteps V.nts s.cnt)
include h hr hx ho hi hn hs
set_option maxRecDepth 10000 in
set_option maxHeartbeats 2000000 in
/-- What is to be done, done. -/
theorem ldo (F : FuncId) (hF : x.ph.fn = .func (.func F) #[] #[]) : Calls Tryz.prog F #[.pointer (some ⟨fb, 0, none⟩), .pointer (some ⟨B.wb, 0, none⟩)] w fun e w' => e = .returned (.tuple #[]) ∧ ∃ vb, (x.ph = .fst → w.heap.size ≤ vb ∨ vb = fb) ∧ WS w0 w' B (lnV V s x) (lnS s x) ∧ LookAt w' w0.heap.size fb (lnX V.its s x vb) ∧ Fz fb x.vb w w' := by
  cases hp : x.ph <;> rw [hp] at hF
  case fst =>
    simp only [LPh.fn, Value.func.injEq, Fn.func.injEq, and_true] at hF
    subst hF
    refine (lfirst h hr hx ho.h).mono fun e w' hh => ?_
    obtain ⟨h1, h2, ⟨vb, h3, h4⟩, h5⟩ := hh
    exact ⟨h1, vb, fun _ => h3, by unfold lnV lnS; rw [hp]; exact h2, by unfold lnX; rw [hp]; exact h4, h5.fz⟩
  case snd =>
    simp only [LPh.fn, Value.func.injEq, Fn.func.injEq, and_true] at hF
    subst hF
    have hk := ho.atv (.inl hp)
    have hg := getD_at (d := ((0 : Int), (0 : Int))) hk
    refine (lsecond h hr hx ho.left hn hs hk ho.vl _ _ hg (ho.vw _ (List.mem_of_getElem? hg))).mono fun e w' hh => ?_
    obtain ⟨h1, h2, h4, h5⟩ := hh
    exact ⟨h1, 0, fun c => (by cases c), by unfold lnV lnS; rw [hp]; exact h2, by unfold lnX; rw [hp]; exact h4, h5⟩
  case thd =>
    simp only [LPh.fn, Value.func.injEq, Fn.func.injEq, and_true] at hF
    subst hF
    refine (lthird h hr hx).mono fun e w' hh => ?_
    obtain ⟨h1, h2, h4, h5⟩ := hh
    exact ⟨h1, 0, fun c => (by cases c), by unfold lnV lnS; rw [hp]; exact h2, by unfold lnX; rw [hp]; exact h4, h5.fz⟩
  case tag =>
    simp only [LPh.fn, Value.func.injEq, Fn.func.injEq, and_true] at hF
    subst hF
    have hk := ho.ata (.inl hp)
    have hg := getD_at (d := ((0 : Int), (0 : Int))) hk
    refine (ltags h hr hx hk ho.al ho.h _ _ hg).mono fun e w' hh => ?_
    obtain ⟨h1, h2, h4, h5⟩ := hh
    exact ⟨h1, 0, fun c => (by cases c), by unfold lnV lnS; rw [hp]; exact h2, by unfold lnX; rw [hp]; exact h4, h5.fz⟩
  case itm =>
    simp only [LPh.fn, Value.func.injEq, Fn.func.injEq, and_true] at hF
    subst hF
    have hk := ho.ata (.inr hp)
    have hg := getD_at (d := ((0 : Int), (0 : Int))) hk
    obtain ⟨n, tl, hsl⟩ : ∃ n tl, x.sl = n :: tl := by
      cases hh : x.sl with
      | nil => exact absurd hh (ho.sl hp)
      | cons n tl => exact ⟨n, tl, rfl⟩
    have hd : x.sl.headD 0 = n := by rw [hsl]; rfl
    refine (litem h hr hx hi hk ho.al _ _ hg n tl hsl (n4_wf (ho.s4 n (by rw [hsl]; simp)))).mono fun e w' hh => ?_
    obtain ⟨h1, h2, h4, h5⟩ := hh
    exact ⟨h1, 0, fun c => (by cases c), by unfold lnV lnS; rw [hp]; simp only [hd]; exact h2, by unfold lnX; rw [hp]; simp only [hd]; exact h4, h5.fz⟩
  case fif =>
    simp only [LPh.fn, Value.func.injEq, Fn.func.injEq, and_true] at hF
    subst hF
    refine (lfifth h hr hx ho.left hn hs).mono fun e w' hh => ?_
    obtain ⟨h1, h2, h4, h5⟩ := hh
    exact ⟨h1, 0, fun c => (by cases c), by unfold lnV lnS; rw [hp]; exact h2, by unfold lnX; rw [hp]; exact h4, h5.fz⟩
  case six =>
    simp only [LPh.fn, Value.func.injEq, Fn.func.injEq, and_true] at hF
    subst hF
    have hk := ho.atv (.inr hp)
    have hg := getD_at (d := ((0 : Int), (0 : Int))) hk
    refine (lsixth h hr hx ho.left hn hs hk ho.vl _ _ hg (ho.vw _ (List.mem_of_getElem? hg))).mono fun e w' hh => ?_
    obtain ⟨h1, h2, h4, h5⟩ := hh
    exact ⟨h1, 0, fun c => (by cases c), by unfold lnV lnS; rw [hp]; exact h2, by unfold lnX; rw [hp]; exact h4, h5.fz⟩
  case off => simp only [LPh.fn, reduceCtorEq] at hF
set_option maxRecDepth 10000 in
set_option maxHeartbeats 4000000 in
theorem lstep (hoff : x.ph ≠ .off) : Calls Tryz.prog 31 #[.pointer (some ⟨fb, 0, none⟩), .pointer (some ⟨B.wb, 0, none⟩)] w fun e w' => ∃ vb, e = .returned (.bool (decide ((lnX V.its s x vb).ph = .off))) ∧ (x.ph = .fst → w.heap.size ≤ vb ∨ vb = fb) ∧ WS w0 w' B (lnV V s x) (lnS s x) ∧ LookAt w' w0.heap.size fb (lnX V.its s x vb) ∧ Fz fb x.vb w w' := by
  have hov := lover hx
  rw [decide_eq_false hoff] at hov
  have hdo := fun F hF => ldo h hr hx ho hi hn hs F hF
  obtain ⟨va, vv, vs, L⟩ := LR.of h hx
  have c3 : w.cell? ⟨fb, 3, none⟩ = some x.ph.fn := L.c 3
  clear h hr hx ho hi hn hs L
  obtain ⟨V2, hV2⟩ : ∃ V2, V2 = lnV V s x := ⟨_, rfl⟩
  obtain ⟨s2, hs2⟩ : ∃ s2, s2 = lnS s x := ⟨_, rfl⟩
  obtain ⟨X, hX⟩ : ∃ X, X = lnX V.its s x := ⟨_, rfl⟩
  rw [← hV2, ← hs2, ← hX] at hdo ⊢
  clear hV2 hs2 hX
  generalize x.ph = q at *
  cases q
  case fst =>
    have hd := hdo 97 rfl
    simp only [LPh.fn] at c3
    clear hdo hoff
    go_enter Tryz.func31, Tryz.ntmps31
    go_upto_region 2 with (go_at_call 99; refine hov.mono ?_; intro e w2 hh; obtain ⟨hh1, hh2⟩ := hh; subst hh1; obtain rfl := hh2.symm; clear hov)
    go_upto_region 3 with (go_at_call 97; refine hd.mono ?_; intro e w3 hh; obtain ⟨hh1, vb, hvb, h3, a3, f3⟩ := hh; subst hh1; have hov := lover a3; have P := Lib.hid (And.intro hvb (And.intro h3 (And.intro a3 f3))); clear hvb h3 a3 f3 hd c3)
    generalize hb : decide ((X vb).ph = .off) = b at *
    have HB := Lib.hid hb
    clear hb
    go_wp2_with (go_at_call 99; refine hov.mono ?_; intro e w4 hh; obtain ⟨hh1, hh2⟩ := hh; subst hh1; obtain rfl := hh2.symm; clear hov)
    go_ret
    exact ⟨vb, by rw [HB.out]; rfl, P.out.1, P.out.2.1, P.out.2.2.1, P.out.2.2.2⟩
  case snd =>
    have hd := hdo 158 rfl
    simp only [LPh.fn] at c3
    clear hdo hoff
    go_enter Tryz.func31, Tryz.ntmps31
    go_upto_region 2 with (go_at_call 99; refine hov.mono ?_; intro e w2 hh; obtain ⟨hh1, hh2⟩ := hh; subst hh1; obtain rfl := hh2.symm; clear hov)
    go_upto_region 3 with (go_at_call 158; refine hd.mono ?_; intro e w3 hh; obtain ⟨hh1, vb, hvb, h3, a3, f3⟩ := hh; subst hh1; have hov := lover a3; have P := Lib.hid (And.intro hvb (And.intro h3 (And.intro a3 f3))); clear hvb h3 a3 f3 hd c3)
    generalize hb : decide ((X vb).ph = .off) = b at *
    have HB := Lib.hid hb
    clear hb
    go_wp2_with (go_at_call 99; refine hov.mono ?_; intro e w4 hh; obtain ⟨hh1, hh2⟩ := hh; subst hh1; obtain rfl := hh2.symm; clear hov)
    go_ret
    exact ⟨vb, by rw [HB.out]; rfl, P.out.1, P.out.2.1, P.out.2.2.1, P.out.2.2.2⟩
  case thd =>
    have hd := hdo 200 rfl
    simp only [LPh.fn] at c3
    clear hdo hoff
    go_enter Tryz.func31, Tryz.ntmps31
    go_upto_region 2 with (go_at_call 99; refine hov.mono ?_; intro e w2 hh; obtain ⟨hh1, hh2⟩ := hh; subst hh1; obtain rfl := hh2.symm; clear hov)
    go_upto_region 3 with (go_at_call 200; refine hd.mono ?_; intro e w3 hh; obtain ⟨hh1, vb, hvb, h3, a3, f3⟩ := hh; subst hh1; have hov := lover a3; have P := Lib.hid (And.intro hvb (And.intro h3 (And.intro a3 f3))); clear hvb h3 a3 f3 hd c3)
    generalize hb : decide ((X vb).ph = .off) = b at *
    have HB := Lib.hid hb
    clear hb
    go_wp2_with (go_at_call 99; refine hov.mono ?_; intro e w4 hh; obtain ⟨hh1, hh2⟩ := hh; subst hh1; obtain rfl := hh2.symm; clear hov)
    go_ret
    exact ⟨vb, by rw [HB.out]; rfl, P.out.1, P.out.2.1, P.out.2.2.1, P.out.2.2.2⟩
  case tag =>
    have hd := hdo 225 rfl
    simp only [LPh.fn] at c3
    clear hdo hoff
    go_enter Tryz.func31, Tryz.ntmps31
    go_upto_region 2 with (go_at_call 99; refine hov.mono ?_; intro e w2 hh; obtain ⟨hh1, hh2⟩ := hh; subst hh1; obtain rfl := hh2.symm; clear hov)
    go_upto_region 3 with (go_at_call 225; refine hd.mono ?_; intro e w3 hh; obtain ⟨hh1, vb, hvb, h3, a3, f3⟩ := hh; subst hh1; have hov := lover a3; have P := Lib.hid (And.intro hvb (And.intro h3 (And.intro a3 f3))); clear hvb h3 a3 f3 hd c3)
    generalize hb : decide ((X vb).ph = .off) = b at *
    have HB := Lib.hid hb
    clear hb
    go_wp2_with (go_at_call 99; refine hov.mono ?_; intro e w4 hh; obtain ⟨hh1, hh2⟩ := hh; subst hh1; obtain rfl := hh2.symm; clear hov)
    go_ret
    exact ⟨vb, by rw [HB.out]; rfl, P.out.1, P.out.2.1, P.out.2.2.1, P.out.2.2.2⟩
  case itm =>
    have hd := hdo 248 rfl
    simp only [LPh.fn] at c3
    clear hdo hoff
    go_enter Tryz.func31, Tryz.ntmps31
    go_upto_region 2 with (go_at_call 99; refine hov.mono ?_; intro e w2 hh; obtain ⟨hh1, hh2⟩ := hh; subst hh1; obtain rfl := hh2.symm; clear hov)
    go_upto_region 3 with (go_at_call 248; refine hd.mono ?_; intro e w3 hh; obtain ⟨hh1, vb, hvb, h3, a3, f3⟩ := hh; subst hh1; have hov := lover a3; have P := Lib.hid (And.intro hvb (And.intro h3 (And.intro a3 f3))); clear hvb h3 a3 f3 hd c3)
    generalize hb : decide ((X vb).ph = .off) = b at *
    have HB := Lib.hid hb
    clear hb
    go_wp2_with (go_at_call 99; refine hov.mono ?_; intro e w4 hh; obtain ⟨hh1, hh2⟩ := hh; subst hh1; obtain rfl := hh2.symm; clear hov)
    go_ret
    exact ⟨vb, by rw [HB.out]; rfl, P.out.1, P.out.2.1, P.out.2.2.1, P.out.2.2.2⟩
  case fif =>
    have hd := hdo 249 rfl
    simp only [LPh.fn] at c3
    clear hdo hoff
    go_enter Tryz.func31, Tryz.ntmps31
    go_upto_region 2 with (go_at_call 99; refine hov.mono ?_; intro e w2 hh; obtain ⟨hh1, hh2⟩ := hh; subst hh1; obtain rfl := hh2.symm; clear hov)
    go_upto_region 3 with (go_at_call 249; refine hd.mono ?_; intro e w3 hh; obtain ⟨hh1, vb, hvb, h3, a3, f3⟩ := hh; subst hh1; have hov := lover a3; have P := Lib.hid (And.intro hvb (And.intro h3 (And.intro a3 f3))); clear hvb h3 a3 f3 hd c3)
    generalize hb : decide ((X vb).ph = .off) = b at *
    have HB := Lib.hid hb
    clear hb
    go_wp2_with (go_at_call 99; refine hov.mono ?_; intro e w4 hh; obtain ⟨hh1, hh2⟩ := hh; subst hh1; obtain rfl := hh2.symm; clear hov)
    go_ret
    exact ⟨vb, by rw [HB.out]; rfl, P.out.1, P.out.2.1, P.out.2.2.1, P.out.2.2.2⟩
  case six =>
    have hd := hdo 254 rfl
    simp only [LPh.fn] at c3
    clear hdo hoff
    go_enter Tryz.func31, Tryz.ntmps31
    go_upto_region 2 with (go_at_call 99; refine hov.mono ?_; intro e w2 hh; obtain ⟨hh1, hh2⟩ := hh; subst hh1; obtain rfl := hh2.symm; clear hov)
    go_upto_region 3 with (go_at_call 254; refine hd.mono ?_; intro e w3 hh; obtain ⟨hh1, vb, hvb, h3, a3, f3⟩ := hh; subst hh1; have hov := lover a3; have P := Lib.hid (And.intro hvb (And.intro h3 (And.intro a3 f3))); clear hvb h3 a3 f3 hd c3)
    generalize hb : decide ((X vb).ph = .off) = b at *
    have HB := Lib.hid hb
    clear hb
    go_wp2_with (go_at_call 99; refine hov.mono ?_; intro e w4 hh; obtain ⟨hh1, hh2⟩ := hh; subst hh1; obtain rfl := hh2.symm; clear hov)
    go_ret
    exact ⟨vb, by rw [HB.out]; rfl, P.out.1, P.out.2.1, P.out.2.2.1, P.out.2.2.2⟩
  case off => exact absurd rfl hoff
end
end Go.Proofs.YtmakjfeepmiggaaGreat

/-
  A Look: what holds of it from step to step.
-/
namespace Go.Proofs.YtmakjfeepmiggaaGreat
open Go.RowKit Go.Maps TagPure
set_option linter.unusedVariables false

theorem vof_in64 {l : List (Int × Int)} : ∀ x ∈ vof l, 64 ≤ x ∧ x < 128 := by
  have key : ∀ (l : List (Int × Int)) (o : List Int), (∀ x ∈ o, 64 ≤ x ∧ x < 128) → ∀ x ∈ l.foldl vstep o, 64 ≤ x ∧ x < 128 := by
    intro l
    induction l with
    | nil => intro o h; exact h
    | cons p l ih =>
      intro o h
      refine ih _ fun x hx => ?_
      unfold vstep at hx
      split at hx
      · exact h x hx
      · split at hx
        · exact h x hx
        · rename_i hz _
          rcases List.mem_append.1 hx with hx | hx
          · exact h x hx
          · simp only [List.mem_singleton] at hx
            subst hx
            unfold ver at hz ⊢
            unfold stripe at hz ⊢
            split
            · omega
            · rename_i hh; rw [if_neg hh] at hz; exact absurd rfl hz
  exact key l [] (by simp)
theorem LOk.vb {x : LK} (h : LOk x) (a : Nat) : LOk { x with vb := a } := ⟨h.left, h.h, h.al, h.vl, h.vw, h.mid, h.atv, h.ata, h.sl, h.s4⟩
theorem LOk.again {x : LK} (h : LOk x) : LOk x.again := by
  unfold LK.again
  split
  · exact ⟨h.left, h.h, h.al, h.vl, h.vw, fun _ c => absurd rfl c, fun c => (by rcases c with c | c <;> cases c), fun c => (by rcases c with c | c <;> cases c), fun c => (by cases c), h.s4⟩
  · rename_i h0
    exact ⟨⟨by show 0 ≤ x.left - 1; have := h.left; omega, by show x.left - 1 < _; have := h.left; omega⟩, h.h, h.al, h.vl, h.vw, fun c => absurd rfl c, fun c => (by rcases c with c | c <;> cases c), fun c => (by rcases c with c | c <;> cases c), fun c => (by cases c), h.s4⟩
theorem LOk.on {x : LK} (h : LOk x) (hm : 0 < x.all.length ∧ 0 < x.vs.length) (ha : x.at_ < x.all.length) : LOk x.on := by
  unfold LK.on
  split
  · split
    · rename_i h0 h1
      exact ⟨h.left, h.h, h.al, h.vl, h.vw, fun _ _ => hm, fun c => (by rcases c with c | c <;> cases c), fun _ => h1, fun c => (by cases c), h.s4⟩
    · exact ⟨h.left, h.h, h.al, h.vl, h.vw, fun _ _ => hm, fun c => (by rcases c with c | c <;> cases c), fun c => (by rcases c with c | c <;> cases c), fun c => (by cases c), h.s4⟩
  · rename_i h0
    exact ⟨h.left, h.h, h.al, h.vl, h.vw, fun _ _ => hm, fun c => (by rcases c with c | c <;> cases c), fun _ => ha, fun _ => h0, h.s4⟩
theorem vstep_grows (out : List Int) (p : Int × Int) : out.length ≤ (vstep out p).length := by
  unfold vstep; split
  · exact Nat.le_refl _
  · split
    · exact Nat.le_refl _
    · simp
theorem vfold_grows (l : List (Int × Int)) : ∀ out : List Int, out.length ≤ (l.foldl vstep out).length := by
  induction l with
  | nil => intro out; exact Nat.le_refl _
  | cons p r ih => intro out; exact Nat.le_trans (vstep_grows out p) (ih _)
theorem ver_ne {p : Int × Int} (h : POk12L p) : ver p.1 p.2 ≠ 0 := by
  unfold ver hasP stripe
  rw [if_pos (by simp; exact h.2)]
  have h1 := h.1; have h2 := h.2
  omega
theorem vof_pos {l : List (Int × Int)} (hl : 0 < l.length) (hok : ∀ p ∈ l, POk12L p) : 0 < (vof l).length := by
  cases l with
  | nil => simp at hl
  | cons p r =>
    unfold vof
    rw [List.foldl_cons]
    have h1 : vstep [] p = [ver p.1 p.2] := by
      unfold vstep
      rw [if_neg (ver_ne (hok p (by simp))), if_neg (by simp)]; rfl
    rw [h1]
    exact Nat.lt_of_lt_of_le (by simp) (vfold_grows r _)
theorem vers_len (l : List Int) : (vers l).length = l.length := by simp [vers]
theorem LOk.first {x : LK} (h : LOk x) (t : Int) (vb : Nat) : LOk (x.first t vb) := by
  have hp := plist_posL x.h t
  have hl := plist_len x.h t
  have hv := vof_pos (l := plist x.h t) (by omega) (plist_okL _ _ h.h.1 h.h.2)
  have hvl := vof_len (plist x.h t)
  refine ⟨h.left, h.h, by show (plist x.h t).length ≤ 1000; omega, by show (vers _).length ≤ 1000; rw [vers_len]; omega, fun p hp2 => ?_, fun _ _ => ⟨by show 0 < (plist x.h t).length; omega, by show 0 < (vers _).length; rw [vers_len]; exact hv⟩, fun _ => by show 0 < (vers _).length; rw [vers_len]; exact hv, fun c => (by rcases c with c | c <;> cases c), fun c => (by cases c), h.s4⟩
  obtain ⟨a, ha, rfl⟩ := List.mem_map.1 (show p ∈ (vof (plist x.h t)).map (fun a => (a, (0 : Int))) from hp2)
  have := vof_in64 a ha
  exact u64_small _ (by omega)
theorem LOk.seen {x : LK} (h : LOk x) (hk : x.at_ < x.vs.length) (v : Int) : LOk (x.seen v) := by
  have hs : (x.vs.set x.at_ ((x.vs.getD x.at_ (0, 0)).1, v)).length = x.vs.length := List.length_set
  refine ⟨h.left, h.h, h.al, by show (x.vs.set _ _).length ≤ 1000; rw [hs]; exact h.vl, fun p hp => ?_, fun a b => ⟨(h.mid a b).1, by show 0 < (x.vs.set _ _).length; rw [hs]; exact (h.mid a b).2⟩, fun c => by show x.at_ < (x.vs.set _ _).length; rw [hs]; exact h.atv c, h.ata, h.sl, h.s4⟩
  rcases List.mem_or_eq_of_mem_set (show p ∈ x.vs.set _ _ from hp) with h1 | h1
  · exact h.vw p h1
  · rw [h1]
    exact h.vw (x.vs.getD x.at_ (0, 0)) (List.mem_of_getElem? (getD_at hk))
theorem LOk.second {x : LK} (h : LOk x) (hph : x.ph = .snd) (v : Int) : LOk (x.second v) := by
  have hk := h.atv (.inl hph)
  have h1 := h.seen hk v
  have hm := h.mid (by rw [hph]; intro c; cases c) (by rw [hph]; intro c; cases c)
  have hs : (x.seen v).vs.length = x.vs.length := List.length_set
  unfold LK.second
  split
  · exact h1.again
  · split
    · exact ⟨h1.left, h1.h, h1.al, h1.vl, h1.vw, fun _ _ => ⟨hm.1, by show 0 < (x.seen v).vs.length; omega⟩, fun c => (by rcases c with c | c <;> cases c), fun c => (by rcases c with c | c <;> cases c), fun c => (by cases c), h1.s4⟩
    · rename_i h0
      exact ⟨h1.left, h1.h, h1.al, h1.vl, h1.vw, h1.mid, fun _ => by show x.at_ + 1 < (x.seen v).vs.length; omega, fun c => (by have e : (x.seen v).ph = x.ph := rfl; rw [show ({ x.seen v with at_ := x.at_ + 1 } : LK).ph = x.ph from rfl, hph] at c; rcases c with c | c <;> cases c), fun c => (by rw [show ({ x.seen v with at_ := x.at_ + 1 } : LK).ph = x.ph from rfl, hph] at c; cases c), h1.s4⟩
theorem LOk.sixth {x : LK} (h : LOk x) (hph : x.ph = .six) (o v : Int) : LOk (x.sixth o v) := by
  have hk := h.atv (.inr hph)
  have hm := h.mid (by rw [hph]; intro c; cases c) (by rw [hph]; intro c; cases c)
  unfold LK.sixth
  split
  · split
    · exact ⟨h.left, h.h, h.al, h.vl, h.vw, fun _ c => absurd rfl c, fun c => (by rcases c with c | c <;> cases c), fun c => (by rcases c with c | c <;> cases c), fun c => (by cases c), h.s4⟩
    · exact ⟨h.left, h.h, h.al, h.vl, h.vw, h.mid, fun _ => by show x.at_ + 1 < x.vs.length; omega, fun c => (by rw [show ({ x with at_ := x.at_ + 1 } : LK).ph = x.ph from rfl, hph] at c; rcases c with c | c <;> cases c), fun c => (by rw [show ({ x with at_ := x.at_ + 1 } : LK).ph = x.ph from rfl, hph] at c; cases c), h.s4⟩
  · exact h.again
theorem LOk.fifth {x : LK} (h : LOk x) (hph : x.ph = .fif) (t : Int) : LOk (x.fifth t) := by
  have hm := h.mid (by rw [hph]; intro c; cases c) (by rw [hph]; intro c; cases c)
  unfold LK.fifth
  split
  · exact ⟨h.left, h.h, h.al, h.vl, h.vw, fun _ _ => hm, fun _ => hm.2, fun c => (by rcases c with c | c <;> cases c), fun c => (by cases c), h.s4⟩
  · exact h.again
theorem LOk.slots {x : LK} (h : LOk x) (N : List Nat) (hN : ∀ n ∈ N, n < 4) (hph : x.ph ≠ .itm) : LOk { x with sl := N } := ⟨h.left, h.h, h.al, h.vl, h.vw, h.mid, h.atv, h.ata, fun c => absurd c hph, hN⟩
theorem LOk.item {x : LK} (h : LOk x) (hph : x.ph = .itm) (its : List Itm) (r : Int) : LOk (x.item its r) := by
  have hm := h.mid (by rw [hph]; intro c; cases c) (by rw [hph]; intro c; cases c)
  have ha := h.ata (.inr hph)
  have ht : ∀ n ∈ x.sl.tail, n < 4 := fun n hn => h.s4 n (List.mem_of_mem_tail hn)
  unfold LK.item
  split
  · exact ⟨h.left, h.h, h.al, h.vl, h.vw, fun _ _ => hm, fun c => (by rcases c with c | c <;> cases c), fun c => (by rcases c with c | c <;> cases c), fun c => (by cases c), ht⟩
  · unfold LK.on
    split
    · split
      · rename_i h0 h1
        exact ⟨h.left, h.h, h.al, h.vl, h.vw, fun _ _ => hm, fun c => (by rcases c with c | c <;> cases c), fun _ => h1, fun c => (by cases c), ht⟩
      · exact ⟨h.left, h.h, h.al, h.vl, h.vw, fun _ _ => hm, fun c => (by rcases c with c | c <;> cases c), fun c => (by rcases c with c | c <;> cases c), fun c => (by cases c), ht⟩
    · rename_i h0
      exact ⟨h.left, h.h, h.al, h.vl, h.vw, fun _ _ => hm, fun c => (by rcases c with c | c <;> cases c), fun _ => ha, fun _ => h0, ht⟩
theorem LOk.next {x : LK} (h : LOk x) (its : List Itm) (s : CS) (vb : Nat) : LOk (lnX its s x vb) := by
  unfold lnX
  split
  · exact h.first _ _
  · rename_i hp; exact h.second hp _
  · rename_i hp
    have hm := h.mid (by rw [hp]; intro c; cases c) (by rw [hp]; intro c; cases c)
    exact ⟨h.left, h.h, h.al, h.vl, h.vw, fun _ _ => hm, fun c => (by rcases c with c | c <;> cases c), fun _ => hm.1, fun c => (by cases c), h.s4⟩
  · rename_i hp
    have hm := h.mid (by rw [hp]; intro c; cases c) (by rw [hp]; intro c; cases c)
    exact (h.slots _ (fun n hn => has_lt _ _ _ _ hn) (by rw [hp]; intro c; cases c)).on hm (h.ata (.inl hp))
  · rename_i hp; exact h.item hp _ _
  · rename_i hp; exact h.fifth hp _
  · rename_i hp; exact h.sixth hp _ _
  · exact h
end Go.Proofs.YtmakjfeepmiggaaGreat

/-
  A Look runs by itself.
-/
namespace Go.Proofs.YtmakjfeepmiggaaGreat
open Go.RowKit Go.Maps TagPure
set_option linter.unusedVariables false

/-- A Look, whatever its versions' block. -/
def LookE (w : World) (lo fb : Nat) (x : LK) : Prop := ∃ vb, LookAt w lo fb { x with vb := vb }
theorem LookAt.e {w : World} {lo fb : Nat} {x : LK} (h : LookAt w lo fb x) : LookE w lo fb x := ⟨x.vb, h⟩
theorem lnX_vb (its : List Itm) (s : CS) (x : LK) (a vb : Nat) : ∃ c, lnX its s { x with vb := a } vb = { lnX its s x 0 with vb := c } := by
  obtain ⟨key, h, left, ph, tab, all, vs, at_, sl, ref, ep, pt, bad, vb0⟩ := x
  cases ph
  · exact ⟨vb, rfl⟩
  · refine ⟨a, ?_⟩
    show LK.second _ _ = { LK.second _ _ with vb := a }
    unfold LK.second LK.seen LK.again
    split
    · split <;> rfl
    · split <;> rfl
  · exact ⟨a, rfl⟩
  · refine ⟨a, ?_⟩
    show LK.on _ = { LK.on _ with vb := a }
    unfold LK.on
    split
    · split <;> rfl
    · rfl
  · refine ⟨a, ?_⟩
    show LK.item _ _ _ = { LK.item _ _ _ with vb := a }
    unfold LK.item LK.on
    split
    · rfl
    · split
      · split <;> rfl
      · rfl
  · refine ⟨a, ?_⟩
    show LK.fifth _ _ = { LK.fifth _ _ with vb := a }
    unfold LK.fifth LK.again
    split
    · rfl
    · split <;> rfl
  · refine ⟨a, ?_⟩
    show LK.sixth _ _ _ = { LK.sixth _ _ _ with vb := a }
    unfold LK.sixth LK.again
    split
    · split <;> rfl
    · split <;> rfl
  · exact ⟨a, rfl⟩
theorem lnV_vb (V : WV) (s : CS) (x : LK) (a : Nat) : lnV V s { x with vb := a } = lnV V s x := by
  obtain ⟨key, h, left, ph, tab, all, vs, at_, sl, ref, ep, pt, bad, vb0⟩ := x
  cases ph <;> rfl
theorem lnS_vb (s : CS) (x : LK) (a : Nat) : lnS s { x with vb := a } = lnS s x := by
  obtain ⟨key, h, left, ph, tab, all, vs, at_, sl, ref, ep, pt, bad, vb0⟩ := x
  cases ph <;> rfl
theorem agV_its (V : WV) (s : CS) (x : LK) : (agV V s x).its = V.its := by unfold agV; split <;> rfl
theorem agV_nts (V : WV) (s : CS) (x : LK) : (agV V s x).nts.length ≤ V.nts.length + 1 := by
  unfold agV; split
  · exact Nat.le_succ _
  · exact nadd_len V.nts ⟨s.cnt, V.hd, 6, 0, 0, 0, 0, x.left - 1⟩
theorem agV_steps (V : WV) (s : CS) (x : LK) (h : Nsteps V.nts s.cnt) : Nsteps (agV V s x).nts s.cnt := by
  unfold agV; split
  · exact h
  · exact Nsteps.add (n := ⟨s.cnt, V.hd, 6, 0, 0, 0, 0, x.left - 1⟩) h rfl
theorem lnV_its (V : WV) (s : CS) (x : LK) : (lnV V s x).its = V.its := by
  unfold lnV
  split
  · split
    · exact agV_its _ _ _
    · rfl
  · split
    · rfl
    · exact agV_its _ _ _
  · split
    · rfl
    · exact agV_its _ _ _
  · rfl
theorem lnV_nts (V : WV) (s : CS) (x : LK) : (lnV V s x).nts.length ≤ V.nts.length + 1 := by
  unfold lnV
  split
  · split
    · exact agV_nts _ _ _
    · exact Nat.le_succ _
  · split
    · exact Nat.le_succ _
    · exact agV_nts _ _ _
  · split
    · exact Nat.le_succ _
    · exact agV_nts _ _ _
  · exact Nat.le_succ _
theorem lnS_le (s : CS) (x : LK) : (lnS s x).n ≤ s.n + 1 ∧ (lnS s x).cnt ≤ s.cnt + 1 ∧ s.cnt ≤ (lnS s x).cnt := by
  unfold lnS
  split <;> first | (simp only [CS.acc]; omega) | omega
theorem lnV_steps (V : WV) (s : CS) (x : LK) (h : Nsteps V.nts s.cnt) : Nsteps (lnV V s x).nts (lnS s x).cnt := by
  have hle := (lnS_le s x).2.2
  have h1 : Nsteps V.nts (lnS s x).cnt := h.le (by omega)
  unfold lnV
  split
  · split
    · exact agV_steps _ _ _ h1
    · exact h1
  · split
    · exact h1
    · exact agV_steps _ _ _ h1
  · split
    · exact h1
    · exact agV_steps _ _ _ h1
  · exact h1
/-- A run of at most so many steps. -/
def liter : Nat → WV → CS → LK → Nat × WV × CS × LK
  | 0, V, s, x => (0, V, s, x)
  | m + 1, V, s, x => if x.ph = .off then (0, V, s, x) else ((liter m (lnV V s x) (lnS s x) (lnX V.its s x 0)).1 + 1, (liter m (lnV V s x) (lnS s x) (lnX V.its s x 0)).2)
theorem liter_off (m : Nat) (V : WV) (s : CS) (x : LK) (h : x.ph = .off) : liter m V s x = (0, V, s, x) := by
  cases m
  · rfl
  · show (if x.ph = .off then _ else _) = _
    rw [if_pos h]
theorem liter_on (m : Nat) (V : WV) (s : CS) (x : LK) (h : x.ph ≠ .off) : liter (m + 1) V s x = ((liter m (lnV V s x) (lnS s x) (lnX V.its s x 0)).1 + 1, (liter m (lnV V s x) (lnS s x) (lnX V.its s x 0)).2) := by
  show (if x.ph = .off then _ else _) = _
  rw [if_neg h]
/-- A step, whatever the versions' block. -/
theorem lstepE {w0 w : World} {B : WB} {V : WV} {s : CS} {fb : Nat} {x : LK} (h : WS w0 w B V s) (hr : s.room) (hx : LookE w w0.heap.size fb x) (ho : LOk x) (hi : V.its.length ≤ 1048576) (hn : V.nts.length < 1048576) (hs : Nsteps V.nts s.cnt) (hoff : x.ph ≠ .off) :
    Calls Tryz.prog 31 #[.pointer (some ⟨fb, 0, none⟩), .pointer (some ⟨B.wb, 0, none⟩)] w fun e w' => e = .returned (.bool (decide ((lnX V.its s x 0).ph = .off))) ∧ WS w0 w' B (lnV V s x) (lnS s x) ∧ LookE w' w0.heap.size fb (lnX V.its s x 0) := by
  obtain ⟨a, ha⟩ := hx
  refine (lstep h hr ha (ho.vb a) hi hn hs hoff).mono fun e w' hh => ?_
  obtain ⟨vb, h1, -, h2, h3, -⟩ := hh
  obtain ⟨c, hc⟩ := lnX_vb V.its s x a vb
  rw [hc] at h1 h3
  rw [lnV_vb, lnS_vb] at h2
  exact ⟨h1, h2, c, h3⟩
theorem loverE {w : World} {lo fb : Nat} {x : LK} (h : LookE w lo fb x) : Calls Tryz.prog 99 #[.pointer (some ⟨fb, 0, none⟩)] w fun e w' => e = .returned (.bool (decide (x.ph = .off))) ∧ w' = w := by
  obtain ⟨a, ha⟩ := h; exact lover (x := { x with vb := a }) ha
set_option maxRecDepth 10000 in
set_option maxHeartbeats 2000000 in
theorem lrun {w0 w : World} {B : WB} {V : WV} {s : CS} {fb : Nat} {x : LK} (m : Nat) (hm : m ≤ 1000) (c : Nat) (hc : s.n ≤ c ∧ s.cnt ≤ c) (hcl : c + 1000 < lim) (h : WS w0 w B V s) (hx : LookE w w0.heap.size fb x) (ho : LOk x) (hi : V.its.length ≤ 1048576) (hn : V.nts.length ≤ 1000000) (hs : Nsteps V.nts s.cnt) :
    Calls Tryz.prog 39 #[.pointer (some ⟨B.wb, 0, none⟩), .iface 83 (.pointer (some ⟨fb, 0, none⟩)), .int .i64 m] w fun e w' => e = .returned (.int .i64 ((liter m V s x).1 : Nat)) ∧ WS w0 w' B (liter m V s x).2.1 (liter m V s x).2.2.1 ∧ LookE w' w0.heap.size fb (liter m V s x).2.2.2 := by
  have H := Lib.hid h; have HX := Lib.hid hx; have HO := Lib.hid ho; have HC := Lib.hid hc; have HCL := Lib.hid hcl; have HI := Lib.hid hi; have HN := Lib.hid hn; have HS := Lib.hid hs
  clear h hx ho hc hcl hi hn hs
  obtain ⟨R, hR⟩ : ∃ R, R = liter m V s x := ⟨_, rfl⟩
  rw [← hR]
  have HR := Lib.hid hR
  clear hR
  go_enter Tryz.func39, Tryz.ntmps39
  go_wp2
  go_loopw [7] (fun i wr => ∃ (k : Nat) (V' : WV) (s' : CS) (x' : LK), k ≤ m ∧ i = .int .i64 k ∧ WS w0 wr B V' s' ∧ LookE wr w0.heap.size fb x' ∧ LOk x' ∧ V'.its = V.its ∧ (V'.nts.length ≤ V.nts.length + k ∧ Nsteps V'.nts s'.cnt) ∧ (s'.n ≤ c + k ∧ s'.cnt ≤ c + k) ∧ R = ((liter (m - k) V' s' x').1 + k, (liter (m - k) V' s' x').2)) (fun i _ => m - (intOf i).toNat)
  case atStart => exact ⟨0, V, s, x, by omega, rfl, H.out, HX.out, HO.out, rfl, ⟨Nat.le_refl _, HS.out⟩, HC.out, HR.out⟩
  case round =>
    clear H HX HO HS HC HR
    obtain ⟨k, V', s', x', hk, rfl, h, hx, ho, hits, hn, hc, hR⟩ := hrel
    have hov := loverE hx
    by_cases hlt : k < m
    · have hlt' : (k : Int) < m := by omega
      by_cases hoff : x'.ph = .off
      · rw [decide_eq_true hoff] at hov
        rw [liter_off _ _ _ _ hoff] at hR
        have P := Lib.hid (And.intro h hx)
        have HR := Lib.hid hR
        clear h hx ho hits hn hc hR hoff
        go_wp2_with (go_at_call 99; refine hov.mono ?_; intro e w2 hh; obtain ⟨hh1, hh2⟩ := hh; subst hh1; obtain rfl := hh2.symm; clear hov)
        go_ret
        rw [HR.out]
        exact ⟨by simp, P.out.1, P.out.2⟩
      · rw [decide_eq_false hoff] at hov
        have hst := lstepE h (CS.room_of (c + k) hc (by have := HCL.out; omega)) hx ho (by rw [hits]; exact HI.out) (by have := HN.out; omega) hn.2 hoff
        obtain ⟨q, hq⟩ : ∃ q, q = m - (k + 1) := ⟨_, rfl⟩
        rw [show m - k = q + 1 by omega, liter_on _ _ _ _ hoff] at hR
        have hR2 : R = ((liter q (lnV V' s' x') (lnS s' x') (lnX V'.its s' x' 0)).1 + (k + 1), (liter q (lnV V' s' x') (lnS s' x') (lnX V'.its s' x' 0)).2) := by
          rw [hR, Prod.mk.injEq]; exact ⟨by simp only; omega, rfl⟩
        have ho2 := ho.next V'.its s' 0
        have hle := lnS_le s' x'
        have hn2 : (lnV V' s' x').nts.length ≤ V.nts.length + (k + 1) ∧ Nsteps (lnV V' s' x').nts (lnS s' x').cnt := ⟨by have := lnV_nts V' s' x'; omega, lnV_steps _ _ _ hn.2⟩
        have hc2 : (lnS s' x').n ≤ c + (k + 1) ∧ (lnS s' x').cnt ≤ c + (k + 1) := by omega
        have hi2 : (lnV V' s' x').its = V.its := (lnV_its _ _ _).trans hits
        rw [hq] at hR2
        have Q := Lib.hid (And.intro ho2 (And.intro hi2 (And.intro hn2 (And.intro hc2 hR2))))
        have HLT := Lib.hid hlt
        clear h hx ho hits hn hc hR hq hR2 ho2 hle hn2 hc2 hi2 hoff
        generalize hd : decide ((lnX V'.its s' x' 0).ph = .off) = d at hst
        clear hd
        go_wp2_with (first
          | (go_at_call 99; refine hov.mono ?_; intro e w2 hh; obtain ⟨hh1, hh2⟩ := hh; subst hh1; obtain rfl := hh2.symm; clear hov)
          | (go_at_call 31; refine hst.mono ?_; intro e w3 hh; obtain ⟨hh1, g1, g2⟩ := hh; subst hh1; have P := Lib.hid (And.intro g1 g2); clear g1 g2 hst))
        go_roundw
        case rel => exact ⟨k + 1, _, _, _, HLT.out, by go_num, P.out.1, P.out.2, Q.out.1, Q.out.2.1, Q.out.2.2.1, Q.out.2.2.2.1, Q.out.2.2.2.2⟩
        case measure => have := HLT.out; simp [intOf]; omega
    · obtain rfl : k = m := by omega
      rw [Nat.sub_self] at hR
      have P := Lib.hid (And.intro h hx)
      have HR := Lib.hid hR
      clear h hx ho hits hn hc hR hov
      go_wp2
      go_ret
      rw [HR.out]
      exact ⟨by simp [liter], P.out.1, P.out.2⟩
end Go.Proofs.YtmakjfeepmiggaaGreat
