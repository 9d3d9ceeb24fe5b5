/-
  Texts of this prover, merged: PutBoth, PutStep, PutBegin, PutPps, PActs, PutPlay.
-/
import Derived.Test.YtjfocckdbaaimaaGreatP3
import Derived.Test.YtjfocckdbaaimaaGreatOpen
import Derived.Test.YtjfocckdbaaimaaGreatP1
import Derived.Deep.DeepCutAuto
import Derived.Deep.CutBlock
import Derived.Deep.RegionHeld2
/-
  PutsPlay: an operation of both sides.
-/
namespace Go.Proofs.YtjfocckdbaaimaaGreat
open Go.RowKit Go.Maps
set_option linter.unusedVariables false

structure Po where
  out : Bool
  pb : Nat
  rb : Nat
  b : Int
  u : Int
  s : Int
  g : Int
  r : Int
  n : Nat
  y : Int
  dead : Bool
def Po.vals (o : Po) : List Value := if o.out then [.pointer none, .pointer (some ⟨o.pb, 0, none⟩), .pointer (some ⟨o.rb, 0, none⟩)] else [.pointer (some ⟨o.pb, 0, none⟩), .pointer none, .pointer (some ⟨o.rb, 0, none⟩)]
def Po.T (o : Po) : TypeId := if o.out then 208 else 210
def Po.sl (o : Po) : SL := ⟨tagsA o.b o.u, itemA o.b o.u o.s, o.s, o.y, o.n⟩
def Po.rest (o : Po) : List Value := if o.out then [] else [.int .i64 o.g, .int .i64 o.r]
def Po.line (o : Po) : Int := if o.dead then 0 else (((o.n + 1) % 4 : Nat) : Int)
def Po.gone (o : Po) : Bool := !o.dead && o.out && decide (2 ≤ o.n)
structure Po.ok (w : World) (base : Nat) (o : Po) : Prop where
  p : (o.dead = true ∧ ∃ σ rest, SlotAt w o.pb o.T σ rest ∧ σ.tg = 0) ∨ (o.dead = false ∧ SlotAt w o.pb o.T o.sl o.rest)
  r : ROp w o.rb o.line o.gone o.out o.b o.u o.s o.g o.r o.y
  al : o.dead = false → itemA o.b o.u o.s ≠ 0 ∧ 0 ≤ o.r ∧ o.r < 9223372036854775808
  ls : (Lit.int .i64 o.s).wf = true
  nn : o.n ≤ 3
  yb : 0 ≤ o.y ∧ o.y < 18446744073709551616
  lop : base ≤ o.pb
  lor : base ≤ o.rb
theorem itemA_tags {b u s : Int} (h : itemA b u s ≠ 0) : tagsA b u ≠ 0 := by
  have hs := hasP_bits (b := b) (u := u)
  have ht := tsize_bd b
  unfold itemA hasS at h
  unfold tagsA
  by_cases hp : hasP b u = true
  · have := (hs hp).2.2.1
    rw [if_pos hp]; omega
  · exfalso; apply h
    rw [Bool.eq_false_iff.2 hp]
    rfl
theorem slot_fr {K : TypeId → Bool} {mp : Bool} {w w' : World} {b T : Nat} {σ : SL} {rest : List Value} (h : SlotAt w b T σ rest) (hf : Fr K mp w w') (hT : K T = false) : SlotAt w' b T σ rest := hf.cells _ _ _ _ h hT
theorem Po.T_or (o : Po) : o.T = 210 ∨ o.T = 208 := by unfold Po.T; split <;> simp
theorem Po.ok.blkp {w : World} {base : Nat} {o : Po} (h : o.ok w base) : ∃ cs, w.heap[o.pb]? = some (.cells cs o.T (0, 0)) := by
  rcases h.p with ⟨-, σ, rest, h1, -⟩ | ⟨-, h1⟩ <;> exact ⟨_, h1⟩
theorem Po.ok.fr {K : TypeId → Bool} {mp : Bool} {w w' : World} {base : Nat} {o : Po} (h : o.ok w base) (hf : Fr K mp w w') (h1 : K 210 = false) (h2 : K 208 = false) (h3 : K 226 = false) : o.ok w' base := by
  have hT : K o.T = false := by rcases o.T_or with e | e <;> rw [e] <;> assumption
  refine ⟨?_, hf.cells _ _ _ _ h.r h3, h.al, h.ls, h.nn, h.yb, h.lop, h.lor⟩
  rcases h.p with ⟨e, σ, rest, g1, g2⟩ | ⟨e, g1⟩
  · exact .inl ⟨e, σ, rest, slot_fr g1 hf hT, g2⟩
  · exact .inr ⟨e, slot_fr g1 hf hT⟩
theorem Po.ok.below {w w' : World} {base : Nat} {o : Po} (h : o.ok w base) (hb : Below w.heap.size w w') : o.ok w' base := h.fr (below_fr hb (fun _ => false) false) rfl rfl rfl
theorem Po.ok.ltp {w : World} {base : Nat} {o : Po} (h : o.ok w base) : o.pb < w.heap.size := by obtain ⟨cs, h1⟩ := h.blkp; exact (Array.getElem?_eq_some_iff.1 h1).1
theorem Po.ok.ltr {w : World} {base : Nat} {o : Po} (h : o.ok w base) : o.rb < w.heap.size := (Array.getElem?_eq_some_iff.1 h.r).1
theorem Po.ok.base {w : World} {base base' : Nat} {o : Po} (h : o.ok w base) (hb : base' ≤ base) : o.ok w base' := ⟨h.p, h.r, h.al, h.ls, h.nn, h.yb, Nat.le_trans hb h.lop, Nat.le_trans hb h.lor⟩
/-- Is it over? -/
def Po.over (o : Po) : Bool := o.dead || o.n == 3
theorem Po.line_over {w : World} {base : Nat} {o : Po} (h : o.ok w base) : (o.line == 0) = o.over := by
  have hn := h.nn
  unfold Po.line Po.over
  cases o.dead
  · simp only [Bool.false_eq_true, if_false, Bool.false_or]
    rcases (show o.n = 0 ∨ o.n = 1 ∨ o.n = 2 ∨ o.n = 3 by omega) with e | e | e | e <;> rw [e] <;> rfl
  · rfl
theorem Po.ok.pover {w : World} {base : Nat} {o : Po} (h : o.ok w base) (ho : o.out = false) : Calls Tryz.prog 109 #[.pointer (some ⟨o.pb, 0, none⟩)] w fun e w' => e = .returned (.bool o.over) ∧ Below w.heap.size w w' := by
  have hT : o.T = 210 := by unfold Po.T; rw [ho]; rfl
  rcases h.p with ⟨e, σ, rest, h1, hz⟩ | ⟨e, h1⟩
  · rw [hT] at h1
    have := Putover h1 true (σ.ln == 3) (by rw [hz]; rfl) rfl
    unfold Po.over; rw [e]; exact this
  · rw [hT] at h1
    have hn := h.nn
    have := Putover h1 false (o.n == 3) (beq_eq_false_iff_ne.2 (itemA_tags (h.al e).1)) (by
      unfold Po.sl; simp only
      rcases (show o.n = 0 ∨ o.n = 1 ∨ o.n = 2 ∨ o.n = 3 by omega) with e | e | e | e <;> rw [e] <;> rfl)
    unfold Po.over; rw [e]; exact this
theorem Po.ok.oover {w : World} {base : Nat} {o : Po} (h : o.ok w base) (ho : o.out = true) : Calls Tryz.prog 108 #[.pointer (some ⟨o.pb, 0, none⟩)] w fun e w' => e = .returned (.bool o.over) ∧ Below w.heap.size w w' := by
  have hT : o.T = 208 := by unfold Po.T; rw [ho]; rfl
  rcases h.p with ⟨e, σ, rest, h1, hz⟩ | ⟨e, h1⟩
  · rw [hT] at h1
    have := Outover h1 true (σ.ln == 3) (by rw [hz]; rfl) rfl
    unfold Po.over; rw [e]; exact this
  · rw [hT] at h1
    have hn := h.nn
    have := Outover h1 false (o.n == 3) (beq_eq_false_iff_ne.2 (itemA_tags (h.al e).1)) (by
      unfold Po.sl; simp only
      rcases (show o.n = 0 ∨ o.n = 1 ∨ o.n = 2 ∨ o.n = 3 by omega) with e | e | e | e <;> rw [e] <;> rfl)
    unfold Po.over; rw [e]; exact this
theorem Po.ok.gone {w : World} {base : Nat} {o : Po} (h : o.ok w base) (ho : o.out = true) : Calls Tryz.prog 89 #[.pointer (some ⟨o.pb, 0, none⟩)] w fun e w' => e = .returned (.bool o.gone) ∧ w' = w := by
  have hT : o.T = 208 := by unfold Po.T; rw [ho]; rfl
  rcases h.p with ⟨e, σ, rest, h1, hz⟩ | ⟨e, h1⟩
  · rw [hT] at h1
    have := gone_not h1 (.inl hz)
    unfold Po.gone; rw [e]; exact this
  · rw [hT] at h1
    have c0 := h1.c0; have c4 := h1.c4
    have hz' : (o.sl.tg != 0) = true := bne_iff_ne.2 (itemA_tags (h.al e).1)
    have hg : o.gone = decide (2 ≤ o.n) := by unfold Po.gone; rw [e, ho]; rfl
    rw [hg]
    have c4' : w.cell? ⟨o.pb, 4, none⟩ = some (.int .i64 (o.n : Int)) := c4
    have d1 : decide ((1 : Int) < (o.n : Int)) = decide (2 ≤ o.n) := by
      have hn := h.nn
      rcases (show o.n = 0 ∨ o.n = 1 ∨ o.n = 2 ∨ o.n = 3 by omega) with e | e | e | e <;> rw [e] <;> rfl
    obtain ⟨d, hd⟩ : ∃ d, d = decide (2 ≤ o.n) := ⟨_, rfl⟩
    rw [← hd] at d1 ⊢
    obtain ⟨n', hn'⟩ : ∃ n' : Int, n' = (o.n : Int) := ⟨_, rfl⟩
    rw [← hn'] at d1 c4'
    clear h h1 c4 hd hg hn'
    generalize o.sl.tg = tg at *
    go_enter Tryz.func89, Tryz.ntmps89
    go_wp2
    go_ret
    exact ⟨rfl, rfl⟩
set_option maxRecDepth 10000 in
set_option maxHeartbeats 1000000 in
theorem posame {w : World} {base : Nat} {o : Po} (h : o.ok w base) : Calls Tryz.prog 39 #[.agg o.vals.toArray] w fun e w' => e = .returned (.bool true) ∧ Below w.heap.size w w' := by
  have hb := below_alloc w (.cells o.vals.toArray 110)
  have z := heap_alloc_new w (.cells o.vals.toArray 110)
  have h1 := h.below hb
  have hlo := Po.line_over h
  have HB := Lib.hid hb; have H1 := Lib.hid h1; have Z := Lib.hid z
  cases ho : o.out
  · have hv : o.vals = [.pointer (some ⟨o.pb, 0, none⟩), .pointer none, .pointer (some ⟨o.rb, 0, none⟩)] := by unfold Po.vals; rw [ho]; rfl
    rw [hv] at HB Z H1 ⊢
    clear h hb z h1 hv
    go_enter Tryz.func39, Tryz.ntmps39
    go_upto_region 1 with (fail)
    change Code.wp _ _ _ _ (w.alloc (.cells #[.pointer (some ⟨o.pb, 0, none⟩), .pointer none, .pointer (some ⟨o.rb, 0, none⟩)] 110))
    have Z2 : Hid ((w.alloc (.cells #[.pointer (some ⟨o.pb, 0, none⟩), .pointer none, .pointer (some ⟨o.rb, 0, none⟩)] 110)).heap[w.heap.size]? = some (.cells #[.pointer (some ⟨o.pb, 0, none⟩), .pointer none, .pointer (some ⟨o.rb, 0, none⟩)] 110 (0, 0))) := Z.out
    have HB2 : Hid (Below w.heap.size w (w.alloc (.cells #[.pointer (some ⟨o.pb, 0, none⟩), .pointer none, .pointer (some ⟨o.rb, 0, none⟩)] 110))) := HB.out
    have H2 : Hid (Po.ok (w.alloc (.cells #[.pointer (some ⟨o.pb, 0, none⟩), .pointer none, .pointer (some ⟨o.rb, 0, none⟩)] 110)) base o) := H1.out
    clear HB Z H1
    generalize w.alloc (.cells #[.pointer (some ⟨o.pb, 0, none⟩), .pointer none, .pointer (some ⟨o.rb, 0, none⟩)] 110) = w1 at *
    have z0 := hcell Z2.out 0
    have z1 := hcell Z2.out 1
    have z2 := hcell Z2.out 2
    have r0 := hcell H2.out.r 0
    have hov := H2.out.pover ho
    generalize o.over = ov at *
    generalize o.line = ln at *
    clear ho
    cases ov
    all_goals
      go_wp2_with (go_at_call 109; refine hov.mono ?_; intro e w2 hh; obtain ⟨hh1, b2⟩ := hh; subst hh1; have B2 := Lib.hid b2; clear b2)
      go_ret
      exact ⟨rfl, HB2.out.trans (B2.out.mono HB2.out.size)⟩
  · have hv : o.vals = [.pointer none, .pointer (some ⟨o.pb, 0, none⟩), .pointer (some ⟨o.rb, 0, none⟩)] := by unfold Po.vals; rw [ho]; rfl
    rw [hv] at HB Z H1 ⊢
    clear h hb z h1 hv
    go_enter Tryz.func39, Tryz.ntmps39
    go_upto_region 1 with (fail)
    change Code.wp _ _ _ _ (w.alloc (.cells #[.pointer none, .pointer (some ⟨o.pb, 0, none⟩), .pointer (some ⟨o.rb, 0, none⟩)] 110))
    have Z2 : Hid ((w.alloc (.cells #[.pointer none, .pointer (some ⟨o.pb, 0, none⟩), .pointer (some ⟨o.rb, 0, none⟩)] 110)).heap[w.heap.size]? = some (.cells #[.pointer none, .pointer (some ⟨o.pb, 0, none⟩), .pointer (some ⟨o.rb, 0, none⟩)] 110 (0, 0))) := Z.out
    have HB2 : Hid (Below w.heap.size w (w.alloc (.cells #[.pointer none, .pointer (some ⟨o.pb, 0, none⟩), .pointer (some ⟨o.rb, 0, none⟩)] 110))) := HB.out
    have H2 : Hid (Po.ok (w.alloc (.cells #[.pointer none, .pointer (some ⟨o.pb, 0, none⟩), .pointer (some ⟨o.rb, 0, none⟩)] 110)) base o) := H1.out
    clear HB Z H1
    generalize w.alloc (.cells #[.pointer none, .pointer (some ⟨o.pb, 0, none⟩), .pointer (some ⟨o.rb, 0, none⟩)] 110) = w1 at *
    have z1 := hcell Z2.out 1
    have z2 := hcell Z2.out 2
    have r0 := hcell H2.out.r 0
    have hov := fun st : ExtW w1 => (H2.out.below st.below).oover ho
    have hgo := fun st : ExtW w1 => ((H2.out.below st.below).gone ho).mono fun e w' ⟨h1, h2⟩ => And.intro h1 h2.symm
    have x1 : ∀ st : ExtW w1, st.val.cell? ⟨w.heap.size, 1, none⟩ = some (.pointer (some ⟨o.pb, 0, none⟩)) := fun st => st.cell (hcell Z2.out 1)
    have x2 : ∀ st : ExtW w1, st.val.cell? ⟨w.heap.size, 2, none⟩ = some (.pointer (some ⟨o.rb, 0, none⟩)) := fun st => st.cell (hcell Z2.out 2)
    have x3 : ∀ st : ExtW w1, st.val.cell? ⟨o.rb, 1, none⟩ = some (.bool o.gone) := fun st => st.cell (hcell H2.out.r 1)
    generalize o.over = ov at *
    generalize o.line = ln at *
    generalize o.gone = gn at *
    clear ho
    cases ov <;> cases gn
    all_goals
      go_upto_region 3 with (fail)
      refine wp_region_ext (by kernel_rfl) (by kernel_rfl) ?_
      repeat (go_big_quiet_step (first
        | (go_at_call 108; with_reducible refine calls_ext (hov _))
        | (go_at_call 89; with_reducible refine calls_ext_same (hgo _))))
      refine wpQuiet_nil ?_
      rintro W ⟨⟨W2, hW⟩, rfl⟩
      have HW := Lib.hid hW
      clear x1 x2 x3 hov hgo z1 z2 r0 hW
      go_wp2
      go_ret
      exact ⟨rfl, HB2.out.trans (HW.out.mono HB2.out.size)⟩
end Go.Proofs.YtjfocckdbaaimaaGreat

/-
  PutsPlay: a step of an operation, of both sides. (written by genputstep.py)
-/
namespace Go.Proofs.YtjfocckdbaaimaaGreat
open Go.RowKit Go.Maps
set_option linter.unusedVariables false

def Po.pk (w : World) (o : Po) : Prop := (o.dead = true ∧ ∃ σ rest, SlotAt w o.pb o.T σ rest ∧ σ.tg = 0) ∨ (o.dead = false ∧ SlotAt w o.pb o.T o.sl o.rest)
theorem Po.line_over' {o : Po} (hn : o.n ≤ 3) : (o.line == 0) = o.over := by
  unfold Po.line Po.over
  cases o.dead
  · simp only [Bool.false_eq_true, if_false, Bool.false_or]
    rcases (show o.n = 0 ∨ o.n = 1 ∨ o.n = 2 ∨ o.n = 3 by omega) with e | e | e | e <;> rw [e] <;> rfl
  · rfl
theorem cell_ty' {w : World} {k : Nat} {cs cs' : Array Value} {T T' : TypeId} {fr fr' : Nat × Nat} (h : w.heap[k]? = some (.cells cs T fr)) (h' : w.heap[k]? = some (.cells cs' T' fr')) : T = T' := by
  have := h.symm.trans h'; simp only [Option.some.injEq, Obj.cells.injEq] at this; exact this.2.1
/-- Of the old blocks only such of a world, and two, have turned. -/
structure PTw (x y : Nat) (w w' : World) : Prop where
  size : w.heap.size ≤ w'.heap.size
  cells : ∀ (k : Nat) (cs : Array Value) (T : TypeId) (fr : Nat × Nat), w.heap[k]? = some (.cells cs T fr) → wrTy T = false → k ≠ x → k ≠ y → w'.heap[k]? = some (.cells cs T fr)
theorem wr_pt {T : TypeId} (h : wrTy T = false) : wTy T = false ∧ rTy T = false := by unfold wrTy at h; simpa only [Bool.or_eq_false_iff] using h
theorem PTw.trans {x y : Nat} {a b c : World} (h : PTw x y a b) (k : PTw x y b c) : PTw x y a c :=
  ⟨Nat.le_trans h.size k.size, fun i cs T fr hi hT h1 h2 => k.cells i cs T fr (h.cells i cs T fr hi hT h1 h2) hT h1 h2⟩
theorem below_ptw {w w' : World} (h : Below w.heap.size w w') (x y : Nat) : PTw x y w w' := ⟨h.size, fun k cs T fr hk _ _ _ => (h.block k (Array.getElem?_eq_some_iff.1 hk).1).trans hk⟩
theorem Fx.ptP {mp : Bool} {x y : Nat} {w w' : World} (h : Fx wTy mp x w w') : PTw x y w w' := ⟨h.size, fun k c T f hk hT h1 _ => h.cells k c T f hk (wr_pt hT).1 h1⟩
theorem Fx.ptR {mp : Bool} {x y : Nat} {w w' : World} (h : Fx rTy mp y w w') : PTw x y w w' := ⟨h.size, fun k c T f hk hT _ h1 => h.cells k c T f hk (wr_pt hT).2 h1⟩
theorem ws_bes {w0 w w' : World} {B : WB} {V : WV} {s : CS} {xb : Nat} {cs : Array Value} {T : TypeId} {fr : Nat × Nat} (h : WS w0 w B V s) (hf : Fx rTy false xb w w') (hb : w.heap[xb]? = some (.cells cs T fr)) (hT : wTy T = false) (hB : Below w0.heap.size w0 w') : WS w0 w' B V s :=
  h.fx hf w_not_r hb hT hB
theorem rd_bes {w0 w w' : World} {B : WB} {V : WV} {x : RS} {tb : Nat} {cs : Array Value} {T : TypeId} {fr : Nat × Nat} (h : RD w0 w B V x) (hf : Fx wTy true tb w w') (hb : w.heap[tb]? = some (.cells cs T fr)) (hT : rTy T = false) (hB : Below w0.heap.size w0 w') : RD w0 w' B V x :=
  h.fr (hf.fr hb) (fun X hX => by
    simp only [Bool.or_eq_false_iff]
    refine ⟨r_not_w X hX, ?_⟩
    cases hXT : (X == T)
    · rfl
    · rw [beq_iff_eq] at hXT; subst hXT; rw [hX] at hT; cases hT) hB
def PStepPost (w0 w : World) (B R : WB) (V : WV) (s : CS) (x : RS) (o : Po) (e : Ending) (w' : World) : Prop :=
  e = .returned (.bool true) ∧ Pr w0 w' B R V s x ∧ o.ok w' w0.heap.size ∧ PTw o.pb o.rb w w'
section
variable {w0 w : World} {B R : WB} {V : WV} {s s' : CS} {x x' : RS} {o : Po} {n' : Nat} {y' : Int}

set_option maxRecDepth 10000 in
set_option maxHeartbeats 2000000 in
theorem postep_put (ho : o.out = false) (h : Pr w0 w B R V s x) (hok : o.ok w w0.heap.size) (hn : n' ≤ 3) (hy : 0 ≤ y' ∧ y' < 18446744073709551616) (hal : Alike s' x')
    (hR : ∀ W, Below w.heap.size w W → Calls Tryz.prog 110 #[.pointer (some ⟨o.rb, 0, none⟩), .pointer (some ⟨R.wb, 0, none⟩)] W fun e w' => e = .returned (.tuple #[]) ∧ RD w0 w' R V x' ∧ ROp w' o.rb ({ o with n := n', y := y' } : Po).line ({ o with n := n', y := y' } : Po).gone o.out o.b o.u o.s o.g o.r y' ∧ Fx rTy false o.rb W w')
    (hS : ∀ W, WS w0 W B V s → W.heap[o.pb]? = w.heap[o.pb]? → Calls Tryz.prog 111 #[.pointer (some ⟨o.pb, 0, none⟩), .pointer (some ⟨B.wb, 0, none⟩)] W fun e w' => e = .returned (.bool ({ o with n := n', y := y' } : Po).over) ∧ WS w0 w' B V s' ∧ ({ o with n := n', y := y' } : Po).pk w' ∧ Fx wTy true o.pb W w') :
    Calls Tryz.prog 40 #[.agg o.vals.toArray, .agg #[.pointer (some ⟨B.wb, 0, none⟩), .pointer (some ⟨R.wb, 0, none⟩)]] w (PStepPost w0 w B R V s' x' { o with n := n', y := y' }) := by
  have hv : o.vals = (#[.pointer (some ⟨o.pb, 0, none⟩), .pointer none, .pointer (some ⟨o.rb, 0, none⟩)] : Array Value).toList := by unfold Po.vals; rw [ho]; rfl
  have hT : o.T = 210 := by unfold Po.T; rw [ho]; rfl
  have hlo : (({ o with n := n', y := y' } : Po).line == 0) = ({ o with n := n', y := y' } : Po).over := Po.line_over' hn
  have hfin : ∀ w', ({ o with n := n', y := y' } : Po).pk w' → ROp w' o.rb ({ o with n := n', y := y' } : Po).line ({ o with n := n', y := y' } : Po).gone o.out o.b o.u o.s o.g o.r y' → ({ o with n := n', y := y' } : Po).ok w' w0.heap.size := fun w' h1 h2 => ⟨h1, h2, hok.al, hok.ls, hn, hy, hok.lop, hok.lor⟩
  have hsm : ∀ w', ({ o with n := n', y := y' } : Po).ok w' w0.heap.size → Calls Tryz.prog 39 #[.agg #[.pointer (some ⟨o.pb, 0, none⟩), .pointer none, .pointer (some ⟨o.rb, 0, none⟩)]] w' fun e w'' => e = .returned (.bool true) ∧ Below w'.heap.size w' w'' := fun w' h1 => by
    have := posame h1
    have hv2 : ({ o with n := n', y := y' } : Po).vals = (#[.pointer (some ⟨o.pb, 0, none⟩), .pointer none, .pointer (some ⟨o.rb, 0, none⟩)] : Array Value).toList := hv
    rw [hv2] at this
    exact this
  rw [hv]
  clear hv
  obtain ⟨csp, hpb⟩ := hok.blkp
  rw [hT] at hpb
  have hrb := hok.r
  have hne : o.pb ≠ o.rb := fun e => by rw [e] at hpb; exact absurd (cell_ty' hpb hrb) (by decide)
  generalize ho2 : ({ o with n := n', y := y' } : Po) = o' at *
  have hpb' : o'.pb = o.pb := by rw [← ho2]
  have hrb' : o'.rb = o.rb := by rw [← ho2]
  have hb1 := below_alloc w (.cells #[.pointer (some ⟨o.pb, 0, none⟩), .pointer none, .pointer (some ⟨o.rb, 0, none⟩)] 110)
  have hb : Below w.heap.size w ((w.alloc (.cells #[.pointer (some ⟨o.pb, 0, none⟩), .pointer none, .pointer (some ⟨o.rb, 0, none⟩)] 110)).alloc (.cells #[.pointer (some ⟨B.wb, 0, none⟩), .pointer (some ⟨R.wb, 0, none⟩)] 34)) := hb1.trans ((below_alloc _ _).mono hb1.size)
  have z : ((w.alloc (.cells #[.pointer (some ⟨o.pb, 0, none⟩), .pointer none, .pointer (some ⟨o.rb, 0, none⟩)] 110)).alloc (.cells #[.pointer (some ⟨B.wb, 0, none⟩), .pointer (some ⟨R.wb, 0, none⟩)] 34)).heap[w.heap.size]? = some (.cells #[.pointer (some ⟨o.pb, 0, none⟩), .pointer none, .pointer (some ⟨o.rb, 0, none⟩)] 110 (0, 0)) := heap_alloc_old (heap_alloc_new w _)
  have zp : ((w.alloc (.cells #[.pointer (some ⟨o.pb, 0, none⟩), .pointer none, .pointer (some ⟨o.rb, 0, none⟩)] 110)).alloc (.cells #[.pointer (some ⟨B.wb, 0, none⟩), .pointer (some ⟨R.wb, 0, none⟩)] 34)).heap[w.heap.size + 1]? = some (.cells #[.pointer (some ⟨B.wb, 0, none⟩), .pointer (some ⟨R.wb, 0, none⟩)] 34 (0, 0)) := heap_alloc_at _ _ (by simp)
  have hrm := hR _ hb
  have hnq : w.heap.size ≠ o.rb ∧ w.heap.size + 1 ≠ o.rb ∧ w.heap.size ≠ o.pb ∧ w.heap.size + 1 ≠ o.pb := by
    have h1 := (Array.getElem?_eq_some_iff.1 hpb).1; have h2 := (Array.getElem?_eq_some_iff.1 hrb).1; omega
  have HH := Lib.hid h; have HB := Lib.hid hb; have Z := Lib.hid z; have ZP := Lib.hid zp; have HS := Lib.hid hS; have HF := Lib.hid hfin; have HSM := Lib.hid hsm; have HPB := Lib.hid hpb; have HRB := Lib.hid hrb; have HNE := Lib.hid hne; have HAL := Lib.hid hal; have HNQ := Lib.hid hnq; have HLO := Lib.hid hlo; have HPB2 := Lib.hid hpb'; have HRB2 := Lib.hid hrb'
  have c2 := hcell z 2
  have p1 := hcell zp 1
  clear h hok hn hy hR hS hfin hsm hpb hrb hne hb1 hb z zp hT ho ho2 hal hnq hlo hpb' hrb'
  go_enter Tryz.func40, Tryz.ntmps40
  go_upto_region 1 with (fail)
  change Code.wp _ _ _ _ ((w.alloc (.cells #[.pointer (some ⟨o.pb, 0, none⟩), .pointer none, .pointer (some ⟨o.rb, 0, none⟩)] 110)).alloc (.cells #[.pointer (some ⟨B.wb, 0, none⟩), .pointer (some ⟨R.wb, 0, none⟩)] 34))
  generalize ((w.alloc (.cells #[.pointer (some ⟨o.pb, 0, none⟩), .pointer none, .pointer (some ⟨o.rb, 0, none⟩)] 110)).alloc (.cells #[.pointer (some ⟨B.wb, 0, none⟩), .pointer (some ⟨R.wb, 0, none⟩)] 34)) = w1 at *
  generalize w.heap.size + 1 = qp at *
  go_upto_region 2 with (go_at_call 110; refine hrm.mono ?_; intro e w2 hh; obtain ⟨hh1, h2, hr2, f2⟩ := hh; subst hh1; have H2 := Lib.hid h2; have R2 := Lib.hid hr2; have F2 := Lib.hid f2; clear h2 hr2 f2 hrm c2 p1)
  have z2 := F2.out.cells _ _ _ _ Z.out rfl HNQ.out.1
  have zp2 := F2.out.cells _ _ _ _ ZP.out rfl HNQ.out.2.1
  have hp1 := (HB.out.block _ (Array.getElem?_eq_some_iff.1 HPB.out).1).trans HPB.out
  have hr1 := (HB.out.block _ (Array.getElem?_eq_some_iff.1 HRB.out).1).trans HRB.out
  have hp2 := F2.out.cells _ _ _ _ hp1 rfl HNE.out
  have hw2 := ws_bes (HH.out.ws.keep HB.out) F2.out hr1 rfl H2.out.below
  have hst := HS.out w2 hw2 (hp2.trans HPB.out.symm)
  have c0 := hcell z2 0
  have c1 := hcell z2 1
  have c2 := hcell z2 2
  have p0 := hcell zp2 0
  have r0 := hcell R2.out 0
  have hlo := HLO.out
  have Z2 := Lib.hid z2; have HP2 := Lib.hid hp2
  clear z2 zp2 hp1 hr1 hp2 hw2
  generalize hov : o'.over = ov at *
  generalize hln : o'.line = ln at *
  have HOV := Lib.hid hov; have HLN := Lib.hid hln
  clear hov hln
  cases ov
  all_goals
    go_wp2_with (first
      | (go_at_call 111; refine hst.mono ?_; intro e w3 hh; obtain ⟨hh1, h3, hk3, f3⟩ := hh; subst hh1; have hr3 := f3.cells _ _ _ _ R2.out rfl (fun e => HNE.out e.symm); have hz3 := f3.cells _ _ _ _ Z2.out rfl HNQ.out.2.2.1; have hok3 := HF.out _ hk3 hr3; have hs3 := HSM.out _ hok3; clear c0 c1 c2; have c0 := hcell hz3 0; have c1 := hcell hz3 1; have c2 := hcell hz3 2; have H3 := Lib.hid h3; have K3 := Lib.hid hok3; have F3 := Lib.hid f3; clear h3 hk3 f3 hr3 hz3 hok3 hst p0 r0)
      | (go_at_call 39; refine hs3.mono ?_; intro e w4 hh; obtain ⟨hh1, b4⟩ := hh; subst hh1; have B4 := Lib.hid b4; clear b4 hs3))
    go_ret
    refine ⟨rfl, ⟨H3.out.keep B4.out, (rd_bes H2.out F3.out HP2.out rfl H3.out.below).keep B4.out, HAL.out⟩, K3.out.below B4.out, ?_⟩
    rw [show o'.pb = o.pb from HPB2.out, show o'.rb = o.rb from HRB2.out]
    exact ((below_ptw HB.out _ _).trans F2.out.ptR).trans (F3.out.ptP.trans (below_ptw B4.out _ _))
set_option maxRecDepth 10000 in
set_option maxHeartbeats 2000000 in
theorem postep_out (ho : o.out = true) (h : Pr w0 w B R V s x) (hok : o.ok w w0.heap.size) (hn : n' ≤ 3) (hy : 0 ≤ y' ∧ y' < 18446744073709551616) (hal : Alike s' x')
    (hR : ∀ W, Below w.heap.size w W → Calls Tryz.prog 110 #[.pointer (some ⟨o.rb, 0, none⟩), .pointer (some ⟨R.wb, 0, none⟩)] W fun e w' => e = .returned (.tuple #[]) ∧ RD w0 w' R V x' ∧ ROp w' o.rb ({ o with n := n', y := y' } : Po).line ({ o with n := n', y := y' } : Po).gone o.out o.b o.u o.s o.g o.r y' ∧ Fx rTy false o.rb W w')
    (hS : ∀ W, WS w0 W B V s → W.heap[o.pb]? = w.heap[o.pb]? → Calls Tryz.prog 88 #[.pointer (some ⟨o.pb, 0, none⟩), .pointer (some ⟨B.wb, 0, none⟩)] W fun e w' => e = .returned (.bool ({ o with n := n', y := y' } : Po).over) ∧ WS w0 w' B V s' ∧ ({ o with n := n', y := y' } : Po).pk w' ∧ Fx wTy true o.pb W w') :
    Calls Tryz.prog 40 #[.agg o.vals.toArray, .agg #[.pointer (some ⟨B.wb, 0, none⟩), .pointer (some ⟨R.wb, 0, none⟩)]] w (PStepPost w0 w B R V s' x' { o with n := n', y := y' }) := by
  have hv : o.vals = (#[.pointer none, .pointer (some ⟨o.pb, 0, none⟩), .pointer (some ⟨o.rb, 0, none⟩)] : Array Value).toList := by unfold Po.vals; rw [ho]; rfl
  have hT : o.T = 208 := by unfold Po.T; rw [ho]; rfl
  have hlo : (({ o with n := n', y := y' } : Po).line == 0) = ({ o with n := n', y := y' } : Po).over := Po.line_over' hn
  have hfin : ∀ w', ({ o with n := n', y := y' } : Po).pk w' → ROp w' o.rb ({ o with n := n', y := y' } : Po).line ({ o with n := n', y := y' } : Po).gone o.out o.b o.u o.s o.g o.r y' → ({ o with n := n', y := y' } : Po).ok w' w0.heap.size := fun w' h1 h2 => ⟨h1, h2, hok.al, hok.ls, hn, hy, hok.lop, hok.lor⟩
  have hsm : ∀ w', ({ o with n := n', y := y' } : Po).ok w' w0.heap.size → Calls Tryz.prog 39 #[.agg #[.pointer none, .pointer (some ⟨o.pb, 0, none⟩), .pointer (some ⟨o.rb, 0, none⟩)]] w' fun e w'' => e = .returned (.bool true) ∧ Below w'.heap.size w' w'' := fun w' h1 => by
    have := posame h1
    have hv2 : ({ o with n := n', y := y' } : Po).vals = (#[.pointer none, .pointer (some ⟨o.pb, 0, none⟩), .pointer (some ⟨o.rb, 0, none⟩)] : Array Value).toList := hv
    rw [hv2] at this
    exact this
  rw [hv]
  clear hv
  obtain ⟨csp, hpb⟩ := hok.blkp
  rw [hT] at hpb
  have hrb := hok.r
  have hne : o.pb ≠ o.rb := fun e => by rw [e] at hpb; exact absurd (cell_ty' hpb hrb) (by decide)
  generalize ho2 : ({ o with n := n', y := y' } : Po) = o' at *
  have hpb' : o'.pb = o.pb := by rw [← ho2]
  have hrb' : o'.rb = o.rb := by rw [← ho2]
  have hb1 := below_alloc w (.cells #[.pointer none, .pointer (some ⟨o.pb, 0, none⟩), .pointer (some ⟨o.rb, 0, none⟩)] 110)
  have hb : Below w.heap.size w ((w.alloc (.cells #[.pointer none, .pointer (some ⟨o.pb, 0, none⟩), .pointer (some ⟨o.rb, 0, none⟩)] 110)).alloc (.cells #[.pointer (some ⟨B.wb, 0, none⟩), .pointer (some ⟨R.wb, 0, none⟩)] 34)) := hb1.trans ((below_alloc _ _).mono hb1.size)
  have z : ((w.alloc (.cells #[.pointer none, .pointer (some ⟨o.pb, 0, none⟩), .pointer (some ⟨o.rb, 0, none⟩)] 110)).alloc (.cells #[.pointer (some ⟨B.wb, 0, none⟩), .pointer (some ⟨R.wb, 0, none⟩)] 34)).heap[w.heap.size]? = some (.cells #[.pointer none, .pointer (some ⟨o.pb, 0, none⟩), .pointer (some ⟨o.rb, 0, none⟩)] 110 (0, 0)) := heap_alloc_old (heap_alloc_new w _)
  have zp : ((w.alloc (.cells #[.pointer none, .pointer (some ⟨o.pb, 0, none⟩), .pointer (some ⟨o.rb, 0, none⟩)] 110)).alloc (.cells #[.pointer (some ⟨B.wb, 0, none⟩), .pointer (some ⟨R.wb, 0, none⟩)] 34)).heap[w.heap.size + 1]? = some (.cells #[.pointer (some ⟨B.wb, 0, none⟩), .pointer (some ⟨R.wb, 0, none⟩)] 34 (0, 0)) := heap_alloc_at _ _ (by simp)
  have hrm := hR _ hb
  have hnq : w.heap.size ≠ o.rb ∧ w.heap.size + 1 ≠ o.rb ∧ w.heap.size ≠ o.pb ∧ w.heap.size + 1 ≠ o.pb := by
    have h1 := (Array.getElem?_eq_some_iff.1 hpb).1; have h2 := (Array.getElem?_eq_some_iff.1 hrb).1; omega
  have HH := Lib.hid h; have HB := Lib.hid hb; have Z := Lib.hid z; have ZP := Lib.hid zp; have HS := Lib.hid hS; have HF := Lib.hid hfin; have HSM := Lib.hid hsm; have HPB := Lib.hid hpb; have HRB := Lib.hid hrb; have HNE := Lib.hid hne; have HAL := Lib.hid hal; have HNQ := Lib.hid hnq; have HLO := Lib.hid hlo; have HPB2 := Lib.hid hpb'; have HRB2 := Lib.hid hrb'
  have c2 := hcell z 2
  have p1 := hcell zp 1
  clear h hok hn hy hR hS hfin hsm hpb hrb hne hb1 hb z zp hT ho ho2 hal hnq hlo hpb' hrb'
  go_enter Tryz.func40, Tryz.ntmps40
  go_upto_region 1 with (fail)
  change Code.wp _ _ _ _ ((w.alloc (.cells #[.pointer none, .pointer (some ⟨o.pb, 0, none⟩), .pointer (some ⟨o.rb, 0, none⟩)] 110)).alloc (.cells #[.pointer (some ⟨B.wb, 0, none⟩), .pointer (some ⟨R.wb, 0, none⟩)] 34))
  generalize ((w.alloc (.cells #[.pointer none, .pointer (some ⟨o.pb, 0, none⟩), .pointer (some ⟨o.rb, 0, none⟩)] 110)).alloc (.cells #[.pointer (some ⟨B.wb, 0, none⟩), .pointer (some ⟨R.wb, 0, none⟩)] 34)) = w1 at *
  generalize w.heap.size + 1 = qp at *
  go_upto_region 2 with (go_at_call 110; refine hrm.mono ?_; intro e w2 hh; obtain ⟨hh1, h2, hr2, f2⟩ := hh; subst hh1; have H2 := Lib.hid h2; have R2 := Lib.hid hr2; have F2 := Lib.hid f2; clear h2 hr2 f2 hrm c2 p1)
  have z2 := F2.out.cells _ _ _ _ Z.out rfl HNQ.out.1
  have zp2 := F2.out.cells _ _ _ _ ZP.out rfl HNQ.out.2.1
  have hp1 := (HB.out.block _ (Array.getElem?_eq_some_iff.1 HPB.out).1).trans HPB.out
  have hr1 := (HB.out.block _ (Array.getElem?_eq_some_iff.1 HRB.out).1).trans HRB.out
  have hp2 := F2.out.cells _ _ _ _ hp1 rfl HNE.out
  have hw2 := ws_bes (HH.out.ws.keep HB.out) F2.out hr1 rfl H2.out.below
  have hst := HS.out w2 hw2 (hp2.trans HPB.out.symm)
  have c0 := hcell z2 0
  have c1 := hcell z2 1
  have c2 := hcell z2 2
  have p0 := hcell zp2 0
  have r0 := hcell R2.out 0
  have hlo := HLO.out
  have Z2 := Lib.hid z2; have HP2 := Lib.hid hp2
  clear z2 zp2 hp1 hr1 hp2 hw2
  generalize hov : o'.over = ov at *
  generalize hln : o'.line = ln at *
  have HOV := Lib.hid hov; have HLN := Lib.hid hln
  clear hov hln
  cases ov
  all_goals
    go_wp2_with (first
      | (go_at_call 88; refine hst.mono ?_; intro e w3 hh; obtain ⟨hh1, h3, hk3, f3⟩ := hh; subst hh1; have hr3 := f3.cells _ _ _ _ R2.out rfl (fun e => HNE.out e.symm); have hz3 := f3.cells _ _ _ _ Z2.out rfl HNQ.out.2.2.1; have hok3 := HF.out _ hk3 hr3; have hs3 := HSM.out _ hok3; clear c0 c1 c2; have c0 := hcell hz3 0; have c1 := hcell hz3 1; have c2 := hcell hz3 2; have H3 := Lib.hid h3; have K3 := Lib.hid hok3; have F3 := Lib.hid f3; clear h3 hk3 f3 hr3 hz3 hok3 hst p0 r0)
      | (go_at_call 39; refine hs3.mono ?_; intro e w4 hh; obtain ⟨hh1, b4⟩ := hh; subst hh1; have B4 := Lib.hid b4; clear b4 hs3))
    go_ret
    refine ⟨rfl, ⟨H3.out.keep B4.out, (rd_bes H2.out F3.out HP2.out rfl H3.out.below).keep B4.out, HAL.out⟩, K3.out.below B4.out, ?_⟩
    rw [show o'.pb = o.pb from HPB2.out, show o'.rb = o.rb from HRB2.out]
    exact ((below_ptw HB.out _ _).trans F2.out.ptR).trans (F3.out.ptP.trans (below_ptw B4.out _ _))
end
theorem pk_put {w : World} {o : Po} (hk : o.pk w) (hal : o.dead = false → itemA o.b o.u o.s ≠ 0) (hn : o.n ≤ 3) (ho : o.out = false) : Calls Tryz.prog 109 #[.pointer (some ⟨o.pb, 0, none⟩)] w fun e w' => e = .returned (.bool o.over) ∧ Below w.heap.size w w' := by
  have hT : o.T = 210 := by unfold Po.T; rw [ho]; rfl
  rcases hk with ⟨e, σ, rest, h1, hz⟩ | ⟨e, h1⟩
  · rw [hT] at h1
    have := Putover h1 true (σ.ln == 3) (by rw [hz]; rfl) rfl
    unfold Po.over; rw [e]; exact this
  · rw [hT] at h1
    have := Putover h1 false (o.n == 3) (beq_eq_false_iff_ne.2 (itemA_tags (hal e))) (by
      unfold Po.sl; simp only
      rcases (show o.n = 0 ∨ o.n = 1 ∨ o.n = 2 ∨ o.n = 3 by omega) with e | e | e | e <;> rw [e] <;> rfl)
    unfold Po.over; rw [e]; exact this
theorem pk_out {w : World} {o : Po} (hk : o.pk w) (hal : o.dead = false → itemA o.b o.u o.s ≠ 0) (hn : o.n ≤ 3) (ho : o.out = true) : Calls Tryz.prog 108 #[.pointer (some ⟨o.pb, 0, none⟩)] w fun e w' => e = .returned (.bool o.over) ∧ Below w.heap.size w w' := by
  have hT : o.T = 208 := by unfold Po.T; rw [ho]; rfl
  rcases hk with ⟨e, σ, rest, h1, hz⟩ | ⟨e, h1⟩
  · rw [hT] at h1
    have := Outover h1 true (σ.ln == 3) (by rw [hz]; rfl) rfl
    unfold Po.over; rw [e]; exact this
  · rw [hT] at h1
    have := Outover h1 false (o.n == 3) (beq_eq_false_iff_ne.2 (itemA_tags (hal e))) (by
      unfold Po.sl; simp only
      rcases (show o.n = 0 ∨ o.n = 1 ∨ o.n = 2 ∨ o.n = 3 by omega) with e | e | e | e <;> rw [e] <;> rfl)
    unfold Po.over; rw [e]; exact this
theorem Po.pk.below {w w' : World} {o : Po} (h : o.pk w) (hb : Below w.heap.size w w') : o.pk w' := by
  rcases h with ⟨e, σ, rest, g1, g2⟩ | ⟨e, g1⟩
  · exact .inl ⟨e, σ, rest, g1.below hb, g2⟩
  · exact .inr ⟨e, g1.below hb⟩
theorem Po.pk.eq {w w' : World} {o : Po} (h : o.pk w) (hb : w'.heap[o.pb]? = w.heap[o.pb]?) : o.pk w' := by
  rcases h with ⟨e, σ, rest, g1, g2⟩ | ⟨e, g1⟩
  · exact .inl ⟨e, σ, rest, hb.trans g1, g2⟩
  · exact .inr ⟨e, hb.trans g1⟩
theorem pstep_ov {w : World} {o : Po} (hk : o.pk w) (hal : o.dead = false → itemA o.b o.u o.s ≠ 0) (hn : o.n ≤ 3) (ho : o.out = false) (hov : o.over = true) (u : Value) : Calls Tryz.prog 111 #[.pointer (some ⟨o.pb, 0, none⟩), u] w fun e w' => e = .returned (.bool true) ∧ Below w.heap.size w w' := by
  have h1 := pk_put hk hal hn ho
  have h2 := fun w' hb => pk_put (w := w') (hk.below hb) hal hn ho
  rw [hov] at h1
  simp only [hov] at h2
  clear hk hal hn ho hov
  go_enter Tryz.func111, Tryz.ntmps111
  go_upto_region 4 with (go_at_call 109; refine h1.mono ?_; rintro e w1 ⟨rfl, b1⟩; have HB := Lib.hid b1; have ho2 := h2 _ b1; clear b1 h1 h2)
  go_wp2_with (go_at_call 109; refine ho2.mono ?_; rintro e w2 ⟨rfl, b2⟩)
  go_ret
  exact ⟨rfl, HB.out.trans (b2.mono HB.out.size)⟩
theorem ostep_ov {w : World} {o : Po} (hk : o.pk w) (hal : o.dead = false → itemA o.b o.u o.s ≠ 0) (hn : o.n ≤ 3) (ho : o.out = true) (hov : o.over = true) (u : Value) : Calls Tryz.prog 88 #[.pointer (some ⟨o.pb, 0, none⟩), u] w fun e w' => e = .returned (.bool true) ∧ Below w.heap.size w w' := by
  have h1 := pk_out hk hal hn ho
  have h2 := fun w' hb => pk_out (w := w') (hk.below hb) hal hn ho
  rw [hov] at h1
  simp only [hov] at h2
  clear hk hal hn ho hov
  go_enter Tryz.func88, Tryz.ntmps88
  go_upto_region 4 with (go_at_call 108; refine h1.mono ?_; rintro e w1 ⟨rfl, b1⟩; have HB := Lib.hid b1; have ho2 := h2 _ b1; clear b1 h1 h2)
  go_wp2_with (go_at_call 108; refine ho2.mono ?_; rintro e w2 ⟨rfl, b2⟩)
  go_ret
  exact ⟨rfl, HB.out.trans (b2.mono HB.out.size)⟩
/-- A step of whatever operation. -/
theorem postep_any {w0 w : World} {B R : WB} {V : WV} {s : CS} {x : RS} {m : Nat} {o : Po} (h : Pr w0 w B R V s x) (hf : Far s x m) (hm : m ≤ 90000) (hok : o.ok w w0.heap.size) :
    Calls Tryz.prog 40 #[.agg o.vals.toArray, .agg #[.pointer (some ⟨B.wb, 0, none⟩), .pointer (some ⟨R.wb, 0, none⟩)]] w fun e w' => ∃ (s' : CS) (x' : RS) (o' : Po), o'.pb = o.pb ∧ o'.rb = o.rb ∧ o'.vals = o.vals ∧ Far s' x' (m + 1) ∧ PStepPost w0 w B R V s' x' o' e w' := by
  obtain ⟨rm1, rm2⟩ := far_rooms hf h.al hm
  have hle : Far s x (m + 1) := ⟨Nat.le_succ_of_le hf.1, Nat.le_succ_of_le hf.2.1, Nat.le_succ_of_le hf.2.2⟩
  by_cases hov : o.over = true
  · have hl : o.line = 0 := by have := Po.line_over hok; rw [hov] at this; exact beq_iff_eq.1 this
    have hO := hok.r
    have hR : ∀ W, Below w.heap.size w W → Calls Tryz.prog 110 #[.pointer (some ⟨o.rb, 0, none⟩), .pointer (some ⟨R.wb, 0, none⟩)] W fun e w' => e = .returned (.tuple #[]) ∧ RD w0 w' R V x ∧ ROp w' o.rb o.line o.gone o.out o.b o.u o.s o.g o.r o.y ∧ Fx rTy false o.rb W w' := fun W hW => by
      have hO1 : ROp W o.rb o.line o.gone o.out o.b o.u o.s o.g o.r o.y := (hW.block _ (Array.getElem?_eq_some_iff.1 hO).1).trans hO
      have hO2 := hO1
      rw [hl] at hO2
      exact (rop_over hok.ls _ hO2).mono fun e w' ⟨h1, h2⟩ => ⟨h1, (h.rd.keep hW).keep h2, (h2.block _ (Array.getElem?_eq_some_iff.1 hO1).1).trans hO1, (below_fr h2 rTy false).fx _⟩
    cases ho : o.out
    · refine (postep_put (n' := o.n) (y' := o.y) ho h hok hok.nn hok.yb h.al hR fun W hW he => ?_).mono fun e w' hp => ⟨s, x, o, rfl, rfl, rfl, hle, hp⟩
      exact (pstep_ov ((show o.pk w from hok.p).eq he) (fun e => (hok.al e).1) hok.nn ho hov _).mono fun e w' ⟨h1, h2⟩ => ⟨by rw [h1]; exact congrArg (fun b => Ending.returned (.bool b)) hov.symm, hW.keep h2, ((show o.pk w from hok.p).eq he).below h2, (below_fr h2 wTy true).fx _⟩
    · refine (postep_out (n' := o.n) (y' := o.y) ho h hok hok.nn hok.yb h.al hR fun W hW he => ?_).mono fun e w' hp => ⟨s, x, o, rfl, rfl, rfl, hle, hp⟩
      exact (ostep_ov ((show o.pk w from hok.p).eq he) (fun e => (hok.al e).1) hok.nn ho hov _).mono fun e w' ⟨h1, h2⟩ => ⟨by rw [h1]; exact congrArg (fun b => Ending.returned (.bool b)) hov.symm, hW.keep h2, ((show o.pk w from hok.p).eq he).below h2, (below_fr h2 wTy true).fx _⟩
  · have hdead : o.dead = false := by cases hd : o.dead; rfl; exfalso; apply hov; unfold Po.over; rw [hd]; rfl
    have hn3 : o.n ≠ 3 := fun e => hov (by unfold Po.over; rw [e]; simp)
    have hn := hok.nn
    have hal := hok.al hdead
    have htg := itemA_tags hal.1
    have hls := hok.ls
    have hyb := hok.yb
    have hlp := hok.lop
    have hlr := hok.lor
    have hO := hok.r
    have hP : SlotAt w o.pb o.T o.sl o.rest := by
      rcases hok.p with ⟨e, -⟩ | ⟨-, h1⟩
      · rw [hdead] at e; cases e
      · exact h1
    obtain ⟨out, pb, rb, b, u, sp, g, r, n, y, dead⟩ := o
    simp only at hdead hn3 hn hal htg hls hyb hlp hlr hO
    subst hdead
    have hva := congrFun h.al.val (tagsA b u)
    have hvb := wf_bd (h.ws.own.wf (tagsA b u))
    clear hov
    cases out
    · rcases (show n = 0 ∨ n = 1 ∨ n = 2 by omega) with rfl | rfl | rfl
      · refine (postep_put (n' := 1) (y' := y) (s' := s.acc 2 (itemA b u sp) r) (x' := x.acc 2 (itemA b u sp) r) rfl h hok (by decide) hyb (h.al.acc _ _ _) (fun W hW => ?_) fun W hW he => ?_).mono fun e w' hp => ⟨_, _, ⟨false, pb, rb, b, u, sp, g, r, 1, y, false⟩, rfl, rfl, rfl, hf.acc h.al _ _ _, hp⟩
        · exact rput0 (h.rd.keep hW) rm2 hls hlr hyb hal.2 ((hW.block _ (Array.getElem?_eq_some_iff.1 hO).1).trans hO)
        · exact (put_step0 hW rm1 hlp (he.trans hP) htg (tagsA_wf b u) rfl (itemA_wf b u sp) hal.2).mono fun e w' ⟨h1, h2, h3, h4⟩ => ⟨h1, h2, .inr ⟨rfl, h3⟩, h4⟩
      · refine (postep_put (n' := 2) (y' := s.val (tagsA b u)) (s' := s.acc 1 (tagsA b u) (s.val (tagsA b u))) (x' := x.acc 1 (tagsA b u) (s.val (tagsA b u))) rfl h hok (by decide) hvb (h.al.acc _ _ _) (fun W hW => ?_) fun W hW he => ?_).mono fun e w' hp => ⟨_, _, ⟨false, pb, rb, b, u, sp, g, r, 2, s.val (tagsA b u), false⟩, rfl, rfl, rfl, hf.acc h.al _ _ _, hp⟩
        · have := rput1 (h.rd.keep hW) rm2 hls hlr hyb hal.2 ((hW.block _ (Array.getElem?_eq_some_iff.1 hO).1).trans hO)
          rw [← hva] at this
          exact this
        · exact (put_step1 hW rm1 hlp (he.trans hP) htg (tagsA_wf b u) rfl).mono fun e w' ⟨h1, h2, h3, h4⟩ => ⟨h1, h2, .inr ⟨rfl, h3⟩, h4⟩
      · refine (postep_put (n' := 3) (y' := y) (s' := s.acc 2 (tagsA b u) (TagPure.withOf y sp g)) (x' := x.acc 2 (tagsA b u) (TagPure.withOf y sp g)) rfl h hok (by decide) hyb (h.al.acc _ _ _) (fun W hW => ?_) fun W hW he => ?_).mono fun e w' hp => ⟨_, _, ⟨false, pb, rb, b, u, sp, g, r, 3, y, false⟩, rfl, rfl, rfl, hf.acc h.al _ _ _, hp⟩
        · have hO3 : ROp w rb 3 false false b u sp g r y := hO
          have := rput2 (h.rd.keep hW) rm2 hls hlr hyb hal.2 (show ROp W rb 3 false false b u sp g r y from (hW.block _ (Array.getElem?_eq_some_iff.1 hO3).1).trans hO3)
          exact this.mono fun e w' ⟨h1, h2, h3, h4⟩ => ⟨h1, h2, by simpa [Po.line, Po.gone] using h3, h4⟩
        · exact (put_step2 hW rm1 hlp (he.trans hP) htg (tagsA_wf b u) rfl hyb).mono fun e w' ⟨h1, h2, h3, h4⟩ => ⟨h1, h2, .inr ⟨rfl, h3⟩, h4⟩
    · rcases (show n = 0 ∨ n = 1 ∨ n = 2 by omega) with rfl | rfl | rfl
      · refine (postep_out (n' := 1) (y' := s.val (tagsA b u)) (s' := s.acc 1 (tagsA b u) (s.val (tagsA b u))) (x' := x.acc 1 (tagsA b u) (s.val (tagsA b u))) rfl h hok (by decide) hvb (h.al.acc _ _ _) (fun W hW => ?_) fun W hW he => ?_).mono fun e w' hp => ⟨_, _, ⟨true, pb, rb, b, u, sp, g, r, 1, s.val (tagsA b u), false⟩, rfl, rfl, rfl, hf.acc h.al _ _ _, hp⟩
        · have := rout0 (h.rd.keep hW) rm2 hls hlr hyb hal.2 ((hW.block _ (Array.getElem?_eq_some_iff.1 hO).1).trans hO)
          rw [← hva] at this
          exact this
        · exact (out_step0 hW rm1 hlp (he.trans hP) htg (tagsA_wf b u) rfl).mono fun e w' ⟨h1, h2, h3, h4⟩ => ⟨h1, h2, .inr ⟨rfl, h3⟩, h4⟩
      · refine (postep_out (n' := 2) (y' := y) (s' := s.acc 2 (tagsA b u) (TagPure.withOf y sp 0)) (x' := x.acc 2 (tagsA b u) (TagPure.withOf y sp 0)) rfl h hok (by decide) hyb (h.al.acc _ _ _) (fun W hW => ?_) fun W hW he => ?_).mono fun e w' hp => ⟨_, _, ⟨true, pb, rb, b, u, sp, g, r, 2, y, false⟩, rfl, rfl, rfl, hf.acc h.al _ _ _, hp⟩
        · exact rout1 (h.rd.keep hW) rm2 hls hlr hyb hal.2 ((hW.block _ (Array.getElem?_eq_some_iff.1 hO).1).trans hO)
        · exact (out_step1 hW rm1 hlp (he.trans hP) htg (tagsA_wf b u) rfl hyb).mono fun e w' ⟨h1, h2, h3, h4⟩ => ⟨h1, h2, .inr ⟨rfl, h3⟩, h4⟩
      · refine (postep_out (n' := 3) (y' := y) (s' := s.acc 2 (itemA b u sp) 0) (x' := x.acc 2 (itemA b u sp) 0) rfl h hok (by decide) hyb (h.al.acc _ _ _) (fun W hW => ?_) fun W hW he => ?_).mono fun e w' hp => ⟨_, _, ⟨true, pb, rb, b, u, sp, g, r, 3, y, false⟩, rfl, rfl, rfl, hf.acc h.al _ _ _, hp⟩
        · have hO3 : ROp w rb 3 true true b u sp g r y := hO
          have := rout2 (h.rd.keep hW) rm2 hls hlr hyb hal.2 (show ROp W rb 3 true true b u sp g r y from (hW.block _ (Array.getElem?_eq_some_iff.1 hO3).1).trans hO3)
          exact this.mono fun e w' ⟨h1, h2, h3, h4⟩ => ⟨h1, h2, by simpa [Po.line, Po.gone] using h3, h4⟩
        · exact (out_step2 hW rm1 hlp (he.trans hP) htg (tagsA_wf b u) rfl (itemA_wf b u sp)).mono fun e w' ⟨h1, h2, h3, h4⟩ => ⟨h1, h2, .inr ⟨rfl, h3⟩, h4⟩
end Go.Proofs.YtjfocckdbaaimaaGreat

/-
  PutsPlay: an operation begins, on both sides.
-/
namespace Go.Proofs.YtjfocckdbaaimaaGreat
open Go.RowKit Go.Maps
set_option linter.unusedVariables false

/-- Is it a Put that may be? -/
def aliveP (b u s g r : Int) : Bool := itemA b u s != 0 && decide (0 < g) && decide (g < 256) && decide (0 < r)
def aliveO (b u s : Int) : Bool := itemA b u s != 0
theorem newput_out2 (b u s g r : Int) (h : g < 1 ∨ 255 < g ∨ r < 1) (w : World) : Calls Tryz.prog 24 #[.agg #[.int .i64 b, .int .i64 u, .int .i64 s], .int .i64 g, .int .i64 r] w
    fun e w' => ∃ q, e = .returned (.pointer (some ⟨q, 0, none⟩)) ∧ (∃ σ rest, SlotAt w' q 210 σ rest ∧ σ.tg = 0) ∧ w.heap.size ≤ q ∧ Below w.heap.size w w' := by
  have hb := below_alloc w (.cells #[.int .i64 b, .int .i64 u, .int .i64 s] 43)
  have e : (w.alloc (.cells #[.int .i64 b, .int .i64 u, .int .i64 s] 43)).heap.size = w.heap.size + 1 := by simp
  have fin : (∃ σ rest, SlotAt ((w.alloc (.cells #[.int .i64 b, .int .i64 u, .int .i64 s] 43)).alloc (.cells #[.int .u64 0, .int .u64 0, .int .i64 0, .int .u64 0, .int .i64 0, .int .i64 0, .int .i64 0] 210)) (w.heap.size + 1) 210 σ rest ∧ σ.tg = 0) ∧ Below w.heap.size w ((w.alloc (.cells #[.int .i64 b, .int .i64 u, .int .i64 s] 43)).alloc (.cells #[.int .u64 0, .int .u64 0, .int .i64 0, .int .u64 0, .int .i64 0, .int .i64 0, .int .i64 0] 210)) :=
    ⟨⟨⟨0, 0, 0, 0, 0⟩, [.int .i64 0, .int .i64 0], heap_alloc_at _ _ e.symm, rfl⟩, hb.trans ((below_alloc _ _).mono hb.size)⟩
  have F := Lib.hid fin
  clear fin e hb
  by_cases h1 : g < 1
  · have d1 : decide (g < 1) = true := decide_eq_true h1
    clear h h1
    go_enter Tryz.func24, Tryz.ntmps24
    go_wp2
    go_ret
    exact ⟨w.heap.size + 1, rfl, F.out.1, by omega, F.out.2⟩
  have d1 : decide (g < 1) = false := decide_eq_false h1
  by_cases h2 : 255 < g
  · have d2 : decide (255 < g) = true := decide_eq_true h2
    clear h h1 h2
    go_enter Tryz.func24, Tryz.ntmps24
    go_wp2
    go_ret
    exact ⟨w.heap.size + 1, rfl, F.out.1, by omega, F.out.2⟩
  have d2 : decide (255 < g) = false := decide_eq_false h2
  have d3 : decide (r < 1) = true := decide_eq_true ((h.resolve_left h1).resolve_left h2)
  clear h h1 h2
  go_enter Tryz.func24, Tryz.ntmps24
  go_wp2
  go_ret
  exact ⟨w.heap.size + 1, rfl, F.out.1, by omega, F.out.2⟩
theorem bput (b u s g r : Int) (hs : (Lit.int .i64 s).wf = true) (w : World) : Calls Tryz.prog 24 #[.agg #[.int .i64 b, .int .i64 u, .int .i64 s], .int .i64 g, .int .i64 r] w
    fun e w' => ∃ pb, e = .returned (.pointer (some ⟨pb, 0, none⟩)) ∧ (⟨false, pb, 0, b, u, s, g, r, 0, 0, !aliveP b u s g r⟩ : Po).pk w' ∧ w.heap.size ≤ pb ∧ Below w.heap.size w w' := by
  by_cases hg : g < 1 ∨ 255 < g ∨ r < 1
  · have ha : aliveP b u s g r = false := by
      unfold aliveP
      rcases hg with h | h | h
      · rw [show decide (0 < g) = false from decide_eq_false (by omega)]; simp
      · rw [show decide (g < 256) = false from decide_eq_false (by omega)]; simp
      · rw [show decide (0 < r) = false from decide_eq_false (by omega)]; simp
    rw [ha]
    exact (newput_out2 b u s g r hg w).mono fun e w' ⟨q, h1, h2, h3, h4⟩ => ⟨q, h1, .inl ⟨rfl, h2⟩, h3, h4⟩
  · refine (newput_in b u s g r hs (by omega) (by omega) w).mono fun e w' ⟨q, h1, h2, h3, h4⟩ => ⟨q, h1, ?_, h3, h4⟩
    by_cases hi : itemA b u s = 0
    · have ha : aliveP b u s g r = false := by unfold aliveP; rw [show (itemA b u s != 0) = false by rw [hi]; rfl]; rfl
      rw [ha]
      exact .inl ⟨rfl, _, _, h2, sof_out hi⟩
    · have ha : aliveP b u s g r = true := by
        unfold aliveP
        rw [show (itemA b u s != 0) = true from bne_iff_ne.2 hi, show decide (0 < g) = true from decide_eq_true (by omega), show decide (g < 256) = true from decide_eq_true (by omega), show decide (0 < r) = true from decide_eq_true (by omega)]
        rfl
      rw [ha]
      unfold sof at h2
      rw [if_neg hi] at h2
      exact .inr ⟨rfl, h2⟩
theorem bout (b u s : Int) (hs : (Lit.int .i64 s).wf = true) (w : World) : Calls Tryz.prog 23 #[.agg #[.int .i64 b, .int .i64 u, .int .i64 s]] w
    fun e w' => ∃ pb, e = .returned (.pointer (some ⟨pb, 0, none⟩)) ∧ (⟨true, pb, 0, b, u, s, 0, 0, 0, 0, !aliveO b u s⟩ : Po).pk w' ∧ w.heap.size ≤ pb ∧ Below w.heap.size w w' := by
  refine (newout_any b u s hs w).mono fun e w' ⟨q, h1, h2, h3, h4⟩ => ⟨q, h1, ?_, h3, h4⟩
  by_cases hi : itemA b u s = 0
  · have ha : aliveO b u s = false := by unfold aliveO; rw [hi]; rfl
    rw [ha]
    exact .inl ⟨rfl, _, _, h2, sof_out hi⟩
  · have ha : aliveO b u s = true := bne_iff_ne.2 hi
    rw [ha]
    unfold sof at h2
    rw [if_neg hi] at h2
    exact .inr ⟨rfl, h2⟩
theorem rbout (b u s : Int) (hs : (Lit.int .i64 s).wf = true) (w : World) : Calls Tryz.prog 38 #[.agg #[.int .i64 b, .int .i64 u, .int .i64 s]] w
    fun e w' => ∃ rb, e = .returned (.pointer (some ⟨rb, 0, none⟩)) ∧ ROp w' rb (if aliveO b u s then 1 else 0) false true b u s 0 0 0 ∧ w.heap.size ≤ rb ∧ Below w.heap.size w w' := by
  have hi := fun W => ritem_any b u s hs W
  have hb1 := below_alloc w (.cells #[.int .i64 b, .int .i64 u, .int .i64 s] 43)
  have hb := hb1.trans ((below_alloc (w.alloc (.cells #[.int .i64 b, .int .i64 u, .int .i64 s] 43)) (.cells (opC 0 false true b u s 0 0 0) 226)).mono hb1.size)
  have zs : ((w.alloc (.cells #[.int .i64 b, .int .i64 u, .int .i64 s] 43)).alloc (.cells (opC 0 false true b u s 0 0 0) 226)).heap[w.heap.size]? = some (.cells #[.int .i64 b, .int .i64 u, .int .i64 s] 43 (0, 0)) := heap_alloc_old (heap_alloc_new w _)
  have zo : ROp ((w.alloc (.cells #[.int .i64 b, .int .i64 u, .int .i64 s] 43)).alloc (.cells (opC 0 false true b u s 0 0 0) 226)) (w.heap.size + 1) 0 false true b u s 0 0 0 := heap_alloc_at _ _ (by simp)
  have HB := Lib.hid hb; have ZS := Lib.hid zs; have ZO := Lib.hid zo
  clear hb1 hb zs zo
  have d0 : (itemA b u s != 0) = aliveO b u s := rfl
  generalize itemA b u s = ia at *
  generalize aliveO b u s = al at *
  cases al
  all_goals
   go_enter Tryz.func38, Tryz.ntmps38
   go_upto_region 2 with (fail)
   change Code.wp _ _ _ _ ((w.alloc (.cells #[.int .i64 b, .int .i64 u, .int .i64 s] 43)).alloc (.cells (opC 0 false true b u s 0 0 0) 226))
   generalize (w.alloc (.cells #[.int .i64 b, .int .i64 u, .int .i64 s] 43)).alloc (.cells (opC 0 false true b u s 0 0 0) 226) = w1 at *
   have c0 := hcell ZS.out 0
   have c1 := hcell ZS.out 1
   have c2 := hcell ZS.out 2
   have hlt : w.heap.size ≤ w.heap.size + 1 := Nat.le_succ _
   generalize w.heap.size + 1 = rb at *
   go_wp2_with (go_at_call 107; refine (hi _).mono ?_; intro e w2 hh; obtain ⟨hh1, b2⟩ := hh; subst hh1; have z2 := (b2.block _ (Array.getElem?_eq_some_iff.1 ZO.out).1).trans ZO.out; have q0 := hcell z2 0; have qf := hfrz z2 0; have Z2 := Lib.hid z2; have B2 := Lib.hid b2; clear b2 hi z2 c0 c1 c2)
   go_ret
   have hB2 := HB.out.trans (B2.out.mono HB.out.size)
   first
     | exact ⟨rb, rfl, Z2.out, hlt, hB2⟩
     | exact ⟨rb, rfl, setCell_same Z2.out 0 _, hlt, set_below hB2 hB2.size hlt 0 _⟩
set_option maxHeartbeats 4000000 in
theorem rbput (b u s g r : Int) (hs : (Lit.int .i64 s).wf = true) (w : World) : Calls Tryz.prog 37 #[.agg #[.int .i64 b, .int .i64 u, .int .i64 s], .int .i64 g, .int .i64 r] w
    fun e w' => ∃ rb, e = .returned (.pointer (some ⟨rb, 0, none⟩)) ∧ ROp w' rb (if aliveP b u s g r then 1 else 0) false false b u s g r 0 ∧ w.heap.size ≤ rb ∧ Below w.heap.size w w' := by
  have hi := fun W => ritem_any b u s hs W
  have hb1 := below_alloc w (.cells #[.int .i64 b, .int .i64 u, .int .i64 s] 43)
  have hb := hb1.trans ((below_alloc (w.alloc (.cells #[.int .i64 b, .int .i64 u, .int .i64 s] 43)) (.cells (opC 0 false false b u s g r 0) 226)).mono hb1.size)
  have zs : ((w.alloc (.cells #[.int .i64 b, .int .i64 u, .int .i64 s] 43)).alloc (.cells (opC 0 false false b u s g r 0) 226)).heap[w.heap.size]? = some (.cells #[.int .i64 b, .int .i64 u, .int .i64 s] 43 (0, 0)) := heap_alloc_old (heap_alloc_new w _)
  have zo : ROp ((w.alloc (.cells #[.int .i64 b, .int .i64 u, .int .i64 s] 43)).alloc (.cells (opC 0 false false b u s g r 0) 226)) (w.heap.size + 1) 0 false false b u s g r 0 := heap_alloc_at _ _ (by simp)
  have HB := Lib.hid hb; have ZS := Lib.hid zs; have ZO := Lib.hid zo
  clear hb1 hb zs zo
  have hal : aliveP b u s g r = (itemA b u s != 0 && decide (0 < g) && decide (g < 256) && decide (0 < r)) := rfl
  rw [hal]
  clear hal
  generalize itemA b u s = ia at *
  generalize e0 : (ia != 0) = d0 at *
  generalize e1 : decide (0 < g) = d1 at *
  generalize e2 : decide (g < 256) = d2 at *
  generalize e3 : decide (0 < r) = d3 at *
  cases d0 <;> cases d1 <;> cases d2 <;> cases d3
  all_goals
   go_enter Tryz.func37, Tryz.ntmps37
   go_upto_region 2 with (fail)
   change Code.wp _ _ _ _ ((w.alloc (.cells #[.int .i64 b, .int .i64 u, .int .i64 s] 43)).alloc (.cells (opC 0 false false b u s g r 0) 226))
   generalize (w.alloc (.cells #[.int .i64 b, .int .i64 u, .int .i64 s] 43)).alloc (.cells (opC 0 false false b u s g r 0) 226) = w1 at *
   have c0 := hcell ZS.out 0
   have c1 := hcell ZS.out 1
   have c2 := hcell ZS.out 2
   have hlt : w.heap.size ≤ w.heap.size + 1 := Nat.le_succ _
   generalize w.heap.size + 1 = rb at *
   go_wp2_with (go_at_call 107; refine (hi _).mono ?_; intro e w2 hh; obtain ⟨hh1, b2⟩ := hh; subst hh1; have z2 := (b2.block _ (Array.getElem?_eq_some_iff.1 ZO.out).1).trans ZO.out; have q0 := hcell z2 0; have qf := hfrz z2 0; have Z2 := Lib.hid z2; have B2 := Lib.hid b2; clear b2 hi z2 c0 c1 c2)
   go_ret
   have hB2 := HB.out.trans (B2.out.mono HB.out.size)
   first
     | exact ⟨rb, rfl, Z2.out, hlt, hB2⟩
     | exact ⟨rb, rfl, setCell_same Z2.out 0 _, hlt, set_below hB2 hB2.size hlt 0 _⟩
/-- A Put of both sides that begins. -/
theorem po_put {w : World} {base pb rb : Nat} {b u s g r : Int} (hp : (⟨false, pb, 0, b, u, s, g, r, 0, 0, !aliveP b u s g r⟩ : Po).pk w) (hr : ROp w rb (if aliveP b u s g r then 1 else 0) false false b u s g r 0) (hs : (Lit.int .i64 s).wf = true) (hrr : (Lit.int .i64 r).wf = true) (h1 : base ≤ pb) (h2 : base ≤ rb) :
    Po.ok w base ⟨false, pb, rb, b, u, s, g, r, 0, 0, !aliveP b u s g r⟩ := by
  have hmx : IntKind.i64.max = 9223372036854775807 := rfl
  refine ⟨hp, ?_, fun hd => ?_, hs, (show (0 : Nat) ≤ 3 by decide), (show (0 : Int) ≤ 0 ∧ (0 : Int) < 18446744073709551616 by decide), h1, h2⟩
  · cases ha : aliveP b u s g r
    · rw [ha] at hr; simpa [Po.line, Po.gone] using hr
    · rw [ha] at hr; simpa [Po.line, Po.gone] using hr
  · have ha : aliveP b u s g r = true := by simpa using hd
    unfold aliveP at ha
    simp only [Bool.and_eq_true, decide_eq_true_eq, bne_iff_ne] at ha
    simp only [Lit.wf, Bool.and_eq_true, decide_eq_true_eq] at hrr
    show itemA b u s ≠ 0 ∧ 0 ≤ r ∧ r < 9223372036854775808
    exact ⟨ha.1.1.1, by omega, by omega⟩
theorem po_out {w : World} {base pb rb : Nat} {b u s : Int} (hp : (⟨true, pb, 0, b, u, s, 0, 0, 0, 0, !aliveO b u s⟩ : Po).pk w) (hr : ROp w rb (if aliveO b u s then 1 else 0) false true b u s 0 0 0) (hs : (Lit.int .i64 s).wf = true) (h1 : base ≤ pb) (h2 : base ≤ rb) :
    Po.ok w base ⟨true, pb, rb, b, u, s, 0, 0, 0, 0, !aliveO b u s⟩ := by
  refine ⟨hp, ?_, fun hd => ?_, hs, (show (0 : Nat) ≤ 3 by decide), (show (0 : Int) ≤ 0 ∧ (0 : Int) < 18446744073709551616 by decide), h1, h2⟩
  · cases ha : aliveO b u s
    · rw [ha] at hr; simpa [Po.line, Po.gone] using hr
    · rw [ha] at hr; simpa [Po.line, Po.gone] using hr
  · have ha : aliveO b u s = true := by simpa using hd
    exact ⟨bne_iff_ne.1 ha, (show (0 : Int) ≤ 0 by decide), (show (0 : Int) < 9223372036854775808 by decide)⟩
end Go.Proofs.YtjfocckdbaaimaaGreat

/-
  PutsPlay: what stands between two acts.
-/
namespace Go.Proofs.YtjfocckdbaaimaaGreat
open Go.RowKit Go.Maps
set_option linter.unusedVariables false

theorem own_ptw {x y : Nat} {w w' : World} {base e size n : Nat} {v : Value} {xs : List Value} (h : w.ownsRow base e size v n xs) (hf : PTw x y w w') (he : wrTy e = false) {cx cy : Array Value} {Tx Ty : TypeId} {fx fy : Nat × Nat} (hx : w.heap[x]? = some (.cells cx Tx fx)) (hy : w.heap[y]? = some (.cells cy Ty fy)) (h1 : e ≠ Tx) (h2 : e ≠ Ty) : w'.ownsRow base e size v n xs := by
  obtain ⟨h3, h4 | ⟨g, cap, cur, hv, hb1, hg, r⟩⟩ := h
  · exact ⟨h3, .inl h4⟩
  · exact ⟨h3, .inr ⟨g, cap, cur, hv, hb1, hf.cells _ _ _ _ hg he (fun e => by subst e; exact h1 (cell_ty' hg hx)) (fun e => by subst e; exact h2 (cell_ty' hg hy)), r⟩⟩
theorem Po.T_wr (o : Po) : wrTy o.T = false := by rcases o.T_or with e | e <;> rw [e] <;> rfl
theorem Po.ok.ptw {x y : Nat} {w w' : World} {base : Nat} {o : Po} (h : o.ok w base) (hf : PTw x y w w') (h1 : o.pb ≠ x) (h2 : o.pb ≠ y) (h3 : o.rb ≠ x) (h4 : o.rb ≠ y) : o.ok w' base := by
  refine ⟨?_, hf.cells _ _ _ _ h.r rfl h3 h4, h.al, h.ls, h.nn, h.yb, h.lop, h.lor⟩
  rcases h.p with ⟨e, σ, rest, g1, g2⟩ | ⟨e, g1⟩
  · exact .inl ⟨e, σ, rest, hf.cells _ _ _ _ g1 o.T_wr h1 h2, g2⟩
  · exact .inr ⟨e, hf.cells _ _ _ _ g1 o.T_wr h1 h2⟩
theorem po_ne {w : World} {base base' : Nat} {o o' : Po} (h : o.ok w base) (h' : o'.ok w base') : o.pb ≠ o'.rb := fun e => by
  obtain ⟨cs, h1⟩ := h.blkp
  have h2 := h'.r
  rw [e] at h1
  have := cell_ty' h1 h2
  rcases o.T_or with e | e <;> rw [e] at this <;> exact absurd this (by decide)

structure PPS (w0 w : World) (B R : WB) (q : Nat) (V : WV) (s : CS) (x : RS) (m : Nat) (L : List Po) (v : Value) : Prop where
  pr : Pr w0 w B R V s x
  far : Far s x m
  nts : V.nts = [] ∧ V.its.length ≤ 40
  pq : w.heap[q]? = some (.cells #[.pointer (some ⟨B.wb, 0, none⟩), .pointer (some ⟨R.wb, 0, none⟩)] 34 (0, 0))
  row : w.ownsRow w0.heap.size 110 3 v L.length (L.flatMap Po.vals)
  ops : ∀ o ∈ L, o.ok w w0.heap.size
  dist : ∀ i j (hi : i < L.length) (hj : j < L.length), i ≠ j → (L[i]).pb ≠ (L[j]).pb ∧ (L[i]).rb ≠ (L[j]).rb
section
variable {w0 w w' : World} {B R : WB} {q : Nat} {V : WV} {s s' : CS} {x x' : RS} {m m' : Nat} {L : List Po} {v : Value}
theorem PPS.below (h : PPS w0 w B R q V s x m L v) (hb : Below w.heap.size w w') : PPS w0 w' B R q V s x m L v :=
  ⟨h.pr.keep hb, h.far, h.nts, (hb.block _ (Array.getElem?_eq_some_iff.1 h.pq).1).trans h.pq, own_fr h.row (below_fr hb (fun _ => false) false) rfl, fun o ho => (h.ops o ho).below hb, h.dist⟩
theorem PPS.le (h : PPS w0 w B R q V s x m L v) (hm : m ≤ m') : PPS w0 w B R q V s x m' L v :=
  ⟨h.pr, ⟨Nat.le_trans h.far.1 hm, Nat.le_trans h.far.2.1 hm, Nat.le_trans h.far.2.2 hm⟩, h.nts, h.pq, h.row, h.ops, h.dist⟩
theorem PPS.world (h : PPS w0 w B R q V s x m L v) (hp : Pr w0 w' B R V s' x') (hk : Far s' x' m') (hf : Fr wrTy true w w') : PPS w0 w' B R q V s' x' m' L v :=
  ⟨hp, hk, h.nts, hf.cells _ _ _ _ h.pq rfl, own_fr h.row hf rfl, fun o ho => (h.ops o ho).fr hf rfl rfl rfl, h.dist⟩
theorem pflat_set (L : List Po) (j : Nat) (hj : j < L.length) (o : Po) (e1 : o.vals = (L[j]).vals) : (L.set j o).flatMap Po.vals = L.flatMap Po.vals := by
  induction L generalizing j with
  | nil => rfl
  | cons a L ih =>
    cases j with
    | zero => simp only [List.set_cons_zero, List.flatMap_cons]; simp only [List.getElem_cons_zero] at e1; rw [e1]
    | succ j => simp only [List.set_cons_succ, List.flatMap_cons]; rw [ih j (by simpa using hj) (by simpa using e1)]
theorem PPS.step (h : PPS w0 w B R q V s x m L v) (j : Nat) (hj : j < L.length) (o : Po) (e1 : o.pb = (L[j]).pb) (e2 : o.rb = (L[j]).rb) (e3 : o.vals = (L[j]).vals) (hk : Far s' x' m') {e : Ending} (hs : PStepPost w0 w B R V s' x' o e w') : PPS w0 w' B R q V s' x' m' (L.set j o) v := by
  obtain ⟨-, hp, ho, hf⟩ := hs
  rw [e1, e2] at hf
  have hoj := h.ops _ (List.getElem_mem hj)
  obtain ⟨cp, hcp⟩ := hoj.blkp
  have hcr := hoj.r
  have hT : 110 ≠ (L[j]).T := by rcases (L[j]).T_or with e | e <;> rw [e] <;> decide
  have hT2 : 34 ≠ (L[j]).T := by rcases (L[j]).T_or with e | e <;> rw [e] <;> decide
  have hget : ∀ i (hi : i < (L.set j o).length), ((L.set j o)[i]).pb = (L[i]'(by simpa using hi)).pb ∧ ((L.set j o)[i]).rb = (L[i]'(by simpa using hi)).rb := fun i hi => by
    rw [List.getElem_set]
    split
    · rename_i e; subst e; exact ⟨e1, e2⟩
    · exact ⟨rfl, rfl⟩
  refine ⟨hp, hk, h.nts, hf.cells _ _ _ _ h.pq rfl (fun e => by have hq := h.pq; rw [e] at hq; exact hT2 (cell_ty' hq hcp)) (fun e => by have hq := h.pq; rw [e] at hq; exact absurd (cell_ty' hq hcr) (by decide)), ?_, fun o' ho' => ?_, fun a b ha hb hab => ?_⟩
  · rw [List.length_set, pflat_set L j hj o e3]
    exact own_ptw h.row hf rfl hcp hcr hT (by decide)
  · obtain ⟨i, hi, rfl⟩ := List.mem_iff_getElem.1 ho'
    rw [List.getElem_set]
    split
    · exact ho
    · rename_i hne
      have hi' : i < L.length := by simpa using hi
      have d := h.dist i j hi' hj (fun e => hne e.symm)
      have hoi := h.ops _ (List.getElem_mem hi')
      exact hoi.ptw hf d.1 (po_ne hoi hoj) (po_ne hoj hoi).symm d.2
  · rw [(hget a ha).1, (hget a ha).2, (hget b hb).1, (hget b hb).2]
    exact h.dist a b (by simpa using ha) (by simpa using hb) hab
theorem PPS.push {wF : World} {o : Po} {v' : Value} (h : PPS w0 w B R q V s x m L v) (hb : Below w.heap.size w wF) (ho : o.ok wF w.heap.size) (hr : w'.ownsRow w0.heap.size 110 3 v' (L.length + 1) (L.flatMap Po.vals ++ o.vals)) (hf : Fr (fun T => T == 110) false wF w') (hB : Below w0.heap.size w0 w') : PPS w0 w' B R q V s x m (L ++ [o]) v' := by
  have hF := h.below hb
  have hopw : ∀ T, wrTy T = true → (T == 110) = false := fun T hT => by
    cases hc : (T == 110)
    · rfl
    · rw [beq_iff_eq] at hc; subst hc; cases hT
  have hlo : w0.heap.size ≤ w.heap.size := h.pr.ws.below.size
  refine ⟨⟨hF.pr.ws.fr hf (fun T hT => hopw T (by unfold wrTy; rw [hT]; rfl)) hB, hF.pr.rd.fr hf (fun T hT => hopw T (by unfold wrTy; rw [hT]; simp)) hB, h.pr.al⟩, h.far, h.nts, hf.cells _ _ _ _ hF.pq rfl, ?_, fun o' ho' => ?_, fun a b ha hb hab => ?_⟩
  · rw [List.length_append, List.flatMap_append]; simpa using hr
  · rcases List.mem_append.1 ho' with h1 | h1
    · exact (hF.ops _ h1).fr hf rfl rfl rfl
    · simp only [List.mem_singleton] at h1; subst h1; exact (ho.base hlo).fr hf rfl rfl rfl
  · have old : ∀ i (hi : i < L.length), (L[i]).pb < w.heap.size ∧ (L[i]).rb < w.heap.size := fun i hi => ⟨(h.ops _ (List.getElem_mem hi)).ltp, (h.ops _ (List.getElem_mem hi)).ltr⟩
    simp only [List.length_append, List.length_singleton] at ha hb
    by_cases a1 : a < L.length <;> by_cases b1 : b < L.length
    · rw [List.getElem_append_left a1, List.getElem_append_left b1]; exact h.dist a b a1 b1 hab
    · obtain rfl : b = L.length := by omega
      rw [List.getElem_append_left a1, List.getElem_append_right (Nat.le_refl _)]
      have := old a a1; have h1 := ho.lop; have h2 := ho.lor
      simp only [Nat.sub_self, List.getElem_cons_zero]; omega
    · obtain rfl : a = L.length := by omega
      rw [List.getElem_append_left b1, List.getElem_append_right (Nat.le_refl _)]
      have := old b b1; have h1 := ho.lop; have h2 := ho.lor
      simp only [Nat.sub_self, List.getElem_cons_zero]; omega
    · omega
end
theorem po_vals3 (o : Po) : ∃ c0 c1 c2 : Option Addr, o.vals = [.pointer c0, .pointer c1, .pointer c2] := by
  unfold Po.vals; split <;> exact ⟨_, _, _, rfl⟩
theorem pvals_at (L : List Po) (k : Nat) (hk : k < L.length) (j : Nat) (hj : j < 3) : (L.flatMap Po.vals)[k * 3 + j]? = ((L[k]).vals)[j]? := by
  have hlen : ∀ o : Po, o.vals.length = 3 := fun o => by obtain ⟨_, _, _, e⟩ := po_vals3 o; rw [e]; rfl
  induction L generalizing k with
  | nil => simp at hk
  | cons a L ih =>
    rw [List.flatMap_cons]
    cases k with
    | zero => rw [List.getElem?_append_left (by rw [hlen]; omega)]; simp
    | succ k =>
      rw [List.getElem?_append_right (by rw [hlen]; omega)]
      have := ih k (by simpa using hk)
      simp only [List.getElem_cons_succ]
      rw [← this]; congr 1; rw [hlen]; omega
theorem PPS.at {w0 w : World} {B R : WB} {q : Nat} {V : WV} {s : CS} {x : RS} {m : Nat} {L : List Po} {v : Value} (h : PPS w0 w B R q V s x m L v) (k : Nat) (hk : k < L.length) : ∃ g cap c0 c1 c2, v = .slice (some ⟨g, 0, none⟩) L.length cap ∧ (L[k]).vals = [.pointer c0, .pointer c1, .pointer c2] ∧ w.cell? ⟨g, k * 3, none⟩ = some (.pointer c0) ∧ w.cell? ⟨g, k * 3 + 1, none⟩ = some (.pointer c1) ∧ w.cell? ⟨g, k * 3 + 2, none⟩ = some (.pointer c2) := by
  obtain ⟨c0, c1, c2, e⟩ := po_vals3 (L[k])
  obtain ⟨h1, ⟨h2, h0⟩ | ⟨g, cap', cur, hv, hb, hg, hn, hm, hs, ht⟩⟩ := h.row
  · omega
  · have key : ∀ j, j < 3 → w.cell? ⟨g, k * 3 + j, none⟩ = ((L[k]).vals)[j]? := fun j hj => by
      rw [hcell hg, ← pvals_at L k hk j hj, ← ht, List.getElem?_take, if_pos (by omega)]; simp
    refine ⟨g, cap', c0, c1, c2, hv, e, ?_, ?_, ?_⟩
    · have := key 0 (by omega); rw [e] at this; exact this
    · have := key 1 (by omega); rw [e] at this; exact this
    · have := key 2 (by omega); rw [e] at this; exact this
end Go.Proofs.YtjfocckdbaaimaaGreat

/-
  A list of a put's acts that came in.
-/
namespace Go.Proofs.YtjfocckdbaaimaaGreat
open Go.RowKit Go.Maps
set_option linter.unusedVariables false

structure PAc where
  k : Int
  a : Int
  b : Int
  u : Int
  s : Int
  t : Int
  r : Int
  v : Int
  i : Int
def PAc.cells (x : PAc) : List Value := [.int .u8 x.k, .int .u8 x.a, .int .i64 x.b, .int .i64 x.u, .int .i64 x.s, .int .i64 x.t, .int .i64 x.r, .int .u64 x.v, .int .u64 x.i]
structure PAc.wf (x : PAc) : Prop where
  k : (Lit.int .u8 x.k).wf = true
  a : (Lit.int .u8 x.a).wf = true
  b : (Lit.int .i64 x.b).wf = true
  u : (Lit.int .i64 x.u).wf = true
  s : (Lit.int .i64 x.s).wf = true
  t : (Lit.int .i64 x.t).wf = true
  r : (Lit.int .i64 x.r).wf = true
  v : (Lit.int .u64 x.v).wf = true
  i : (Lit.int .u64 x.i).wf = true
def pacLeaves : List Leaf := [.int .u8, .int .u8, .int .i64, .int .i64, .int .i64, .int .i64, .int .i64, .int .u64, .int .u64]
theorem pac_of {w : World} {cs : List Value} (h : Leaf.allHold w pacLeaves cs) : ∃ x : PAc, cs = x.cells ∧ x.wf := by
  obtain ⟨c0, r, rfl, g0, h⟩ := allHold_cons h
  obtain ⟨c1, r, rfl, g1, h⟩ := allHold_cons h
  obtain ⟨c2, r, rfl, g2, h⟩ := allHold_cons h
  obtain ⟨c3, r, rfl, g3, h⟩ := allHold_cons h
  obtain ⟨c4, r, rfl, g4, h⟩ := allHold_cons h
  obtain ⟨c5, r, rfl, g5, h⟩ := allHold_cons h
  obtain ⟨c6, r, rfl, g6, h⟩ := allHold_cons h
  obtain ⟨c7, r, rfl, g7, h⟩ := allHold_cons h
  obtain ⟨c8, r, rfl, g8, h⟩ := allHold_cons h
  obtain rfl := allHold_nil h
  obtain ⟨n0, rfl, w0⟩ := holds_int g0
  obtain ⟨n1, rfl, w1⟩ := holds_int g1
  obtain ⟨n2, rfl, w2⟩ := holds_int g2
  obtain ⟨n3, rfl, w3⟩ := holds_int g3
  obtain ⟨n4, rfl, w4⟩ := holds_int g4
  obtain ⟨n5, rfl, w5⟩ := holds_int g5
  obtain ⟨n6, rfl, w6⟩ := holds_int g6
  obtain ⟨n7, rfl, w7⟩ := holds_int g7
  obtain ⟨n8, rfl, w8⟩ := holds_int g8
  exact ⟨⟨n0, n1, n2, n3, n4, n5, n6, n7, n8⟩, rfl, w0, w1, w2, w3, w4, w5, w6, w7, w8⟩
/-- Accesses that may be read. -/
structure PActs (w : World) (a : Option Addr) (cap : Nat) (l : List PAc) : Prop where
  le : l.length ≤ cap
  most : cap ≤ maxLen
  nil : a = none → cap = 0
  wf : ∀ x ∈ l, x.wf
  cell : l = [] ∨ ∃ b off, a = some ⟨b, off, none⟩ ∧ ∀ i, (hi : i < l.length) → ∀ j, j < 9 → w.cell? ⟨b, off + (i * 9 + j), none⟩ = (l[i]).cells[j]?
theorem pacts_of {w : World} {a : Option Addr} {n cap : Nat} (h : Leaf.holds w (.sl pacLeaves) (.slice a n cap)) : ∃ l, l.length = n ∧ PActs w a cap l := by
  obtain ⟨l, a', cap', hv, h1, h2, h3, h4, h5⟩ := recs_of h
  simp only [Value.slice.injEq] at hv
  obtain ⟨rfl, rfl, rfl⟩ := hv
  obtain ⟨m, hm, hp⟩ := list_of (fun i (x : PAc) => l[i]? = some x.cells ∧ x.wf) l.length (fun i hi => by
    obtain ⟨x, hx, hw⟩ := pac_of (h4 _ (List.getElem_mem hi))
    exact ⟨x, by rw [List.getElem?_eq_getElem hi, hx], hw⟩)
  refine ⟨m, hm, by omega, h2, h3, fun x hx => ?_, ?_⟩
  · obtain ⟨i, hi, rfl⟩ := List.mem_iff_getElem.1 hx
    exact (hp i hi).2
  · rcases h5 with rfl | ⟨b, off, rfl, h5⟩
    · left; simpa using hm
    · refine .inr ⟨b, off, rfl, fun i hi j hj => ?_⟩
      have h6 := h5 i (by omega) j hj
      have h7 := (hp i hi).1
      rw [List.getElem?_eq_getElem (by omega)] at h7
      simp only [Option.some.injEq] at h7
      rw [h7] at h6
      exact h6
theorem PActs.at {w : World} {a : Option Addr} {cap : Nat} {l : List PAc} (h : PActs w a cap l) (i : Nat) (hi : i < l.length) :
    ∃ b off x, a = some ⟨b, off, none⟩ ∧ l[i]? = some x ∧ x.wf ∧ w.cell? ⟨b, off + i * 9, none⟩ = some (.int .u8 x.k) ∧ w.cell? ⟨b, off + i * 9 + 1, none⟩ = some (.int .u8 x.a) ∧ w.cell? ⟨b, off + i * 9 + 2, none⟩ = some (.int .i64 x.b) ∧ w.cell? ⟨b, off + i * 9 + 3, none⟩ = some (.int .i64 x.u) ∧ w.cell? ⟨b, off + i * 9 + 4, none⟩ = some (.int .i64 x.s) ∧ w.cell? ⟨b, off + i * 9 + 5, none⟩ = some (.int .i64 x.t) ∧ w.cell? ⟨b, off + i * 9 + 6, none⟩ = some (.int .i64 x.r) ∧ w.cell? ⟨b, off + i * 9 + 7, none⟩ = some (.int .u64 x.v) ∧ w.cell? ⟨b, off + i * 9 + 8, none⟩ = some (.int .u64 x.i) := by
  rcases h.cell with rfl | ⟨b, off, rfl, h5⟩
  · simp at hi
  · have h6 := h5 i hi
    refine ⟨b, off, l[i], rfl, List.getElem?_eq_getElem hi, h.wf _ (List.getElem_mem hi), h6 0 (by omega), ?_, ?_, ?_, ?_, ?_, ?_, ?_, ?_⟩
    · rw [Nat.add_assoc]; exact h6 1 (by omega)
    · rw [Nat.add_assoc]; exact h6 2 (by omega)
    · rw [Nat.add_assoc]; exact h6 3 (by omega)
    · rw [Nat.add_assoc]; exact h6 4 (by omega)
    · rw [Nat.add_assoc]; exact h6 5 (by omega)
    · rw [Nat.add_assoc]; exact h6 6 (by omega)
    · rw [Nat.add_assoc]; exact h6 7 (by omega)
    · rw [Nat.add_assoc]; exact h6 8 (by omega)

theorem PActs.below {w w' : World} {a : Option Addr} {cap : Nat} {l : List PAc} (h : PActs w a cap l) (hb : Below w.heap.size w w') : PActs w' a cap l := by
  refine ⟨h.le, h.most, h.nil, h.wf, h.cell.imp id fun ⟨b, off, e, h5⟩ => ⟨b, off, e, fun i hi j hj => ?_⟩⟩
  have h6 := h5 i hi j hj
  obtain ⟨v, hv⟩ : ∃ v, (l[i]).cells[j]? = some v := by
    match j, hj with
    | 0, _ | 1, _ | 2, _ | 3, _ | 4, _ | 5, _ | 6, _ | 7, _ | 8, _ => exact ⟨_, rfl⟩
  rw [hv] at h6 ⊢
  exact (hb.cell (World.block_lt_of_cell? _ _ h6)).trans h6
end Go.Proofs.YtjfocckdbaaimaaGreat

/-
  PutsPlay: the walk. (written by genputplay.py)
-/
namespace Go.Proofs.YtjfocckdbaaimaaGreat
open Go.RowKit Go.Maps
set_option linter.unusedVariables false

theorem below_drw {w w' : World} (h : Below w.drew.heap.size w.drew w') : Below w.heap.size w w' := ⟨h.os, h.tape, h.output, h.size, fun k hk => h.block k hk⟩
theorem drw_le {w : World} {n : Nat} (h : w.drew.heap.size ≤ n) : w.heap.size ≤ n := h
theorem cell_al {w : World} {q : Nat} {cs : Array Value} {T : TypeId} (h : w.heap[q]? = some (.cells cs T (0, 0))) (j : Nat) (o : Obj) : (w.alloc o).cell? ⟨q, j, none⟩ = cs[j]? := by
  rw [World.cell?_alloc_past _ _ _ (Array.getElem?_eq_some_iff.1 h).1]; exact hcell h j
theorem id' (w : World) {w' : World} (h : Below w.heap.size w w') : Below w.heap.size w w' := h
theorem below_al {w w' : World} {o : Obj} (h : Below (w.alloc o).heap.size (w.alloc o) w') : Below w.heap.size w w' := (below_alloc w o).trans (h.mono (below_alloc w o).size)
abbrev PFive (ab : Nat) (y : PAc) (W : World) : Prop := W.cell? ⟨ab, 2, none⟩ = some (.int .i64 y.b) ∧ W.cell? ⟨ab, 3, none⟩ = some (.int .i64 y.u) ∧ W.cell? ⟨ab, 4, none⟩ = some (.int .i64 y.s) ∧ W.cell? ⟨ab, 5, none⟩ = some (.int .i64 y.t) ∧ W.cell? ⟨ab, 6, none⟩ = some (.int .i64 y.r)
theorem pfive_al {ab : Nat} {y : PAc} {W : World} {o : Obj} (h : PFive ab y W) : PFive ab y (W.alloc o) := by
  have k : ∀ {j : Nat} {v : Value}, W.cell? ⟨ab, j, none⟩ = some v → (W.alloc o).cell? ⟨ab, j, none⟩ = some v := fun h => by rw [World.cell?_alloc_past _ _ _ (World.block_lt_of_cell? _ _ h)]; exact h
  exact ⟨k h.1, k h.2.1, k h.2.2.1, k h.2.2.2.1, k h.2.2.2.2⟩
theorem pfive_below {ab : Nat} {y : PAc} {W W' : World} (h : PFive ab y W) (hb : Below W.heap.size W W') : PFive ab y W' := by
  have k : ∀ {j : Nat} {v : Value}, W.cell? ⟨ab, j, none⟩ = some v → W'.cell? ⟨ab, j, none⟩ = some v := fun h => (hb.cell (World.block_lt_of_cell? _ _ h)).trans h
  exact ⟨k h.1, k h.2.1, k h.2.2.1, k h.2.2.2.1, k h.2.2.2.2⟩
theorem pfive_set {ab obk o : Nat} {y : PAc} {W : World} {v : Value} (h : PFive ab y W) (hne : ab ≠ obk) : PFive ab y (W.setCell ⟨obk, o, none⟩ v) := by
  have k : ∀ {j : Nat} {u : Value}, W.cell? ⟨ab, j, none⟩ = some u → (W.setCell ⟨obk, o, none⟩ v).cell? ⟨ab, j, none⟩ = some u := fun h => (World.cell?_setCell_other _ _ _ _ (by first | (simp; done) | (simp; omega))).trans h
  exact ⟨k h.1, k h.2.1, k h.2.2.1, k h.2.2.2.1, k h.2.2.2.2⟩
theorem po_store {w w1 : World} {obk : Nat} {o : Po} {a b c v0 v1 v2 : Value} (hz : w1.heap[obk]? = some (.cells #[a, b, c] 110 (0, 0))) (ho : o.ok w1 w.heap.size) (hb : Below w.heap.size w w1) (hl : w.heap.size ≤ obk) (hv : o.vals = [v0, v1, v2]) :
    (((w1.setCell ⟨obk, 0, none⟩ v0).setCell ⟨obk, 1, none⟩ v1).setCell ⟨obk, 2, none⟩ v2).heap[obk]? = some (.cells o.vals.toArray 110 (0, 0)) ∧ o.ok (((w1.setCell ⟨obk, 0, none⟩ v0).setCell ⟨obk, 1, none⟩ v1).setCell ⟨obk, 2, none⟩ v2) w.heap.size ∧ w.heap.size ≤ obk ∧ Below w.heap.size w (((w1.setCell ⟨obk, 0, none⟩ v0).setCell ⟨obk, 1, none⟩ v1).setCell ⟨obk, 2, none⟩ v2) := by
  have s1 := setCell_same hz 0 v0
  have s2 := setCell_same s1 1 v1
  have s3 := setCell_same s2 2 v2
  have f : Fr (fun T => T == 110) false w1 (((w1.setCell ⟨obk, 0, none⟩ v0).setCell ⟨obk, 1, none⟩ v1).setCell ⟨obk, 2, none⟩ v2) := ((set_ty hz 0 v0).trans (set_ty s1 1 v1)).trans (set_ty s2 2 v2)
  have b1 := set_below hb hb.size hl 0 v0
  have b2 := set_below b1 b1.size hl 1 v1
  refine ⟨?_, ho.fr f rfl rfl rfl, hl, set_below b2 b2.size hl 2 v2⟩
  rw [hv]; exact s3
theorem info_pop : (Tryz.prog.info? 110).map (fun i => (i.zero, i.size, i.bytes)) = some (some (.agg #[.pointer none, .pointer none, .pointer none]), 3, 24) := by kernel_rfl
set_option maxRecDepth 100000 in
set_option maxHeartbeats 8000000 in
theorem pplay_any (f : Fst) (l : List PAc) (al : Option Addr) (capl : Nat) (w : World) (hr : FstRd w f) (hl : PActs w al capl l) :
    Calls Tryz.prog 7 #[.agg #[.int .i64 f.c.bits, .int .i64 f.c.budget, .int .i64 f.c.tries, .int .i64 f.c.quantum, .int .i64 f.c.way, .bool f.gr, .slice f.ia f.its.length f.ic, .slice f.pa f.puts.length f.pc, .slice f.sa f.sts.length f.sc, .int .i64 f.ticks], .slice al l.length capl] w
    fun e w' => e = .returned (.bool true) ∧ Below w.heap.size w w' := by
  have hml : l.length ≤ maxLen := Nat.le_trans hl.le hl.most
  unfold maxLen at hml
  obtain ⟨i0, hi0, hi1, hi2, hi3⟩ := info_parts info_pop
  have I0 := Lib.hid hi0; have I1 := Lib.hid hi1; have I2 := Lib.hid hi2; have I3 := Lib.hid hi3
  clear hi0 hi1 hi2 hi3
  have hB := below_alloc w (.cells f.cells 28)
  have z := heap_alloc_new w (.cells f.cells 28)
  have HR := Lib.hid (hr.below hB); have HB := Lib.hid hB; have HZ := Lib.hid z; have HLL := Lib.hid hl
  clear hr hB z hl
  go_enter Tryz.func7, Tryz.ntmps7
  go_upto_region 1 with (fail)
  change Code.wp _ _ _ _ (w.alloc (.cells f.cells 28))
  generalize w.alloc (.cells f.cells 28) = w1 at *
  have z := HZ.out
  obtain ⟨e0, e1, e2, e3, e4, e5, e6, e7, e8, e9⟩ := fst_cells z
  clear z
  by_cases h3 : 200 < l.length
  · have d3 : decide ((200 : Int) < l.length) = true := decide_eq_true (by omega)
    clear h3
    go_upto_if 17 with (go_at_call 11; refine (great_any f w1 HR.out).mono ?_; rintro e w2 ⟨g, rfl, b2, hg⟩; have B2 := Lib.hid b2; clear b2 hg e0 e1 e2 e3 e4 e5 e6 e7 e8 e9; cases g)
    all_goals
      go_wp2_with (go_at_call 17; refine (lives13 _).mono ?_; rintro e w3 ⟨rfl, b3⟩)
      go_ret
      have h1 := HB.out.trans (B2.out.mono HB.out.size)
      exact ⟨rfl, h1.trans (b3.mono h1.size)⟩
  have d3 : decide ((200 : Int) < l.length) = false := decide_eq_false (by omega)
  have HL3 : Hid (l.length ≤ 200) := by show l.length ≤ 200; omega
  clear h3
  go_upto_if 17 with (go_at_call 11; refine (great_any f w1 HR.out).mono ?_; rintro e w2 ⟨g, rfl, b2, hg⟩; have B2 := Lib.hid b2; have HG := Lib.hid hg; clear b2 hg e0 e1 e2 e3 e4 e5 e6 e7 e8 e9; cases g)
  rotate_left
  · go_wp2_with (go_at_call 17; refine (lives13 _).mono ?_; rintro e w3 ⟨rfl, b3⟩)
    go_ret
    have h1 := HB.out.trans (B2.out.mono HB.out.size)
    exact ⟨rfl, h1.trans (b3.mono h1.size)⟩
  obtain ⟨hin, hsz⟩ := HG.out trivial
  have HIN := Lib.hid (hin.below B2.out)
  have hitl : f.its.length ≤ 40 := hin.ni
  have HBB : Hid (Below w.heap.size w w2) := HB.out.trans (B2.out.mono HB.out.size)
  have z := (B2.out.block _ (Array.getElem?_eq_some_iff.1 HZ.out).1).trans HZ.out
  obtain ⟨e0, e1, e2, e3, e4, e5, e6, e7, e8, e9⟩ := fst_cells z
  clear z hin hsz
  go_upto_region 4 with (go_at_call 13; refine (begin_any f w2 HIN.out).mono ?_; rintro e w3 ⟨B, R, V, s, x, rfl, hpr, hV, hfar, -, -⟩; have HPR := Lib.hid hpr; have HFAR := Lib.hid hfar; have HV : Hid (V.nts = [] ∧ V.its.length ≤ 40) := ⟨by rw [hV]; rfl, by rw [hV]; exact hitl⟩; clear hpr hV hfar e0 e1 e2 e3 e4 e5 e6 e7 e8 e9)
  have hq0 := heap_alloc_new w3 (.cells #[.pointer (some ⟨B.wb, 0, none⟩), .pointer (some ⟨R.wb, 0, none⟩)] 34)
  have hB4 := below_alloc w3 (.cells #[.pointer (some ⟨B.wb, 0, none⟩), .pointer (some ⟨R.wb, 0, none⟩)] 34)
  have HPR4 := Lib.hid (HPR.out.keep hB4)
  change Code.wp _ _ _ _ (w3.alloc (.cells #[.pointer (some ⟨B.wb, 0, none⟩), .pointer (some ⟨R.wb, 0, none⟩)] 34))
  generalize w3.alloc (.cells #[.pointer (some ⟨B.wb, 0, none⟩), .pointer (some ⟨R.wb, 0, none⟩)] 34) = w4 at *
  generalize w3.heap.size = q at *
  have HQ4 := Lib.hid hq0
  clear HPR hq0 hB4
  have HMP : Hid (PPS w2 w4 B R q V s x 300 [] (.slice none 0 0)) := ⟨HPR4.out, HFAR.out, HV.out, HQ4.out, World.ownsRow_nil _ _ _ _, fun o ho => (by cases ho), fun i j hi => (by cases hi)⟩
  clear HPR4 HQ4 HFAR HV d3 hitl HIN B2 HG HZ HR HB
  have HLL2 := Lib.hid (HLL.out.below HBB.out)
  clear HLL
  generalize (Value.agg #[.int .i64 f.c.bits, .int .i64 f.c.budget, .int .i64 f.c.tries, .int .i64 f.c.quantum, .int .i64 f.c.way, .bool f.gr, .slice f.ia f.its.length f.ic, .slice f.pa f.puts.length f.pc, .slice f.sa f.sts.length f.sc, .int .i64 f.ticks]) = va at *
  go_wp2_with fail
  go_loopw [6, 7] (fun v i wr => ∃ (k : Nat) (s : CS) (x : RS) (L : List Po), k ≤ l.length ∧ i = .int .i64 k ∧ PPS w2 wr B R q V s x (300 + k) L v ∧ L.length ≤ k) (fun _ i _ => l.length - (intOf i).toNat)
  case atStart => exact ⟨0, s, x, [], by omega, rfl, HMP.out, by simp⟩
  case round =>
    clear HMP s x
    obtain ⟨i, s, x, L, hi, rfl, hT, hLi⟩ := hrel
    have hl300 := HL3.out
    by_cases hlt : i < l.length
    · have hlt' : (i : Int) < l.length := by omega
      obtain ⟨b, off, y, rfl, hy, hyw, y0, y1, y2, y3, y4, y5, y6, y7, y8⟩ := (HLL2.out.below (w := w2) (w' := wr) hT.pr.ws.below).at i hlt
      have hkb := wf_u8 hyw.k
      obtain ⟨kk, hkk⟩ : ∃ kk : Nat, (kk : Int) = y.k % 10 := ⟨(y.k % 10).toNat, by omega⟩
      have e3 : y.k.tmod 10 = kk := by rw [Int.tmod_eq_emod_of_nonneg hkb.1, hkk]
      have hk10 : kk < 10 := by omega
      have hb1 := below_alloc wr (.cells #[.int .u8 y.k, .int .u8 y.a, .int .i64 y.b, .int .i64 y.u, .int .i64 y.s, .int .i64 y.t, .int .i64 y.r, .int .u64 y.v, .int .u64 y.i] 106)
      have hz1 := heap_alloc_new wr (.cells #[.int .u8 y.k, .int .u8 y.a, .int .i64 y.b, .int .i64 y.u, .int .i64 y.s, .int .i64 y.t, .int .i64 y.r, .int .u64 y.v, .int .u64 y.i] 106)
      have HT := Lib.hid (hT.below hb1); have HZ1 := Lib.hid hz1; have HYW := Lib.hid hyw
      clear hb1 hz1 hT hy hyw hkb hkk
      go_upto_region 9 with (fail)
      change Code.wp _ _ _ _ (wr.alloc (.cells #[.int .u8 y.k, .int .u8 y.a, .int .i64 y.b, .int .i64 y.u, .int .i64 y.s, .int .i64 y.t, .int .i64 y.r, .int .u64 y.v, .int .u64 y.i] 106))
      generalize wr.alloc (.cells #[.int .u8 y.k, .int .u8 y.a, .int .i64 y.b, .int .i64 y.u, .int .i64 y.s, .int .i64 y.t, .int .i64 y.r, .int .u64 y.v, .int .u64 y.i] 106) = w6 at *
      generalize wr.heap.size = ab at *
      clear y0 y1 y2 y3 y4 y5 y6 y7 y8
      have y0 : w6.cell? ⟨ab, 0, none⟩ = some (.int .u8 y.k) := hcell HZ1.out 0
      go_upto_if 35 with (fail)
      clear y0 e3
      obtain ⟨vo, vcap, rfl⟩ := own_sl2 HT.out.row
      go_cut [6] (fun v wx => ∃ (s : CS) (x : RS) (L : List Po), PPS w2 wx B R q V s x (300 + (i + 1)) L v ∧ L.length ≤ i + 1)
      case first =>
        rcases (show kk = 3 ∨ kk < 3 ∨ 4 ≤ kk by omega) with rfl | h5 | h5
        · -- others store
          have y3 : w6.cell? ⟨ab, 7, none⟩ = some (.int .u64 y.v) := hcell HZ1.out 7
          have y4 : w6.cell? ⟨ab, 8, none⟩ = some (.int .u64 y.i) := hcell HZ1.out 8
          have p0 := hcell HT.out.pq 0
          have p1 := hcell HT.out.pq 1
          have hst := pstore_any HT.out.pr (300 + i) HT.out.far (by omega) y.v y.i HYW.out.v HYW.out.i
          go_wp2_with (go_at_call 34; refine hst.mono ?_; intro e w7 hh; obtain ⟨hh1, h7, f7⟩ := hh; subst hh1; have HT7 := Lib.hid (HT.out.world (m' := 300 + (i + 1)) h7 (HT.out.far.acc HT.out.pr.al _ _ _) f7); clear h7 f7 hst p0 p1 y3 y4)
          go_meet
          case rel => exact ⟨_, _, L, HT7.out, by omega⟩
        · -- an operation begins
          have d0 : ((kk : Int) == 3) = false := beq_eq_false_iff_ne.2 (by omega)
          have d1 : decide ((kk : Int) < 3) = true := decide_eq_true (by omega)
          go_upto_region 13 with (fail)
          clear d0 d1
          have H5 := Lib.hid h5
          clear h5
          have y2 : w6.drew.cell? ⟨ab, 2, none⟩ = some (.int .i64 y.b) := hcell (w := w6.drew) HZ1.out 2
          have y3 : w6.drew.cell? ⟨ab, 3, none⟩ = some (.int .i64 y.u) := hcell (w := w6.drew) HZ1.out 3
          have y4 : w6.drew.cell? ⟨ab, 4, none⟩ = some (.int .i64 y.s) := hcell (w := w6.drew) HZ1.out 4
          have y5 : w6.drew.cell? ⟨ab, 5, none⟩ = some (.int .i64 y.t) := hcell (w := w6.drew) HZ1.out 5
          have y6 : w6.drew.cell? ⟨ab, 6, none⟩ = some (.int .i64 y.r) := hcell (w := w6.drew) HZ1.out 6
          have hab : ab < w6.heap.size := (Array.getElem?_eq_some_iff.1 HZ1.out).1
          go_cut [10] (fun v wx => ∃ (obk : Nat) (o : Po), v = .pointer (some ⟨obk, 0, none⟩) ∧ wx.heap[obk]? = some (.cells o.vals.toArray 110 (0, 0)) ∧ o.ok wx w6.heap.size ∧ w6.heap.size ≤ obk ∧ Below w6.heap.size w6 wx)
          case first =>
            go_region_held2 (fun W => PFive ab y W) (first | exact ⟨y2, y3, y4, y5, y6⟩ | assumption | exact pfive_al (by assumption) | exact pfive_set (pfive_set (pfive_set (by assumption) (by simp; omega)) (by simp; omega)) (by simp; omega) | exact pfive_set (pfive_set (pfive_set (by assumption) (by omega)) (by omega)) (by omega)) (first
              | (go_at_call 24; refine (bput y.b y.u y.s y.t y.r HYW.out.s _).mono ?_; intro e wP hh; obtain ⟨pb, hh1, ht, hpl, hb0⟩ := hh; subst hh1; have hsP := pfive_below (by assumption) hb0; (first | (have hB := below_drw (w := w6) hb0; have hP := drw_le (w := w6) hpl; have TP := Lib.hid ht; have HBP := Lib.hid hB; have HPP := Lib.hid hP; have hzP := hB.size; clear hB hP) | (have hB := below_al (w := w6) (o := .cells #[.pointer none, .pointer none, .pointer none] 110) (below_drw hb0); have hP := Nat.le_trans (below_alloc w6 (.cells #[.pointer none, .pointer none, .pointer none] 110)).size hpl; have zo := (hb0.block _ (Array.getElem?_eq_some_iff.1 (heap_alloc_new w6 (.cells #[.pointer none, .pointer none, .pointer none] 110))).1).trans (heap_alloc_new w6 (.cells #[.pointer none, .pointer none, .pointer none] 110)); have o0 := hcell zo 0; have o1 := hcell zo 1; have o2 := hcell zo 2; have of0 := hfrz zo 0; have of1 := hfrz zo 1; have of2 := hfrz zo 2; have HZO := Lib.hid zo; clear zo; have TP := Lib.hid ht; have HBP := Lib.hid hB; have HPP := Lib.hid hP; have hzP := hB.size; clear hB hP) | (have hb1 := id' wR hb0; have hpl1 := hpl; (first | (have zo := (hb0.block _ (Array.getElem?_eq_some_iff.1 HZO.out).1).trans HZO.out; clear o0 o1 o2 of0 of1 of2 HZO; have o0 := hcell zo 0; have o1 := hcell zo 1; have o2 := hcell zo 2; have of0 := hfrz zo 0; have of1 := hfrz zo 1; have of2 := hfrz zo 2; have HZO := Lib.hid zo; clear zo) | skip); have q1 := po_put ht ((hb1.block _ (Array.getElem?_eq_some_iff.1 TR.out).1).trans TR.out) HYW.out.s HYW.out.r (Nat.le_trans HBR.out.size hpl1) HPR.out; have q2 := HBR.out.trans (hb1.mono HBR.out.size); have HF := Lib.hid (And.intro q1 q2); have hzP := q2.size; clear q1 q2 hb1 hpl1) | (have hb1 := below_al (w := wR) hb0; have hpl1 := Nat.le_trans (below_alloc wR (.cells #[.pointer none, .pointer none, .pointer none] 110)).size hpl; have zo := (hb0.block _ (Array.getElem?_eq_some_iff.1 (heap_alloc_new wR (.cells #[.pointer none, .pointer none, .pointer none] 110))).1).trans (heap_alloc_new wR (.cells #[.pointer none, .pointer none, .pointer none] 110)); have o0 := hcell zo 0; have o1 := hcell zo 1; have o2 := hcell zo 2; have of0 := hfrz zo 0; have of1 := hfrz zo 1; have of2 := hfrz zo 2; have HZO := Lib.hid zo; clear zo; have q1 := po_put ht ((hb1.block _ (Array.getElem?_eq_some_iff.1 TR.out).1).trans TR.out) HYW.out.s HYW.out.r (Nat.le_trans HBR.out.size hpl1) HPR.out; have q2 := HBR.out.trans (hb1.mono HBR.out.size); have HF := Lib.hid (And.intro q1 q2); have hzP := q2.size; clear q1 q2 hb1 hpl1)); clear ht hpl hb0)
              | (go_at_call 37; refine (rbput y.b y.u y.s y.t y.r HYW.out.s _).mono ?_; intro e wR hh; obtain ⟨rb, hh1, ht, hpl, hb0⟩ := hh; subst hh1; have hsR := pfive_below (by assumption) hb0; (first | (have hB := below_drw (w := w6) hb0; have hP := drw_le (w := w6) hpl; have TR := Lib.hid ht; have HBR := Lib.hid hB; have HPR := Lib.hid hP; have hzR := hB.size; clear hB hP) | (have hB := below_al (w := w6) (o := .cells #[.pointer none, .pointer none, .pointer none] 110) (below_drw hb0); have hP := Nat.le_trans (below_alloc w6 (.cells #[.pointer none, .pointer none, .pointer none] 110)).size hpl; have zo := (hb0.block _ (Array.getElem?_eq_some_iff.1 (heap_alloc_new w6 (.cells #[.pointer none, .pointer none, .pointer none] 110))).1).trans (heap_alloc_new w6 (.cells #[.pointer none, .pointer none, .pointer none] 110)); have o0 := hcell zo 0; have o1 := hcell zo 1; have o2 := hcell zo 2; have of0 := hfrz zo 0; have of1 := hfrz zo 1; have of2 := hfrz zo 2; have HZO := Lib.hid zo; clear zo; have TR := Lib.hid ht; have HBR := Lib.hid hB; have HPR := Lib.hid hP; have hzR := hB.size; clear hB hP) | (have hb1 := id' wP hb0; have hpl1 := hpl; (first | (have zo := (hb0.block _ (Array.getElem?_eq_some_iff.1 HZO.out).1).trans HZO.out; clear o0 o1 o2 of0 of1 of2 HZO; have o0 := hcell zo 0; have o1 := hcell zo 1; have o2 := hcell zo 2; have of0 := hfrz zo 0; have of1 := hfrz zo 1; have of2 := hfrz zo 2; have HZO := Lib.hid zo; clear zo) | skip); have q1 := po_put (TP.out.below hb1) ht HYW.out.s HYW.out.r HPP.out (Nat.le_trans HBP.out.size hpl1); have q2 := HBP.out.trans (hb1.mono HBP.out.size); have HF := Lib.hid (And.intro q1 q2); have hzR := q2.size; clear q1 q2 hb1 hpl1) | (have hb1 := below_al (w := wP) hb0; have hpl1 := Nat.le_trans (below_alloc wP (.cells #[.pointer none, .pointer none, .pointer none] 110)).size hpl; have zo := (hb0.block _ (Array.getElem?_eq_some_iff.1 (heap_alloc_new wP (.cells #[.pointer none, .pointer none, .pointer none] 110))).1).trans (heap_alloc_new wP (.cells #[.pointer none, .pointer none, .pointer none] 110)); have o0 := hcell zo 0; have o1 := hcell zo 1; have o2 := hcell zo 2; have of0 := hfrz zo 0; have of1 := hfrz zo 1; have of2 := hfrz zo 2; have HZO := Lib.hid zo; clear zo; have q1 := po_put (TP.out.below hb1) ht HYW.out.s HYW.out.r HPP.out (Nat.le_trans HBP.out.size hpl1); have q2 := HBP.out.trans (hb1.mono HBP.out.size); have HF := Lib.hid (And.intro q1 q2); have hzR := q2.size; clear q1 q2 hb1 hpl1)); clear ht hpl hb0))
            all_goals (try go_wp2_with fail)
            all_goals go_meet
            all_goals first
              | exact ⟨_, ⟨false, pb, rb, y.b, y.u, y.s, y.t, y.r, 0, 0, !aliveP y.b y.u y.s y.t y.r⟩, rfl, po_store HZO.out HF.out.1 HF.out.2 (by first | exact Nat.le_refl _ | exact HBP.out.size | exact HBR.out.size) rfl⟩
              | exact ⟨_, ⟨false, pb, rb, y.b, y.u, y.s, y.t, y.r, 0, 0, !aliveP y.b y.u y.s y.t y.r⟩, rfl, po_store (heap_alloc_new _ (.cells #[.pointer none, .pointer none, .pointer none] 110)) (HF.out.1.below (below_alloc _ _)) (HF.out.2.trans ((below_alloc _ _).mono HF.out.2.size)) HF.out.2.size rfl⟩
              | exact ⟨_, ⟨false, pb, rb, y.b, y.u, y.s, y.t, y.r, 0, 0, !aliveP y.b y.u y.s y.t y.r⟩, rfl, heap_alloc_new _ _, HF.out.1.below (below_alloc _ _), HF.out.2.size, HF.out.2.trans ((below_alloc _ _).mono HF.out.2.size)⟩
          case rest =>
          obtain ⟨obk, o, hcv, hob, hok, hlo, hbx⟩ := hcut
          subst hcv
          generalize wc = w7 at *
          have HOB := Lib.hid hob; have HOK := Lib.hid hok; have HLO := Lib.hid hlo; have HBX := Lib.hid hbx
          clear hob hok hlo hbx y2 y3 y4 y5 y6 hab
          go_upto_if 58 with (fail)
          go_cut [] (fun wx => ∃ o : Po, wx.heap[obk]? = some (.cells o.vals.toArray 110 (0, 0)) ∧ o.ok wx w6.heap.size ∧ Below w6.heap.size w6 wx)
          case first =>
            by_cases h2 : kk = 2
            · have d2 : ((kk : Int) == 2) = true := beq_iff_eq.2 (by omega)
              go_upto_region 15 with (fail)
              clear d2 h2
              obtain ⟨c0, c1, c2, hv⟩ := po_vals3 o
              have hob := HOB.out
              rw [hv] at hob
              have HOB2 := Lib.hid hob
              clear hob hv
              have z7 := (HBX.out.block _ (Array.getElem?_eq_some_iff.1 HZ1.out).1).trans HZ1.out
              have y2 := hcell (w := w7.drew) z7 2
              have y3 := hcell (w := w7.drew) z7 3
              have y4 := hcell (w := w7.drew) z7 4
              have HZ7 := Lib.hid z7
              have hA1 := bout y.b y.u y.s HYW.out.s w7.drew
              have hB1 := rbout y.b y.u y.s HYW.out.s w7.drew
              clear z7
              go_region_with (first
                | (go_at_call 23; with_reducible refine hA1.mono ?_; intro e wA hh; obtain ⟨pb, hh1, ht, hpl, hb0⟩ := hh; subst hh1; have hbA := below_drw hb0; have hplA := drw_le hpl; have zA := (hbA.block _ (Array.getElem?_eq_some_iff.1 HZ7.out).1).trans HZ7.out; clear y2 y3 y4; have g2 := hcell zA 2; have g3 := hcell zA 3; have g4 := hcell zA 4; have hC2 := rbout y.b y.u y.s HYW.out.s wA; have TA := Lib.hid ht; have BA := Lib.hid hbA; have PL := Lib.hid hplA; clear ht hb0 hbA hA1 hB1 zA hpl hplA)
                | (go_at_call 38; with_reducible refine hC2.mono ?_; intro e wF hh; obtain ⟨rb, hh1, ht, hpl, hb0⟩ := hh; subst hh1; have hle7 := HBX.out.size; have hq1 := po_out (TA.out.below hb0) ht HYW.out.s (Nat.le_trans hle7 PL.out) (Nat.le_trans hle7 (Nat.le_trans BA.out.size hpl)); have hq2 := HBX.out.trans ((BA.out.trans (hb0.mono BA.out.size)).mono hle7); have zo := (hb0.block _ (Nat.lt_of_lt_of_le (Array.getElem?_eq_some_iff.1 HOB2.out).1 BA.out.size)).trans ((BA.out.block _ (Array.getElem?_eq_some_iff.1 HOB2.out).1).trans HOB2.out); have o0 := hcell zo 0; have o1 := hcell zo 1; have o2 := hcell zo 2; have of0 := hfrz zo 0; have of1 := hfrz zo 1; have of2 := hfrz zo 2; have HF := Lib.hid (And.intro hq1 (And.intro hq2 zo)); clear zo hq1 hq2 hle7 ht hpl hb0 hC2 g2 g3 g4)
                | (go_at_call 38; with_reducible refine hB1.mono ?_; intro e wA hh; obtain ⟨rb, hh1, ht, hpl, hb0⟩ := hh; subst hh1; have hbA := below_drw hb0; have hplA := drw_le hpl; have zA := (hbA.block _ (Array.getElem?_eq_some_iff.1 HZ7.out).1).trans HZ7.out; clear y2 y3 y4; have g2 := hcell zA 2; have g3 := hcell zA 3; have g4 := hcell zA 4; have hC2 := bout y.b y.u y.s HYW.out.s wA; have TA := Lib.hid ht; have BA := Lib.hid hbA; have PL := Lib.hid hplA; clear ht hb0 hbA hA1 hB1 zA hpl hplA)
                | (go_at_call 23; with_reducible refine hC2.mono ?_; intro e wF hh; obtain ⟨pb, hh1, ht, hpl, hb0⟩ := hh; subst hh1; have hle7 := HBX.out.size; have hq1 := po_out ht ((hb0.block _ (Array.getElem?_eq_some_iff.1 TA.out).1).trans TA.out) HYW.out.s (Nat.le_trans hle7 (Nat.le_trans BA.out.size hpl)) (Nat.le_trans hle7 PL.out); have hq2 := HBX.out.trans ((BA.out.trans (hb0.mono BA.out.size)).mono hle7); have zo := (hb0.block _ (Nat.lt_of_lt_of_le (Array.getElem?_eq_some_iff.1 HOB2.out).1 BA.out.size)).trans ((BA.out.block _ (Array.getElem?_eq_some_iff.1 HOB2.out).1).trans HOB2.out); have o0 := hcell zo 0; have o1 := hcell zo 1; have o2 := hcell zo 2; have of0 := hfrz zo 0; have of1 := hfrz zo 1; have of2 := hfrz zo 2; have HF := Lib.hid (And.intro hq1 (And.intro hq2 zo)); clear zo hq1 hq2 hle7 ht hpl hb0 hC2 g2 g3 g4))
              all_goals (try go_wp2_with fail)
              all_goals go_meet
              all_goals (
                have hst := po_store (v0 := .pointer none) (v1 := .pointer (some ⟨pb, 0, none⟩)) (v2 := .pointer (some ⟨rb, 0, none⟩)) HF.out.2.2 HF.out.1 HF.out.2.1 HLO.out rfl
                exact ⟨_, hst.1, hst.2.1, hst.2.2.2⟩)
            · have d2 : ((kk : Int) == 2) = false := beq_eq_false_iff_ne.2 (by omega)
              go_wp2_with fail
              go_meet
              case rel => exact ⟨o, HOB.out, HOK.out, HBX.out⟩
          case rest =>
          clear HOB HOK HBX o
          obtain ⟨o, hob, hok, hbx⟩ := hcut
          generalize wc = w8 at *
          obtain ⟨c0, c1, c2, hv⟩ := po_vals3 o
          have hsm := posame hok
          have hob' := hob
          rw [hv] at hob' hsm
          have z0 := hcell hob' 0
          have z1 := hcell hob' 1
          have z2 := hcell hob' 2
          have HOB := Lib.hid hob'; have HOK := Lib.hid hok; have HBX := Lib.hid hbx; have HV := Lib.hid hv
          clear hob hob' hok hbx hv
          go_upto_region 20 with (go_at_call 39; refine hsm.mono ?_; intro e w9 hh; obtain ⟨hh1, b9⟩ := hh; subst hh1; have B9 := Lib.hid b9; clear b9 hsm)
          have HB9 : Hid (Below w6.heap.size w6 w9) := HBX.out.trans (B9.out.mono HBX.out.size)
          have HOK9 := Lib.hid (HOK.out.below B9.out)
          have hob9 := (B9.out.block _ (Array.getElem?_eq_some_iff.1 HOB.out).1).trans HOB.out
          clear z0 z1 z2
          have z0 := hcell hob9 0
          have z1 := hcell hob9 1
          have z2 := hcell hob9 2
          clear hob9 B9 HOK HOB HBX
          have HROW := Lib.hid (HT.out.below HB9.out).row
          have hLL := hLi
          go_wp2_with (at_builtin; refine wpList_append_own _ rfl _ _ 104 rfl w2.heap.size 110 i0 (.agg #[.pointer none, .pointer none, .pointer none]) 3 24 Tryz.underlying104 I0.out I1.out I2.out I3.out rfl (by decide) _ _ _ rfl (HROW.out.alloc _) ⟨w9.heap.size, 0, none⟩ 1 1 [.pointer c0, .pointer c1, .pointer c2] rfl rfl ?c1 ?c2 ?c3 ?c4 ?c5 ?_)
          case c1 => exact World.news_of_block (heap_alloc_new w9 _)
          case c2 => simp [Value.oneCell']
          case c3 => unfold maxLen; omega
          case c4 => omega
          case c5 => have := (HT.out.below HB9.out).pr.ws.below.size; simp; omega
          intro v' w11 hown' hgrow _
          have hb10 := below_alloc w9 (.cells #[.pointer c0, .pointer c1, .pointer c2] 110)
          have hB10 := HB9.out.trans (hb10.mono HB9.out.size)
          have hTb := HT.out.below hB10
          have hB11 := grown_below (HROW.out.alloc _) hgrow hTb.pr.ws.below hTb.pr.ws.below.size (Nat.le_refl _)
          have f11 := grown_ty (HROW.out.alloc _) hgrow
          rw [← show o.vals = [.pointer c0, .pointer c1, .pointer c2] from HV.out] at hown'
          have hP := HT.out.push (o := o) hB10 (HOK9.out.below hb10) hown' f11 hB11
          have HP := Lib.hid hP
          clear hb10 hB10 hTb hB11 f11 hP hown' hgrow z0 z1 z2
          go_wp2_with fail
          go_meet
          case rel => exact ⟨s, x, L ++ [o], HP.out.le (by omega), by simp; omega⟩
        · -- a step
          have d0 : ((kk : Int) == 3) = false := beq_eq_false_iff_ne.2 (by omega)
          have d1 : decide ((kk : Int) < 3) = false := decide_eq_false (by omega)
          clear h5
          go_upto_region 21 with (fail)
          clear d0 d1
          by_cases hL : L.length = 0
          · have d2 : decide ((0 : Int) < L.length) = false := decide_eq_false (by omega)
            have d2n : decide (0 < L.length) = false := decide_eq_false (by omega)
            clear hL
            refine wp_region_ext_tail 14 (by kernel_rfl) (by kernel_rfl) ?_
            simp only [List.take_succ_cons, List.take_zero, List.drop_succ_cons, List.drop_zero]
            repeat (go_big_quiet_step (fail))
            refine wpQuiet_nil ?_
            rintro W ⟨⟨W2, hW⟩, rfl⟩
            have HT8 := Lib.hid (HT.out.below hW)
            clear hW
            go_wp2_with fail
            go_meet
            case rel => exact ⟨_, _, L, HT8.out.le (by omega), by omega⟩
          · have d2 : decide ((0 : Int) < L.length) = true := decide_eq_true (by omega)
            have d2n : decide (0 < L.length) = true := decide_eq_true (by omega)
            have hab := wf_u8 HYW.out.a
            have hlp : (0 : Int) < L.length := by omega
            obtain ⟨j, hj⟩ : ∃ j : Nat, (j : Int) = y.a % L.length := ⟨(y.a % L.length).toNat, by have := Int.emod_nonneg y.a (show (L.length : Int) ≠ 0 by omega); omega⟩
            have hjl : j < L.length := by have := Int.emod_lt_of_pos y.a hlp; omega
            have hjl' : (j : Int) < L.length := by omega
            have e1 : wrap64 y.a = y.a := IntWalk.wrap64_in _ (by omega)
            have e2 : y.a.tmod L.length = j := by rw [Int.tmod_eq_emod_of_nonneg hab.1, hj]
            have e4 : ((L.length : Int) == 0) = false := beq_eq_false_iff_ne.2 (by omega)
            obtain ⟨g, gcap, c0, c1, c2, hv, hvv, k0, k1, k2⟩ := HT.out.at j hjl
            simp only [Value.slice.injEq, true_and] at hv
            obtain ⟨rfl, rfl⟩ := hv
            have x1 : ∀ st : ExtW w6, st.val.cell? ⟨ab, 1, none⟩ = some (.int .u8 y.a) := fun st => st.cell (hcell HZ1.out 1)
            have x3 : ∀ st : ExtW w6, st.val.cell? ⟨g, j * 3, none⟩ = some (.pointer c0) := fun st => st.cell k0
            have x4 : ∀ st : ExtW w6, st.val.cell? ⟨g, j * 3 + 1, none⟩ = some (.pointer c1) := fun st => st.cell k1
            have x5 : ∀ st : ExtW w6, st.val.cell? ⟨g, j * 3 + 2, none⟩ = some (.pointer c2) := fun st => st.cell k2
            have q0 : ∀ st : ExtW w6, st.val.cell? ⟨q, 0, none⟩ = some (.pointer (some ⟨B.wb, 0, none⟩)) := fun st => st.cell (hcell HT.out.pq 0)
            have q1 : ∀ st : ExtW w6, st.val.cell? ⟨q, 1, none⟩ = some (.pointer (some ⟨R.wb, 0, none⟩)) := fun st => st.cell (hcell HT.out.pq 1)
            have HVV := Lib.hid hvv
            clear hj hab hL hvv k0 k1 k2
            refine wp_region_ext_tail 14 (by kernel_rfl) (by kernel_rfl) ?_
            simp only [List.take_succ_cons, List.take_zero, List.drop_succ_cons, List.drop_zero]
            repeat (go_big_quiet_step (fail))
            refine wpQuiet_nil ?_
            rintro W ⟨⟨W2, hW⟩, rfl⟩
            clear x1 x3 x4 x5 q0 q1 d2n e1 e2 e4 hlp hjl'
            have HT8 := Lib.hid (HT.out.below hW)
            clear hW
            have hst := postep_any HT8.out.pr HT8.out.far (by omega) (HT8.out.ops _ (List.getElem_mem hjl))
            rw [show (L[j]'hjl).vals = _ from HVV.out] at hst
            go_wp2_with (go_at_call 40; refine hst.mono ?_; intro e w9 hh; obtain ⟨s', x', o', e1, e2, e3, hk, hp⟩ := hh; have hh1 := hp.1; subst hh1; have HT9 := Lib.hid (HT8.out.step j hjl o' e1 e2 (e3.trans HVV.out.symm) hk hp); clear e1 e2 e3 hk hp hst)
            go_meet
            case rel => exact ⟨s', x', _, HT9.out.le (by omega), by rw [List.length_set]; omega⟩
      case rest =>
      clear HT HZ1 HYW
      obtain ⟨s', x', L', hT2, hL2⟩ := hcut
      have p0 := hcell hT2.pq 0
      have p1 := hcell hT2.pq 1
      have hps := psame_any hT2.pr
      have HT2 := Lib.hid hT2
      clear hT2
      go_wp2_with (go_at_call 16; refine hps.mono ?_; intro e w9 hh; obtain ⟨hh1, b9⟩ := hh; subst hh1; have HT9 := Lib.hid (HT2.out.below b9); clear hps b9 p0 p1)
      go_roundw
      case rel => exact ⟨i + 1, s', x', L', by omega, by go_num, HT9.out, hL2⟩
      case measure => simp [intOf]; omega
    · obtain rfl : i = l.length := by omega
      have p0 := hcell hT.pq 0
      have p1 := hcell hT.pq 1
      have o6 := psall_any hT.pr hT.nts.1 (by have := hT.nts.2; omega) (by have := hT.far.1; omega)
      have HT := Lib.hid hT
      clear hT hlt
      go_wp2_with (first
        | (go_at_call 14; refine o6.mono ?_; intro e w17 hh; obtain ⟨hh1, b17⟩ := hh; subst hh1; have HB17 := Lib.hid b17; clear o6 b17 p0 p1)
        | (go_at_call 17; refine (lives13 _).mono ?_; rintro e w18 ⟨rfl, b18⟩))
      go_ret
      have h0 := HT.out.pr.ws.below
      have h1 := h0.trans (HB17.out.mono h0.size)
      have h2 := h1.trans (b18.mono h1.size)
      exact ⟨rfl, HBB.out.trans (h2.mono HBB.out.size)⟩
set_option maxRecDepth 10000 in
theorem walkPutsPlay {H1 : Type} (w : World) (enc : TypeId × Value → H1) (base : Nat) (v : Value) (d : DataW H1) (p : List MemPlace) (k : DataW.Trod enc Tryz.prog w 0 (fun _ => true) true 28 v d p) (o : Value.okWide Tryz.prog w .any base 28 v)
    (enc2 : TypeId × Value → H1) (base2 : Nat) (v2 : Value) (d2 : DataW H1) (p2 : List MemPlace) (k2 : DataW.Trod enc2 Tryz.prog w 0 (fun _ => true) true 103 v2 d2 p2) (o2 : Value.okWide Tryz.prog w .any base2 103 v2) :
    Calls Tryz.prog 7 #[v, v2] w fun e w' => e = .returned (.bool true) ∧ Below w.heap.size w w' := by
  have hl : leaves Tryz.prog 6 103 = some [.sl pacLeaves] := by kernel_rfl
  obtain ⟨f, rfl, hr⟩ := fst_open k o
  obtain ⟨a1, n1, cap1, rfl⟩ := Go.WideShapes.okWide_slice Tryz.underlying103 o2
  obtain ⟨l, hll, hac⟩ := pacts_of (opened hl k2).1
  subst hll
  exact pplay_any f l a1 cap1 w hr hac
end Go.Proofs.YtjfocckdbaaimaaGreat
