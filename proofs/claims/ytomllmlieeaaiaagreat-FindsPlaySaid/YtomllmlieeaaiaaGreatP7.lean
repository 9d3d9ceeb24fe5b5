/-
  Texts of this prover, merged: RefFind, RefFindS, FindPo, LookPl, FindPoS, FindSame, FdActs, Puts, PutsDo, PutsAll, PutsLives, Grows, GrowDo, GrowLives, FindLives.
-/
import Derived.Test.YtomllmlieeaaiaaGreatP6
import Derived.Test.YtomllmlieeaaiaaGreatP1
import Derived.Test.YtomllmlieeaaiaaGreatP2
import Derived.Test.YtomllmlieeaaiaaGreatStripes
import Derived.Test.YtomllmlieeaaiaaGreatOpen
import Derived.Deep.RegionHeld2
import Derived.Maps.RangeWalk
import Derived.Laws.IdiomStrings
/-
  Layer 15: the document's Find.
-/
namespace Go.Proofs.YtomllmlieeaaiaaGreat
open Go.RowKit Go.Maps TagPure
set_option linter.unusedVariables false

/-- The document's Find. -/
structure RF where
  line : Int
  b : Int
  u : Int
  k : Int
  ref : Int
  key : ByteArray
  t : Int
  l : List (Int × Int)
  at_ : Nat
  tags : Int
  slot : Int
def RF.cells (x : RF) (v : Value) : Array Value := #[.int .i64 x.line, .int .i64 x.b, .int .i64 x.u, .int .i64 x.k, .int .i64 x.ref, .string x.key, .int .u64 x.t, v, .int .i64 x.at_, .int .u64 x.tags, .int .i64 x.slot]
structure RFindAt (w : World) (lo fb : Nat) (x : RF) : Prop where
  low : lo ≤ fb
  ex : ∃ v, w.heap[fb]? = some (.cells (x.cells v) 74 (0, 0)) ∧ PlR w lo v x.l
section
variable {w w' : World} {lo lo' fb : Nat} {x : RF}
theorem RFindAt.fr {K : TypeId → Bool} {mp : Bool} (h : RFindAt w lo fb x) (hf : Fr K mp w w') (h1 : K 74 = false) (h2 : K 69 = false) : RFindAt w' lo fb x := by
  obtain ⟨l0, v, b1, b2⟩ := h
  exact ⟨l0, v, hf.cells _ _ _ _ b1 h1, own_fr b2 hf h2⟩
theorem RFindAt.below (h : RFindAt w lo fb x) (hb : Below w.heap.size w w') : RFindAt w' lo fb x := h.fr (below_fr hb (fun _ => false) false) rfl rfl
theorem RFindAt.set (h : RFindAt w lo fb x) (o : Nat) (u : Value) {y : RF} (hl : y.l = x.l) (hc : ∀ v, (x.cells v).setIfInBounds o u = y.cells v) : RFindAt (w.setCell ⟨fb, o, none⟩ u) lo fb y := by
  obtain ⟨l0, v, b1, b2⟩ := h
  have g := setCell_same b1 o u
  rw [hc] at g
  refine ⟨l0, v, g, ?_⟩
  have sf := set_ty b1 o u
  rw [hl]
  exact own_fr b2 sf rfl
theorem RFindAt.setl (h : RFindAt w lo fb x) {v' : Value} {l' : List (Int × Int)} (hp : PlR w lo v' l') : RFindAt (w.setCell ⟨fb, 7, none⟩ v') lo fb { x with l := l' } := by
  obtain ⟨l0, v, b1, b2⟩ := h
  exact ⟨l0, v', setCell_same b1 7 v', own_fr hp (set_ty b1 7 v') rfl⟩
theorem RFindAt.lt (h : RFindAt w lo fb x) : fb < w.heap.size := by obtain ⟨_, v, b1, _⟩ := h; exact (Array.getElem?_eq_some_iff.1 b1).1
theorem RFindAt.blk (h : RFindAt w lo fb x) : ∃ cs, w.heap[fb]? = some (.cells cs 74 (0, 0)) := by obtain ⟨_, v, b1, _⟩ := h; exact ⟨_, b1⟩
theorem RFindAt.c (h : RFindAt w lo fb x) : w.cell? ⟨fb, 0, none⟩ = some (.int .i64 x.line) ∧ w.cell? ⟨fb, 1, none⟩ = some (.int .i64 x.b) ∧ w.cell? ⟨fb, 2, none⟩ = some (.int .i64 x.u) ∧ w.cell? ⟨fb, 3, none⟩ = some (.int .i64 x.k) ∧ w.cell? ⟨fb, 4, none⟩ = some (.int .i64 x.ref) ∧ w.cell? ⟨fb, 5, none⟩ = some (.string x.key) ∧ w.cell? ⟨fb, 6, none⟩ = some (.int .u64 x.t) ∧ (∃ a cap, w.cell? ⟨fb, 7, none⟩ = some (.slice a x.l.length cap)) ∧ w.cell? ⟨fb, 8, none⟩ = some (.int .i64 x.at_) ∧ w.cell? ⟨fb, 9, none⟩ = some (.int .u64 x.tags) ∧ w.cell? ⟨fb, 10, none⟩ = some (.int .i64 x.slot) := by
  obtain ⟨_, v, b1, b2⟩ := h
  obtain ⟨a, cap, rfl, -⟩ := b2.read
  exact ⟨hcell b1 0, hcell b1 1, hcell b1 2, hcell b1 3, hcell b1 4, hcell b1 5, hcell b1 6, ⟨a, cap, hcell b1 7⟩, hcell b1 8, hcell b1 9, hcell b1 10⟩
theorem RFindAt.f (h : RFindAt w lo fb x) (o : Nat) : w.frozen? ⟨fb, o, none⟩ = false := by obtain ⟨_, v, b1, _⟩ := h; exact hfrz b1 o
/-- A place of it. -/
theorem RFindAt.pl (h : RFindAt w lo fb x) (k : Nat) (hk : k < x.l.length) : ∃ g cap, w.cell? ⟨fb, 7, none⟩ = some (.slice (some ⟨g, 0, none⟩) x.l.length cap) ∧ w.cell? ⟨g, k * 2, none⟩ = some (.int .i64 (x.l[k]).1) ∧ w.cell? ⟨g, k * 2 + 1, none⟩ = some (.int .i64 (x.l[k]).2) := by
  obtain ⟨_, v, b1, b2⟩ := h
  obtain ⟨a, cap, rfl, -, hc⟩ := b2.read
  obtain ⟨g, rfl, -, h2⟩ := hc (by omega)
  exact ⟨g, cap, hcell b1 7, h2 k hk⟩
end
/-- The slots with a tag, from one on. -/
def hasF (tags T : Int) : Nat → Nat → List Nat
  | _, 0 => []
  | n, m + 1 => if tg tags n = T then n :: hasF tags T (n + 1) m else hasF tags T (n + 1) m
theorem has_hasF (tags T : Int) : has tags T 4 = hasF tags T 0 4 := by
  simp only [has, hasF]
  by_cases h0 : tg tags 0 = T <;> by_cases h1 : tg tags 1 = T <;> by_cases h2 : tg tags 2 = T <;> by_cases h3 : tg tags 3 = T <;> simp [h0, h1, h2, h3]
/-- The next slot that has the key's tag, from one on; else the next place. -/
def RF.nxOf (x : RF) : List Nat → RF
  | n :: _ => { x with slot := n }
  | [] => { x with slot := -1, at_ := x.at_ + 1, line := if x.at_ + 1 = x.l.length then 0 else x.line }
def RF.nx (x : RF) (frm : Nat) : RF := x.nxOf (hasF x.tags (tag01 (hashOf x.key)) frm (4 - frm))
/-- The document's world, and its Find. -/
structure RFB (w0 w W : World) (R : WB) (V : WV) (xr : RS) (fb : Nat) (x : RF) : Prop where
  rd : RD w0 W R V xr
  fnd : RFindAt W w0.heap.size fb x
  fx : Fx rTy false fb w W
theorem keeps_fxR {w W : World} {b o : Nat} {v : Value} {cs : Array Value} {T : TypeId} (hb : W.heap[b]? = some (.cells cs T (0, 0))) (h : Fx rTy false b w W) : Fx rTy false b w (W.setCell ⟨b, o, none⟩ v) := h.trans (set_fx rTy false W b o v)
section
variable {w0 w W W' : World} {R : WB} {V : WV} {xr xr' : RS} {fb : Nat} {x y : RF}
theorem rd_setF {b o : Nat} {cs : Array Value} {T : TypeId} (h : RD w0 W R V xr) (hb : W.heap[b]? = some (.cells cs T (0, 0))) (hT : rTy T = false) (hlo : w0.heap.size ≤ b) (v : Value) : RD w0 (W.setCell ⟨b, o, none⟩ v) R V xr :=
  h.fr (set_ty hb o v) (fun X hX => by cases hXT : (X == T); rfl; rw [beq_iff_eq] at hXT; subst hXT; rw [hX] at hT; cases hT) (set_below h.below h.below.size hlo o v)
theorem RFB.below (h : RFB w0 w W R V xr fb x) (hb : Below W.heap.size W W') : RFB w0 w W' R V xr fb x := ⟨h.rd.keep hb, h.fnd.below hb, h.fx.trans ((below_fr hb rTy false).fx fb)⟩
theorem RFB.set (h : RFB w0 w W R V xr fb x) (o : Nat) (u : Value) (hl : y.l = x.l) (hc : ∀ v, (x.cells v).setIfInBounds o u = y.cells v) : RFB w0 w (W.setCell ⟨fb, o, none⟩ u) R V xr fb y := by
  obtain ⟨cs, b1⟩ := h.fnd.blk
  exact ⟨rd_setF h.rd b1 rfl h.fnd.low u, h.fnd.set o u hl hc, keeps_fxR b1 h.fx⟩
theorem RFB.setl (h : RFB w0 w W R V xr fb x) {v' : Value} {l' : List (Int × Int)} (hp : PlR W w0.heap.size v' l') : RFB w0 w (W.setCell ⟨fb, 7, none⟩ v') R V xr fb { x with l := l' } := by
  obtain ⟨cs, b1⟩ := h.fnd.blk
  exact ⟨rd_setF h.rd b1 rfl h.fnd.low v', h.fnd.setl hp, keeps_fxR b1 h.fx⟩
theorem RFB.move (h : RFB w0 w W R V xr fb x) (h2 : RD w0 W' R V xr') (hf : Fr rTy false W W') : RFB w0 w W' R V xr' fb x := ⟨h2, h.fnd.fr hf rfl rfl, h.fx.trans (hf.fx fb)⟩
end
abbrev TNx (fb : Nat) (tags : Int) (key : ByteArray) (W : World) : Prop := W.cell? ⟨fb, 9, none⟩ = some (.int .u64 tags) ∧ W.cell? ⟨fb, 5, none⟩ = some (.string key)
set_option maxRecDepth 10000 in
set_option maxHeartbeats 4000000 in
theorem rnext {w0 w W : World} {R : WB} {V : WV} {xr : RS} {fb : Nat} {x : RF} (frm : Nat) (hfr : frm ≤ 4) (h : RFB w0 w W R V xr fb x) (hk : x.key.size ≤ 1000000) (ht : 0 ≤ x.tags ∧ x.tags < 18446744073709551616) (hat : x.at_ ≤ 1000) :
    Calls Tryz.prog 114 #[.pointer (some ⟨fb, 0, none⟩), .int .i64 frm] W fun e w' => e = .returned (.tuple #[]) ∧ RFB w0 w w' R V xr fb (x.nx frm) := by
  have hhb : 0 ≤ hashOf x.key ∧ hashOf x.key < 18446744073709551616 := hfold_bd _ _
  obtain ⟨T, hT⟩ : ∃ T, T = tag01 (hashOf x.key) := ⟨_, rfl⟩
  have hnx : x.nx frm = x.nxOf (hasF x.tags T frm (4 - frm)) := by rw [hT]; rfl
  have HNX := Lib.hid hnx; have HH := Lib.hid h; have HK := Lib.hid hk; have HT := Lib.hid ht; have HTT := Lib.hid hT; have HHB := Lib.hid hhb; have HAT := Lib.hid hat
  clear hnx h hk ht hT hhb hat
  go_enter Tryz.func114, Tryz.ntmps114
  go_wp2
  go_loopw [4] (fun v4 wr => ∃ k : Nat, k ≤ 4 ∧ v4 = .int .i64 k ∧ RFB w0 w wr R V xr fb x ∧ hasF x.tags T frm (4 - frm) = hasF x.tags T k (4 - k)) (fun v4 _ => 4 - (intOf v4).toNat)
  case atStart => exact ⟨frm, hfr, rfl, HH.out, rfl⟩
  case round =>
    clear HH
    obtain ⟨k, hk, rfl, h, hs⟩ := hrel
    have HS := Lib.hid hs; have HH := Lib.hid h
    clear h hs
    by_cases hlt : k < 4
    · obtain ⟨m, hm⟩ : ∃ m, 4 - k = m + 1 := ⟨4 - k - 1, by omega⟩
      have hlt' : (k : Int) < 4 := by omega
      have htg : tagOf x.tags k = tg x.tags k := by unfold tagOf; rw [if_pos (by omega), Int.toNat_natCast]
      have hTG := fun W => rtag_any x.tags k W HT.out.1 HT.out.2
      rw [htg] at hTG
      have hHS := fun W => rhash_eq x.key HK.out W
      have hT1 := fun W => rtag01_any (hashOf x.key) HHB.out.1 HHB.out.2 W
      rw [← HTT.out] at hT1
      obtain ⟨-, -, -, -, -, c5, -, -, -, c9, -⟩ := HH.out.fnd.c
      have s1 : TNx fb x.tags x.key wr.drew := ⟨c9, c5⟩
      have HM := Lib.hid hm; have HLT := Lib.hid hlt
      clear htg c5 c9 hm hlt hk
      go_upto_region 3 with (fail)
      obtain ⟨q, hq⟩ : ∃ q, q = (tg x.tags k == T) := ⟨_, rfl⟩
      have hq' : (tg x.tags k == T) = q := hq.symm
      have HQ := Lib.hid hq
      clear hq
      go_region_held2 (fun W => TNx fb x.tags x.key W) (assumption) (first
        | (go_at_call 92; refine (hTG _).mono ?_; intro e w2 hh; obtain ⟨hh1, hh2⟩ := hh; subst hh1; obtain rfl := hh2; clear hTG)
        | (go_at_call 113; refine (hHS _).mono ?_; intro e w3 hh; obtain ⟨hh1, hh2⟩ := hh; subst hh1; obtain rfl := hh2.symm; clear hHS)
        | (go_at_call 161; refine (hT1 _).mono ?_; intro e w4 hh; obtain ⟨hh1, hh2⟩ := hh; subst hh1; obtain rfl := hh2.symm; clear hT1))
      have hd : Below wr.heap.size wr wr.drew := (Below.refl _ _).drew
      have HD := Lib.hid (HH.out.below hd)
      obtain ⟨-, -, -, -, -, -, -, -, -, -, c10⟩ := HD.out.fnd.c
      have f10 := HD.out.fnd.f 10
      clear hd s1
      cases q
      · go_wp2_with fail
        go_roundw
        case measure => have := HLT.out; simp [intOf]; omega
        case rel =>
          refine ⟨k + 1, HLT.out, by have := HLT.out; go_num, HD.out, ?_⟩
          rw [HS.out, HM.out, show 4 - (k + 1) = m from by have := HM.out; omega]
          show (if tg x.tags k = T then k :: hasF x.tags T (k + 1) m else hasF x.tags T (k + 1) m) = _
          rw [if_neg (beq_eq_false_iff_ne.1 HQ.out.symm)]
      · have HE := Lib.hid (HD.out.set (y := { x with slot := (k : Int) }) 10 (.int .i64 k) rfl (fun v => rfl))
        go_wp2_with fail
        refine bodyPost_ret (v := .tuple #[]) (by simp [results, Tryz.results114, go_sem]) rfl ⟨rfl, ?_⟩
        have e : x.nx frm = { x with slot := (k : Int) } := by
          rw [HNX.out, HS.out, HM.out]
          show x.nxOf (if tg x.tags k = T then k :: hasF x.tags T (k + 1) m else hasF x.tags T (k + 1) m) = _
          rw [if_pos (beq_iff_eq.1 HQ.out.symm)]
          rfl
        rw [e]
        exact HE.out
    · obtain rfl : k = 4 := by omega
      obtain ⟨-, -, -, -, -, -, -, -, -, -, c10⟩ := HH.out.fnd.c
      have f10 := HH.out.fnd.f 10
      have HD := Lib.hid (HH.out.set (y := { x with slot := -1 }) 10 (.int .i64 (-1)) rfl (fun v => rfl))
      clear hk hlt HH
      go_upto_region 6 with (fail)
      generalize wr.setCell ⟨fb, 10, none⟩ (.int .i64 (-1)) = w2 at *
      clear c10 f10
      obtain ⟨a1, ha1⟩ : ∃ a1 : Nat, a1 = x.at_ + 1 := ⟨_, rfl⟩
      have e9 : wrap64 ((x.at_ : Int) + 1) = (a1 : Int) := by
        have := HAT.out
        rw [IntWalk.wrap64_in _ (by omega), ha1]; push_cast; rfl
      obtain ⟨-, -, -, -, -, -, -, -, c8, -, -⟩ := HD.out.fnd.c
      have c8 : w2.cell? ⟨fb, 8, none⟩ = some (.int .i64 x.at_) := c8
      have f8 := HD.out.fnd.f 8
      have HE := Lib.hid (HD.out.set (y := { x with slot := -1, at_ := a1 }) 8 (.int .i64 a1) rfl (fun v => rfl))
      have HA1 := Lib.hid ha1
      clear ha1 HD
      go_upto_region 7 with (fail)
      generalize w2.setCell ⟨fb, 8, none⟩ (.int .i64 a1) = w3 at *
      clear c8 f8 e9
      obtain ⟨c0, -, -, -, -, -, -, ⟨al, cl, c7⟩, c8, -, -⟩ := HE.out.fnd.c
      have c7 : w3.cell? ⟨fb, 7, none⟩ = some (.slice al x.l.length cl) := c7
      have c8 : w3.cell? ⟨fb, 8, none⟩ = some (.int .i64 a1) := c8
      have y7 := fun st : ExtW w3 => st.cell c7
      have y8 := fun st : ExtW w3 => st.cell c8
      obtain ⟨q, hq⟩ : ∃ q, q = ((a1 : Int) == (x.l.length : Int)) := ⟨_, rfl⟩
      have hq' : ((a1 : Int) == (x.l.length : Int)) = q := hq.symm
      have hq2 : (a1 = x.l.length) ↔ q = true := by
        rw [hq, beq_iff_eq]; omega
      have HQ := Lib.hid hq2
      clear hq hq2 c0 c7 c8
      have hfin : Hid (x.nx frm = { x with slot := -1, at_ := a1, line := if a1 = x.l.length then 0 else x.line }) := Lib.hid (by
        rw [HNX.out, HS.out, HA1.out]; rfl)
      cases q
      · refine wp_region_ext (by kernel_rfl) (by kernel_rfl) ?_
        repeat (go_big_quiet_step (fail))
        refine wpQuiet_nil ?_
        rintro w4 ⟨⟨W2, hW⟩, rfl⟩
        have HF := Lib.hid (HE.out.below hW)
        clear y7 y8 hW
        go_wp2_with (fail)
        go_end0
        refine ⟨rfl, ?_⟩
        rw [hfin.out, if_neg (fun c => by have := HQ.out; simp [c] at this)]
        exact HF.out
      · refine wp_region_ext (by kernel_rfl) (by kernel_rfl) ?_
        repeat (go_big_quiet_step (fail))
        refine wpQuiet_nil ?_
        rintro w4 ⟨⟨W2, hW⟩, rfl⟩
        have HF := Lib.hid (HE.out.below hW)
        obtain ⟨c0, -⟩ := HF.out.fnd.c
        have c0 : w4.cell? ⟨fb, 0, none⟩ = some (.int .i64 x.line) := c0
        have f0 := HF.out.fnd.f 0
        have HG := Lib.hid (HF.out.set (y := { x with slot := -1, at_ := a1, line := 0 }) 0 (.int .i64 0) rfl (fun v => rfl))
        clear y7 y8 hW
        go_wp2_with (fail)
        go_end0
        refine ⟨rfl, ?_⟩
        rw [hfin.out, if_pos (by have := HQ.out; simpa using this)]
        exact HG.out
/-- The document's: is there an item of a number, with a key? -/
theorem rkey15 {w0 w : World} {B : WB} {V : WV} {x : RS} (h : RD w0 w B V x) (hl : V.its.length ≤ 1048576) (r : Int) (key : ByteArray) : Calls Tryz.prog 116 #[.pointer (some ⟨B.wb, 0, none⟩), .int .i64 r, .string key] w fun e w' => e = .returned (.bool ((atOf V.its r).2 && decide ((atOf V.its r).1.key = key))) ∧ Below w.heap.size w w' := by
  have c1 : w.cell? ⟨B.wb, 1, none⟩ = some (.pointer (some ⟨B.ib, 0, none⟩)) := (h.cell 1).trans (val_at B V h.tkl).2.1
  have hat := h.iat hl r
  obtain ⟨it, hit⟩ : ∃ it, it = (atOf V.its r).1 := ⟨_, rfl⟩
  obtain ⟨is, his⟩ : ∃ is, is = (atOf V.its r).2 := ⟨_, rfl⟩
  rw [← hit, ← his] at hat ⊢
  clear h hl hit his
  cases is
  · go_enter Tryz.func116, Tryz.ntmps116
    go_wp2_with (go_at_call 104; refine hat.mono ?_; intro e w2 hh; obtain ⟨hh1, b2⟩ := hh; subst hh1; have B2 := Lib.hid (b2.trans ((below_alloc w2 (.cells it.cells.toArray 88)).mono b2.size)); clear b2 hat c1)
    go_ret
    exact ⟨rfl, B2.out⟩
  · by_cases hk : it.key = key
    · rw [decide_eq_true hk]
      have kn : (it.key.toList == key.toList) = true := by rw [hk]; simp
      clear hk
      go_enter Tryz.func116, Tryz.ntmps116
      go_wp2_with (go_at_call 104; refine hat.mono ?_; intro e w2 hh; obtain ⟨hh1, b2⟩ := hh; subst hh1; have B2 := Lib.hid (b2.trans ((below_alloc w2 (.cells it.cells.toArray 88)).mono b2.size)); clear b2 hat c1)
      go_ret
      exact ⟨rfl, B2.out⟩
    · rw [decide_eq_false hk]
      have kn := key_ne hk
      clear hk
      go_enter Tryz.func116, Tryz.ntmps116
      go_wp2_with (go_at_call 104; refine hat.mono ?_; intro e w2 hh; obtain ⟨hh1, b2⟩ := hh; subst hh1; have B2 := Lib.hid (b2.trans ((below_alloc w2 (.cells it.cells.toArray 88)).mono b2.size)); clear b2 hat c1)
      go_ret
      exact ⟨rfl, B2.out⟩
end Go.Proofs.YtomllmlieeaaiaaGreat

/-
  Layer 15: a step of the document's Find.
-/
namespace Go.Proofs.YtomllmlieeaaiaaGreat
open Go.RowKit Go.Maps TagPure
set_option linter.unusedVariables false

abbrev TPl5 (fb : Nat) (key : ByteArray) (t : Int) (W : World) : Prop := W.cell? ⟨fb, 5, none⟩ = some (.string key) ∧ W.cell? ⟨fb, 6, none⟩ = some (.int .u64 t)
theorem plr_lo {w : World} {b b' : Nat} {v : Value} {l : List (Int × Int)} (h : PlR w b v l) (hb : b' ≤ b) : PlR w b' v l := by
  obtain ⟨h1, h2 | ⟨g, cap, cur, rfl, h3, hg, r⟩⟩ := h
  · exact ⟨h1, .inl h2⟩
  · exact ⟨h1, .inr ⟨g, cap, cur, rfl, Nat.le_trans hb h3, hg, r⟩⟩
/-- Behind line 1. -/
def RF.tab (x : RF) (v : Int) : RF := { x with t := v, l := plist (hashOf x.key) v, at_ := 0, slot := -1, line := 2 }
set_option maxRecDepth 10000 in
set_option maxHeartbeats 4000000 in
theorem rfstep1 {w0 w : World} {R : WB} {V : WV} {xr : RS} {fb : Nat} {x : RF} (h : RD w0 w R V xr) (hr : xr.room) (hx : RFindAt w w0.heap.size fb x) (hk : x.key.size ≤ 1000000) (h1 : x.line = 1) (v : Int) (hv : v = rlook xr.l 2) (hvb : 0 ≤ v ∧ v < 18446744073709551616) :
    Calls Tryz.prog 26 #[.pointer (some ⟨fb, 0, none⟩), .pointer (some ⟨R.wb, 0, none⟩)] w fun e w' => e = .returned (.tuple #[]) ∧ RFB w0 w w' R V (xr.acc 1 2 v) fb (x.tab v) := by
  have hB : RFB w0 w w R V xr fb x := ⟨h, hx, (below_fr (Below.refl _ _) rTy false).fx fb⟩
  have hld := rwload h hr 2 (by decide)
  rw [← hv] at hld
  obtain ⟨c0, -⟩ := hx.c
  rw [h1] at c0
  have HB := Lib.hid hB; have HK := Lib.hid hk; have HVB := Lib.hid hvb
  clear hB h hr hx hk h1 hv hvb
  go_enter Tryz.func26, Tryz.ntmps26
  go_upto_region 3 with (go_at_call 87; refine hld.mono ?_; intro e w2 hh; obtain ⟨hh1, h2, f2⟩ := hh; subst hh1; have HB2 := Lib.hid (HB.out.move h2 f2); obtain ⟨-, -, -, -, -, -, c6, -, -, -, -⟩ := HB2.out.fnd.c; have f6 := HB2.out.fnd.f 6; clear h2 f2 hld c0)
  have HB3 := Lib.hid (HB2.out.set (y := { x with t := v }) 6 (.int .u64 v) rfl (fun _ => rfl))
  clear c6 f6 HB2
  generalize w2.setCell ⟨fb, 6, none⟩ (.int .u64 v) = w3 at *
  have HB4 := Lib.hid (HB3.out.below (Below.refl w3.heap.size w3).drew)
  obtain ⟨-, -, -, -, -, d5, d6, -, -, -, -⟩ := HB4.out.fnd.c
  have ss : TPl5 fb x.key v w3.drew := ⟨d5, d6⟩
  have hh := hfold_bd x.key x.key.size
  have hpl := fun W => rplaces_eq (hashOf x.key) v hh.1 hh.2 HVB.out.1 HVB.out.2 W
  have hHS := fun W => rhash_eq x.key HK.out W
  obtain ⟨L, hL⟩ : ∃ L, L = plist (hashOf x.key) v := ⟨_, rfl⟩
  rw [← hL] at hpl
  have HL := Lib.hid hL; have HPL := Lib.hid hpl
  clear d5 d6 hh hpl hL HB3
  go_region_held2 (fun W => TPl5 fb x.key v W) (assumption) (first
    | (go_at_call 113; refine (hHS _).mono ?_; intro e w5 hh; obtain ⟨hh1, hh2⟩ := hh; subst hh1; obtain rfl := hh2.symm; clear hHS)
    | (go_at_call 112; refine (HPL.out _).mono ?_; intro e w6 hh; obtain ⟨pv, hh1, hp, b6⟩ := hh; subst hh1; obtain ⟨pa, pc, hpv, -⟩ := hp.read; subst hpv; have HB6 := Lib.hid (HB4.out.below b6); obtain ⟨-, -, -, -, -, d5, d6, ⟨al, cl, d7⟩, -, -, -⟩ := HB6.out.fnd.c; have f7 := HB6.out.fnd.f 7; have s6 : TPl5 fb x.key v w6 := ⟨d5, d6⟩; have HB7 := Lib.hid (HB6.out.setl (plr_lo hp HB4.out.rd.below.size)); obtain ⟨-, -, -, -, -, d5', d6', -⟩ := HB7.out.fnd.c; have s7 : TPl5 fb x.key v (w6.setCell ⟨fb, 7, none⟩ (.slice pa L.length pc)) := ⟨d5', d6'⟩; clear b6 hp ss d5 d6 d5' d6'))
  clear s6 s7 d7 f7 HB6 HB4
  generalize w6.setCell ⟨fb, 7, none⟩ (.slice pa L.length pc) = w7 at *
  obtain ⟨c0, -, -, -, -, -, -, -, c8, -, c10⟩ := HB7.out.fnd.c
  have f0 := HB7.out.fnd.f
  have HB8 := Lib.hid (((HB7.out.set (y := { x with t := v, l := L, at_ := 0 }) 8 (.int .i64 ((0 : Nat) : Int)) rfl (fun _ => rfl)).set (y := { x with t := v, l := L, at_ := 0, slot := -1 }) 10 (.int .i64 (-1)) rfl (fun _ => rfl)).set (y := { x with t := v, l := L, at_ := 0, slot := -1, line := 2 }) 0 (.int .i64 2) rfl (fun _ => rfl))
  go_wp2_with (fail)
  go_end0
  refine ⟨rfl, ?_⟩
  have e : x.tab v = { x with t := v, l := L, at_ := 0, slot := -1, line := 2 } := by unfold RF.tab; rw [HL.out]
  rw [e]
  exact HB8.out
/-- Behind the tags of a place. -/
def RF.tag (x : RF) (v : Int) : RF := ({ x with tags := v } : RF).nx 0
theorem RFindAt.pl' {w : World} {lo fb : Nat} {x : RF} (h : RFindAt w lo fb x) (k : Nat) (hk : k < x.l.length) (p : Int × Int) (hp : x.l[k] = p) : ∃ g cap, w.cell? ⟨fb, 7, none⟩ = some (.slice (some ⟨g, 0, none⟩) x.l.length cap) ∧ w.cell? ⟨g, k * 2, none⟩ = some (.int .i64 p.1) ∧ w.cell? ⟨g, k * 2 + 1, none⟩ = some (.int .i64 p.2) := by
  subst hp; exact h.pl k hk
abbrev TSl (fb : Nat) (s : Int) (W : World) : Prop := W.cell? ⟨fb, 10, none⟩ = some (.int .i64 s)
set_option maxRecDepth 10000 in
set_option maxHeartbeats 4000000 in
theorem rfstep2 {w0 w : World} {R : WB} {V : WV} {xr : RS} {fb : Nat} {x : RF} (h : RD w0 w R V xr) (hr : xr.room) (hx : RFindAt w w0.heap.size fb x) (hk : x.key.size ≤ 1000000) (h1 : x.line = 2) (hs : x.slot = -1) (hat : x.at_ < x.l.length) (hll : x.l.length ≤ 4) (v : Int) (hv : v = rlook xr.l (tagsA (x.l[x.at_]).1 (x.l[x.at_]).2)) (hvb : 0 ≤ v ∧ v < 18446744073709551616) :
    Calls Tryz.prog 26 #[.pointer (some ⟨fb, 0, none⟩), .pointer (some ⟨R.wb, 0, none⟩)] w fun e w' => e = .returned (.tuple #[]) ∧ RFB w0 w w' R V (xr.acc 1 (tagsA (x.l[x.at_]).1 (x.l[x.at_]).2) v) fb (x.tag v) := by
  have hB : RFB w0 w w R V xr fb x := ⟨h, hx, (below_fr (Below.refl _ _) rTy false).fx fb⟩
  obtain ⟨p, hp⟩ : ∃ p, p = x.l[x.at_] := ⟨_, rfl⟩
  rw [← hp] at hv ⊢
  obtain ⟨g, cap, d7, q0, q1⟩ := hx.pl' x.at_ hat p hp.symm
  obtain ⟨c0, -, -, -, -, -, -, -, c8, -, c10⟩ := hx.c
  rw [h1] at c0
  rw [hs] at c10
  obtain ⟨p1, p2⟩ := p
  simp only at hv q0 q1 ⊢
  have hTG := fun W => rtags_any p1 p2 W
  obtain ⟨A, hA⟩ : ∃ A, A = tagsA p1 p2 := ⟨_, rfl⟩
  rw [← hA] at hv hTG ⊢
  have hAw : (Lit.int .u64 A).wf = true := by rw [hA]; exact tagsA_wf _ _
  have hld := fun W (hW : Below w.heap.size w W) => rwload (h.keep hW) hr A hAw
  have HLD := Lib.hid hld; have HV := Lib.hid hv
  have i0 : (0 : Int) ≤ x.at_ := by omega
  have i1 : (x.at_ : Int) < x.l.length := by omega
  have HB := Lib.hid hB; have HK := Lib.hid hk; have HVB := Lib.hid hvb; have HATL := Lib.hid (show x.at_ ≤ 1000 by omega)
  have al : ∀ (o : Obj) {q j : Nat} {u : Value}, w.cell? ⟨q, j, none⟩ = some u → (w.alloc o).cell? ⟨q, j, none⟩ = some u := fun o q j u hu => by rw [World.cell?_alloc_past _ _ _ (World.block_lt_of_cell? _ _ hu)]; exact hu
  have d7' := fun o => al o d7
  have c8' := fun o => al o c8
  have q0' := fun o => al o q0
  have q1' := fun o => al o q1
  have HC10 := Lib.hid c10
  clear hB h hr hx hk h1 hs hat hll hv hvb hp hA hAw hld al c10
  go_enter Tryz.func26, Tryz.ntmps26
  go_upto_region 8 with (fail)
  clear c0
  go_region
  go_upto_region 9 with (fail)
  have n1 : (w.alloc (.cells #[.int .i64 p1, .int .i64 p2] 69)).drew.heap[w.heap.size]? = some (.cells #[.int .i64 p1, .int .i64 p2] 69 (0, 0)) := heap_alloc_new w (.cells #[.int .i64 p1, .int .i64 p2] 69)
  have k1 := (below_alloc w (.cells #[.int .i64 p1, .int .i64 p2] 69)).drew
  have HB2 := Lib.hid (HB.out.below k1); have K1 := Lib.hid k1; have N1 := Lib.hid n1
  clear d7 c8 q0 q1 d7' c8' q0' q1' i0 i1 n1 k1
  generalize (w.alloc (.cells #[.int .i64 p1, .int .i64 p2] 69)).drew = w2 at *
  obtain ⟨nb, hnb⟩ : ∃ nb, nb = w.heap.size := ⟨_, rfl⟩
  rw [← hnb] at N1
  try simp only [← hnb]
  clear hnb
  have c10 : w2.cell? ⟨fb, 10, none⟩ = some (.int .i64 (-1)) := (K1.out.cell (World.block_lt_of_cell? _ _ HC10.out)).trans HC10.out
  have n0 := hcell N1.out 0
  have n1 := hcell N1.out 1
  go_upto_region 11 with (first
    | (go_at_call 88; refine (hTG _).mono ?_; intro e w3 hh; obtain ⟨hh1, b3⟩ := hh; subst hh1; have HB3 := Lib.hid (HB2.out.below b3); have hl3 := HLD.out w3 (K1.out.trans (b3.mono K1.out.size)); rw [← HV.out] at hl3; clear b3 hTG c10 n0 n1 HB2)
    | (go_at_call 87; refine hl3.mono ?_; intro e w4 hh; obtain ⟨hh1, h4, f4⟩ := hh; subst hh1; have HB4 := Lib.hid (HB3.out.move h4 f4); obtain ⟨-, -, -, -, -, -, -, -, -, c9, -⟩ := HB4.out.fnd.c; have f9 := HB4.out.fnd.f 9; clear h4 f4 hl3 HB3))
  have HB5 := Lib.hid (HB4.out.set (y := { x with tags := v }) 9 (.int .u64 v) rfl (fun _ => rfl))
  have hnx := rnext 0 (by decide) HB5.out HK.out HVB.out HATL.out
  clear c9 f9 HB4
  generalize w4.setCell ⟨fb, 9, none⟩ (.int .u64 v) = w5 at *
  go_wp2_with (go_at_call 114; refine hnx.mono ?_; intro e w6 hh; obtain ⟨hh1, h6⟩ := hh; subst hh1; have HB6 := Lib.hid h6; clear h6 hnx)
  refine bodyPost_ret (v := .tuple #[]) (by simp [results, Tryz.results26, go_sem]) rfl ⟨rfl, HB6.out⟩
/-- Behind the item of a slot. -/
def RF.itm (its : List Itm) (x : RF) (p : Int × Int) (n : Nat) (v : Int) : RF := if ((atOf its (wrap64 v)).2 && decide ((atOf its (wrap64 v)).1.key = x.key)) = true then { x with b := p.1, u := p.2, k := n, ref := wrap64 v, line := 0 } else x.nx (n + 1)
set_option maxRecDepth 10000 in
set_option maxHeartbeats 4000000 in
theorem rfstep3 {w0 w : World} {R : WB} {V : WV} {xr : RS} {fb : Nat} {x : RF} (h : RD w0 w R V xr) (hr : xr.room) (hl : V.its.length ≤ 1048576) (hx : RFindAt w w0.heap.size fb x) (hk : x.key.size ≤ 1000000) (htb : 0 ≤ x.tags ∧ x.tags < 18446744073709551616) (h1 : x.line = 2) (n : Nat) (hn : n < 4) (hs : x.slot = n) (hat : x.at_ < x.l.length) (hll : x.l.length ≤ 4) (v : Int) (hv : v = rlook xr.l (itemA (x.l[x.at_]).1 (x.l[x.at_]).2 n)) :
    Calls Tryz.prog 26 #[.pointer (some ⟨fb, 0, none⟩), .pointer (some ⟨R.wb, 0, none⟩)] w fun e w' => e = .returned (.tuple #[]) ∧ RFB w0 w w' R V (xr.acc 1 (itemA (x.l[x.at_]).1 (x.l[x.at_]).2 n) v) fb (RF.itm V.its x x.l[x.at_] n v) := by
  have hB : RFB w0 w w R V xr fb x := ⟨h, hx, (below_fr (Below.refl _ _) rTy false).fx fb⟩
  obtain ⟨p, hp⟩ : ∃ p, p = x.l[x.at_] := ⟨_, rfl⟩
  rw [← hp] at hv ⊢
  obtain ⟨g, cap, d7, q0, q1⟩ := hx.pl' x.at_ hat p hp.symm
  obtain ⟨c0, -, -, -, -, -, -, -, c8, -, c10⟩ := hx.c
  rw [h1] at c0
  rw [hs] at c10
  obtain ⟨p1, p2⟩ := p
  simp only at hv q0 q1 ⊢
  have hnw : (Lit.int .i64 (n : Int)).wf = true := by simp [Lit.wf, IntKind.min, IntKind.max, IntKind.bits, IntKind.signed]; omega
  have hIT := fun W => ritem_any p1 p2 n hnw W
  obtain ⟨A, hA⟩ : ∃ A, A = itemA p1 p2 n := ⟨_, rfl⟩
  rw [← hA] at hv hIT ⊢
  have hAw : (Lit.int .u64 A).wf = true := by rw [hA]; exact itemA_wf _ _ _
  have hld := fun W (hW : Below w.heap.size w W) => rwload (h.keep hW) hr A hAw
  have HLD := Lib.hid hld; have HV := Lib.hid hv
  have i0 : (0 : Int) ≤ x.at_ := by omega
  have i1 : (x.at_ : Int) < x.l.length := by omega
  have n0 : ¬ ((n : Int) < 0) := by omega
  have HB := Lib.hid hB; have HK := Lib.hid hk; have HTB := Lib.hid htb; have HATL := Lib.hid (show x.at_ ≤ 1000 by omega); have HNN := Lib.hid hn; have HL := Lib.hid hl; have HSS := Lib.hid hs
  have al : ∀ (o : Obj) {q j : Nat} {u : Value}, w.cell? ⟨q, j, none⟩ = some u → (w.alloc o).cell? ⟨q, j, none⟩ = some u := fun o q j u hu => by rw [World.cell?_alloc_past _ _ _ (World.block_lt_of_cell? _ _ hu)]; exact hu
  have d7' := fun o => al o d7
  have c8' := fun o => al o c8
  have q0' := fun o => al o q0
  have q1' := fun o => al o q1
  have HC10 := Lib.hid c10
  clear hB h hr hx hk htb h1 hs hat hll hv hp hA hAw hld al c10 hn hnw hl
  go_enter Tryz.func26, Tryz.ntmps26
  go_upto_region 8 with (fail)
  clear c0
  go_region
  go_upto_region 9 with (fail)
  have n1 : (w.alloc (.cells #[.int .i64 p1, .int .i64 p2] 69)).drew.heap[w.heap.size]? = some (.cells #[.int .i64 p1, .int .i64 p2] 69 (0, 0)) := heap_alloc_new w (.cells #[.int .i64 p1, .int .i64 p2] 69)
  have k1 := (below_alloc w (.cells #[.int .i64 p1, .int .i64 p2] 69)).drew
  have HB2 := Lib.hid (HB.out.below k1); have K1 := Lib.hid k1; have N1 := Lib.hid n1
  clear d7 c8 q0 q1 d7' c8' q0' q1' i0 i1 n1 k1
  generalize (w.alloc (.cells #[.int .i64 p1, .int .i64 p2] 69)).drew = w2 at *
  obtain ⟨nb, hnb⟩ : ∃ nb, nb = w.heap.size := ⟨_, rfl⟩
  rw [← hnb] at N1
  try simp only [← hnb]
  clear hnb
  have c10 : w2.cell? ⟨fb, 10, none⟩ = some (.int .i64 n) := (K1.out.cell (World.block_lt_of_cell? _ _ HC10.out)).trans HC10.out
  have m0 := hcell N1.out 0
  have m1 := hcell N1.out 1
  go_upto_region 12 with (fail)
  clear n0
  have al : ∀ (o : Obj) {q j : Nat} {u : Value}, w2.cell? ⟨q, j, none⟩ = some u → (w2.alloc o).cell? ⟨q, j, none⟩ = some u := fun o q j u hu => by rw [World.cell?_alloc_past _ _ _ (World.block_lt_of_cell? _ _ hu)]; exact hu
  have c10' := fun o => al o c10
  have m0' := fun o => al o (show w2.cell? ⟨nb, 0, none⟩ = some (.int .i64 p1) from m0)
  have m1' := fun o => al o (show w2.cell? ⟨nb, 1, none⟩ = some (.int .i64 p2) from m1)
  clear al
  go_region
  go_upto_region 13 with (fail)
  have n3 : (w2.alloc (.cells #[.int .i64 p1, .int .i64 p2, .int .i64 n] 71)).drew.heap[w2.heap.size]? = some (.cells #[.int .i64 p1, .int .i64 p2, .int .i64 n] 71 (0, 0)) := heap_alloc_new w2 (.cells #[.int .i64 p1, .int .i64 p2, .int .i64 n] 71)
  have k3 := (below_alloc w2 (.cells #[.int .i64 p1, .int .i64 p2, .int .i64 n] 71)).drew
  have HB3 := Lib.hid (HB2.out.below k3); have K3 := Lib.hid (K1.out.trans (k3.mono K1.out.size)); have N3 := Lib.hid n3
  clear c10 m0 m1 c10' m0' m1' n3 k3 HB2 N1
  generalize (w2.alloc (.cells #[.int .i64 p1, .int .i64 p2, .int .i64 n] 71)).drew = w3 at *
  obtain ⟨sb, hsb⟩ : ∃ sb, sb = w2.heap.size := ⟨_, rfl⟩
  rw [← hsb] at N3
  try simp only [← hsb]
  clear hsb
  have m0 := hcell N3.out 0
  have m1 := hcell N3.out 1
  have m2 := hcell N3.out 2
  go_upto_region 14 with (first
    | (go_at_call 115; refine (hIT _).mono ?_; intro e w4 hh; obtain ⟨hh1, b4⟩ := hh; subst hh1; have HB4 := Lib.hid (HB3.out.below b4); have N4 := Lib.hid ((b4.block _ (Array.getElem?_eq_some_iff.1 N3.out).1).trans N3.out); have hl4 := HLD.out w4 (K3.out.trans (b4.mono K3.out.size)); rw [← HV.out] at hl4; clear b4 hIT m0 m1 m2 HB3 N3)
    | (go_at_call 87; refine hl4.mono ?_; intro e w5 hh; obtain ⟨hh1, h5, f5⟩ := hh; subst hh1; have HB5 := Lib.hid (HB4.out.move h5 f5); have N5 := Lib.hid (f5.cells _ _ _ _ N4.out rfl); obtain ⟨-, -, -, -, -, c5, -, -, -, -, -⟩ := HB5.out.fnd.c; clear h5 f5 hl4 HB4 N4))
  have hky := rkey15 HB5.out.rd HL.out (wrap64 v) x.key
  obtain ⟨d, hd⟩ : ∃ d, d = ((atOf V.its (wrap64 v)).2 && decide ((atOf V.its (wrap64 v)).1.key = x.key)) := ⟨_, rfl⟩
  rw [← hd] at hky
  have hfin : RF.itm V.its x (p1, p2) n v = if d = true then { x with b := p1, u := p2, k := n, ref := wrap64 v, line := 0 } else x.nx (n + 1) := by unfold RF.itm; rw [← hd]
  have HFIN := Lib.hid hfin
  obtain ⟨rw_, hrw⟩ : ∃ rw_, rw_ = wrap64 v := ⟨_, rfl⟩
  have HRW := Lib.hid hrw
  rw [← hrw] at hky
  try rw [← hrw]
  clear hd hfin hrw
  cases d
  · have hnx := fun W (hW : RFB w0 w W R V (xr.acc 1 A v) fb x) => rnext (n + 1) (by have := HNN.out; omega) hW HK.out HTB.out HATL.out
    have hsum : wrap64 ((n : Int) + 1) = ((n + 1 : Nat) : Int) := by
      have := HNN.out
      rw [IntWalk.wrap64_in _ (by omega)]; push_cast; rfl
    have hnn : (n : Int) < 4 := by have := HNN.out; omega
    go_upto_region 18 with (go_at_call 116; refine hky.mono ?_; intro e w6 hh; obtain ⟨hh1, b6⟩ := hh; subst hh1; have HB6 := Lib.hid (HB5.out.below b6); obtain ⟨-, -, -, -, -, -, -, -, -, -, c10⟩ := HB6.out.fnd.c; clear b6 hky c5)
    rw [HSS.out] at c10
    go_wp2_with (go_at_call 114; refine (hnx _ HB6.out).mono ?_; intro e w7 hh; obtain ⟨hh1, h7⟩ := hh; subst hh1; have HB7 := Lib.hid h7; clear h7 hnx c10)
    go_end0
    refine ⟨rfl, ?_⟩
    rw [HFIN.out, if_neg (by simp)]
    exact HB7.out
  · go_upto_region 15 with (go_at_call 116; refine hky.mono ?_; intro e w6 hh; obtain ⟨hh1, b6⟩ := hh; subst hh1; have HB6 := Lib.hid (HB5.out.below b6); have N6 := Lib.hid ((b6.block _ (Array.getElem?_eq_some_iff.1 N5.out).1).trans N5.out); clear b6 hky c5)
    have m0 := hcell N6.out 0
    have m1 := hcell N6.out 1
    have m2 := hcell N6.out 2
    obtain ⟨e0, e1, e2, e3, e4, -⟩ := HB6.out.fnd.c
    have ef := HB6.out.fnd.f
    have HB7 := Lib.hid (((((HB6.out.set (y := { x with b := p1 }) 1 (.int .i64 p1) rfl (fun _ => rfl)).set (y := { x with b := p1, u := p2 }) 2 (.int .i64 p2) rfl (fun _ => rfl)).set (y := { x with b := p1, u := p2, k := n }) 3 (.int .i64 n) rfl (fun _ => rfl)).set (y := { x with b := p1, u := p2, k := n, ref := rw_ }) 4 (.int .i64 rw_) rfl (fun _ => rfl)).set (y := { x with b := p1, u := p2, k := n, ref := rw_, line := 0 }) 0 (.int .i64 0) rfl (fun _ => rfl))
    go_wp2_with (fail)
    refine bodyPost_ret (v := .tuple #[]) (by simp [results, Tryz.results26, go_sem]) rfl ⟨rfl, ?_⟩
    rw [HFIN.out, ← HRW.out]
    exact HB7.out
theorem rfstep0 {w : World} {lo fb : Nat} {x : RF} (hx : RFindAt w lo fb x) (h1 : x.line = 0) (u : Value) :
    Calls Tryz.prog 26 #[.pointer (some ⟨fb, 0, none⟩), u] w fun e w' => e = .returned (.tuple #[]) ∧ w' = w := by
  obtain ⟨c0, -⟩ := hx.c
  rw [h1] at c0
  clear hx h1
  go_enter Tryz.func26, Tryz.ntmps26
  go_wp2
  go_end0
  exact ⟨rfl, rfl⟩
theorem rnewfind (key : ByteArray) (w : World) : Calls Tryz.prog 25 #[.string key] w fun e w' => ∃ fb, e = .returned (.pointer (some ⟨fb, 0, none⟩)) ∧ RFindAt w' w.heap.size fb ⟨1, 0, 0, 0, 0, key, 0, [], 0, 0, 0⟩ ∧ w.heap.size ≤ fb ∧ Below w.heap.size w w' := by
  have hb := below_alloc w (.cells #[.int .i64 1, .int .i64 0, .int .i64 0, .int .i64 0, .int .i64 0, .string key, .int .u64 0, .slice none 0 0, .int .i64 0, .int .u64 0, .int .i64 0] 74)
  have hz := heap_alloc_new w (.cells #[.int .i64 1, .int .i64 0, .int .i64 0, .int .i64 0, .int .i64 0, .string key, .int .u64 0, .slice none 0 0, .int .i64 0, .int .u64 0, .int .i64 0] 74)
  go_enter Tryz.func25, Tryz.ntmps25
  go_wp2
  go_ret
  exact ⟨_, rfl, ⟨Nat.le_refl _, _, hz, World.ownsRow_nil _ _ _ _⟩, Nat.le_refl _, hb⟩
theorem rfgot {w : World} {lo fb : Nat} {x : RF} (hx : RFindAt w lo fb x) : Calls Tryz.prog 118 #[.pointer (some ⟨fb, 0, none⟩)] w fun e w' => e = .returned (.tuple (if x.line = 0 then #[.agg #[.int .i64 x.b, .int .i64 x.u, .int .i64 x.k], .int .i64 x.ref] else #[.agg #[.int .i64 0, .int .i64 0, .int .i64 0], .int .i64 0])) ∧ Below w.heap.size w w' := by
  obtain ⟨c0, c1, c2, c3, c4, -⟩ := hx.c
  have hne := hx.lt
  have hb := below_alloc w (.cells #[.int .i64 0, .int .i64 0, .int .i64 0] 71)
  have hz := heap_alloc_new w (.cells #[.int .i64 0, .int .i64 0, .int .i64 0] 71)
  have k : ∀ {j : Nat} {u : Value}, w.cell? ⟨fb, j, none⟩ = some u → (w.alloc (.cells #[.int .i64 0, .int .i64 0, .int .i64 0] 71)).cell? ⟨fb, j, none⟩ = some u := fun h => (hb.cell hne).trans h
  have hne2 : fb ≠ w.heap.size := Nat.ne_of_lt hne
  have g0 := k c0; have g1 := k c1; have g2 := k c2; have g3 := k c3; have g4 := k c4
  have d0 := hcell hz 0; have d1 := hcell hz 1; have d2 := hcell hz 2
  have f0 := hfrz hz 0; have f1 := hfrz hz 1; have f2 := hfrz hz 2
  have HB := Lib.hid hb; have HZ := Lib.hid hz
  clear hx c0 c1 c2 c3 c4 k hb hz hne
  by_cases hl : x.line = 0
  · rw [if_pos hl]
    rw [hl] at g0
    clear hl
    go_enter Tryz.func118, Tryz.ntmps118
    go_upto_region 1 with (fail)
    change Code.wp _ _ _ _ (w.alloc (.cells #[.int .i64 0, .int .i64 0, .int .i64 0] 71))
    generalize w.alloc (.cells #[.int .i64 0, .int .i64 0, .int .i64 0] 71) = w1 at *
    go_upto_region 3 with (fail)
    go_region
    all_goals (try go_wp2_with fail)
    have s1 := setCell_same HZ.out 0 (.int .i64 x.b)
    have s2 := setCell_same s1 1 (.int .i64 x.u)
    have s3 := setCell_same s2 2 (.int .i64 x.k)
    have h0 := hcell s3 0; have h1 := hcell s3 1; have h2 := hcell s3 2
    have b1 := set_below HB.out HB.out.size (Nat.le_refl _) 0 (.int .i64 x.b)
    have b2 := set_below b1 b1.size (Nat.le_refl _) 1 (.int .i64 x.u)
    have b3 := set_below b2 b2.size (Nat.le_refl _) 2 (.int .i64 x.k)
    clear d0 d1 d2 g0 g1 g2 g3 g4 f0 f1 f2
    all_goals refine bodyPost_ret (v := .tuple #[.agg #[.int .i64 x.b, .int .i64 x.u, .int .i64 x.k], .int .i64 x.ref]) (by simp [results, Tryz.results118, go_sem, h0, h1, h2]) rfl ⟨rfl, ?_⟩
    all_goals exact ⟨b3.os, b3.tape, b3.output, b3.size, fun k hk => b3.block k hk⟩
  · rw [if_neg hl]
    have hl1 : (x.line != 0) = true := by simpa using hl
    clear hl
    go_enter Tryz.func118, Tryz.ntmps118
    go_upto_region 1 with (fail)
    change Code.wp _ _ _ _ (w.alloc (.cells #[.int .i64 0, .int .i64 0, .int .i64 0] 71))
    generalize w.alloc (.cells #[.int .i64 0, .int .i64 0, .int .i64 0] 71) = w1 at *
    have s1 := setCell_same HZ.out 0 (.int .i64 0)
    have s2 := setCell_same s1 1 (.int .i64 0)
    have s3 := setCell_same s2 2 (.int .i64 0)
    have h0 := hcell s3 0; have h1 := hcell s3 1; have h2 := hcell s3 2
    have b1 := set_below HB.out HB.out.size (Nat.le_refl _) 0 (.int .i64 0)
    have b2 := set_below b1 b1.size (Nat.le_refl _) 1 (.int .i64 0)
    have b3 := set_below b2 b2.size (Nat.le_refl _) 2 (.int .i64 0)
    have B3 := Lib.hid b3; have H0 := Lib.hid h0; have H1 := Lib.hid h1; have H2 := Lib.hid h2
    clear s1 s2 s3 h0 h1 h2 b1 b2 b3
    go_wp2_with fail
    have h0 := H0.out; have h1 := H1.out; have h2 := H2.out
    refine bodyPost_ret (v := .tuple #[.agg #[.int .i64 0, .int .i64 0, .int .i64 0], .int .i64 0]) (by simp [results, Tryz.results118, go_sem, h0, h1, h2]) rfl ⟨rfl, B3.out⟩
theorem rfword {w : World} {lo fb : Nat} {x : RF} (hx : RFindAt w lo fb x) : Calls Tryz.prog 119 #[.pointer (some ⟨fb, 0, none⟩)] w fun e w' => e = .returned (.int .u64 (if x.line = 0 then x.t else 0)) ∧ w' = w := by
  obtain ⟨c0, -, -, -, -, -, c6, -⟩ := hx.c
  clear hx
  by_cases hl : x.line = 0
  · rw [if_pos hl]
    rw [hl] at c0
    clear hl
    go_enter Tryz.func119, Tryz.ntmps119
    go_wp2
    go_ret
    exact ⟨rfl, rfl⟩
  · rw [if_neg hl]
    have hl1 : (x.line != 0) = true := by simpa using hl
    clear hl
    go_enter Tryz.func119, Tryz.ntmps119
    go_wp2
    go_ret
    exact ⟨rfl, rfl⟩
end Go.Proofs.YtomllmlieeaaiaaGreat

/-
  FindsPlay: a Find of both sides: what it rests on, what a step makes of it.
-/
namespace Go.Proofs.YtomllmlieeaaiaaGreat
open Go.RowKit Go.Maps TagPure
set_option linter.unusedVariables false

/-- Both sides tell of one Find. -/
structure FRel (f : FW) (ls : List Ld) (x : RF) : Prop where
  key : x.key = f.key
  tags : 0 ≤ x.tags ∧ x.tags < 18446744073709551616
  len : x.l.length ≤ 4
  off : x.line ≠ 0 → f.b = 0 ∧ f.u = 0 ∧ f.k = 0 ∧ f.ref = 0
  cs : (x.line = 1 ∧ ls = [.tab])
    ∨ (x.line = 2 ∧ f.word = x.t ∧ ∃ hat : x.at_ < x.l.length, x.slot = -1 ∧ ls = (x.l.drop x.at_).map Ld.tag)
    ∨ (x.line = 2 ∧ f.word = x.t ∧ ∃ (hat : x.at_ < x.l.length) (n : Nat), n < 4 ∧ x.slot = n ∧ ls = (n :: hasF x.tags (tag01 (hashOf x.key)) (n + 1) (4 - (n + 1))).map (fun (i : Nat) => Ld.itm x.l[x.at_] i) ++ (x.l.drop (x.at_ + 1)).map Ld.tag)
    ∨ (x.line = 0 ∧ ls = [] ∧ f.word = x.t ∧ f.b = x.b ∧ f.u = x.u ∧ f.k = x.k ∧ f.ref = x.ref)
theorem hasF_head {tags T : Int} : ∀ {m n i : Nat} {r : List Nat}, hasF tags T n m = i :: r → n ≤ i ∧ i < n + m ∧ r = hasF tags T (i + 1) (n + m - (i + 1)) := by
  intro m
  induction m with
  | zero => intro n i r h; cases h
  | succ m ih =>
    intro n i r h
    unfold hasF at h
    split at h
    · simp only [List.cons.injEq] at h
      obtain ⟨rfl, rfl⟩ := h
      exact ⟨Nat.le_refl _, by omega, by rw [show n + (m + 1) - (n + 1) = m by omega]⟩
    · obtain ⟨h1, h2, h3⟩ := ih h
      exact ⟨by omega, by omega, by rw [h3, show n + 1 + m - (i + 1) = n + (m + 1) - (i + 1) by omega]⟩
/-- Behind 'next'. -/
theorem frel_nx {f : FW} {x : RF} (hk : x.key = f.key) (ht : 0 ≤ x.tags ∧ x.tags < 18446744073709551616) (hl : x.l.length ≤ 4) (ho : f.b = 0 ∧ f.u = 0 ∧ f.k = 0 ∧ f.ref = 0) (hxo : x.b = 0 ∧ x.u = 0 ∧ x.k = 0 ∧ x.ref = 0) (hw : f.word = x.t) (h2 : x.line = 2) (hat : x.at_ < x.l.length) (frm : Nat) (hf : frm ≤ 4) :
    FRel f ((hasF x.tags (tag01 (hashOf x.key)) frm (4 - frm)).map (fun (i : Nat) => Ld.itm x.l[x.at_] i) ++ (x.l.drop (x.at_ + 1)).map Ld.tag) (x.nx frm) := by
  unfold RF.nx
  cases hh : hasF x.tags (tag01 (hashOf x.key)) frm (4 - frm) with
  | nil =>
    by_cases he : x.at_ + 1 = x.l.length
    · refine ⟨hk, ht, hl, fun _ => ho, .inr (.inr (.inr ⟨?_, ?_, hw, ?_⟩))⟩
      · show (if x.at_ + 1 = x.l.length then 0 else x.line) = 0
        rw [if_pos he]
      · rw [List.drop_eq_nil_of_le (by omega)]; rfl
      · obtain ⟨a, b, c, d⟩ := ho
        obtain ⟨a', b', c', d'⟩ := hxo
        exact ⟨a.trans a'.symm, b.trans b'.symm, c.trans c'.symm, d.trans d'.symm⟩
    · refine ⟨hk, ht, hl, fun _ => ho, .inr (.inl ⟨?_, hw, ?_, rfl, rfl⟩)⟩
      · show (if x.at_ + 1 = x.l.length then 0 else x.line) = 2
        rw [if_neg he]; exact h2
      · show x.at_ + 1 < x.l.length
        omega
  | cons n r =>
    obtain ⟨h3, h4, h5⟩ := hasF_head hh
    refine ⟨hk, ht, hl, fun _ => ho, .inr (.inr (.inl ⟨h2, hw, hat, n, by omega, rfl, ?_⟩))⟩
    show (n :: r).map _ ++ _ = _
    rw [h5, show frm + (4 - frm) - (n + 1) = 4 - (n + 1) by omega]
    rfl
/-- What both sides say. -/
structure FPd where
  f : FW
  ls : List Ld
  x : RF
def qFd (T : TypeId) : Bool := T == 227 || T == 74
structure FdP (w : World) (lo : Nat) (o : PO FPd) (S : Nat → Prop) : Prop where
  lo_ : lo ≤ o.pb
  p : FindAt w o.pb o.a.f o.a.ls
  r : RFindAt w lo o.rb o.a.x
  rel : FRel o.a.f o.a.ls o.a.x
  xo : o.a.x.line ≠ 0 → o.a.x.b = 0 ∧ o.a.x.u = 0 ∧ o.a.x.k = 0 ∧ o.a.x.ref = 0
  key : o.a.f.key.size ≤ 400
  s : S = fun k => k = o.pb ∨ k = o.rb
theorem zkeep_frF {Z : TypeId → Bool} {w w' : World} (hz : ZKeep Z w w') (hs : w.heap.size ≤ w'.heap.size) : Fr (fun T => !Z T) true w w' := ⟨hs, fun k cs T fr h hT => hz k cs T fr h (by simpa using hT), fun c => by cases c⟩
theorem FindAt.blk {w : World} {fb : Nat} {f : FW} {ls : List Ld} (h : FindAt w fb f ls) : ∃ cs, w.heap[fb]? = some (.cells cs 227 (0, 0)) := by obtain ⟨v, h3, _⟩ := h; exact ⟨_, h3⟩
theorem fd_law : POLaw (α := FPd) 67 qFd fTy FdP where
  q := fun T hT => by
    unfold qFd at hT
    simp only [Bool.or_eq_true, beq_iff_eq] at hT
    rcases hT with rfl | rfl <;> exact ⟨rfl, by decide, by decide, rfl⟩
  z := fun T hT => by
    unfold fTy at hT
    simp only [Bool.or_eq_true, beq_iff_eq] at hT
    rcases hT with ((rfl | rfl) | rfl) | rfl <;> exact ⟨rfl, by decide⟩
  ot := ⟨rfl, by decide⟩
  keep := fun {w w' lo o S} h hs hk hz => by
    have e := h.s
    have k1 : w'.heap[o.pb]? = w.heap[o.pb]? := hk _ (by rw [e]; exact .inl rfl)
    have k2 : w'.heap[o.rb]? = w.heap[o.rb]? := hk _ (by rw [e]; exact .inr rfl)
    have hf := zkeep_frF hz hs
    obtain ⟨v, p1, p2⟩ := h.p
    obtain ⟨l0, u, r1, r2⟩ := h.r
    exact ⟨h.lo_, ⟨v, k1.trans p1, p2.fr hf (fun T hT => by simp [hT])⟩, ⟨l0, u, k2.trans r1, own_fr r2 hf rfl⟩, h.rel, h.xo, h.key, e⟩
  lo := fun {w lo o S k} h hk => by
    rw [h.s] at hk
    rcases hk with rfl | rfl
    · exact h.lo_
    · exact h.r.low
  lower := fun {w lo lo' o S} h hl => by
    obtain ⟨l0, u, r1, r2⟩ := h.r
    exact ⟨Nat.le_trans hl h.lo_, h.p, ⟨Nat.le_trans hl l0, u, r1, plr_lo r2 hl⟩, h.rel, h.xo, h.key, h.s⟩
  blk := fun {w lo o S k} h hk => by
    rw [h.s] at hk
    rcases hk with rfl | rfl
    · obtain ⟨cs, e⟩ := h.p.blk; exact .inl ⟨_, _, _, e, rfl⟩
    · obtain ⟨cs, e⟩ := h.r.blk; exact .inl ⟨_, _, _, e, rfl⟩
end Go.Proofs.YtomllmlieeaaiaaGreat

/-
  Looks: places and stripes, small facts.
-/
namespace Go.Proofs.YtomllmlieeaaiaaGreat
open Go.RowKit Go.Maps TagPure
set_option linter.unusedVariables false

theorem xor_ltL (x y : Int) (n : Nat) (hn : n ≤ 12) (hx : 0 ≤ x ∧ x < ((2 ^ n : Nat) : Int)) (hy : 0 ≤ y ∧ y < ((2 ^ n : Nat) : Int)) : 0 ≤ bits .xor .i64 x y ∧ bits .xor .i64 x y < ((2 ^ n : Nat) : Int) := by
  have hp : (2 : Nat) ^ n ≤ 2 ^ 12 := Nat.pow_le_pow_right (by decide) hn
  obtain ⟨a, rfl⟩ := Int.eq_ofNat_of_zero_le hx.1
  obtain ⟨b, rfl⟩ := Int.eq_ofNat_of_zero_le hy.1
  have ha : a < 2 ^ n := by exact_mod_cast hx.2
  have hb : b < 2 ^ n := by exact_mod_cast hy.2
  have key : (BitVec.ofInt 64 (a : Int) ^^^ BitVec.ofInt 64 (b : Int)).toNat = a ^^^ b := by
    rw [BitVec.toNat_xor, BitVec.toNat_ofInt, BitVec.toNat_ofInt]
    congr 1 <;> omega
  have hlt := Nat.xor_lt_two_pow ha hb
  have e : bits .xor .i64 (a : Int) (b : Int) = IntKind.i64.wrap (((BitVec.ofInt 64 (a : Int) ^^^ BitVec.ofInt 64 (b : Int)).toNat : Nat) : Int) := rfl
  rw [e, key, IntKind.wrap_i64]
  omega
theorem tsize_powL {b : Int} (hb : 1 ≤ b ∧ b ≤ 12) : tsize b = ((2 ^ b.toNat : Nat) : Int) := by
  rw [tsize_in hb]
  rcases twelve hb with rfl | rfl | rfl | rfl | rfl | rfl | rfl | rfl | rfl | rfl | rfl | rfl <;> rfl
theorem mask_i64L (x : Int) (m k : Nat) (hm : m = 2 ^ k - 1) (hk : k ≤ 62) (h0 : 0 ≤ x) (h1 : x < 9223372036854775808) : bits .and .i64 x (m : Int) = x % ((2 ^ k : Nat) : Int) := by
  have hp : (2 : Nat) ^ k ≤ 2 ^ 62 := Nat.pow_le_pow_right (by decide) hk
  have hp0 : 0 < (2 : Nat) ^ k := Nat.two_pow_pos k
  have hmm : (BitVec.ofInt 64 (m : Int)).toNat = 2 ^ k - 1 := by
    rw [BitVec.toNat_ofInt]; omega
  have key : (BitVec.ofInt 64 x &&& BitVec.ofInt 64 (m : Int)).toNat = (x % ((2 ^ 64 : Nat) : Int)).toNat % 2 ^ k := by
    rw [BitVec.toNat_and, BitVec.toNat_ofInt, hmm, Nat.and_two_pow_sub_one_eq_mod]
  show IntKind.i64.wrap ((BitVec.ofInt 64 x &&& BitVec.ofInt 64 (m : Int)).toNat : Nat) = _
  rw [key, IntKind.wrap_i64]
  obtain ⟨n, rfl⟩ := Int.eq_ofNat_of_zero_le h0
  have e : ((n : Int) % ((2 ^ 64 : Nat) : Int)).toNat = n := by omega
  rw [e]
  have hlt := Nat.mod_lt n hp0
  rw [← Int.natCast_emod]
  omega
theorem mask_modL (m b : Int) (hm : 0 ≤ m) (hm2 : m < 9223372036854775808) (hb : 1 ≤ b ∧ b ≤ 12) : bits .and .i64 m (tsize b - 1) = m % tsize b := by
  rw [tsize_in hb]
  rcases twelve hb with rfl | rfl | rfl | rfl | rfl | rfl | rfl | rfl | rfl | rfl | rfl | rfl
  all_goals (first
    | exact mask_i64L m 1 1 rfl (by decide) hm hm2 | exact mask_i64L m 3 2 rfl (by decide) hm hm2 | exact mask_i64L m 7 3 rfl (by decide) hm hm2 | exact mask_i64L m 15 4 rfl (by decide) hm hm2 | exact mask_i64L m 31 5 rfl (by decide) hm hm2 | exact mask_i64L m 63 6 rfl (by decide) hm hm2 | exact mask_i64L m 127 7 rfl (by decide) hm hm2 | exact mask_i64L m 255 8 rfl (by decide) hm hm2 | exact mask_i64L m 511 9 rfl (by decide) hm hm2 | exact mask_i64L m 1023 10 rfl (by decide) hm hm2 | exact mask_i64L m 2047 11 rfl (by decide) hm hm2 | exact mask_i64L m 4095 12 rfl (by decide) hm hm2)
theorem oth_bdL (k t b : Int) (hb : 1 ≤ b ∧ b ≤ 12) (hk : 0 ≤ k ∧ k < tsize b) (ht : 1 ≤ t ∧ t ≤ 255) : 0 ≤ oth k t b ∧ oth k t b < tsize b := by
  unfold oth
  rw [mask_modL _ _ (by omega) (by omega) hb]
  have hp := tsize_pos hb
  have h1 := Int.emod_nonneg (t * 1540483477) (b := tsize b) (by omega)
  have h2 := Int.emod_lt_of_pos (t * 1540483477) (show 0 < tsize b by omega)
  rw [tsize_powL hb] at hk h1 h2 ⊢
  exact xor_ltL _ _ _ (by omega) hk ⟨h1, h2⟩
def POk12L (p : Int × Int) : Prop := (1 ≤ p.1 ∧ p.1 ≤ 12) ∧ 0 ≤ p.2 ∧ p.2 < tsize p.1
theorem dedup_subL (l : List (Int × Int)) : ∀ p ∈ dedup l, p ∈ l := by
  have key : ∀ (l o : List (Int × Int)), ∀ p ∈ l.foldl (fun out p => if p ∈ out then out else out ++ [p]) o, p ∈ o ∨ p ∈ l := by
    intro l
    induction l with
    | nil => intro o p hp; exact .inl hp
    | cons x l ih =>
      intro o p hp
      rcases ih _ p hp with h | h
      · simp only at h
        split at h
        · exact .inl h
        · rcases List.mem_append.1 h with h | h
          · exact .inl h
          · rw [List.mem_singleton.1 h]; exact .inr (by simp)
      · exact .inr (by simp [h])
  intro p hp
  rcases key l [] p hp with h | h
  · cases h
  · exact h
theorem pair_okL (h b : Int) (h0 : 0 ≤ h) (h1 : h < 18446744073709551616) (hb : 1 ≤ b ∧ b ≤ 12) : ∀ p ∈ pairOf h b, POk12L p := by
  intro p hp
  rw [pairOf_in h b hb] at hp
  have hbu := bk_bd h b hb
  rcases List.mem_cons.1 hp with rfl | hp
  · exact ⟨hb, hbu⟩
  · rw [List.mem_singleton.1 hp]
    exact ⟨hb, oth_bdL _ _ _ hb hbu (tag01_bd h h0 h1)⟩
theorem plist_okL (h v : Int) (h0 : 0 ≤ h) (h1 : h < 18446744073709551616) : ∀ p ∈ plist h v, POk12L p := by
  intro p hp
  have h12 := as_in12 v
  rcases List.mem_append.1 (dedup_subL _ p hp) with hp | hp
  · exact pair_okL h _ h0 h1 h12.1 p hp
  · rcases h12.2 with hz | hz
    · rw [hz, show pairOf h 0 = [] from if_pos rfl] at hp; cases hp
    · exact pair_okL h _ h0 h1 hz p hp
def wthFL (l : List (Int × Int)) (p : Int × Int) : List (Int × Int) := if p ∈ l then l else l ++ [p]
theorem dedup_growsL (l : List (Int × Int)) : ∀ acc : List (Int × Int), acc.length ≤ (l.foldl wthFL acc).length := by
  induction l with
  | nil => intro acc; exact Nat.le_refl _
  | cons p l ih =>
    intro acc
    refine Nat.le_trans ?_ (ih (wthFL acc p))
    unfold wthFL; split <;> simp
theorem dedup_posL (p : Int × Int) (l : List (Int × Int)) : 1 ≤ (dedup (p :: l)).length := dedup_growsL l [p]
theorem plist_posL (h v : Int) : 1 ≤ (plist h v).length := by
  have h12 := as_in12 v
  have hne : asOld v ≠ 0 := by have := h12.1; omega
  unfold plist
  have e : pairOf h (asOld v) = [(asOld v, bk h (asOld v)), (asOld v, oth (bk h (asOld v)) (tag01 h) (asOld v))] := pairOf_in h _ h12.1
  rw [e]
  exact dedup_posL _ _
theorem odd_anyL (v : Int) (hv : (Lit.int .u64 v).wf = true) (w : World) : Calls Tryz.prog 246 #[.int .u64 v] w fun e w' => e = .returned (.bool (v % 2 == 1)) ∧ w' = w := by
  have h : 0 ≤ v ∧ v < 18446744073709551616 := by
    have hmin : IntKind.u64.min = 0 := rfl
    have hmax : IntKind.u64.max = 18446744073709551615 := rfl
    simp only [Lit.wf, Bool.and_eq_true, decide_eq_true_eq] at hv; omega
  have hb : bits .and .u64 v 1 = v % 2 := mask_u64 v 1 1 (by decide) (by decide) h.1 h.2
  go_enter Tryz.func246, Tryz.ntmps246
  go_wp2
  go_ret
  exact ⟨rfl, rfl⟩
def flatL (l : List (Int × Int)) : List Value := l.flatMap fun p => [.int .i64 p.1, .int .i64 p.2]
theorem flat_lenL (l : List (Int × Int)) : (flatL l).length = l.length * 2 := by
  unfold flatL
  induction l with
  | nil => rfl
  | cons p l ih => simp only [List.flatMap_cons, List.length_append, ih, List.length_cons, List.length_nil]; omega
theorem flat_atL (l : List (Int × Int)) (i : Nat) (hi : i < l.length) : (flatL l)[i * 2]? = some (.int .i64 (l[i]).1) ∧ (flatL l)[i * 2 + 1]? = some (.int .i64 (l[i]).2) := by
  induction l generalizing i with
  | nil => simp at hi
  | cons p l ih =>
    have e : flatL (p :: l) = .int .i64 p.1 :: .int .i64 p.2 :: flatL l := rfl
    rw [e]
    cases i with
    | zero => exact ⟨rfl, rfl⟩
    | succ i =>
      have := ih i (by simpa using hi)
      rw [show (i + 1) * 2 = i * 2 + 1 + 1 by omega]
      simpa using this
theorem adr_formL {w : World} {base : Nat} {v : Value} {xs : List Int} (h : Adr w base v xs) : ∃ a ga, v = .slice a xs.length xs.length ∧ base ≤ ga ∧ (0 < xs.length → a = some ⟨ga, 0, none⟩ ∧ ga < w.heap.size ∧ (∀ (j : Nat) (hj : j < xs.length), w.cell? ⟨ga, j, none⟩ = some (.int .u64 xs[j])) ∧ (∀ j, w.frozen? ⟨ga, j, none⟩ = false)) := by
  rcases h with ⟨rfl, rfl⟩ | ⟨g, cur, rfl, h1, h2, h3, h4⟩
  · exact ⟨none, base, rfl, Nat.le_refl _, fun h => by simp at h⟩
  · refine ⟨_, g, rfl, h1, fun _ => ⟨rfl, (Array.getElem?_eq_some_iff.1 h2).1, fun j hj => ?_, fun j => by simp [World.frozen?, h2]⟩⟩
    have : (cur.toList.take xs.length)[j]? = some (.int .u64 xs[j]) := by rw [h4]; simp [cu, hj]
    rw [List.getElem?_take, if_pos hj, Array.getElem?_toList] at this
    simp [World.cell?, h2, this]
theorem keeps_cellL {S : Nat → Prop} {w w' : World} (h : Keeps S w w') {b o : Nat} {v : Value} (hc : w.cell? ⟨b, o, none⟩ = some v) (hb : ¬ S b) : w'.cell? ⟨b, o, none⟩ = some v :=
  (World.cell?_of_block (w := w) (a := ⟨b, o, none⟩) (h.block b (World.block_lt_of_cell? _ _ hc) hb)).trans hc

end Go.Proofs.YtomllmlieeaaiaaGreat

/-
  FindsPlay: a step of a Find, on both sides.
-/
namespace Go.Proofs.YtomllmlieeaaiaaGreat
open Go.RowKit Go.Maps TagPure
set_option linter.unusedVariables false

theorem hasF_len (tags T : Int) : ∀ m n, (hasF tags T n m).length ≤ m := by
  intro m
  induction m with
  | zero => intro n; exact Nat.le_refl _
  | succ m ih =>
    intro n
    unfold hasF
    split
    · rw [List.length_cons]; have := ih (n + 1); omega
    · have := ih (n + 1); omega
theorem frel_pok {f : FW} {ls : List Ld} {x : RF} (h : FRel f ls x) : POk ls 10 := by
  have hl := h.len
  have htg : ∀ k, ∀ l ∈ (x.l.drop k).map Ld.tag, l ≠ .tab ∧ LdOk l := fun k l hl => by
    obtain ⟨p, -, rfl⟩ := List.mem_map.1 hl
    exact ⟨(by intro c; cases c), trivial⟩
  rcases h.cs with ⟨-, e⟩ | ⟨-, -, hat, -, e⟩ | ⟨-, -, hat, n, hn, -, e⟩ | ⟨-, e, -⟩
  · exact ⟨.inl e, by rw [e]; simp⟩
  · refine ⟨.inr (by rw [e]; exact htg _), ?_⟩
    rw [e, List.length_map, List.length_drop]; omega
  · refine ⟨.inr fun l hl2 => ?_, ?_⟩
    · rw [e] at hl2
      rcases List.mem_append.1 hl2 with hl2 | hl2
      · obtain ⟨i, hi, rfl⟩ := List.mem_map.1 hl2
        refine ⟨(by intro c; cases c), ?_⟩
        have hi4 : i < 4 := by
          rcases List.mem_cons.1 hi with rfl | hi
          · exact hn
          · have key : ∀ m n, i ∈ hasF x.tags (tag01 (hashOf x.key)) n m → i < n + m := by
              intro m
              induction m with
              | zero => intro n h; cases h
              | succ m ih =>
                intro n h
                unfold hasF at h
                split at h
                · rcases List.mem_cons.1 h with rfl | h
                  · omega
                  · have := ih _ h; omega
                · have := ih _ h; omega
            have := key _ _ hi; omega
        show (Lit.int .i64 (i : Int)).wf = true
        simp [Lit.wf, IntKind.min, IntKind.max, IntKind.bits, IntKind.signed]; omega
      · exact htg _ l hl2
    · rw [e, List.length_append, List.length_map, List.length_cons, List.length_map, List.length_drop]
      have := hasF_len x.tags (tag01 (hashOf x.key)) (4 - (n + 1)) (n + 1)
      omega
  · exact ⟨.inr fun l hl2 => (by rw [e] at hl2; cases hl2), by rw [e]; simp⟩
/-- The document's Find behind a step. -/
def RF.stp (its : List Itm) (x : RF) (v : Int) : Ld → RF
  | .tab => x.tab v
  | .tag p => x.tag v
  | .itm p n => RF.itm its x p n.toNat v
def FPd.next (its : List Itm) (s : CS) (a : FPd) : FPd := match a.ls with
  | [] => a
  | l :: r => ⟨(fnext its s a.f r l).1, (fnext its s a.f r l).2, a.x.stp its (s.val (ldA l)) l⟩
theorem drop_map_cons {L : List (Int × Int)} {k : Nat} (h : k < L.length) : (L.drop k).map Ld.tag = .tag L[k] :: (L.drop (k + 1)).map Ld.tag := by
  rw [List.drop_eq_getElem_cons h, List.map_cons]
theorem frel_step {its : List Itm} {s : CS} {f : FW} {l : Ld} {r : List Ld} {x : RF} (h : FRel f (l :: r) x) (hxo : x.line ≠ 0 → x.b = 0 ∧ x.u = 0 ∧ x.k = 0 ∧ x.ref = 0) (hv : 0 ≤ s.val (ldA l) ∧ s.val (ldA l) < 18446744073709551616) :
    FRel (fnext its s f r l).1 (fnext its s f r l).2 (x.stp its (s.val (ldA l)) l) := by
  rcases h.cs with ⟨h1, e⟩ | ⟨h1, hw, hat, hs, e⟩ | ⟨h1, hw, hat, n, hn, hs, e⟩ | ⟨h1, e, -⟩
  · simp only [List.cons.injEq] at e
    obtain ⟨rfl, rfl⟩ := e
    have hk := h.key
    refine ⟨hk, h.tags, ?_, fun _ => h.off (by rw [h1]; decide), .inr (.inl ⟨rfl, rfl, ?_, rfl, ?_⟩)⟩
    · exact plist_len _ _
    · show 0 < (plist _ _).length
      exact plist_posL _ _
    · show (plist (hashOf f.key) _).map Ld.tag = ((plist (hashOf x.key) _).drop 0).map Ld.tag
      rw [hk]; rfl
  · rw [drop_map_cons hat, List.cons.injEq] at e
    obtain ⟨rfl, rfl⟩ := e
    have := frel_nx (x := { x with tags := s.val (ldA (.tag x.l[x.at_])) }) h.key hv h.len (h.off (by rw [h1]; decide)) (hxo (by rw [h1]; decide)) hw h1 hat 0 (by decide)
    show FRel f ((has _ (tag01 (hashOf f.key)) 4).map _ ++ _) _
    rw [has_hasF, ← h.key]
    exact this
  · rw [List.map_cons, List.cons_append, List.cons.injEq] at e
    obtain ⟨rfl, rfl⟩ := e
    have hnt : ((n : Int)).toNat = n := Int.toNat_natCast n
    show FRel (if hit its s f.key x.l[x.at_] n = true then ({ f with b := (x.l[x.at_]).1, u := (x.l[x.at_]).2, k := n, ref := wrap64 (s.val (itemA (x.l[x.at_]).1 (x.l[x.at_]).2 n)) }, []) else (f, _)).1 (if hit its s f.key x.l[x.at_] n = true then ({ f with b := (x.l[x.at_]).1, u := (x.l[x.at_]).2, k := n, ref := wrap64 (s.val (itemA (x.l[x.at_]).1 (x.l[x.at_]).2 n)) }, []) else (f, _)).2 (RF.itm its x x.l[x.at_] (n : Int).toNat (s.val (itemA (x.l[x.at_]).1 (x.l[x.at_]).2 n)))
    rw [hnt]
    by_cases hh : hit its s f.key x.l[x.at_] n = true
    · rw [if_pos hh]
      unfold RF.itm
      unfold hit at hh
      rw [h.key, if_pos hh]
      exact ⟨rfl, h.tags, h.len, fun c => absurd rfl c, .inr (.inr (.inr ⟨rfl, rfl, hw, rfl, rfl, rfl, rfl⟩))⟩
    · rw [if_neg hh]
      unfold RF.itm
      unfold hit at hh
      rw [h.key, if_neg hh]
      have := frel_nx h.key h.tags h.len (h.off (by rw [h1]; decide)) (hxo (by rw [h1]; decide)) hw h1 hat (n + 1) (by omega)
      rw [h.key] at this
      exact this
  · cases e
theorem nx_zero {x : RF} {n : Nat} (h : x.b = 0 ∧ x.u = 0 ∧ x.k = 0 ∧ x.ref = 0) : (x.nx n).b = 0 ∧ (x.nx n).u = 0 ∧ (x.nx n).k = 0 ∧ (x.nx n).ref = 0 := by
  unfold RF.nx
  cases hasF x.tags (tag01 (hashOf x.key)) n (4 - n) <;> exact h
theorem xo_step {its : List Itm} {f : FW} {l : Ld} {r : List Ld} {x : RF} (h : FRel f (l :: r) x) (hxo : x.line ≠ 0 → x.b = 0 ∧ x.u = 0 ∧ x.k = 0 ∧ x.ref = 0) (v : Int) : (x.stp its v l).line ≠ 0 → (x.stp its v l).b = 0 ∧ (x.stp its v l).u = 0 ∧ (x.stp its v l).k = 0 ∧ (x.stp its v l).ref = 0 := by
  have hl : x.line ≠ 0 := by
    rcases h.cs with ⟨h1, e⟩ | ⟨h1, -⟩ | ⟨h1, -⟩ | ⟨h1, e, -⟩
    · rw [h1]; decide
    · rw [h1]; decide
    · rw [h1]; decide
    · cases e
  have hz := hxo hl
  cases l with
  | tab => exact fun _ => hz
  | tag p => exact fun _ => nx_zero (x := { x with tags := v }) hz
  | itm p n =>
    intro hne
    show (RF.itm its x p n.toNat v).b = 0 ∧ (RF.itm its x p n.toNat v).u = 0 ∧ (RF.itm its x p n.toNat v).k = 0 ∧ (RF.itm its x p n.toNat v).ref = 0
    have hne : (RF.itm its x p n.toNat v).line ≠ 0 := hne
    unfold RF.itm at hne ⊢
    split at hne
    · exact absurd rfl hne
    · rename_i hc
      rw [if_neg hc]
      exact nx_zero hz
/-- Between the two steps. -/
structure FMid (w0 w : World) (B R : WB) (V : WV) (s : CS) (x : RS) (o : PO FPd) (w' : World) : Prop where
  ws : WS w0 w' B V s
  p : FindAt w' o.pb o.a.f o.a.ls
  rd : RD w0 w' R V (match o.a.ls with | [] => x | l :: _ => x.acc 1 (ldA l) (s.val (ldA l)))
  r : RFindAt w' w0.heap.size o.rb (o.a.next V.its s).x
  fx : Fx rTy false o.rb w w'
section
variable {w0 w w1 : World} {B R : WB} {V : WV} {s : CS} {x : RS} {m : Nat} {o : PO FPd} {S : Nat → Prop}
theorem FMid.below (h : FMid w0 w B R V s x o w1) {w2 : World} (hb : Below w1.heap.size w1 w2) : FMid w0 w B R V s x o w2 :=
  ⟨h.ws.keep hb, h.p.below hb, h.rd.keep hb, h.r.below hb, h.fx.trans ((below_fr hb rTy false).fx _)⟩
theorem fd_mid (h : DPS w0 w B R V s x m) (ho : FdP w w0.heap.size o S) {w' : World} {xr : RS} {y : RF} (hB : RFB w0 w w' R V xr o.rb y) (h1 : xr = (match o.a.ls with | [] => x | l :: _ => x.acc 1 (ldA l) (s.val (ldA l)))) (h2 : y = (o.a.next V.its s).x) : FMid w0 w B R V s x o w' := by
  obtain ⟨cs, hb⟩ := ho.r.blk
  have hf := hB.fx.fr hb
  exact ⟨h.pr.ws.fx hB.fx w_not_r hb rfl hB.rd.below, ho.p.fr hf (fun T hT => by
    unfold fTy at hT
    simp only [Bool.or_eq_true, beq_iff_eq] at hT
    rcases hT with ((rfl | rfl) | rfl) | rfl <;> rfl) rfl, h1 ▸ hB.rd, h2 ▸ hB.fnd, hB.fx⟩
theorem fd_r (h : DPS w0 w B R V s x m) (hm : m ≤ 1000) (ho : FdP w w0.heap.size o S) :
    Calls Tryz.prog 26 #[.pointer (some ⟨o.rb, 0, none⟩), .pointer (some ⟨R.wb, 0, none⟩)] w fun e w' => e = .returned (.tuple #[]) ∧ FMid w0 w B R V s x o w' := by
  obtain ⟨rm1, rm2⟩ := far_rooms h.far h.pr.al (by omega)
  obtain ⟨pb, rb, f, ls, y⟩ := o
  have hrel := ho.rel
  have hk := ho.key
  have hr := ho.r
  simp only at hrel hk hr
  have hvb : ∀ a, 0 ≤ s.val a ∧ s.val a < 18446744073709551616 := fun a => wf_bd (h.pr.ws.own.wf a)
  have hvl : ∀ a, s.val a = rlook x.l a := fun a => by rw [h.pr.al.val]
  have hk2 : y.key.size ≤ 1000000 := by rw [hrel.key]; omega
  have hni : V.its.length ≤ 1048576 := by have := h.ni; omega
  rcases hrel.cs with ⟨h1, e⟩ | ⟨h1, hw, hat, hs, e⟩ | ⟨h1, hw, hat, n, hn, hs, e⟩ | ⟨h1, e, -⟩
  · subst e
    refine (rfstep1 h.pr.rd rm2 hr hk2 h1 (s.val 2) (hvl 2) (hvb 2)).mono fun e w' hh => ⟨hh.1, fd_mid h ho hh.2 rfl rfl⟩
  · rw [drop_map_cons hat] at e
    subst e
    refine (rfstep2 h.pr.rd rm2 hr hk2 h1 hs hat hrel.len _ (hvl _) (hvb _)).mono fun e w' hh => ⟨hh.1, fd_mid h ho hh.2 rfl rfl⟩
  · rw [List.map_cons, List.cons_append] at e
    subst e
    refine (rfstep3 h.pr.rd rm2 hni hr hk2 hrel.tags h1 n hn hs hat hrel.len _ (hvl _)).mono fun e w' hh => ⟨hh.1, fd_mid h ho hh.2 rfl ?_⟩
    show RF.itm V.its y y.l[y.at_] n _ = RF.itm V.its y y.l[y.at_] (n : Int).toNat _
    rw [Int.toNat_natCast]
    rfl
  · subst e
    refine (rfstep0 hr h1 _).mono fun e w' hh => ⟨hh.1, ?_⟩
    obtain ⟨-, rfl⟩ := hh
    exact ⟨h.pr.ws, ho.p, h.pr.rd, hr, (below_fr (Below.refl _ _) rTy false).fx _⟩
/-- Behind both steps. -/
def FFin (w0 w : World) (B R : WB) (V : WV) (s : CS) (m : Nat) (o : PO FPd) (S : Nat → Prop) (w2 : World) : Prop :=
  ∃ (s' : CS) (x' : RS), DPS w0 w2 B R V s' x' (m + 1) ∧ FdP w2 w0.heap.size ⟨o.pb, o.rb, o.a.next V.its s⟩ S ∧ OFr S V V w w2
theorem fd_x (h : DPS w0 w B R V s x m) (hm : m ≤ 1000) (ho : FdP w w0.heap.size o S) (hM : FMid w0 w B R V s x o w1) :
    Calls Tryz.prog 27 #[.pointer (some ⟨o.pb, 0, none⟩), .pointer (some ⟨B.wb, 0, none⟩)] w1 fun e w2 => e = .returned (.bool (decide ((o.a.next V.its s).ls = []))) ∧ FFin w0 w B R V s m o S w2 := by
  obtain ⟨rm1, rm2⟩ := far_rooms h.far h.pr.al (by omega)
  obtain ⟨pb, rb, f, ls, y⟩ := o
  obtain ⟨hws, hp, hrd, hr, hfx⟩ := hM
  have hrel := ho.rel
  have hk := ho.key
  have hS := ho.s
  simp only at hrel hk hp hrd hr hfx hS
  have hni : V.its.length ≤ 1048576 := by have := h.ni; omega
  have hno : ∀ k, ¬ S k → k ≠ pb ∧ k ≠ rb := fun k hk => by
    rw [hS] at hk
    exact ⟨fun e => hk (.inl e), fun e => hk (.inr e)⟩
  have hvb : ∀ a, 0 ≤ s.val a ∧ s.val a < 18446744073709551616 := fun a => wf_bd (h.pr.ws.own.wf a)
  have ofr : ∀ w2 s2, Fx wTy true pb w1 w2 → WS w0 w2 B V s2 → OFr S V V w w2 := fun w2 s2 f2 hw2 => by
    refine ⟨Nat.le_trans hfx.size f2.size, fun k cs T fr hk hT hn => ?_, fun k es cl hk hv hn => ⟨(hw2.fmk _ hv).1, hv⟩⟩
    obtain ⟨n1, n2⟩ := hno k hn
    unfold wrTy at hT
    simp only [Bool.or_eq_false_iff] at hT
    exact f2.cells k cs T fr (hfx.cells k cs T fr hk hT.2 n2) hT.1 n1
  cases ls with
  | nil =>
    refine (fstep_over hp _).mono fun e w2 hh => ?_
    obtain ⟨h1, rfl⟩ := hh
    have h9 := h.le (Nat.le_succ m)
    exact ⟨h1, s, x, ⟨⟨hws, hrd, h.pr.al⟩, h9.far, h9.cok, h9.nn, h9.ni, h9.st, h9.nk⟩, ⟨ho.lo_, hp, hr, ho.rel, ho.xo, ho.key, hS⟩, ofr _ _ ⟨Nat.le_refl _, fun _ _ _ _ h _ _ => h, fun c => by cases c⟩ hws⟩
  | cons l r =>
    have hpk := frel_pok hrel
    refine (fstep_any hws rm1 ho.lo_ (by omega) hni l r 10 (by decide) hpk hp).mono fun e w2 hh => ?_
    obtain ⟨h1, h2, h3, h4⟩ := hh
    obtain ⟨cs, hb⟩ := hp.blk
    have hf := h4.fr hb
    have hrd2 := hrd.fr hf (fun T hT => by
      rw [r_not_w T hT, Bool.false_or]
      unfold rTy at hT
      simp only [Bool.or_eq_true, beq_iff_eq] at hT
      rcases hT with (((((rfl | rfl) | rfl) | rfl) | rfl) | rfl) | rfl <;> rfl) h2.below
    have hr2 := hr.fr hf rfl rfl
    have hac := h.acc 1 (ldA l) (s.val (ldA l)) (w' := w2) ⟨h2, hrd2, h.pr.al.acc _ _ _⟩
    exact ⟨h1, _, _, hac, ⟨ho.lo_, h3, hr2, frel_step hrel ho.xo (hvb _), xo_step hrel ho.xo _, by rw [show (FPd.next V.its s ⟨f, l :: r, y⟩).f.key = f.key from fnext_key _ _ _ _ _]; exact hk, hS⟩, ofr _ _ h4 h2⟩
end
end Go.Proofs.YtomllmlieeaaiaaGreat

/-
  FindsPlay: do both sides tell the same?
-/
namespace Go.Proofs.YtomllmlieeaaiaaGreat
open Go.RowKit Go.Maps TagPure
set_option linter.unusedVariables false

theorem eql_spotF (a b c : Int) (W : World) : (binOp .eql 71 (.agg #[.int .i64 a, .int .i64 b, .int .i64 c]) (.agg #[.int .i64 a, .int .i64 b, .int .i64 c])).run Tryz.prog W = .ok (.bool true) W := by
  have e : ∀ z : Int, (z == z) = true := fun z => beq_iff_eq.2 rfl
  have h1 := e a; have h2 := e b; have h3 := e c
  go_simp
/-- What is told, of both. -/
theorem frel_tells {f : FW} {ls : List Ld} {x : RF} (h : FRel f ls x) : (x.line == 0) = decide (ls = []) ∧ (if x.line = 0 then #[Value.agg #[.int .i64 x.b, .int .i64 x.u, .int .i64 x.k], .int .i64 x.ref] else #[.agg #[.int .i64 0, .int .i64 0, .int .i64 0], .int .i64 0]) = #[Value.agg #[.int .i64 f.b, .int .i64 f.u, .int .i64 f.k], .int .i64 f.ref] ∧ (if x.line = 0 then x.t else 0) = (if ls = [] then f.word else 0) := by
  have key : x.line = 0 ∧ ls = [] ∧ f.word = x.t ∧ f.b = x.b ∧ f.u = x.u ∧ f.k = x.k ∧ f.ref = x.ref ∨ x.line ≠ 0 ∧ ls ≠ [] := by
    rcases h.cs with ⟨h1, e⟩ | ⟨h1, hw, hat, hs, e⟩ | ⟨h1, hw, hat, n, hn, hs, e⟩ | ⟨h1, e, r⟩
    · exact .inr ⟨by rw [h1]; decide, by rw [e]; simp⟩
    · refine .inr ⟨by rw [h1]; decide, ?_⟩
      rw [e, List.drop_eq_getElem_cons hat, List.map_cons]; exact List.cons_ne_nil _ _
    · exact .inr ⟨by rw [h1]; decide, by rw [e]; simp⟩
    · exact .inl ⟨h1, e, r⟩
  rcases key with ⟨h1, e, hw, hb, hu, hk, hr⟩ | ⟨h1, e⟩
  · rw [h1, e, if_pos rfl, if_pos rfl, if_pos rfl, hw, hb, hu, hk, hr]
    exact ⟨rfl, rfl, rfl⟩
  · obtain ⟨hb, hu, hk, hr⟩ := h.off h1
    rw [if_neg h1, if_neg h1, if_neg e, hb, hu, hk, hr]
    exact ⟨by rw [decide_eq_false e]; exact beq_eq_false_iff_ne.2 h1, rfl, rfl⟩
set_option maxRecDepth 10000 in
set_option maxHeartbeats 4000000 in
theorem osameF {w : World} {lo pb rb : Nat} {f : FW} {ls : List Ld} {x : RF} (hp : FindAt w pb f ls) (hr : RFindAt w lo rb x) (hrel : FRel f ls x) : Calls Tryz.prog 28 #[.agg #[.pointer (some ⟨pb, 0, none⟩), .pointer (some ⟨rb, 0, none⟩)]] w fun e w' => e = .returned (.bool true) ∧ Below w.heap.size w w' := by
  have hb1 := below_alloc w (.cells #[.pointer (some ⟨pb, 0, none⟩), .pointer (some ⟨rb, 0, none⟩)] 67)
  have hz1 := heap_alloc_new w (.cells #[.pointer (some ⟨pb, 0, none⟩), .pointer (some ⟨rb, 0, none⟩)] 67)
  obtain ⟨ht1, ht2, ht3⟩ := frel_tells hrel
  obtain ⟨ov, hov⟩ : ∃ ov, ov = decide (ls = []) := ⟨_, rfl⟩
  obtain ⟨wd, hwd⟩ : ∃ wd, wd = (if ls = [] then f.word else 0) := ⟨_, rfl⟩
  have hg := fun W (hW : Below w.heap.size w W) => fgot (hp.below hW)
  have hg2 := fun W (hW : Below w.heap.size w W) => rfgot (hr.below hW)
  have ho := fun W (hW : Below w.heap.size w W) => fover (hp.below hW)
  have hw1 := fun W (hW : Below w.heap.size w W) => fword (hp.below hW)
  have hw2 := fun W (hW : Below w.heap.size w W) => rfword (hr.below hW)
  rw [ht2] at hg2
  rw [ht3, ← hwd] at hw2
  rw [← hov] at ho ht1
  rw [← hwd] at hw1
  obtain ⟨c0, -⟩ := hr.c
  have HB1 := Lib.hid hb1; have HZ1 := Lib.hid hz1; have HG := Lib.hid hg; have HG2 := Lib.hid hg2; have HO := Lib.hid ho; have HW1 := Lib.hid hw1; have HW2 := Lib.hid hw2; have HC0 := Lib.hid c0
  obtain ⟨fb, hfb⟩ : ∃ fb, fb = f.b := ⟨_, rfl⟩
  obtain ⟨fu, hfu⟩ : ∃ fu, fu = f.u := ⟨_, rfl⟩
  obtain ⟨fk, hfk⟩ : ∃ fk, fk = f.k := ⟨_, rfl⟩
  obtain ⟨fr, hfr⟩ : ∃ fr, fr = f.ref := ⟨_, rfl⟩
  rw [← hfb, ← hfu, ← hfk, ← hfr] at HG HG2
  clear hp hr hrel hb1 hz1 ht2 ht3 hg hg2 ho hw1 hw2 c0 hov hwd hfb hfu hfk hfr
  go_enter Tryz.func28, Tryz.ntmps28
  go_upto_region 1 with (fail)
  change Code.wp _ _ _ _ (w.alloc (.cells #[.pointer (some ⟨pb, 0, none⟩), .pointer (some ⟨rb, 0, none⟩)] 67))
  generalize w.alloc (.cells #[.pointer (some ⟨pb, 0, none⟩), .pointer (some ⟨rb, 0, none⟩)] 67) = w1 at *
  obtain ⟨ob, hob⟩ : ∃ ob, ob = w.heap.size := ⟨_, rfl⟩
  rw [← hob] at HZ1
  simp only [← hob]
  clear hob
  have a0 := hcell HZ1.out 0
  have hg := HG.out w1 HB1.out
  go_upto_region 2 with (go_at_call 106; refine hg.mono ?_; intro e w2 hh; obtain ⟨hh1, b2⟩ := hh; subst hh1; have B2 := Lib.hid (HB1.out.trans (b2.mono HB1.out.size)); have hz2 := (b2.block _ (Array.getElem?_eq_some_iff.1 HZ1.out).1).trans HZ1.out; have HZ2 := Lib.hid hz2; clear b2 hg a0 hz2)
  have k3 := below_alloc w2 (.cells #[.int .i64 fb, .int .i64 fu, .int .i64 fk] 71)
  have n3 := heap_alloc_new w2 (.cells #[.int .i64 fb, .int .i64 fu, .int .i64 fk] 71)
  have B3 := Lib.hid (B2.out.trans (k3.mono B2.out.size)); have HZ3 := Lib.hid ((k3.block _ (Array.getElem?_eq_some_iff.1 HZ2.out).1).trans HZ2.out); have N3 := Lib.hid n3
  change Code.wp _ _ _ _ (w2.alloc (.cells #[.int .i64 fb, .int .i64 fu, .int .i64 fk] 71))
  clear k3 n3
  generalize w2.alloc (.cells #[.int .i64 fb, .int .i64 fu, .int .i64 fk] 71) = w3 at *
  obtain ⟨sb, hsb⟩ : ∃ sb, sb = w2.heap.size := ⟨_, rfl⟩
  rw [← hsb] at N3
  try simp only [← hsb]
  clear hsb
  have a1 := hcell HZ3.out 1
  have hg2 := HG2.out w3 B3.out
  go_upto_region 3 with (go_at_call 118; refine hg2.mono ?_; intro e w4 hh; obtain ⟨hh1, b4⟩ := hh; subst hh1; have B4 := Lib.hid (B3.out.trans (b4.mono B3.out.size)); have HZ4 := Lib.hid ((b4.block _ (Array.getElem?_eq_some_iff.1 HZ3.out).1).trans HZ3.out); have N4 := Lib.hid ((b4.block _ (Array.getElem?_eq_some_iff.1 N3.out).1).trans N3.out); clear b4 hg2 a1)
  have k5 := below_alloc w4 (.cells #[.int .i64 fb, .int .i64 fu, .int .i64 fk] 71)
  have n5 := heap_alloc_new w4 (.cells #[.int .i64 fb, .int .i64 fu, .int .i64 fk] 71)
  have B5 := Lib.hid (B4.out.trans (k5.mono B4.out.size)); have HZ5 := Lib.hid ((k5.block _ (Array.getElem?_eq_some_iff.1 HZ4.out).1).trans HZ4.out); have N5 := Lib.hid ((k5.block _ (Array.getElem?_eq_some_iff.1 N4.out).1).trans N4.out); have M5 := Lib.hid n5
  change Code.wp _ _ _ _ (w4.alloc (.cells #[.int .i64 fb, .int .i64 fu, .int .i64 fk] 71))
  clear k5 n5
  generalize w4.alloc (.cells #[.int .i64 fb, .int .i64 fu, .int .i64 fk] 71) = w5 at *
  obtain ⟨tb, htb⟩ : ∃ tb, tb = w4.heap.size := ⟨_, rfl⟩
  rw [← htb] at M5
  try simp only [← htb]
  clear htb
  have o0 := fun st : ExtW w5 => st.cell (hcell HZ5.out 0)
  have o1 := fun st : ExtW w5 => st.cell (hcell HZ5.out 1)
  have s0 := fun st : ExtW w5 => st.cell (hcell N5.out 0)
  have s1 := fun st : ExtW w5 => st.cell (hcell N5.out 1)
  have s2 := fun st : ExtW w5 => st.cell (hcell N5.out 2)
  have t0 := fun st : ExtW w5 => st.cell (hcell M5.out 0)
  have t1 := fun st : ExtW w5 => st.cell (hcell M5.out 1)
  have t2 := fun st : ExtW w5 => st.cell (hcell M5.out 2)
  have c5 : w5.cell? ⟨rb, 0, none⟩ = some (.int .i64 x.line) := (B5.out.cell (World.block_lt_of_cell? _ _ HC0.out)).trans HC0.out
  have l0 := fun st : ExtW w5 => st.cell c5
  have ho' : ∀ st : ExtW w5, Calls Tryz.prog 117 #[.pointer (some ⟨pb, 0, none⟩)] st.val fun e w' => e = .returned (.bool ov) ∧ st.val = w' := fun st => (HO.out _ (B5.out.trans (st.below.mono B5.out.size))).mono fun e w' ⟨h1, h2⟩ => ⟨h1, h2.symm⟩
  have hw1' : ∀ st : ExtW w5, Calls Tryz.prog 110 #[.pointer (some ⟨pb, 0, none⟩)] st.val fun e w' => e = .returned (.int .u64 wd) ∧ st.val = w' := fun st => (HW1.out _ (B5.out.trans (st.below.mono B5.out.size))).mono fun e w' ⟨h1, h2⟩ => ⟨h1, h2.symm⟩
  have hw2' : ∀ st : ExtW w5, Calls Tryz.prog 119 #[.pointer (some ⟨rb, 0, none⟩)] st.val fun e w' => e = .returned (.int .u64 wd) ∧ st.val = w' := fun st => (HW2.out _ (B5.out.trans (st.below.mono B5.out.size))).mono fun e w' ⟨h1, h2⟩ => ⟨h1, h2.symm⟩
  have heq := fun W => eql_spotF fb fu fk W
  have hrr : (fr == fr) = true := beq_iff_eq.2 rfl
  have hww : (wd == wd) = true := beq_iff_eq.2 rfl
  clear c5
  cases ov
  all_goals
    refine wp_region_ext (by kernel_rfl) (by kernel_rfl) ?_
    repeat (go_big_quiet_step (first | (go_at_call 117; with_reducible refine calls_ext_same (ho' _)) | (go_at_call 110; with_reducible refine calls_ext_same (hw1' _)) | (go_at_call 119; with_reducible refine calls_ext_same (hw2' _))))
    refine wpQuiet_nil ?_
    rintro W ⟨⟨W2, hW⟩, rfl⟩
    have HW := Lib.hid hW
    clear hW o0 o1 s0 s1 s2 t0 t1 t2 l0 ho' hw1' hw2'
    go_wp2_with fail
    go_ret
    exact ⟨rfl, B5.out.trans (HW.out.mono B5.out.size)⟩
end Go.Proofs.YtomllmlieeaaiaaGreat

/-
  A list of acts that came in. (written by genacts.py)
-/
namespace Go.Proofs.YtomllmlieeaaiaaGreat
open Go.RowKit Go.Maps
set_option linter.unusedVariables false

structure FdAc where
  k : Int
  a : Int
  key : ByteArray
  v : Int
  i : Int
def FdAc.cells (x : FdAc) : List Value := [.int .u8 x.k, .int .u8 x.a, .string x.key, .int .u64 x.v, .int .u64 x.i]
structure FdAc.wf (x : FdAc) : Prop where
  k : (Lit.int .u8 x.k).wf = true
  a : (Lit.int .u8 x.a).wf = true
  key : x.key.size ≤ maxLen
  v : (Lit.int .u64 x.v).wf = true
  i : (Lit.int .u64 x.i).wf = true
def fdacLeaves : List Leaf := [.int .u8, .int .u8, .str, .int .u64, .int .u64]
theorem fdac_of {w : World} {cs : List Value} (h : Leaf.allHold w fdacLeaves cs) : ∃ x : FdAc, cs = x.cells ∧ x.wf := by
  obtain ⟨c0, r, rfl, g0, h⟩ := allHold_cons h
  obtain ⟨c1, r, rfl, g1, h⟩ := allHold_cons h
  obtain ⟨c2, r, rfl, g2, h⟩ := allHold_cons h
  obtain ⟨c3, r, rfl, g3, h⟩ := allHold_cons h
  obtain ⟨c4, r, rfl, g4, h⟩ := allHold_cons h
  obtain rfl := allHold_nil h
  obtain ⟨n0, rfl, w0⟩ := holds_int g0
  obtain ⟨n1, rfl, w1⟩ := holds_int g1
  obtain ⟨n2, rfl, w2⟩ := holds_str g2
  obtain ⟨n3, rfl, w3⟩ := holds_int g3
  obtain ⟨n4, rfl, w4⟩ := holds_int g4
  exact ⟨⟨n0, n1, n2, n3, n4⟩, rfl, w0, w1, w2, w3, w4⟩
/-- Accesses that may be read. -/
structure FdActs (w : World) (a : Option Addr) (cap : Nat) (l : List FdAc) : Prop where
  le : l.length ≤ cap
  most : cap ≤ maxLen
  nil : a = none → cap = 0
  wf : ∀ x ∈ l, x.wf
  cell : l = [] ∨ ∃ b off, a = some ⟨b, off, none⟩ ∧ ∀ i, (hi : i < l.length) → ∀ j, j < 5 → w.cell? ⟨b, off + (i * 5 + j), none⟩ = (l[i]).cells[j]?
theorem fdacts_of {w : World} {a : Option Addr} {n cap : Nat} (h : Leaf.holds w (.sl fdacLeaves) (.slice a n cap)) : ∃ l, l.length = n ∧ FdActs w a cap l := by
  obtain ⟨l, a', cap', hv, h1, h2, h3, h4, h5⟩ := recs_of h
  simp only [Value.slice.injEq] at hv
  obtain ⟨rfl, rfl, rfl⟩ := hv
  obtain ⟨m, hm, hp⟩ := list_of (fun i (x : FdAc) => l[i]? = some x.cells ∧ x.wf) l.length (fun i hi => by
    obtain ⟨x, hx, hw⟩ := fdac_of (h4 _ (List.getElem_mem hi))
    exact ⟨x, by rw [List.getElem?_eq_getElem hi, hx], hw⟩)
  refine ⟨m, hm, by omega, h2, h3, fun x hx => ?_, ?_⟩
  · obtain ⟨i, hi, rfl⟩ := List.mem_iff_getElem.1 hx
    exact (hp i hi).2
  · rcases h5 with rfl | ⟨b, off, rfl, h5⟩
    · left; simpa using hm
    · refine .inr ⟨b, off, rfl, fun i hi j hj => ?_⟩
      have h6 := h5 i (by omega) j hj
      have h7 := (hp i hi).1
      rw [List.getElem?_eq_getElem (by omega)] at h7
      simp only [Option.some.injEq] at h7
      rw [h7] at h6
      exact h6
theorem FdActs.at {w : World} {a : Option Addr} {cap : Nat} {l : List FdAc} (h : FdActs w a cap l) (i : Nat) (hi : i < l.length) :
    ∃ b off x, a = some ⟨b, off, none⟩ ∧ l[i]? = some x ∧ x.wf ∧ w.cell? ⟨b, off + i * 5, none⟩ = some (.int .u8 x.k) ∧ w.cell? ⟨b, off + i * 5 + 1, none⟩ = some (.int .u8 x.a) ∧ w.cell? ⟨b, off + i * 5 + 2, none⟩ = some (.string x.key) ∧ w.cell? ⟨b, off + i * 5 + 3, none⟩ = some (.int .u64 x.v) ∧ w.cell? ⟨b, off + i * 5 + 4, none⟩ = some (.int .u64 x.i) := by
  rcases h.cell with rfl | ⟨b, off, rfl, h5⟩
  · simp at hi
  · have h6 := h5 i hi
    refine ⟨b, off, l[i], rfl, List.getElem?_eq_getElem hi, h.wf _ (List.getElem_mem hi), h6 0 (by omega), ?_, ?_, ?_, ?_⟩
    · rw [Nat.add_assoc]; exact h6 1 (by omega)
    · rw [Nat.add_assoc]; exact h6 2 (by omega)
    · rw [Nat.add_assoc]; exact h6 3 (by omega)
    · rw [Nat.add_assoc]; exact h6 4 (by omega)

theorem FdActs.below {w w' : World} {a : Option Addr} {cap : Nat} {l : List FdAc} (h : FdActs w a cap l) (hb : Below w.heap.size w w') : FdActs w' a cap l := by
  refine ⟨h.le, h.most, h.nil, h.wf, h.cell.imp id fun ⟨b, off, e, h5⟩ => ⟨b, off, e, fun i hi j hj => ?_⟩⟩
  have h6 := h5 i hi j hj
  obtain ⟨v, hv⟩ : ∃ v, (l[i]).cells[j]? = some v := by
    match j, hj with
    | 0, _ | 1, _ | 2, _ | 3, _ | 4, _ => exact ⟨_, rfl⟩
  rw [hv] at h6 ⊢
  exact (hb.cell (World.block_lt_of_cell? _ _ h6)).trans h6
end Go.Proofs.YtomllmlieeaaiaaGreat

/-
  Puts and Outs of a slot: their beginnings, their lines.
-/
namespace Go.Proofs.YtomllmlieeaaiaaGreat
open Go.RowKit
set_option linter.unusedVariables false

/-- A slot that is changed. -/
structure SL where
  tg : Int
  it : Int
  at_ : Int
  x : Int
  ln : Int
abbrev SL.cs (s : SL) (rest : List Value) : Array Value := (Value.int .u64 s.tg :: .int .u64 s.it :: .int .i64 s.at_ :: .int .u64 s.x :: .int .i64 s.ln :: rest).toArray
def SlotAt (w : World) (b : Nat) (T : TypeId) (s : SL) (rest : List Value) : Prop := w.heap[b]? = some (.cells (s.cs rest) T (0, 0))
section
variable {w w' : World} {b : Nat} {T : TypeId} {s : SL} {rest : List Value} (h : SlotAt w b T s rest)
include h
theorem SlotAt.lt : b < w.heap.size := (Array.getElem?_eq_some_iff.1 h).1
theorem SlotAt.below (hb : Below w.heap.size w w') : SlotAt w' b T s rest := (hb.block _ h.lt).trans h
theorem SlotAt.c0 : w.cell? ⟨b, 0, none⟩ = some (.int .u64 s.tg) := by rw [hcell h 0]; simp
theorem SlotAt.c1 : w.cell? ⟨b, 1, none⟩ = some (.int .u64 s.it) := by rw [hcell h 1]; simp
theorem SlotAt.c2 : w.cell? ⟨b, 2, none⟩ = some (.int .i64 s.at_) := by rw [hcell h 2]; simp
theorem SlotAt.c3 : w.cell? ⟨b, 3, none⟩ = some (.int .u64 s.x) := by rw [hcell h 3]; simp
theorem SlotAt.c4 : w.cell? ⟨b, 4, none⟩ = some (.int .i64 s.ln) := by rw [hcell h 4]; simp
theorem SlotAt.set3 (x : Int) : SlotAt (w.setCell ⟨b, 3, none⟩ (.int .u64 x)) b T { s with x := x } rest := by
  have := setCell_same h 3 (.int .u64 x)
  simpa [SlotAt, SL.cs] using this
theorem SlotAt.set4 (x : Int) : SlotAt (w.setCell ⟨b, 4, none⟩ (.int .i64 x)) b T { s with ln := x } rest := by
  have := setCell_same h 4 (.int .i64 x)
  simpa [SlotAt, SL.cs] using this
end
def sof (b u s : Int) : SL := if itemA b u s = 0 then ⟨0, 0, 0, 0, 0⟩ else ⟨tagsA b u, itemA b u s, s, 0, 0⟩
abbrev SL.agg (s : SL) : Value := .agg #[.int .u64 s.tg, .int .u64 s.it, .int .i64 s.at_, .int .u64 s.x, .int .i64 s.ln]
theorem box5s (w : World) (a b c d e : Value) (T : TypeId) : ∀ o, (w.alloc (.cells #[a, b, c, d, e] T)).cell? ⟨w.heap.size, o, none⟩ = (#[a, b, c, d, e] : Array Value)[o]? := fun o => by
  have := heap_alloc_new w (.cells #[a, b, c, d, e] T)
  unfold World.cell?; simp only; rw [this]; rfl

theorem sfive_below {w w1 : World} {q : Nat} {v0 v1 v2 v3 v4 : Value} (h : Below w.heap.size w w1) (hq : w.heap.size ≤ q) : Below w.heap.size w (((((w1.setCell ⟨q, 0, none⟩ v0).setCell ⟨q, 1, none⟩ v1).setCell ⟨q, 2, none⟩ v2).setCell ⟨q, 3, none⟩ v3).setCell ⟨q, 4, none⟩ v4) :=
  below_set (below_set (below_set (below_set (below_set h hq) hq) hq) hq) hq
theorem sfive_set {w1 : World} {q : Nat} {a b c d e : Value} {T : TypeId} (h : w1.heap[q]? = some (.cells #[a, b, c, d, e] T (0, 0))) (v0 v1 v2 v3 v4 : Value) :
    (((((w1.setCell ⟨q, 0, none⟩ v0).setCell ⟨q, 1, none⟩ v1).setCell ⟨q, 2, none⟩ v2).setCell ⟨q, 3, none⟩ v3).setCell ⟨q, 4, none⟩ v4).heap[q]? = some (.cells #[v0, v1, v2, v3, v4] T (0, 0)) :=
  setCell_same (setCell_same (setCell_same (setCell_same (setCell_same h 0 v0) 1 v1) 2 v2) 3 v3) 4 v4
set_option maxRecDepth 10000 in
set_option maxHeartbeats 1000000 in
theorem pof_any (b u s : Int) (hs : (Lit.int .i64 s).wf = true) (w : World) : Calls Tryz.prog 186 #[.agg #[.int .i64 b, .int .i64 u, .int .i64 s]] w fun e w' => e = .returned (sof b u s).agg ∧ Below w.heap.size w w' := by
  have hit := fun w => item_any b u s hs w
  have hitx := fun {w : World} (st : ExtW w) => item_any b u s hs st.val
  have htg := fun {w : World} (st : ExtW w) => tags_any b u st.val
  have hB1 : Below w.heap.size w ((w.alloc (.cells #[.int .i64 b, .int .i64 u, .int .i64 s] 71)).alloc (.cells #[.int .u64 0, .int .u64 0, .int .i64 0, .int .u64 0, .int .i64 0] 324)) :=
    bnext (below_alloc w _) (below_alloc _ _)
  have hz : ∀ o, ((w.alloc (.cells #[.int .i64 b, .int .i64 u, .int .i64 s] 71)).alloc (.cells #[.int .u64 0, .int .u64 0, .int .i64 0, .int .u64 0, .int .i64 0] 324)).cell? ⟨w.heap.size, o, none⟩ = (#[.int .i64 b, .int .i64 u, .int .i64 s] : Array Value)[o]? := fun o =>
    ((below_alloc _ _).cell (p := ⟨w.heap.size, o, none⟩) (by simp)).trans (box3 w b u s _ o)
  have hq : ((w.alloc (.cells #[.int .i64 b, .int .i64 u, .int .i64 s] 71)).alloc (.cells #[.int .u64 0, .int .u64 0, .int .i64 0, .int .u64 0, .int .i64 0] 324)).heap[w.heap.size + 1]? = some (.cells #[.int .u64 0, .int .u64 0, .int .i64 0, .int .u64 0, .int .i64 0] 324 (0, 0)) := by
    simpa using heap_alloc_new (w.alloc (.cells #[.int .i64 b, .int .i64 u, .int .i64 s] 71)) (.cells #[.int .u64 0, .int .u64 0, .int .i64 0, .int .u64 0, .int .i64 0] 324)
  have hsz : ((w.alloc (.cells #[.int .i64 b, .int .i64 u, .int .i64 s] 71)).alloc (.cells #[.int .u64 0, .int .u64 0, .int .i64 0, .int .u64 0, .int .i64 0] 324)).heap.size = w.heap.size + 2 := by simp
  have hZ := Lib.hid hz; have HQ := Lib.hid hq; have HB1 := Lib.hid hB1; have HSZ := Lib.hid hsz
  clear hz hq hB1 hsz
  unfold sof
  cases h0 : (itemA b u s == 0)
  · rw [if_neg (beq_eq_false_iff_ne.1 h0)]
    generalize itemA b u s = I at *
    generalize tagsA b u = G at *
    go_enter Tryz.func186, Tryz.ntmps186
    go_upto_region 3 with (go_at_call 130; refine (hit _).mono ?_; rintro e w1 ⟨rfl, b1⟩; have hq1 := (b1.block _ (by rw [HSZ.out]; omega)).trans HQ.out; have hz0 := (b1.cell (p := ⟨w.heap.size, 0, none⟩) (by rw [HSZ.out]; show w.heap.size < _; omega)).trans (hZ.out 0); have hz1 := (b1.cell (p := ⟨w.heap.size, 1, none⟩) (by rw [HSZ.out]; show w.heap.size < _; omega)).trans (hZ.out 1); have hz2 := (b1.cell (p := ⟨w.heap.size, 2, none⟩) (by rw [HSZ.out]; show w.heap.size < _; omega)).trans (hZ.out 2); have HB2 := Lib.hid (HB1.out.trans (b1.mono HB1.out.size)); clear b1)
    have x0 := fun st : ExtW w1 => st.cell hz0
    have x1 := fun st : ExtW w1 => st.cell hz1
    have x2 := fun st : ExtW w1 => st.cell hz2
    have HQ1 := Lib.hid hq1
    clear hz0 hz1 hz2 hq1 hit
    refine wp_region_ext_tail 8 (by kernel_rfl) (by kernel_rfl) ?_
    simp only [List.take_succ_cons, List.take_zero, List.drop_succ_cons, List.drop_zero]
    repeat (go_big_quiet_step (first | (go_at_call 130; with_reducible refine calls_ext (hitx _)) | (go_at_call 74; with_reducible refine calls_ext (htg _))))
    refine wpQuiet_nil ?_
    rintro W ⟨⟨W2, hW⟩, rfl⟩
    have hq1 := (hW.block _ (Array.getElem?_eq_some_iff.1 HQ1.out).1).trans HQ1.out
    have y0 := hcell hq1 0; have y1 := hcell hq1 1; have y2 := hcell hq1 2; have y3 := hcell hq1 3; have y4 := hcell hq1 4
    have yf := hfrz hq1
    have HW := Lib.hid (HB2.out.trans (hW.mono HB2.out.size))
    have hq5 := sfive_set hq1 (.int .u64 G) (.int .u64 I) (.int .i64 s) (.int .u64 0) (.int .i64 0)
    have hB5 := sfive_below (v0 := .int .u64 G) (v1 := .int .u64 I) (v2 := .int .i64 s) (v3 := .int .u64 0) (v4 := .int .i64 0) HW.out (show w.heap.size ≤ w.heap.size + 1 by omega)
    clear x0 x1 x2 hW hq1
    go_wp2
    generalize World.setCell _ _ _ = W5 at *
    have k0 := hcell hq5 0; have k1 := hcell hq5 1; have k2 := hcell hq5 2; have k3 := hcell hq5 3; have k4 := hcell hq5 4
    simp only [List.getElem?_toArray, List.getElem?_cons_zero, List.getElem?_cons_succ] at k0 k1 k2 k3 k4
    refine bodyPost_ret (v := .agg #[_, _, _, _, _]) (by simp [results, Tryz.results186, go_sem, k0, k1, k2, k3, k4]) rfl ⟨rfl, hB5⟩
  · rw [if_pos (beq_iff_eq.1 h0)]
    rw [beq_iff_eq.1 h0] at hit
    clear hitx htg h0
    go_enter Tryz.func186, Tryz.ntmps186
    go_wp2_with (go_at_call 130; refine (hit _).mono ?_; rintro e w1 ⟨rfl, b1⟩; have hq1 := (b1.block _ (by rw [HSZ.out]; omega)).trans HQ.out; have y0 := hcell hq1 0; have y1 := hcell hq1 1; have y2 := hcell hq1 2; have y3 := hcell hq1 3; have y4 := hcell hq1 4; have yf := hfrz hq1; have hq5 := sfive_set hq1 (.int .u64 0) (.int .u64 0) (.int .i64 0) (.int .u64 0) (.int .i64 0); have hB5 := sfive_below (v0 := .int .u64 0) (v1 := .int .u64 0) (v2 := .int .i64 0) (v3 := .int .u64 0) (v4 := .int .i64 0) (HB1.out.trans (b1.mono HB1.out.size)) (show w.heap.size ≤ w.heap.size + 1 by omega); clear hq1 b1)
    generalize World.setCell _ _ _ = W5 at *
    have k0 := hcell hq5 0; have k1 := hcell hq5 1; have k2 := hcell hq5 2; have k3 := hcell hq5 3; have k4 := hcell hq5 4
    simp only [List.getElem?_toArray, List.getElem?_cons_zero, List.getElem?_cons_succ] at k0 k1 k2 k3 k4
    refine bodyPost_ret (v := .agg #[_, _, _, _, _]) (by simp [results, Tryz.results186, go_sem, k0, k1, k2, k3, k4]) rfl ⟨rfl, hB5⟩

theorem newput_in (b u s g r : Int) (hs : (Lit.int .i64 s).wf = true) (hg : 1 ≤ g ∧ g ≤ 255) (hr : 1 ≤ r) (w : World) : Calls Tryz.prog 108 #[.agg #[.int .i64 b, .int .i64 u, .int .i64 s], .int .i64 g, .int .i64 r] w
    fun e w' => ∃ q, e = .returned (.pointer (some ⟨q, 0, none⟩)) ∧ SlotAt w' q 326 (sof b u s) [.int .i64 g, .int .i64 r] ∧ w.heap.size ≤ q ∧ Below w.heap.size w w' := by
  have ho := fun w => pof_any b u s hs w
  have h1 : decide (g < 1) = false := by simp; omega
  have h2 : decide (255 < g) = false := by simp; omega
  have h3 : decide (r < 1) = false := by simp; omega
  clear hg hr
  go_enter Tryz.func108, Tryz.ntmps108
  go_wp2_with (go_at_call 186; refine (ho _).mono ?_; rintro e w1 ⟨rfl, b1⟩)
  go_ret
  have hB1 := bnext (below_alloc w _) b1
  exact ⟨_, rfl, heap_alloc_new w1 _, hB1.size, bnext hB1 (below_alloc w1 _)⟩
theorem newout_any (b u s : Int) (hs : (Lit.int .i64 s).wf = true) (w : World) : Calls Tryz.prog 145 #[.agg #[.int .i64 b, .int .i64 u, .int .i64 s]] w
    fun e w' => ∃ q, e = .returned (.pointer (some ⟨q, 0, none⟩)) ∧ SlotAt w' q 345 (sof b u s) [] ∧ w.heap.size ≤ q ∧ Below w.heap.size w w' := by
  have ho := fun w => pof_any b u s hs w
  go_enter Tryz.func145, Tryz.ntmps145
  go_wp2_with (go_at_call 186; refine (ho _).mono ?_; rintro e w1 ⟨rfl, b1⟩)
  go_ret
  have hB1 := bnext (below_alloc w _) b1
  exact ⟨_, rfl, heap_alloc_new w1 _, hB1.size, bnext hB1 (below_alloc w1 _)⟩

section
variable {w0 w : World} {B : WB} {V : WV} {s : CS} {b : Nat} {T : TypeId} {σ : SL} {rest : List Value} (h : WS w0 w B V s) (hr : s.room) (hS : SlotAt w b T σ rest) (hT : wTy T = false) (hlo : w0.heap.size ≤ b) (hg : (Lit.int .u64 σ.tg).wf = true)
include h hr hS hT hlo hg
set_option maxRecDepth 10000 in
set_option maxHeartbeats 1000000 in
theorem slot_load : Calls Tryz.prog 307 #[.pointer (some ⟨b, 0, none⟩), .pointer (some ⟨B.wb, 0, none⟩)] w fun e w' => e = .returned (.tuple #[]) ∧ WS w0 w' B V (s.acc 1 σ.tg (s.val σ.tg)) ∧ SlotAt w' b T { σ with x := s.val σ.tg } rest ∧ Fx wTy true b w w' := by
  have hld : ∀ W, Below w.heap.size w W → Calls Tryz.prog 94 #[.pointer (some ⟨B.cb, 0, none⟩), .int .u64 σ.tg] W fun e w' => e = .returned (.int .u64 (s.val σ.tg)) ∧ WS w0 w' B V (s.acc 1 σ.tg (s.val σ.tg)) ∧ Fr wTy true W w' := fun W hW => (h.keep hW).load hr _ hg
  have hd0 := h.keep (Below.refl w.heap.size w).drew
  have y0 : w.drew.cell? ⟨B.wb, 0, none⟩ = some (.pointer (some ⟨B.cb, 0, none⟩)) := hd0.c0
  have y1 : w.drew.cell? ⟨b, 0, none⟩ = some (.int .u64 σ.tg) := SlotAt.c0 (w := w.drew) hS
  have hlw := hld w.drew (Below.refl w.heap.size w).drew
  have HS := Lib.hid hS
  clear hd0 h hr hS hg hld
  go_enter Tryz.func307, Tryz.ntmps307
  go_wp2_with fail
  go_region_with (go_at_call 94; refine hlw.mono ?_; rintro e w2 ⟨rfl, h2, f2⟩; have hs2 : SlotAt w2 b T σ rest := f2.cells _ _ _ _ HS.out hT; have z3 := hs2.c3; have zf := hfrz hs2 3; have H2 := Lib.hid h2; have F2 := Lib.hid f2; have HS2 := Lib.hid hs2; clear h2 f2 hs2 y0 y1 hlw)
  all_goals go_wp2
  all_goals go_end0
  all_goals exact ⟨rfl, set_take (o := 3) H2.out HS2.out hT hlo _, HS2.out.set3 _, (show Fx wTy true b w w2 from ⟨F2.out.size, fun k cs T fr h1 h2 _ => F2.out.cells k cs T fr h1 h2, fun h => by cases h⟩).trans (set_fx _ _ _ _ _ _)⟩
omit hT hlo in
set_option maxRecDepth 10000 in
set_option maxHeartbeats 1000000 in
theorem slot_store (g : Int) (hx : 0 ≤ σ.x ∧ σ.x < 18446744073709551616) : Calls Tryz.prog 308 #[.pointer (some ⟨b, 0, none⟩), .pointer (some ⟨B.wb, 0, none⟩), .int .i64 g] w fun e w' => e = .returned (.tuple #[]) ∧ WS w0 w' B V (s.acc 2 σ.tg (TagPure.withOf σ.x σ.at_ g)) ∧ Fr wTy true w w' := by
  have hst : ∀ W, Below w.heap.size w W → Calls Tryz.prog 73 #[.pointer (some ⟨B.cb, 0, none⟩), .int .u64 σ.tg, .int .u64 (TagPure.withOf σ.x σ.at_ g)] W fun e w' => e = .returned (.int .u64 (s.val σ.tg)) ∧ WS w0 w' B V (s.acc 2 σ.tg (TagPure.withOf σ.x σ.at_ g)) ∧ Fr wTy true W w' := fun W hW => (h.keep hW).store hr _ hg _ (withOf_wf _ _ _ hx.1 hx.2)
  have hwx := fun {w : World} (st : ExtW w) => with_any σ.x σ.at_ g st.val hx.1 hx.2
  have x0 := fun st : ExtW w => st.cell h.c0
  have x1 := fun st : ExtW w => st.cell hS.c0
  have x2 := fun st : ExtW w => st.cell hS.c2
  have x3 := fun st : ExtW w => st.cell hS.c3
  have HST := Lib.hid hst
  clear h hr hS hg hst hx
  go_enter Tryz.func308, Tryz.ntmps308
  go_wp2_with fail
  refine wp_region_ext_tail 18 (by kernel_rfl) (by kernel_rfl) ?_
  simp only [List.take_succ_cons, List.take_zero, List.drop_succ_cons, List.drop_zero]
  repeat (go_big_quiet_step ((go_at_call 309; with_reducible refine calls_ext (hwx _))))
  refine wpQuiet_nil ?_
  rintro W ⟨⟨W2, hW⟩, rfl⟩
  have hsw := HST.out _ hW
  have HW := Lib.hid hW
  clear x0 x1 x2 x3 hwx hW
  go_wp2_with (go_at_call 73; refine hsw.mono ?_; rintro e w2 ⟨rfl, h2, f2⟩)
  go_end0
  exact ⟨rfl, h2, (below_fr HW.out wTy true).trans f2⟩
end
end Go.Proofs.YtomllmlieeaaiaaGreat

/-
  Puts and Outs: their lines, their steps.
-/
namespace Go.Proofs.YtomllmlieeaaiaaGreat
open Go.RowKit
set_option linter.unusedVariables false

theorem fr_fx {w w' : World} (b : Nat) (F : Fr wTy true w w') : Fx wTy true b w w' := ⟨F.size, fun k cs T fr h1 h2 _ => F.cells k cs T fr h1 h2, fun h => by cases h⟩
section
variable {w0 w : World} {B : WB} {V : WV} {s : CS} {b : Nat} {σ : SL} (h : WS w0 w B V s) (hr : s.room)
include h hr
set_option maxRecDepth 10000 in
set_option maxHeartbeats 1000000 in
theorem put_first {g r : Int} (hS : SlotAt w b 326 σ [.int .i64 g, .int .i64 r]) (hi : (Lit.int .u64 σ.it).wf = true) (hrr : 0 ≤ r ∧ r < 9223372036854775808) : Calls Tryz.prog 304 #[.pointer (some ⟨b, 0, none⟩), .pointer (some ⟨B.wb, 0, none⟩)] w fun e w' => e = .returned (.tuple #[]) ∧ WS w0 w' B V (s.acc 2 σ.it r) ∧ Fr wTy true w w' := by
  have e1 : IntKind.u64.wrap r = r := by rw [IntKind.wrap_u64]; omega
  have hst : ∀ W, Below w.heap.size w W → Calls Tryz.prog 73 #[.pointer (some ⟨B.cb, 0, none⟩), .int .u64 σ.it, .int .u64 r] W fun e w' => e = .returned (.int .u64 (s.val σ.it)) ∧ WS w0 w' B V (s.acc 2 σ.it r) ∧ Fr wTy true W w' := fun W hW => (h.keep hW).store hr _ hi _ (bd_wf (by omega))
  have x0 := fun st : ExtW w => st.cell h.c0
  have x1 := fun st : ExtW w => st.cell hS.c1
  have x6 : ∀ st : ExtW w, st.val.cell? ⟨b, 6, none⟩ = some (.int .i64 r) := fun st => st.cell (by rw [hcell hS 6]; rfl)
  have HST := Lib.hid hst
  clear h hr hS hi hst hrr
  go_enter Tryz.func304, Tryz.ntmps304
  go_wp2_with fail
  refine wp_region_ext_tail 14 (by kernel_rfl) (by kernel_rfl) ?_
  simp only [List.take_succ_cons, List.take_zero, List.drop_succ_cons, List.drop_zero]
  repeat (go_big_quiet_step (fail))
  refine wpQuiet_nil ?_
  rintro W ⟨⟨W2, hW⟩, rfl⟩
  have hsw := HST.out _ hW
  have HW := Lib.hid hW
  clear x0 x1 x6 hW
  go_wp2_with (go_at_call 73; refine hsw.mono ?_; rintro e w2 ⟨rfl, h2, f2⟩)
  go_end0
  exact ⟨rfl, h2, (below_fr HW.out wTy true).trans f2⟩
theorem put_second {rest : List Value} (hlo : w0.heap.size ≤ b) (hS : SlotAt w b 326 σ rest) (hg : (Lit.int .u64 σ.tg).wf = true) : Calls Tryz.prog 305 #[.pointer (some ⟨b, 0, none⟩), .pointer (some ⟨B.wb, 0, none⟩)] w fun e w' => e = .returned (.tuple #[]) ∧ WS w0 w' B V (s.acc 1 σ.tg (s.val σ.tg)) ∧ SlotAt w' b 326 { σ with x := s.val σ.tg } rest ∧ Fx wTy true b w w' := by
  have hl := slot_load h hr hS rfl hlo hg
  have y0 := hS.c0
  clear h hr hS hg
  go_enter Tryz.func305, Tryz.ntmps305
  go_wp2_with (go_at_call 307; refine hl.mono ?_; rintro e w2 ⟨rfl, h2⟩)
  go_end0
  exact ⟨rfl, h2⟩
theorem out_first {rest : List Value} (hlo : w0.heap.size ≤ b) (hS : SlotAt w b 345 σ rest) (hg : (Lit.int .u64 σ.tg).wf = true) : Calls Tryz.prog 314 #[.pointer (some ⟨b, 0, none⟩), .pointer (some ⟨B.wb, 0, none⟩)] w fun e w' => e = .returned (.tuple #[]) ∧ WS w0 w' B V (s.acc 1 σ.tg (s.val σ.tg)) ∧ SlotAt w' b 345 { σ with x := s.val σ.tg } rest ∧ Fx wTy true b w w' := by
  have hl := slot_load h hr hS rfl hlo hg
  have y0 := hS.c0
  clear h hr hS hg
  go_enter Tryz.func314, Tryz.ntmps314
  go_wp2_with (go_at_call 307; refine hl.mono ?_; rintro e w2 ⟨rfl, h2⟩)
  go_end0
  exact ⟨rfl, h2⟩
theorem out_second {rest : List Value} (hS : SlotAt w b 345 σ rest) (hg : (Lit.int .u64 σ.tg).wf = true) (hx : 0 ≤ σ.x ∧ σ.x < 18446744073709551616) : Calls Tryz.prog 315 #[.pointer (some ⟨b, 0, none⟩), .pointer (some ⟨B.wb, 0, none⟩)] w fun e w' => e = .returned (.tuple #[]) ∧ WS w0 w' B V (s.acc 2 σ.tg (TagPure.withOf σ.x σ.at_ 0)) ∧ Fr wTy true w w' := by
  have hl := slot_store h hr hS hg 0 hx
  have y0 := hS.c0
  clear h hr hS hg hx
  go_enter Tryz.func315, Tryz.ntmps315
  go_wp2_with (go_at_call 308; refine hl.mono ?_; rintro e w2 ⟨rfl, h2⟩)
  go_end0
  exact ⟨rfl, h2⟩
set_option maxRecDepth 10000 in
set_option maxHeartbeats 1000000 in
theorem put_third {g r : Int} (hS : SlotAt w b 326 σ [.int .i64 g, .int .i64 r]) (hg : (Lit.int .u64 σ.tg).wf = true) (hx : 0 ≤ σ.x ∧ σ.x < 18446744073709551616) : Calls Tryz.prog 306 #[.pointer (some ⟨b, 0, none⟩), .pointer (some ⟨B.wb, 0, none⟩)] w fun e w' => e = .returned (.tuple #[]) ∧ WS w0 w' B V (s.acc 2 σ.tg (TagPure.withOf σ.x σ.at_ g)) ∧ Fr wTy true w w' := by
  have hl : ∀ W, Below w.heap.size w W → Calls Tryz.prog 308 #[.pointer (some ⟨b, 0, none⟩), .pointer (some ⟨B.wb, 0, none⟩), .int .i64 g] W fun e w' => e = .returned (.tuple #[]) ∧ WS w0 w' B V (s.acc 2 σ.tg (TagPure.withOf σ.x σ.at_ g)) ∧ Fr wTy true W w' := fun W hW => slot_store (h.keep hW) hr (hS.below hW) hg g hx
  have x0 := fun st : ExtW w => st.cell hS.c0
  have x5 : ∀ st : ExtW w, st.val.cell? ⟨b, 5, none⟩ = some (.int .i64 g) := fun st => st.cell (by rw [hcell hS 5]; rfl)
  have HL := Lib.hid hl
  clear h hr hS hg hx hl
  go_enter Tryz.func306, Tryz.ntmps306
  go_wp2_with fail
  refine wp_region_ext_tail 8 (by kernel_rfl) (by kernel_rfl) ?_
  simp only [List.take_succ_cons, List.take_zero, List.drop_succ_cons, List.drop_zero]
  repeat (go_big_quiet_step (fail))
  refine wpQuiet_nil ?_
  rintro W ⟨⟨W2, hW⟩, rfl⟩
  have hsw := HL.out _ hW
  have HW := Lib.hid hW
  clear x0 x5 hW
  go_wp2_with (go_at_call 308; refine hsw.mono ?_; rintro e w2 ⟨rfl, h2, f2⟩)
  go_end0
  exact ⟨rfl, h2, (below_fr HW.out wTy true).trans f2⟩
set_option maxRecDepth 10000 in
set_option maxHeartbeats 1000000 in
theorem out_third {rest : List Value} (hS : SlotAt w b 345 σ rest) (hi : (Lit.int .u64 σ.it).wf = true) : Calls Tryz.prog 316 #[.pointer (some ⟨b, 0, none⟩), .pointer (some ⟨B.wb, 0, none⟩)] w fun e w' => e = .returned (.tuple #[]) ∧ WS w0 w' B V (s.acc 2 σ.it 0) ∧ Fr wTy true w w' := by
  have hst : ∀ W, Below w.heap.size w W → Calls Tryz.prog 73 #[.pointer (some ⟨B.cb, 0, none⟩), .int .u64 σ.it, .int .u64 0] W fun e w' => e = .returned (.int .u64 (s.val σ.it)) ∧ WS w0 w' B V (s.acc 2 σ.it 0) ∧ Fr wTy true W w' := fun W hW => (h.keep hW).store hr _ hi _ (by decide)
  have x0 := fun st : ExtW w => st.cell h.c0
  have x00 := fun st : ExtW w => st.cell hS.c0
  have x1 := fun st : ExtW w => st.cell hS.c1
  have HST := Lib.hid hst
  clear h hr hS hi hst
  go_enter Tryz.func316, Tryz.ntmps316
  go_wp2_with fail
  refine wp_region_ext_tail 9 (by kernel_rfl) (by kernel_rfl) ?_
  simp only [List.take_succ_cons, List.take_zero, List.drop_succ_cons, List.drop_zero]
  repeat (go_big_quiet_step (fail))
  refine wpQuiet_nil ?_
  rintro W ⟨⟨W2, hW⟩, rfl⟩
  have hsw := HST.out _ hW
  have HW := Lib.hid hW
  clear x0 x00 x1 hW
  go_wp2_with (go_at_call 73; refine hsw.mono ?_; rintro e w2 ⟨rfl, h2, f2⟩)
  go_end0
  exact ⟨rfl, h2, (below_fr HW.out wTy true).trans f2⟩
end

abbrev fv (f : Fn) : Value := .func f #[] #[]

theorem puts_any (w : World) : Calls Tryz.prog 303 #[] w fun e w' => e = .returned (.agg #[fv (.func 304), fv (.func 305), fv (.func 306)]) ∧ Below w.heap.size w w' := by
  go_enter Tryz.func303, Tryz.ntmps303
  go_wp2
  refine bodyPost_ret (v := .agg #[fv (.func 304), fv (.func 305), fv (.func 306)]) (by simp [results, Tryz.results303, go_sem]) rfl ⟨rfl, ?_⟩
  exact below_alloc' _ _
set_option maxRecDepth 10000 in
theorem Putover {w : World} {b : Nat} {σ : SL} {rest : List Value} (hS : SlotAt w b 326 σ rest) (a c : Bool) (ha : (σ.tg == 0) = a) (hc : (σ.ln == 3) = c) : Calls Tryz.prog 301 #[.pointer (some ⟨b, 0, none⟩)] w fun e w' => e = .returned (.bool (a || c)) ∧ Below w.heap.size w w' := by
  have x0 := fun st : ExtW w => st.cell hS.c0
  have x4 := fun st : ExtW w => st.cell hS.c4
  have hp := fun {w : World} (st : ExtW w) => puts_any st.val
  clear hS
  cases a
  all_goals
    go_enter Tryz.func301, Tryz.ntmps301
    go_wp2_with fail
    refine wp_region_ext (by kernel_rfl) (by kernel_rfl) ?_
    repeat (go_big_quiet_step ((go_at_call 303; with_reducible refine calls_ext (hp _))))
    refine wpQuiet_nil ?_
    rintro W ⟨⟨W2, hW⟩, rfl⟩
    clear x0 x4
    go_wp2
    go_ret
    exact ⟨by simp, hW⟩

theorem outs_any (w : World) : Calls Tryz.prog 313 #[] w fun e w' => e = .returned (.agg #[fv (.func 314), fv (.func 315), fv (.func 316)]) ∧ Below w.heap.size w w' := by
  go_enter Tryz.func313, Tryz.ntmps313
  go_wp2
  refine bodyPost_ret (v := .agg #[fv (.func 314), fv (.func 315), fv (.func 316)]) (by simp [results, Tryz.results313, go_sem]) rfl ⟨rfl, ?_⟩
  exact below_alloc' _ _
set_option maxRecDepth 10000 in
theorem Outover {w : World} {b : Nat} {σ : SL} {rest : List Value} (hS : SlotAt w b 345 σ rest) (a c : Bool) (ha : (σ.tg == 0) = a) (hc : (σ.ln == 3) = c) : Calls Tryz.prog 311 #[.pointer (some ⟨b, 0, none⟩)] w fun e w' => e = .returned (.bool (a || c)) ∧ Below w.heap.size w w' := by
  have x0 := fun st : ExtW w => st.cell hS.c0
  have x4 := fun st : ExtW w => st.cell hS.c4
  have hp := fun {w : World} (st : ExtW w) => outs_any st.val
  clear hS
  cases a
  all_goals
    go_enter Tryz.func311, Tryz.ntmps311
    go_wp2_with fail
    refine wp_region_ext (by kernel_rfl) (by kernel_rfl) ?_
    repeat (go_big_quiet_step ((go_at_call 313; with_reducible refine calls_ext (hp _))))
    refine wpQuiet_nil ?_
    rintro W ⟨⟨W2, hW⟩, rfl⟩
    clear x0 x4
    go_wp2
    go_ret
    exact ⟨by simp, hW⟩

theorem cell_lt {w : World} {b o : Nat} {v : Value} (h : w.cell? ⟨b, o, none⟩ = some v) : b < w.heap.size := by
  unfold World.cell? at h; simp only at h
  rcases Nat.lt_or_ge b w.heap.size with h1 | h1
  · exact h1
  · rw [Array.getElem?_eq_none h1] at h; cases h

set_option maxRecDepth 10000 in
set_option maxHeartbeats 1000000 in
theorem put_step0 {w0 w : World} {B : WB} {V : WV} {s : CS} {b : Nat} {σ : SL} {g r : Int} (h : WS w0 w B V s) (hr : s.room) (hlo : w0.heap.size ≤ b) (hS : SlotAt w b 326 σ [.int .i64 g, .int .i64 r]) (hz : σ.tg ≠ 0) (hg : (Lit.int .u64 σ.tg).wf = true) (hl : σ.ln = 0) (hi : (Lit.int .u64 σ.it).wf = true) (hrr : 0 ≤ r ∧ r < 9223372036854775808) :
    Calls Tryz.prog 302 #[.pointer (some ⟨b, 0, none⟩), .pointer (some ⟨B.wb, 0, none⟩)] w fun e w' => e = .returned (.bool false) ∧ WS w0 w' B V (s.acc 2 σ.it r) ∧ SlotAt w' b 326 { σ with ln := 1 } [.int .i64 g, .int .i64 r] ∧ Fx wTy true b w w' := by
  have hz' : (σ.tg == 0) = false := beq_eq_false_iff_ne.2 hz
  have ho := Putover hS false false hz' (by rw [hl]; rfl)
  have hcallee : ∀ W, Below w.heap.size w W → Calls Tryz.prog 304 #[.pointer (some ⟨b, 0, none⟩), .pointer (some ⟨B.wb, 0, none⟩)] W fun e w' => e = .returned (.tuple #[]) ∧ WS w0 w' B V (s.acc 2 σ.it r) ∧ SlotAt w' b 326 (σ) [.int .i64 g, .int .i64 r] ∧ Fx wTy true b W w' := fun W hW =>
    (put_first (h.keep hW) hr (hS.below hW) hi hrr).mono fun e w' ⟨he, hw, hf⟩ => ⟨he, hw, hf.cells _ _ _ _ (hS.below hW) rfl, fr_fx b hf⟩
  have hln : (σ).ln = 0 := hl
  have hso : ((σ).tg == 0) = false := hz'
  have hidx : ∀ W : World, (Instr.index 432 (.agg #[fv (.func 304), fv (.func 305), fv (.func 306)]) (.int .i64 0)).run Tryz.prog W = .ok (fv (.func 304)) W := fun W => by kernel_rfl
  have hp := fun {w : World} (st : ExtW w) => puts_any st.val
  have hc4 := hS.c4
  rw [hl] at hc4
  have HC := Lib.hid hcallee; have H0 := Lib.hid hln; have HSO := Lib.hid hso
  clear h hr hS hg hcallee hl hz hz' hln hso hi hrr
  go_enter Tryz.func302, Tryz.ntmps302
  go_upto_region 2 with (go_at_call 301; refine ho.mono ?_; rintro e w1 ⟨rfl, b1⟩; have x4 := (fun st : ExtW w1 => st.cell ((b1.cell (p := ⟨b, 4, none⟩) (cell_lt hc4)).trans hc4)); have B1 := Lib.hid b1; clear b1 ho hc4)
  refine wp_region_ext_tail 9 (by kernel_rfl) (by kernel_rfl) ?_
  simp only [List.take_succ_cons, List.take_zero, List.drop_succ_cons, List.drop_zero]
  repeat (go_big_quiet_step ((go_at_call 303; with_reducible refine calls_ext (hp _))))
  refine wpQuiet_nil ?_
  rintro W ⟨⟨W2, hW⟩, rfl⟩
  have hb2 := B1.out.trans (hW.mono B1.out.size)
  have hcw := HC.out _ hb2
  have HB2 := Lib.hid hb2
  clear x4 hp hidx hW hb2
  go_upto_region 4 with (go_at_call 304; refine hcw.mono ?_; rintro e w3 ⟨rfl, h3, s3, f3⟩; have y4 := s3.c4; rw [H0.out] at y4; have yf := hfrz s3 4; have H3 := Lib.hid h3; have S3 := Lib.hid s3; have F3 := Lib.hid f3; clear h3 s3 f3 hcw)
  have ho2 := Putover (S3.out.set4 (1)) false false HSO.out rfl
  have h4 := set_take (o := 4) H3.out S3.out rfl hlo (.int .i64 (1))
  have s4 := S3.out.set4 (1)
  have f4 := (((below_fr HB2.out wTy true).fx b).trans F3.out).trans (set_fx wTy true w3 b 4 (.int .i64 (1)))
  have H4 := Lib.hid h4; have S4 := Lib.hid s4; have F4 := Lib.hid f4
  clear h4 s4 f4 H3 S3 F3 y4 yf
  change Code.wp _ _ _ _ (w3.setCell ⟨b, 4, none⟩ (.int .i64 (1)))
  generalize w3.setCell ⟨b, 4, none⟩ (.int .i64 (1)) = W4 at *
  go_wp2_with (go_at_call 301; refine ho2.mono ?_; rintro e w5 ⟨rfl, b5⟩)
  go_ret
  exact ⟨rfl, H4.out.keep b5, S4.out.below b5, F4.out.trans ((below_fr b5 wTy true).fx b)⟩

set_option maxRecDepth 10000 in
set_option maxHeartbeats 1000000 in
theorem put_step1 {w0 w : World} {B : WB} {V : WV} {s : CS} {b : Nat} {σ : SL} {rest : List Value} (h : WS w0 w B V s) (hr : s.room) (hlo : w0.heap.size ≤ b) (hS : SlotAt w b 326 σ rest) (hz : σ.tg ≠ 0) (hg : (Lit.int .u64 σ.tg).wf = true) (hl : σ.ln = 1)  :
    Calls Tryz.prog 302 #[.pointer (some ⟨b, 0, none⟩), .pointer (some ⟨B.wb, 0, none⟩)] w fun e w' => e = .returned (.bool false) ∧ WS w0 w' B V (s.acc 1 σ.tg (s.val σ.tg)) ∧ SlotAt w' b 326 { { σ with x := s.val σ.tg } with ln := 2 } rest ∧ Fx wTy true b w w' := by
  have hz' : (σ.tg == 0) = false := beq_eq_false_iff_ne.2 hz
  have ho := Putover hS false false hz' (by rw [hl]; rfl)
  have hcallee : ∀ W, Below w.heap.size w W → Calls Tryz.prog 305 #[.pointer (some ⟨b, 0, none⟩), .pointer (some ⟨B.wb, 0, none⟩)] W fun e w' => e = .returned (.tuple #[]) ∧ WS w0 w' B V (s.acc 1 σ.tg (s.val σ.tg)) ∧ SlotAt w' b 326 ({ σ with x := s.val σ.tg }) rest ∧ Fx wTy true b W w' := fun W hW =>
    put_second (h.keep hW) hr hlo (hS.below hW) hg
  have hln : ({ σ with x := s.val σ.tg }).ln = 1 := hl
  have hso : (({ σ with x := s.val σ.tg }).tg == 0) = false := hz'
  have hidx : ∀ W : World, (Instr.index 432 (.agg #[fv (.func 304), fv (.func 305), fv (.func 306)]) (.int .i64 1)).run Tryz.prog W = .ok (fv (.func 305)) W := fun W => by kernel_rfl
  have hp := fun {w : World} (st : ExtW w) => puts_any st.val
  have hc4 := hS.c4
  rw [hl] at hc4
  have HC := Lib.hid hcallee; have H1 := Lib.hid hln; have HSO := Lib.hid hso
  clear h hr hS hg hcallee hl hz hz' hln hso 
  go_enter Tryz.func302, Tryz.ntmps302
  go_upto_region 2 with (go_at_call 301; refine ho.mono ?_; rintro e w1 ⟨rfl, b1⟩; have x4 := (fun st : ExtW w1 => st.cell ((b1.cell (p := ⟨b, 4, none⟩) (cell_lt hc4)).trans hc4)); have B1 := Lib.hid b1; clear b1 ho hc4)
  refine wp_region_ext_tail 9 (by kernel_rfl) (by kernel_rfl) ?_
  simp only [List.take_succ_cons, List.take_zero, List.drop_succ_cons, List.drop_zero]
  repeat (go_big_quiet_step ((go_at_call 303; with_reducible refine calls_ext (hp _))))
  refine wpQuiet_nil ?_
  rintro W ⟨⟨W2, hW⟩, rfl⟩
  have hb2 := B1.out.trans (hW.mono B1.out.size)
  have hcw := HC.out _ hb2
  have HB2 := Lib.hid hb2
  clear x4 hp hidx hW hb2
  go_upto_region 4 with (go_at_call 305; refine hcw.mono ?_; rintro e w3 ⟨rfl, h3, s3, f3⟩; have y4 := s3.c4; rw [H1.out] at y4; have yf := hfrz s3 4; have H3 := Lib.hid h3; have S3 := Lib.hid s3; have F3 := Lib.hid f3; clear h3 s3 f3 hcw)
  have ho2 := Putover (S3.out.set4 (2)) false false HSO.out rfl
  have h4 := set_take (o := 4) H3.out S3.out rfl hlo (.int .i64 (2))
  have s4 := S3.out.set4 (2)
  have f4 := (((below_fr HB2.out wTy true).fx b).trans F3.out).trans (set_fx wTy true w3 b 4 (.int .i64 (2)))
  have H4 := Lib.hid h4; have S4 := Lib.hid s4; have F4 := Lib.hid f4
  clear h4 s4 f4 H3 S3 F3 y4 yf
  change Code.wp _ _ _ _ (w3.setCell ⟨b, 4, none⟩ (.int .i64 (2)))
  generalize w3.setCell ⟨b, 4, none⟩ (.int .i64 (2)) = W4 at *
  go_wp2_with (go_at_call 301; refine ho2.mono ?_; rintro e w5 ⟨rfl, b5⟩)
  go_ret
  exact ⟨rfl, H4.out.keep b5, S4.out.below b5, F4.out.trans ((below_fr b5 wTy true).fx b)⟩

set_option maxRecDepth 10000 in
set_option maxHeartbeats 1000000 in
theorem put_step2 {w0 w : World} {B : WB} {V : WV} {s : CS} {b : Nat} {σ : SL} {g r : Int} (h : WS w0 w B V s) (hr : s.room) (hlo : w0.heap.size ≤ b) (hS : SlotAt w b 326 σ [.int .i64 g, .int .i64 r]) (hz : σ.tg ≠ 0) (hg : (Lit.int .u64 σ.tg).wf = true) (hl : σ.ln = 2) (hx : 0 ≤ σ.x ∧ σ.x < 18446744073709551616) :
    Calls Tryz.prog 302 #[.pointer (some ⟨b, 0, none⟩), .pointer (some ⟨B.wb, 0, none⟩)] w fun e w' => e = .returned (.bool true) ∧ WS w0 w' B V (s.acc 2 σ.tg (TagPure.withOf σ.x σ.at_ g)) ∧ SlotAt w' b 326 { σ with ln := 3 } [.int .i64 g, .int .i64 r] ∧ Fx wTy true b w w' := by
  have hz' : (σ.tg == 0) = false := beq_eq_false_iff_ne.2 hz
  have ho := Putover hS false false hz' (by rw [hl]; rfl)
  have hcallee : ∀ W, Below w.heap.size w W → Calls Tryz.prog 306 #[.pointer (some ⟨b, 0, none⟩), .pointer (some ⟨B.wb, 0, none⟩)] W fun e w' => e = .returned (.tuple #[]) ∧ WS w0 w' B V (s.acc 2 σ.tg (TagPure.withOf σ.x σ.at_ g)) ∧ SlotAt w' b 326 (σ) [.int .i64 g, .int .i64 r] ∧ Fx wTy true b W w' := fun W hW =>
    (put_third (h.keep hW) hr (hS.below hW) hg hx).mono fun e w' ⟨he, hw, hf⟩ => ⟨he, hw, hf.cells _ _ _ _ (hS.below hW) rfl, fr_fx b hf⟩
  have hln : (σ).ln = 2 := hl
  have hso : ((σ).tg == 0) = false := hz'
  have hidx : ∀ W : World, (Instr.index 432 (.agg #[fv (.func 304), fv (.func 305), fv (.func 306)]) (.int .i64 2)).run Tryz.prog W = .ok (fv (.func 306)) W := fun W => by kernel_rfl
  have hp := fun {w : World} (st : ExtW w) => puts_any st.val
  have hc4 := hS.c4
  rw [hl] at hc4
  have HC := Lib.hid hcallee; have H2 := Lib.hid hln; have HSO := Lib.hid hso
  clear h hr hS hg hcallee hl hz hz' hln hso hx
  go_enter Tryz.func302, Tryz.ntmps302
  go_upto_region 2 with (go_at_call 301; refine ho.mono ?_; rintro e w1 ⟨rfl, b1⟩; have x4 := (fun st : ExtW w1 => st.cell ((b1.cell (p := ⟨b, 4, none⟩) (cell_lt hc4)).trans hc4)); have B1 := Lib.hid b1; clear b1 ho hc4)
  refine wp_region_ext_tail 9 (by kernel_rfl) (by kernel_rfl) ?_
  simp only [List.take_succ_cons, List.take_zero, List.drop_succ_cons, List.drop_zero]
  repeat (go_big_quiet_step ((go_at_call 303; with_reducible refine calls_ext (hp _))))
  refine wpQuiet_nil ?_
  rintro W ⟨⟨W2, hW⟩, rfl⟩
  have hb2 := B1.out.trans (hW.mono B1.out.size)
  have hcw := HC.out _ hb2
  have HB2 := Lib.hid hb2
  clear x4 hp hidx hW hb2
  go_upto_region 4 with (go_at_call 306; refine hcw.mono ?_; rintro e w3 ⟨rfl, h3, s3, f3⟩; have y4 := s3.c4; rw [H2.out] at y4; have yf := hfrz s3 4; have H3 := Lib.hid h3; have S3 := Lib.hid s3; have F3 := Lib.hid f3; clear h3 s3 f3 hcw)
  have ho2 := Putover (S3.out.set4 (3)) false true HSO.out rfl
  have h4 := set_take (o := 4) H3.out S3.out rfl hlo (.int .i64 (3))
  have s4 := S3.out.set4 (3)
  have f4 := (((below_fr HB2.out wTy true).fx b).trans F3.out).trans (set_fx wTy true w3 b 4 (.int .i64 (3)))
  have H4 := Lib.hid h4; have S4 := Lib.hid s4; have F4 := Lib.hid f4
  clear h4 s4 f4 H3 S3 F3 y4 yf
  change Code.wp _ _ _ _ (w3.setCell ⟨b, 4, none⟩ (.int .i64 (3)))
  generalize w3.setCell ⟨b, 4, none⟩ (.int .i64 (3)) = W4 at *
  go_wp2_with (go_at_call 301; refine ho2.mono ?_; rintro e w5 ⟨rfl, b5⟩)
  go_ret
  exact ⟨rfl, H4.out.keep b5, S4.out.below b5, F4.out.trans ((below_fr b5 wTy true).fx b)⟩

set_option maxRecDepth 10000 in
set_option maxHeartbeats 1000000 in
theorem out_step0 {w0 w : World} {B : WB} {V : WV} {s : CS} {b : Nat} {σ : SL} {rest : List Value} (h : WS w0 w B V s) (hr : s.room) (hlo : w0.heap.size ≤ b) (hS : SlotAt w b 345 σ rest) (hz : σ.tg ≠ 0) (hg : (Lit.int .u64 σ.tg).wf = true) (hl : σ.ln = 0)  :
    Calls Tryz.prog 312 #[.pointer (some ⟨b, 0, none⟩), .pointer (some ⟨B.wb, 0, none⟩)] w fun e w' => e = .returned (.bool false) ∧ WS w0 w' B V (s.acc 1 σ.tg (s.val σ.tg)) ∧ SlotAt w' b 345 { { σ with x := s.val σ.tg } with ln := 1 } rest ∧ Fx wTy true b w w' := by
  have hz' : (σ.tg == 0) = false := beq_eq_false_iff_ne.2 hz
  have ho := Outover hS false false hz' (by rw [hl]; rfl)
  have hcallee : ∀ W, Below w.heap.size w W → Calls Tryz.prog 314 #[.pointer (some ⟨b, 0, none⟩), .pointer (some ⟨B.wb, 0, none⟩)] W fun e w' => e = .returned (.tuple #[]) ∧ WS w0 w' B V (s.acc 1 σ.tg (s.val σ.tg)) ∧ SlotAt w' b 345 ({ σ with x := s.val σ.tg }) rest ∧ Fx wTy true b W w' := fun W hW =>
    out_first (h.keep hW) hr hlo (hS.below hW) hg
  have hln : ({ σ with x := s.val σ.tg }).ln = 0 := hl
  have hso : (({ σ with x := s.val σ.tg }).tg == 0) = false := hz'
  have hidx : ∀ W : World, (Instr.index 437 (.agg #[fv (.func 314), fv (.func 315), fv (.func 316)]) (.int .i64 0)).run Tryz.prog W = .ok (fv (.func 314)) W := fun W => by kernel_rfl
  have hp := fun {w : World} (st : ExtW w) => outs_any st.val
  have hc4 := hS.c4
  rw [hl] at hc4
  have HC := Lib.hid hcallee; have H0 := Lib.hid hln; have HSO := Lib.hid hso
  clear h hr hS hg hcallee hl hz hz' hln hso 
  go_enter Tryz.func312, Tryz.ntmps312
  go_upto_region 2 with (go_at_call 311; refine ho.mono ?_; rintro e w1 ⟨rfl, b1⟩; have x4 := (fun st : ExtW w1 => st.cell ((b1.cell (p := ⟨b, 4, none⟩) (cell_lt hc4)).trans hc4)); have B1 := Lib.hid b1; clear b1 ho hc4)
  refine wp_region_ext_tail 9 (by kernel_rfl) (by kernel_rfl) ?_
  simp only [List.take_succ_cons, List.take_zero, List.drop_succ_cons, List.drop_zero]
  repeat (go_big_quiet_step ((go_at_call 313; with_reducible refine calls_ext (hp _))))
  refine wpQuiet_nil ?_
  rintro W ⟨⟨W2, hW⟩, rfl⟩
  have hb2 := B1.out.trans (hW.mono B1.out.size)
  have hcw := HC.out _ hb2
  have HB2 := Lib.hid hb2
  clear x4 hp hidx hW hb2
  go_upto_region 4 with (go_at_call 314; refine hcw.mono ?_; rintro e w3 ⟨rfl, h3, s3, f3⟩; have y4 := s3.c4; rw [H0.out] at y4; have yf := hfrz s3 4; have H3 := Lib.hid h3; have S3 := Lib.hid s3; have F3 := Lib.hid f3; clear h3 s3 f3 hcw)
  have ho2 := Outover (S3.out.set4 (1)) false false HSO.out rfl
  have h4 := set_take (o := 4) H3.out S3.out rfl hlo (.int .i64 (1))
  have s4 := S3.out.set4 (1)
  have f4 := (((below_fr HB2.out wTy true).fx b).trans F3.out).trans (set_fx wTy true w3 b 4 (.int .i64 (1)))
  have H4 := Lib.hid h4; have S4 := Lib.hid s4; have F4 := Lib.hid f4
  clear h4 s4 f4 H3 S3 F3 y4 yf
  change Code.wp _ _ _ _ (w3.setCell ⟨b, 4, none⟩ (.int .i64 (1)))
  generalize w3.setCell ⟨b, 4, none⟩ (.int .i64 (1)) = W4 at *
  go_wp2_with (go_at_call 311; refine ho2.mono ?_; rintro e w5 ⟨rfl, b5⟩)
  go_ret
  exact ⟨rfl, H4.out.keep b5, S4.out.below b5, F4.out.trans ((below_fr b5 wTy true).fx b)⟩

set_option maxRecDepth 10000 in
set_option maxHeartbeats 1000000 in
theorem out_step1 {w0 w : World} {B : WB} {V : WV} {s : CS} {b : Nat} {σ : SL} {rest : List Value} (h : WS w0 w B V s) (hr : s.room) (hlo : w0.heap.size ≤ b) (hS : SlotAt w b 345 σ rest) (hz : σ.tg ≠ 0) (hg : (Lit.int .u64 σ.tg).wf = true) (hl : σ.ln = 1) (hx : 0 ≤ σ.x ∧ σ.x < 18446744073709551616) :
    Calls Tryz.prog 312 #[.pointer (some ⟨b, 0, none⟩), .pointer (some ⟨B.wb, 0, none⟩)] w fun e w' => e = .returned (.bool false) ∧ WS w0 w' B V (s.acc 2 σ.tg (TagPure.withOf σ.x σ.at_ 0)) ∧ SlotAt w' b 345 { σ with ln := 2 } rest ∧ Fx wTy true b w w' := by
  have hz' : (σ.tg == 0) = false := beq_eq_false_iff_ne.2 hz
  have ho := Outover hS false false hz' (by rw [hl]; rfl)
  have hcallee : ∀ W, Below w.heap.size w W → Calls Tryz.prog 315 #[.pointer (some ⟨b, 0, none⟩), .pointer (some ⟨B.wb, 0, none⟩)] W fun e w' => e = .returned (.tuple #[]) ∧ WS w0 w' B V (s.acc 2 σ.tg (TagPure.withOf σ.x σ.at_ 0)) ∧ SlotAt w' b 345 (σ) rest ∧ Fx wTy true b W w' := fun W hW =>
    (out_second (h.keep hW) hr (hS.below hW) hg hx).mono fun e w' ⟨he, hw, hf⟩ => ⟨he, hw, hf.cells _ _ _ _ (hS.below hW) rfl, fr_fx b hf⟩
  have hln : (σ).ln = 1 := hl
  have hso : ((σ).tg == 0) = false := hz'
  have hidx : ∀ W : World, (Instr.index 437 (.agg #[fv (.func 314), fv (.func 315), fv (.func 316)]) (.int .i64 1)).run Tryz.prog W = .ok (fv (.func 315)) W := fun W => by kernel_rfl
  have hp := fun {w : World} (st : ExtW w) => outs_any st.val
  have hc4 := hS.c4
  rw [hl] at hc4
  have HC := Lib.hid hcallee; have H1 := Lib.hid hln; have HSO := Lib.hid hso
  clear h hr hS hg hcallee hl hz hz' hln hso hx
  go_enter Tryz.func312, Tryz.ntmps312
  go_upto_region 2 with (go_at_call 311; refine ho.mono ?_; rintro e w1 ⟨rfl, b1⟩; have x4 := (fun st : ExtW w1 => st.cell ((b1.cell (p := ⟨b, 4, none⟩) (cell_lt hc4)).trans hc4)); have B1 := Lib.hid b1; clear b1 ho hc4)
  refine wp_region_ext_tail 9 (by kernel_rfl) (by kernel_rfl) ?_
  simp only [List.take_succ_cons, List.take_zero, List.drop_succ_cons, List.drop_zero]
  repeat (go_big_quiet_step ((go_at_call 313; with_reducible refine calls_ext (hp _))))
  refine wpQuiet_nil ?_
  rintro W ⟨⟨W2, hW⟩, rfl⟩
  have hb2 := B1.out.trans (hW.mono B1.out.size)
  have hcw := HC.out _ hb2
  have HB2 := Lib.hid hb2
  clear x4 hp hidx hW hb2
  go_upto_region 4 with (go_at_call 315; refine hcw.mono ?_; rintro e w3 ⟨rfl, h3, s3, f3⟩; have y4 := s3.c4; rw [H1.out] at y4; have yf := hfrz s3 4; have H3 := Lib.hid h3; have S3 := Lib.hid s3; have F3 := Lib.hid f3; clear h3 s3 f3 hcw)
  have ho2 := Outover (S3.out.set4 (2)) false false HSO.out rfl
  have h4 := set_take (o := 4) H3.out S3.out rfl hlo (.int .i64 (2))
  have s4 := S3.out.set4 (2)
  have f4 := (((below_fr HB2.out wTy true).fx b).trans F3.out).trans (set_fx wTy true w3 b 4 (.int .i64 (2)))
  have H4 := Lib.hid h4; have S4 := Lib.hid s4; have F4 := Lib.hid f4
  clear h4 s4 f4 H3 S3 F3 y4 yf
  change Code.wp _ _ _ _ (w3.setCell ⟨b, 4, none⟩ (.int .i64 (2)))
  generalize w3.setCell ⟨b, 4, none⟩ (.int .i64 (2)) = W4 at *
  go_wp2_with (go_at_call 311; refine ho2.mono ?_; rintro e w5 ⟨rfl, b5⟩)
  go_ret
  exact ⟨rfl, H4.out.keep b5, S4.out.below b5, F4.out.trans ((below_fr b5 wTy true).fx b)⟩

set_option maxRecDepth 10000 in
set_option maxHeartbeats 1000000 in
theorem out_step2 {w0 w : World} {B : WB} {V : WV} {s : CS} {b : Nat} {σ : SL} {rest : List Value} (h : WS w0 w B V s) (hr : s.room) (hlo : w0.heap.size ≤ b) (hS : SlotAt w b 345 σ rest) (hz : σ.tg ≠ 0) (hg : (Lit.int .u64 σ.tg).wf = true) (hl : σ.ln = 2) (hi : (Lit.int .u64 σ.it).wf = true) :
    Calls Tryz.prog 312 #[.pointer (some ⟨b, 0, none⟩), .pointer (some ⟨B.wb, 0, none⟩)] w fun e w' => e = .returned (.bool true) ∧ WS w0 w' B V (s.acc 2 σ.it 0) ∧ SlotAt w' b 345 { σ with ln := 3 } rest ∧ Fx wTy true b w w' := by
  have hz' : (σ.tg == 0) = false := beq_eq_false_iff_ne.2 hz
  have ho := Outover hS false false hz' (by rw [hl]; rfl)
  have hcallee : ∀ W, Below w.heap.size w W → Calls Tryz.prog 316 #[.pointer (some ⟨b, 0, none⟩), .pointer (some ⟨B.wb, 0, none⟩)] W fun e w' => e = .returned (.tuple #[]) ∧ WS w0 w' B V (s.acc 2 σ.it 0) ∧ SlotAt w' b 345 (σ) rest ∧ Fx wTy true b W w' := fun W hW =>
    (out_third (h.keep hW) hr (hS.below hW) hi).mono fun e w' ⟨he, hw, hf⟩ => ⟨he, hw, hf.cells _ _ _ _ (hS.below hW) rfl, fr_fx b hf⟩
  have hln : (σ).ln = 2 := hl
  have hso : ((σ).tg == 0) = false := hz'
  have hidx : ∀ W : World, (Instr.index 437 (.agg #[fv (.func 314), fv (.func 315), fv (.func 316)]) (.int .i64 2)).run Tryz.prog W = .ok (fv (.func 316)) W := fun W => by kernel_rfl
  have hp := fun {w : World} (st : ExtW w) => outs_any st.val
  have hc4 := hS.c4
  rw [hl] at hc4
  have HC := Lib.hid hcallee; have H2 := Lib.hid hln; have HSO := Lib.hid hso
  clear h hr hS hg hcallee hl hz hz' hln hso hi
  go_enter Tryz.func312, Tryz.ntmps312
  go_upto_region 2 with (go_at_call 311; refine ho.mono ?_; rintro e w1 ⟨rfl, b1⟩; have x4 := (fun st : ExtW w1 => st.cell ((b1.cell (p := ⟨b, 4, none⟩) (cell_lt hc4)).trans hc4)); have B1 := Lib.hid b1; clear b1 ho hc4)
  refine wp_region_ext_tail 9 (by kernel_rfl) (by kernel_rfl) ?_
  simp only [List.take_succ_cons, List.take_zero, List.drop_succ_cons, List.drop_zero]
  repeat (go_big_quiet_step ((go_at_call 313; with_reducible refine calls_ext (hp _))))
  refine wpQuiet_nil ?_
  rintro W ⟨⟨W2, hW⟩, rfl⟩
  have hb2 := B1.out.trans (hW.mono B1.out.size)
  have hcw := HC.out _ hb2
  have HB2 := Lib.hid hb2
  clear x4 hp hidx hW hb2
  go_upto_region 4 with (go_at_call 316; refine hcw.mono ?_; rintro e w3 ⟨rfl, h3, s3, f3⟩; have y4 := s3.c4; rw [H2.out] at y4; have yf := hfrz s3 4; have H3 := Lib.hid h3; have S3 := Lib.hid s3; have F3 := Lib.hid f3; clear h3 s3 f3 hcw)
  have ho2 := Outover (S3.out.set4 (3)) false true HSO.out rfl
  have h4 := set_take (o := 4) H3.out S3.out rfl hlo (.int .i64 (3))
  have s4 := S3.out.set4 (3)
  have f4 := (((below_fr HB2.out wTy true).fx b).trans F3.out).trans (set_fx wTy true w3 b 4 (.int .i64 (3)))
  have H4 := Lib.hid h4; have S4 := Lib.hid s4; have F4 := Lib.hid f4
  clear h4 s4 f4 H3 S3 F3 y4 yf
  change Code.wp _ _ _ _ (w3.setCell ⟨b, 4, none⟩ (.int .i64 (3)))
  generalize w3.setCell ⟨b, 4, none⟩ (.int .i64 (3)) = W4 at *
  go_wp2_with (go_at_call 311; refine ho2.mono ?_; rintro e w5 ⟨rfl, b5⟩)
  go_ret
  exact ⟨rfl, H4.out.keep b5, S4.out.below b5, F4.out.trans ((below_fr b5 wTy true).fx b)⟩
end Go.Proofs.YtomllmlieeaaiaaGreat

/-
  Slots, spots, runs of a Put, layer 13's examples.
-/
namespace Go.Proofs.YtomllmlieeaaiaaGreat
open Go.RowKit Go.Maps TagPure
set_option linter.unusedVariables false

theorem world12w (b : Int) (hb : 1 ≤ b ∧ b ≤ 12) (w : World) : Calls Tryz.prog 71 #[.int .i64 b] w fun e w' => ∃ B, e = .returned (.pointer (some ⟨B.wb, 0, none⟩)) ∧ WS w w' B (v0 ⟨b, 8, 3, 1, 16⟩) (CS.init [(2, tword b 0)]) := by
  have hn1 : Calls Tryz.prog 79 #[.agg #[.int .i64 b, .int .i64 8, .int .i64 3, .int .i64 1, .int .i64 16]] w fun e w' => ∃ B : WB, e = .returned (.tuple #[.pointer (some ⟨B.wb, 0, none⟩), .int .i64 0]) ∧ WS w w' B (v0 ⟨b, 8, 3, 1, 16⟩) (CS.init [(2, tword b 0)]) :=
    (wnew_ok ⟨b, 8, 3, 1, 16⟩ (by simp [Conf.ok]; omega) w).mono fun e w' ⟨wb, cb, ib, nb, he, g1, g2, g3, g4, g5, g6, g7⟩ => ⟨⟨wb, cb, ib, nb⟩, he, ws_of (Below.refl _ w) g1 g2 g3 g4 g5 g6 g7⟩
  clear hb
  go_enter Tryz.func71, Tryz.ntmps71
  go_wp2_with (go_at_call 79; with_reducible refine hn1.mono ?_; rintro e w1 ⟨B, rfl, h1⟩)
  go_ret
  exact ⟨_, rfl, h1⟩

theorem WS.peekx {w0 w : World} {B : WB} {V : WV} {s : CS} (h : WS w0 w B V s) (a : Int) (ha : (Lit.int .u64 a).wf = true) (st : ExtW w) : Calls Tryz.prog 57 #[.pointer (some ⟨B.cb, 0, none⟩), .int .u64 a] st.val fun e w' => e = .returned (.int .u64 (s.val a)) ∧ st.val = w' :=
  ((h.keep st.below).peek a ha).mono fun e w' ⟨he, hw⟩ => ⟨he, hw.symm⟩
set_option maxRecDepth 10000 in
set_option maxHeartbeats 1000000 in
theorem slot_any {w0 w : World} {B : WB} {V : WV} {s : CS} (h : WS w0 w B V s) (b u k : Int) (hk : (Lit.int .i64 k).wf = true) : Calls Tryz.prog 133 #[.pointer (some ⟨B.wb, 0, none⟩), .agg #[.int .i64 b, .int .i64 u, .int .i64 k]] w
    fun e w' => e = .returned (.tuple #[.int .i64 (tagOf (s.val (tagsA b u)) k), .int .u64 (s.val (itemA b u k))]) ∧ Below w.heap.size w w' := by
  have hB := below_alloc w (.cells #[.int .i64 b, .int .i64 u, .int .i64 k] 71)
  have h1 := h.keep hB
  have hit := fun {W : World} (st : ExtW W) => item_any b u k hk st.val
  have htg := fun {W : World} (st : ExtW W) => tags_any b u st.val
  have hp1 := fun st => h1.peekx (tagsA b u) (tagsA_wf b u) st
  have hp2 := fun st => h1.peekx (itemA b u k) (itemA_wf b u k) st
  have hwf := wf_bd (h.own.wf (tagsA b u))
  have hto := fun {W : World} (st : ExtW W) => tag_any (s.val (tagsA b u)) k st.val hwf.1 hwf.2
  have z := box3 w b u k 71
  have x0 := fun st : ExtW (w.alloc (.cells #[.int .i64 b, .int .i64 u, .int .i64 k] 71)) => st.cell (z 0)
  have x1 := fun st : ExtW (w.alloc (.cells #[.int .i64 b, .int .i64 u, .int .i64 k] 71)) => st.cell (z 1)
  have x2 := fun st : ExtW (w.alloc (.cells #[.int .i64 b, .int .i64 u, .int .i64 k] 71)) => st.cell (z 2)
  have x3 := fun st : ExtW (w.alloc (.cells #[.int .i64 b, .int .i64 u, .int .i64 k] 71)) => st.cell h1.c0
  have HB := Lib.hid hB
  clear h h1 hk hwf z hB
  go_enter Tryz.func133, Tryz.ntmps133
  go_wp2_with fail
  refine wp_region_ext (by kernel_rfl) (by kernel_rfl) ?_
  repeat (go_big_quiet_step (first
    | (go_at_call 74; with_reducible refine calls_ext (htg _))
    | (go_at_call 130; with_reducible refine calls_ext (hit _))
    | (go_at_call 57; with_reducible refine calls_ext_same (hp1 _))
    | (go_at_call 57; with_reducible refine calls_ext_same (hp2 _))
    | (go_at_call 98; with_reducible refine calls_ext (hto _))))
  refine wpQuiet_nil ?_
  rintro W ⟨⟨W2, hW⟩, rfl⟩
  clear x0 x1 x2 x3
  go_wp2
  go_ret2
  exact ⟨rfl, bnext HB.out hW⟩
theorem spot21 (k : Nat) (hk : k < 4) (w : World) : Calls Tryz.prog 132 #[.int .i64 2, .int .i64 1, .int .i64 k] w fun e w' => e = .returned (.agg #[.int .i64 2, .int .i64 1, .int .i64 k]) ∧ Below w.heap.size w w' := by
  have hsz := fun w => size_any 2 w
  have e0 : tsize 2 = 4 := by decide
  simp only [e0] at hsz
  have e1 : (k : Int) % 4 = k := by omega
  clear e0 hk
  go_enter Tryz.func132, Tryz.ntmps132
  go_wp2_with (go_at_call 81; refine (hsz _).mono ?_; rintro e w1 ⟨rfl, hw⟩; obtain rfl := hw.symm)
  refine bodyPost_ret (v := .agg #[.int .i64 2, .int .i64 1, .int .i64 k]) (by simp [results, Tryz.results132, go_sem]) rfl ⟨rfl, ?_⟩
  exact below_alloc' _ _

def pst (s : CS) (tgA it at_ g r : Int) : Nat → CS
  | 0 => s
  | 1 => s.acc 2 it r
  | 2 => (s.acc 2 it r).acc 1 tgA ((s.acc 2 it r).val tgA)
  | _ => ((s.acc 2 it r).acc 1 tgA ((s.acc 2 it r).val tgA)).acc 2 tgA (withOf ((s.acc 2 it r).val tgA) at_ g)
def psl (s : CS) (tgA it at_ r : Int) : Nat → SL
  | 0 => ⟨tgA, it, at_, 0, 0⟩
  | 1 => ⟨tgA, it, at_, 0, 1⟩
  | 2 => ⟨tgA, it, at_, (s.acc 2 it r).val tgA, 2⟩
  | _ => ⟨tgA, it, at_, (s.acc 2 it r).val tgA, 3⟩
def ost (s : CS) (tgA it at_ : Int) : Nat → CS
  | 0 => s
  | 1 => s.acc 1 tgA (s.val tgA)
  | 2 => (s.acc 1 tgA (s.val tgA)).acc 2 tgA (withOf (s.val tgA) at_ 0)
  | _ => ((s.acc 1 tgA (s.val tgA)).acc 2 tgA (withOf (s.val tgA) at_ 0)).acc 2 it 0
def osl (s : CS) (tgA it at_ : Int) : Nat → SL
  | 0 => ⟨tgA, it, at_, 0, 0⟩
  | 1 => ⟨tgA, it, at_, s.val tgA, 1⟩
  | 2 => ⟨tgA, it, at_, s.val tgA, 2⟩
  | _ => ⟨tgA, it, at_, s.val tgA, 3⟩
section
variable {w0 w : World} {B : WB} {V : WV} {s : CS} {b : Nat} {tgA it at_ g r : Int} {m : Nat} (hm : s.n ≤ m ∧ s.cnt ≤ m) (hl : m + 3 < lim) (hlo : w0.heap.size ≤ b) (hz : tgA ≠ 0) (hg : (Lit.int .u64 tgA).wf = true) (hi : (Lit.int .u64 it).wf = true)
include hm
theorem pst_le (n : Nat) (hn : n ≤ 3) : (pst s tgA it at_ g r n).n ≤ m + n ∧ (pst s tgA it at_ g r n).cnt ≤ m + n := by
  match n, hn with
  | 0, _ => exact hm
  | 1, _ => exact room_acc m hm
  | 2, _ => exact room_acc _ (room_acc m hm)
  | 3, _ => exact room_acc _ (room_acc _ (room_acc m hm))
theorem ost_le (n : Nat) (hn : n ≤ 3) : (ost s tgA it at_ n).n ≤ m + n ∧ (ost s tgA it at_ n).cnt ≤ m + n := by
  match n, hn with
  | 0, _ => exact hm
  | 1, _ => exact room_acc m hm
  | 2, _ => exact room_acc _ (room_acc m hm)
  | 3, _ => exact room_acc _ (room_acc _ (room_acc m hm))
include hl hlo hz hg hi
theorem put_step (hrr : 0 ≤ r ∧ r < 9223372036854775808) (n : Nat) (hn : n < 3) (h : WS w0 w B V (pst s tgA it at_ g r n)) (hS : SlotAt w b 326 (psl s tgA it at_ r n) [.int .i64 g, .int .i64 r]) :
    Calls Tryz.prog 302 #[.pointer (some ⟨b, 0, none⟩), .pointer (some ⟨B.wb, 0, none⟩)] w fun e w' => (∃ o, e = .returned (.bool o)) ∧ WS w0 w' B V (pst s tgA it at_ g r (n + 1)) ∧ SlotAt w' b 326 (psl s tgA it at_ r (n + 1)) [.int .i64 g, .int .i64 r] ∧ Fx wTy true b w w' := by
  have hle := pst_le (tgA := tgA) (it := it) (at_ := at_) (g := g) (r := r) hm n (by omega)
  have hr : (pst s tgA it at_ g r n).room := CS.room_of (m + n) hle (by omega)
  match n, hn with
  | 0, _ => exact (put_step0 h hr hlo hS hz hg rfl hi hrr).mono fun e w' ⟨h1, h2⟩ => ⟨⟨_, h1⟩, h2⟩
  | 1, _ => exact (put_step1 h hr hlo hS hz hg rfl).mono fun e w' ⟨h1, h2⟩ => ⟨⟨_, h1⟩, h2⟩
  | 2, _ =>
    have hx : 0 ≤ (psl s tgA it at_ r 2).x ∧ (psl s tgA it at_ r 2).x < 18446744073709551616 := by
      have := wf_bd (h.own.wf tgA)
      simp only [pst, CS.acc_self] at this
      exact this
    exact (put_step2 h hr hlo hS hz hg rfl hx).mono fun e w' ⟨h1, h2⟩ => ⟨⟨_, h1⟩, h2⟩
theorem out_step (n : Nat) (hn : n < 3) (h : WS w0 w B V (ost s tgA it at_ n)) (hS : SlotAt w b 345 (osl s tgA it at_ n) []) :
    Calls Tryz.prog 312 #[.pointer (some ⟨b, 0, none⟩), .pointer (some ⟨B.wb, 0, none⟩)] w fun e w' => (∃ o, e = .returned (.bool o)) ∧ WS w0 w' B V (ost s tgA it at_ (n + 1)) ∧ SlotAt w' b 345 (osl s tgA it at_ (n + 1)) [] ∧ Fx wTy true b w w' := by
  have hle := ost_le (tgA := tgA) (it := it) (at_ := at_) hm n (by omega)
  have hr : (ost s tgA it at_ n).room := CS.room_of (m + n) hle (by omega)
  match n, hn with
  | 0, _ => exact (out_step0 h hr hlo hS hz hg rfl).mono fun e w' ⟨h1, h2⟩ => ⟨⟨_, h1⟩, h2⟩
  | 1, _ =>
    have hx : 0 ≤ (osl s tgA it at_ 1).x ∧ (osl s tgA it at_ 1).x < 18446744073709551616 := by
      have := wf_bd (h.own.wf tgA)
      simp only [ost, CS.acc_self] at this
      exact this
    exact (out_step1 h hr hlo hS hz hg rfl hx).mono fun e w' ⟨h1, h2⟩ => ⟨⟨_, h1⟩, h2⟩
  | 2, _ => exact (out_step2 h hr hlo hS hz hg rfl hi).mono fun e w' ⟨h1, h2⟩ => ⟨⟨true, h1⟩, h2⟩
end
end Go.Proofs.YtomllmlieeaaiaaGreat

/-
  A Put by itself; layer 13's examples.
-/
namespace Go.Proofs.YtomllmlieeaaiaaGreat
open Go.RowKit Go.Maps TagPure
set_option linter.unusedVariables false

theorem psl_tg (s : CS) (tgA it at_ r : Int) (n : Nat) : (psl s tgA it at_ r n).tg = tgA := by unfold psl; split <;> rfl
theorem psl_ln (s : CS) (tgA it at_ r : Int) (n : Nat) (hn : n ≤ 3) : (psl s tgA it at_ r n).ln = n := by
  match n, hn with
  | 0, _ | 1, _ | 2, _ | 3, _ => rfl
theorem osl_tg (s : CS) (tgA it at_ : Int) (n : Nat) : (osl s tgA it at_ n).tg = tgA := by unfold osl; split <;> rfl
theorem osl_ln (s : CS) (tgA it at_ : Int) (n : Nat) (hn : n ≤ 3) : (osl s tgA it at_ n).ln = n := by
  match n, hn with
  | 0, _ | 1, _ | 2, _ | 3, _ => rfl
theorem put_over {w : World} {b : Nat} {s : CS} {tgA it at_ r : Int} {rest : List Value} (n : Nat) (hn : n ≤ 3) (hz : tgA ≠ 0) (hS : SlotAt w b 326 (psl s tgA it at_ r n) rest) : Calls Tryz.prog 301 #[.pointer (some ⟨b, 0, none⟩)] w fun e w' => e = .returned (.bool ((n : Int) == 3)) ∧ Below w.heap.size w w' := by
  have := Putover hS false ((n : Int) == 3) (by rw [psl_tg]; exact beq_eq_false_iff_ne.2 hz) (by rw [psl_ln _ _ _ _ _ n hn])
  simpa only [Bool.false_or] using this
theorem out_over {w : World} {b : Nat} {s : CS} {tgA it at_ : Int} {rest : List Value} (n : Nat) (hn : n ≤ 3) (hz : tgA ≠ 0) (hS : SlotAt w b 345 (osl s tgA it at_ n) rest) : Calls Tryz.prog 311 #[.pointer (some ⟨b, 0, none⟩)] w fun e w' => e = .returned (.bool ((n : Int) == 3)) ∧ Below w.heap.size w w' := by
  have := Outover hS false ((n : Int) == 3) (by rw [osl_tg]; exact beq_eq_false_iff_ne.2 hz) (by rw [osl_ln _ _ _ _ n hn])
  simpa only [Bool.false_or] using this
set_option maxRecDepth 10000 in
set_option maxHeartbeats 1000000 in
theorem run_put {w0 w : World} {B : WB} {V : WV} {s : CS} {b : Nat} {tgA it at_ g r : Int} {m : Nat} (hm : s.n ≤ m ∧ s.cnt ≤ m) (hl : m + 3 < lim) (hlo : w0.heap.size ≤ b) (hz : tgA ≠ 0) (hg : (Lit.int .u64 tgA).wf = true) (hi : (Lit.int .u64 it).wf = true) (hrr : 0 ≤ r ∧ r < 9223372036854775808)
    (h : WS w0 w B V s) (hS : SlotAt w b 326 ⟨tgA, it, at_, 0, 0⟩ [.int .i64 g, .int .i64 r]) :
    Calls Tryz.prog 60 #[.pointer (some ⟨B.wb, 0, none⟩), .iface 222 (.pointer (some ⟨b, 0, none⟩)), .int .i64 9] w fun e w' => e = .returned (.int .i64 3) ∧ WS w0 w' B V (pst s tgA it at_ g r 3) ∧ SlotAt w' b 326 (psl s tgA it at_ r 3) [.int .i64 g, .int .i64 r] ∧ Fx wTy true b w w' := by
  have hst := fun (n : Nat) (hn : n < 3) (W : World) (h1 : WS w0 W B V (pst s tgA it at_ g r n)) h2 => put_step hm hl hlo hz hg hi hrr n hn h1 h2
  have H := Lib.hid h; have HS := Lib.hid hS; have HST := Lib.hid hst; have HZ := Lib.hid hz
  clear h hS hst hg hi hrr hm hl hz
  go_enter Tryz.func60, Tryz.ntmps60
  go_wp2
  go_loopw [7] (fun i wr => ∃ k : Nat, k ≤ 3 ∧ i = .int .i64 k ∧ WS w0 wr B V (pst s tgA it at_ g r k) ∧ SlotAt wr b 326 (psl s tgA it at_ r k) [.int .i64 g, .int .i64 r] ∧ Fx wTy true b w wr) (fun i _ => 3 - (intOf i).toNat)
  case atStart => exact ⟨0, by omega, rfl, H.out, HS.out, (below_fr (Below.refl _ w) wTy true).fx b⟩
  case round =>
    obtain ⟨k, hk, rfl, h1, h2, h3⟩ := hrel
    have hov := put_over k hk HZ.out h2
    by_cases hlt : k < 3
    · have hk9 : (k : Int) < 9 := by omega
      have hk3 : ((k : Int) == 3) = false := by rw [beq_eq_false_iff_ne]; omega
      rw [hk3] at hov
      have hcall := fun (W : World) (hb : Below wr.heap.size wr W) => HST.out k hlt W (h1.keep hb) (h2.below hb)
      have HC := Lib.hid hcall; have H3 := Lib.hid h3
      clear h1 h2 h3 hcall hk3
      go_wp2_with (first
        | (go_at_call 301; refine hov.mono ?_; rintro e w2 ⟨rfl, b2⟩; have hc := HC.out _ b2; have B2 := Lib.hid b2; clear b2 hov)
        | (go_at_call 302; refine hc.mono ?_; rintro e w3 ⟨⟨o, rfl⟩, g1, g2, g3⟩; have G1 := Lib.hid g1; have G2 := Lib.hid g2; have G3 := Lib.hid g3; clear g1 g2 g3 hc))
      exact ⟨⟨k + 1, by omega, by go_num, G1.out, G2.out, (H3.out.trans ((below_fr B2.out wTy true).fx b)).trans G3.out⟩, by simp [intOf]; omega⟩
    · obtain rfl : k = 3 := by omega
      have H1 := Lib.hid h1; have H2 := Lib.hid h2; have H3 := Lib.hid h3
      rw [show (((3 : Nat) : Int) == 3) = true from rfl] at hov
      clear h1 h2 h3
      go_wp2_with (go_at_call 301; refine hov.mono ?_; rintro e w2 ⟨rfl, b2⟩)
      go_ret
      exact ⟨rfl, H1.out.keep b2, H2.out.below b2, H3.out.trans ((below_fr b2 wTy true).fx b)⟩
end Go.Proofs.YtomllmlieeaaiaaGreat

/-
  Grows: what is not there, what is over, without a world; the document's; a step.
-/
namespace Go.Proofs.YtomllmlieeaaiaaGreat
open Go.RowKit Go.Maps
set_option linter.unusedVariables false

/-- Is a Grow, a Swap, of a word over at once? -/
def gdead (t : Int) : Bool := asNow t != 0 || asOld t == 12
def sdead (t : Int) : Bool := asNow t == 0
theorem asNow_nn (t : Int) : 0 ≤ asNow t := by unfold asNow; split <;> omega
end Go.Proofs.YtomllmlieeaaiaaGreat

/-
  Grows: a step in a world. (written by gengrow.py)
-/
namespace Go.Proofs.YtomllmlieeaaiaaGreat
open Go.RowKit Go.Maps
set_option linter.unusedVariables false

theorem ws_set4 {w0 w : World} {B : WB} {V : WV} {s : CS} {b o : Nat} {cs : Array Value} {T : TypeId} (h : WS w0 w B V s) (hb : w.heap[b]? = some (.cells cs T (0, 0))) (hT : wTy T = false) (hlo : w0.heap.size ≤ b) (v : Value) : WS w0 (w.setCell ⟨b, o, none⟩ v) B V s :=
  h.fr (set_ty hb o v) (fun X hX => by cases hXT : (X == T); rfl; rw [beq_iff_eq] at hXT; subst hXT; rw [hX] at hT; cases hT) (set_below h.below h.below.size hlo o v)
theorem wu_of_wf {v : Int} (h : 0 ≤ v ∧ v < 18446744073709551616) : (Lit.int .u64 v).wf = true := bd_wf h

end Go.Proofs.YtomllmlieeaaiaaGreat

/-
  Grows: layer 19's examples.
-/
namespace Go.Proofs.YtomllmlieeaaiaaGreat
open Go.RowKit Go.Maps
set_option linter.unusedVariables false

theorem world12v (b : Int) (hb : 1 ≤ b ∧ b ≤ 12) (w : World) : Calls Tryz.prog 71 #[.int .i64 b] w fun e w' => ∃ B, e = .returned (.pointer (some ⟨B.wb, 0, none⟩)) ∧ WS w w' B (v0 ⟨b, 8, 3, 1, 16⟩) (CS.init [(2, tword b 0)]) := by
  have hn1 : Calls Tryz.prog 79 #[.agg #[.int .i64 b, .int .i64 8, .int .i64 3, .int .i64 1, .int .i64 16]] w fun e w' => ∃ B : WB, e = .returned (.tuple #[.pointer (some ⟨B.wb, 0, none⟩), .int .i64 0]) ∧ WS w w' B (v0 ⟨b, 8, 3, 1, 16⟩) (CS.init [(2, tword b 0)]) :=
    (wnew_ok ⟨b, 8, 3, 1, 16⟩ (by simp [Conf.ok]; omega) w).mono fun e w' ⟨wb, cb, ib, nb, he, g1, g2, g3, g4, g5, g6, g7⟩ => ⟨⟨wb, cb, ib, nb⟩, he, ws_of (Below.refl _ w) g1 g2 g3 g4 g5 g6 g7⟩
  clear hb
  go_enter Tryz.func71, Tryz.ntmps71
  go_wp2_with (go_at_call 79; with_reducible refine hn1.mono ?_; rintro e w1 ⟨B, rfl, h1⟩)
  go_ret
  exact ⟨_, rfl, h1⟩
theorem WS.slow {w0 w : World} {B : WB} {V : WV} {s : CS} (h : WS w0 w B V s) : w0.heap.size ≤ w.heap.size := h.below.size
end Go.Proofs.YtomllmlieeaaiaaGreat

/-
  Finds: layer 15's examples.
-/
namespace Go.Proofs.YtomllmlieeaaiaaGreat
open Go.RowKit Go.Maps TagPure
set_option linter.unusedVariables false

def ka : ByteArray := ⟨#[97]⟩
def ita : Itm := ⟨ka, ByteArray.empty, 0, 0, 0, 0⟩
def s15 : CS := (fiter [] 40 (CS.init [(2, tword 2 0)]) ⟨ka, 0, 0, 0, 0, 0⟩ [.tab]).2.1
def q15 : CS := pst s15 (tagsA 2 3) (itemA 2 3 3) 3 175 5 3
theorem ka_pl : plist (hashOf ka) 2 = [(2, 0), (2, 3)] := by kernel_rfl
theorem ka_tag : tag01 (hashOf ka) = 175 := by kernel_rfl
theorem ex1 : (fiter [] 40 (CS.init [(2, tword 2 0)]) ⟨ka, 0, 0, 0, 0, 0⟩ [.tab]) = (3, s15, ⟨ka, 2, 0, 0, 0, 0⟩, []) := by kernel_rfl
theorem ex3 : (fiter (List.replicate 5 ita) 40 q15 ⟨ka, 0, 0, 0, 0, 0⟩ [.tab]).1 = 4 := by kernel_rfl
theorem ex4 : (fiter (List.replicate 5 ita) 40 q15 ⟨ka, 0, 0, 0, 0, 0⟩ [.tab]).2.2 = (⟨ka, 2, 2, 3, 3, 5⟩, []) := by kernel_rfl
theorem ex5 : (s15.n ≤ 10 ∧ s15.cnt ≤ 10) ∧ (q15.n ≤ 20 ∧ q15.cnt ≤ 20) := by
  have a : s15.n = 4 := by kernel_rfl
  have b : s15.cnt = 3 := by kernel_rfl
  have c : q15.n = 7 := by kernel_rfl
  have d : q15.cnt = 6 := by kernel_rfl
  omega
set_option maxRecDepth 10000 in
set_option maxHeartbeats 1000000 in
theorem two_any (w : World) : Calls Tryz.prog 105 #[.int .i64 2] w fun e w' => e = .returned (.string ka) ∧ Below w.heap.size w w' := by
  have hH := Lib.hid (fun W => hash_any ka (by decide) W)
  have hP := Lib.hid (fun W => places_any (hashOf ka) 2 (hfold_bd _ _).1 (hfold_bd _ _).2 (by decide) W)
  rw [ka_pl] at hP
  go_enter Tryz.func105, Tryz.ntmps105
  go_wp2
  go_loopw [3] (fun i wr => i = .int .i64 0 ∧ Below w.heap.size w wr) (fun i _ => 0)
  case atStart => exact ⟨rfl, Below.refl _ _⟩
  case round =>
    obtain ⟨rfl, hB⟩ := hrel
    have HB := Lib.hid hB
    clear hB
    have hba := below_alloc wr (.cells #[.int .u8 97] 5)
    have hza := heap_alloc_new wr (.cells #[.int .u8 97] 5)
    have hcv : (convert 129 9 (.slice (some ⟨wr.heap.size, 0, none⟩) 1 1)).run Tryz.prog (wr.alloc (.cells #[.int .u8 97] 5)) = .ok (.string ka) (wr.alloc (.cells #[.int .u8 97] 5)) :=
      run_convert_bytes_back _ 129 9 5 ⟨wr.heap.size, 0, none⟩ 1 [97] Tryz.underlying129 Tryz.underlying5 Tryz.underlying9 (fun j hj => by
        obtain rfl : j = 0 := by simp at hj; omega
        rw [Addr.add_lit]; exact hcell hza 0)
    have HBA := Lib.hid (HB.out.trans (hba.mono HB.out.size))
    clear hba hza
    go_upto_region 5 with (fail)
    clear hcv
    change Code.wp _ _ _ _ (wr.alloc (.cells #[.int .u8 97] 5))
    generalize wr.alloc (.cells #[.int .u8 97] 5) = w1 at *
    clear HB
    go_wp2_with (first
      | (go_at_call 56; refine (hH.out _).mono ?_; intro e w2 hh; obtain ⟨hh1, b2⟩ := hh; subst hh1; have B2 := Lib.hid (HBA.out.trans (b2.mono HBA.out.size)); clear b2)
      | (go_at_call 55; refine (hP.out _).mono ?_; intro e w3 hh; obtain ⟨pv, hh1, hp, b3⟩ := hh; subst hh1; obtain ⟨ao2, hpv, hpl⟩ := hp.plc; subst hpv; have B3 := Lib.hid (B2.out.trans (b3.mono B2.out.size)); clear b3 hp hpl))
    go_ret
    exact ⟨rfl, B3.out⟩
theorem find_nil_fx {w w' : World} {fx fy : Nat} {f : FW} {K : TypeId → Bool} {mp : Bool} (h : FindAt w fx f []) (hf : Fx K mp fy w w') (hK : K 227 = false) (hne : fx ≠ fy) : FindAt w' fx f [] := by
  obtain ⟨v, h1, a, c, h2, h3, h4, h5, -⟩ := h
  exact ⟨v, hf.cells _ _ _ _ h1 hK hne, a, c, h2, h3, h4, h5, .inl rfl⟩
abbrev TSpot (q : Nat) (W : World) : Prop := W.cell? ⟨q, 0, none⟩ = some (.int .i64 2) ∧ W.cell? ⟨q, 1, none⟩ = some (.int .i64 3) ∧ W.cell? ⟨q, 2, none⟩ = some (.int .i64 3)
def vf15 : WV := { v0 ⟨2, 8, 3, 1, 16⟩ with its := List.replicate 5 ita }
set_option maxRecDepth 10000 in
set_option maxHeartbeats 4000000 in
theorem lives15 (w : World) : Calls Tryz.prog 23 #[] w fun e w' => e = .returned (.bool true) ∧ Below w.heap.size w w' := by
  have hH := Lib.hid (fun W => hash_any ka (by decide) W)
  have hP := Lib.hid (fun W => places_any (hashOf ka) 2 (hfold_bd _ _).1 (hfold_bd _ _).2 (by decide) W)
  rw [ka_pl] at hP
  have hT := Lib.hid (fun W => tag_fn (hashOf ka) (hfold_bd _ _).1 (hfold_bd _ _).2 W)
  rw [ka_tag] at hT
  have hTW := Lib.hid (fun W => two_any W)
  have hNF := Lib.hid (fun W => newfind ka W)
  have hNP := Lib.hid (fun W => newput_in 2 3 3 175 5 (by decide) (by decide) (by decide) W)
  have hke : ka.toList.isEmpty = false := by rw [ByteArray.toList_eq]; rfl
  go_enter Tryz.func23, Tryz.ntmps23
  go_upto_region 6 with (first
    | (go_at_call 71; refine (world12v 2 (by decide) w).mono ?_; intro e w1 hh; obtain ⟨B, hh1, h1⟩ := hh; subst hh1; have H1 := Lib.hid h1; clear h1)
    | (go_at_call 105; refine (hTW.out _).mono ?_; intro e w2 hh; obtain ⟨hh1, b2⟩ := hh; subst hh1; have H2 := Lib.hid (H1.out.keep b2); clear b2 H1)
    | (go_at_call 24; refine (hNF.out _).mono ?_; intro e w3 hh; obtain ⟨fx, hh1, a3, l3, b3⟩ := hh; subst hh1; have H3 := Lib.hid (H2.out.keep b3); have A3 := Lib.hid a3; have L3 := Lib.hid (Nat.le_trans H2.out.slow l3); clear a3 l3 b3 H2))
  have hr := frun 40 (by decide) 1 ⟨by decide, by decide⟩ (by unfold lim; decide) H3.out L3.out (by decide) (by decide) ⟨.inl rfl, by decide⟩ A3.out
  rw [show (v0 ⟨2, 8, 3, 1, 16⟩).its = [] from rfl, ex1] at hr
  clear hke
  go_upto_region 8 with (first
    | (go_at_call 60; refine hr.mono ?_; intro e w4 hh; obtain ⟨hh1, h4, a4, -⟩ := hh; subst hh1; have H4 := Lib.hid h4; have A4 := Lib.hid a4; have hg := fgot a4; clear h4 a4 hr H3 A3)
    | (go_at_call 106; refine hg.mono ?_; intro e w5 hh; obtain ⟨hh1, b5⟩ := hh; subst hh1; have H5 := Lib.hid (H4.out.keep b5); have A5 := Lib.hid (A4.out.below b5); clear b5 hg H4 A4))
  have hb6 := below_alloc w5 (.cells #[.int .i64 0, .int .i64 0, .int .i64 0] 71)
  have H6 := Lib.hid (H5.out.keep hb6); have A6 := Lib.hid (A5.out.below hb6)
  clear hb6 H5 A5
  generalize w5.alloc (.cells #[.int .i64 0, .int .i64 0, .int .i64 0] 71) = w6 at *
  generalize w5.heap.size = z6 at *
  go_wp2_with fail
  go_loopw [7] (fun i wr => ∃ k : Nat, k ≤ 5 ∧ i = .int .i64 k ∧ WS w wr B { v0 ⟨2, 8, 3, 1, 16⟩ with its := List.replicate k ita } s15 ∧ FindAt wr fx ⟨ka, 2, 0, 0, 0, 0⟩ []) (fun i _ => 5 - (intOf i).toNat)
  case atStart => exact ⟨0, by omega, rfl, H6.out, A6.out⟩
  case round =>
    obtain ⟨k, hk, rfl, h7, a7⟩ := hrel
    by_cases hlt : k < 5
    · have hlt' : (k : Int) < 5 := by omega
      have c0 := h7.hd5.2.1
      have hit : Calls Tryz.prog 107 #[.pointer (some ⟨B.ib, 0, none⟩), .agg #[.string ka, .string ⟨#[]⟩, .int .u32 0, .int .u64 0, .int .i64 0, .int .i64 0]] wr _ := h7.item ita (by simp; omega)
      have A7 := Lib.hid a7
      clear h7 a7
      go_wp2_with (go_at_call 107; refine hit.mono ?_; intro e w8 hh; obtain ⟨hh1, h8, f8⟩ := hh; subst hh1; have P := Lib.hid (And.intro h8 (A7.out.fr f8 w_not_f rfl)); clear h8 f8 hit c0)
      go_roundw
      case rel => exact ⟨k + 1, by omega, by go_num, by have h := P.out.1; rw [List.replicate_succ', ]; exact h, P.out.2⟩
      case measure => simp [intOf]; omega
    · obtain rfl : k = 5 := by omega
      have H7 := Lib.hid h7; have A7 := Lib.hid a7
      clear h7 a7
      go_upto_region 14 with (first
        | (go_at_call 56; refine (hH.out _).mono ?_; intro e w8 hh; obtain ⟨hh1, b8⟩ := hh; subst hh1; have H8 := Lib.hid (H7.out.keep b8); have A8 := Lib.hid (A7.out.below b8); clear b8 H7 A7)
        | (go_at_call 55; refine (hP.out _).mono ?_; intro e w9 hh; obtain ⟨pv, hh1, hp, b9⟩ := hh; subst hh1; obtain ⟨ao2, hpv, hpl⟩ := hp.plc; subst hpv; obtain ⟨g9, o9, p9, q9, rfl, hlk, g0, g1⟩ := hpl.at 1 (by decide); simp at hlk; obtain ⟨rfl, rfl⟩ := hlk; have H9 := Lib.hid (H8.out.keep b9); have A9 := Lib.hid (A8.out.below b9); clear b9 hp hpl H8 A8))
      have hbA := below_alloc w9 (.cells #[.int .i64 2, .int .i64 3, .int .i64 3] 71)
      have hzA := heap_alloc_new w9 (.cells #[.int .i64 2, .int .i64 3, .int .i64 3] 71)
      have HA : Hid (WS w _ B vf15 s15) := H9.out.keep hbA
      have AA := Lib.hid (A9.out.below hbA); have ZA := Lib.hid hzA
      clear hbA hzA H9 A9 g0 g1
      generalize w9.alloc (.cells #[.int .i64 2, .int .i64 3, .int .i64 3] 71) = wA at *
      generalize w9.heap.size = sp at *
      have ts : TSpot sp wA.drew := ⟨hcell (w := wA.drew) ZA.out 0, hcell (w := wA.drew) ZA.out 1, hcell (w := wA.drew) ZA.out 2⟩
      go_region_held2 (fun W => TSpot sp W) (assumption) (first
        | (go_at_call 109; refine (hT.out _).mono ?_; intro e w10 hh; obtain ⟨hh1, hh2⟩ := hh; subst hh1; obtain rfl := hh2.symm)
        | (go_at_call 108; refine (hNP.out _).mono ?_; intro e w10 hh; obtain ⟨pq, hh1, sq, lq, bq⟩ := hh; subst hh1; have bq' := (Below.refl wA.heap.size wA).drew.trans bq; have HB := Lib.hid (HA.out.keep bq'); have AB := Lib.hid (AA.out.below bq'); have hzB := (bq'.block _ (Array.getElem?_eq_some_iff.1 ZA.out).1).trans ZA.out; have ZB := Lib.hid hzB; have tsB : TSpot sp w10 := ⟨hcell hzB 0, hcell hzB 1, hcell hzB 2⟩; have hrp := run_put (m := 10) ex5.1 (by unfold lim; decide) (Nat.le_trans HA.out.slow lq) (by decide) (by decide) (by decide) (by decide) HB.out sq; have SQ := Lib.hid sq; clear sq lq bq bq' hzB ts HA AA ZA)
        | (go_at_call 60; refine hrp.mono ?_; intro e w11 hh; obtain ⟨hh1, h11, s11, f11⟩ := hh; subst hh1; have HC : Hid (WS w w11 B vf15 q15) := h11; have FC := Lib.hid f11; have tsC : TSpot sp w11 := by { have z := f11.cells _ _ _ _ ZB.out rfl (by intro c; have := ZB.out; rw [c] at this; have := this.symm.trans SQ.out; simp at this); exact ⟨hcell z 0, hcell z 1, hcell z 2⟩ }; have ZC := Lib.hid (f11.cells _ _ _ _ ZB.out rfl (by intro c; have := ZB.out; rw [c] at this; have := this.symm.trans SQ.out; simp at this)); clear h11 s11 f11 hrp tsB))
      have hne : fx ≠ pq := fun c => by
        obtain ⟨v, z, -⟩ := AB.out
        rw [c] at z
        have := z.symm.trans SQ.out
        simp at this
      have AC := Lib.hid (find_nil_fx AB.out FC.out rfl hne)
      clear hne AB FC SQ ZB HB tsC
      go_upto_region 18 with (first
        | (go_at_call 24; refine (hNF.out _).mono ?_; intro e w12 hh; obtain ⟨fy, hh1, a12, l12, b12⟩ := hh; subst hh1; have HD := Lib.hid (HC.out.keep b12); have hr2 := frun 40 (by decide) 20 ex5.2 (by unfold lim; decide) HD.out (Nat.le_trans HC.out.slow l12) (by decide) (by decide) ⟨.inl rfl, by decide⟩ a12; rw [show vf15.its = List.replicate 5 ita from rfl, ex3, ex4] at hr2; have AD := Lib.hid (AC.out.below b12); have ZD := Lib.hid ((b12.block _ (Array.getElem?_eq_some_iff.1 ZC.out).1).trans ZC.out); have NX := Lib.hid (Nat.ne_of_lt (Nat.lt_of_lt_of_le AC.out.lt l12)); have NS := Lib.hid (Nat.ne_of_lt (Nat.lt_of_lt_of_le (Array.getElem?_eq_some_iff.1 ZC.out).1 l12)); clear a12 l12 b12 HC AC ZC)
        | (go_at_call 60; refine hr2.mono ?_; intro e w13 hh; obtain ⟨hh1, h13, a13, f13⟩ := hh; subst hh1; have HE := Lib.hid h13; have hg2 := fgot a13; have AE := Lib.hid (find_nil_fx AD.out f13 rfl NX.out); have ZE := Lib.hid (f13.cells _ _ _ _ ZD.out rfl NS.out); clear h13 a13 f13 hr2 HD AD ZD)
        | (go_at_call 106; refine hg2.mono ?_; intro e w14 hh; obtain ⟨hh1, b14⟩ := hh; subst hh1; have HF := Lib.hid (HE.out.keep b14); have AF := Lib.hid (AE.out.below b14); have ZF := Lib.hid ((b14.block _ (Array.getElem?_eq_some_iff.1 ZE.out).1).trans ZE.out); clear b14 hg2 HE AE ZE))
      have hbG := below_alloc w14 (.cells #[.int .i64 2, .int .i64 3, .int .i64 3] 71)
      have hzG := heap_alloc_new w14 (.cells #[.int .i64 2, .int .i64 3, .int .i64 3] 71)
      have HG := Lib.hid (HF.out.keep hbG); have AG := AF.out.below hbG
      have ZG := (hbG.block _ (Array.getElem?_eq_some_iff.1 ZF.out).1).trans ZF.out
      have hwd := fword AG
      rw [if_pos rfl] at hwd
      have c0 := hcell hzG 0; have c1 := hcell hzG 1; have c2 := hcell hzG 2
      have d0 := hcell ZG 0; have d1 := hcell ZG 1; have d2 := hcell ZG 2
      clear hbG hzG AG ZG HF AF ZF NX NS
      change Code.wp _ _ _ _ (w14.alloc (.cells #[.int .i64 2, .int .i64 3, .int .i64 3] 71))
      generalize w14.alloc (.cells #[.int .i64 2, .int .i64 3, .int .i64 3] 71) = w15 at *
      generalize w14.heap.size = sy at *
      go_wp2_with (go_at_call 110; refine hwd.mono ?_; intro e w16 hh; obtain ⟨hh1, hh2⟩ := hh; subst hh1; obtain rfl := hh2.symm; clear hwd)
      go_ret
      exact ⟨rfl, HG.out.below⟩
end Go.Proofs.YtomllmlieeaaiaaGreat
