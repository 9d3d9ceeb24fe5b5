import Derived.Test.YtmakjfeepmiggaaGreatZ20
import Derived.Test.YtmakjfeepmiggaaGreatZ7
import Derived.Test.YtmakjfeepmiggaaGreatZ1
import Derived.Test.YtmakjfeepmiggaaGreatZ6
import Derived.Test.YtmakjfeepmiggaaGreatZ14
import Derived.Maps.RangeWalk
namespace Go.Proofs.YtmakjfeepmiggaaGreat
open Go.RowKit Go.Maps
set_option linter.unusedVariables false
theorem rd_set {w0 w : World} {B : WB} {V : WV} {x : RS} {b o : Nat} {cs : Array Value} {T : TypeId} (h : RD w0 w B V x) (hb : w.heap[b]? = some (.cells cs T (0, 0))) (hT : rTy T = false) (hlo : w0.heap.size ≤ b) (v : Value) : RD w0 (w.setCell ⟨b, o, none⟩ v) B V x :=
  h.fr (set_ty hb o v) (fun X hX => by cases hXT : (X == T); rfl; rw [beq_iff_eq] at hXT; subst hXT; rw [hX] at hT; cases hT) (set_below h.below h.below.size hlo o v)
set_option maxRecDepth 10000 in
set_option maxHeartbeats 1000000 in
theorem rmstep {w0 w : World} {B : WB} {V : WV} {x : RS} {rb at_ : Nat} {all : List Int} (h : RD w0 w B V x) (hr : x.room) (hlo : w0.heap.size ≤ rb) (hM : RMarkAt w w0.heap.size rb all at_) (hat : at_ < all.length) (hal : all.length ≤ 1000) (ha : (Lit.int .u64 (all[at_])).wf = true) :
    Calls Tryz.prog 172 #[.pointer (some ⟨rb, 0, none⟩), .pointer (some ⟨B.wb, 0, none⟩)] w fun e w' => e = .returned (.tuple #[]) ∧ RD w0 w' B V (x.acc 4 all[at_] (wu (rlook x.l all[at_] + 1))) ∧ RMarkAt w' w0.heap.size rb all (at_ + 1) ∧ Fx rTy false rb w w' := by
  obtain ⟨u, h1, h2⟩ := hM
  rw [if_pos hat] at h1
  obtain ⟨g, cap, y, rfl, hy, hg, -⟩ := own_at h2 at_ hat
  have e0 : y = .int .u64 all[at_] := by
    simp only [cu, List.getElem?_map, List.getElem?_eq_getElem hat, Option.map_some, Option.some.injEq] at hy; exact hy.symm
  subst e0
  clear hy
  generalize all[at_] = a at *
  have c0 := hcell h1 0
  have x1 : ∀ st : ExtW w, st.val.cell? ⟨rb, 1, none⟩ = some (.slice (some ⟨g, 0, none⟩) all.length cap) := fun st => st.cell (hcell h1 1)
  have x2 : ∀ st : ExtW w, st.val.cell? ⟨rb, 2, none⟩ = some (.int .i64 at_) := fun st => st.cell (hcell h1 2)
  have xg : ∀ st : ExtW w, st.val.cell? ⟨g, at_, none⟩ = some (.int .u64 a) := fun st => st.cell hg
  have hat' : (at_ : Int) < all.length := by omega
  have hadd : ∀ W, Below w.heap.size w W → Calls Tryz.prog 216 #[.pointer (some ⟨B.wb, 0, none⟩), .int .u64 a, .int .u64 1] W fun e w' => e = .returned (.int .u64 (rlook x.l a)) ∧ RD w0 w' B V (x.acc 4 a (wu (rlook x.l a + 1))) ∧ Fr rTy false W w' := fun W hW => rwadd (h.keep hW) hr a ha 1
  have HADD := Lib.hid hadd; have H1 := Lib.hid h1; have H2 := Lib.hid h2; have HAT := Lib.hid hat
  clear h hr h1 h2 hg ha hadd
  go_enter Tryz.func172, Tryz.ntmps172
  go_upto_region 1 with (fail)
  clear c0
  refine wp_region_ext_tail 11 (by kernel_rfl) (by kernel_rfl) ?_
  simp only [List.take_succ_cons, List.take_zero, List.drop_succ_cons, List.drop_zero]
  repeat (go_big_quiet_step (fail))
  refine wpQuiet_nil ?_
  rintro W ⟨⟨W2, hW⟩, rfl⟩
  clear x1 x2 xg
  have hadd := HADD.out _ hW
  have HW := Lib.hid hW
  clear hW
  go_upto_region 2 with (go_at_call 216; refine hadd.mono ?_; intro e w3 hh; obtain ⟨hh1, h3, f3⟩ := hh; subst hh1; have H3 := Lib.hid h3; have F3 : Hid (Fr rTy false w w3) := (below_fr HW.out _ _).trans f3; clear h3 f3 hadd)
  have hz3 := F3.out.cells _ _ _ _ H1.out rfl
  have hrow3 := own_fr H2.out F3.out rfl
  have HZ3 := Lib.hid hz3; have HR3 := Lib.hid hrow3
  have y2 := hcell hz3 2
  have yf := hfrz hz3 2
  clear hz3 hrow3
  have hz4 : (w3.setCell ⟨rb, 2, none⟩ (.int .i64 ((at_ : Int) + 1))).heap[rb]? = some (.cells #[.int .i64 1, .slice (some ⟨g, 0, none⟩) all.length cap, .int .i64 ((at_ : Int) + 1)] 319 (0, 0)) := setCell_same HZ3.out 2 _
  have h4 := rd_set (o := 2) H3.out HZ3.out rfl hlo (.int .i64 ((at_ : Int) + 1))
  have f4 : Fx rTy false rb w (w3.setCell ⟨rb, 2, none⟩ (.int .i64 ((at_ : Int) + 1))) := (F3.out.fx rb).trans (set_fx _ _ _ _ _ _)
  have r4 := own_fr HR3.out (set_ty HZ3.out 2 (.int .i64 ((at_ : Int) + 1))) rfl
  have HZ4 := Lib.hid hz4; have H4 := Lib.hid h4; have F4 := Lib.hid f4; have R4 := Lib.hid r4
  clear hz4 h4 f4 r4
  go_upto_region 3 with (fail)
  clear y2 yf
  generalize w3.setCell ⟨rb, 2, none⟩ (.int .i64 ((at_ : Int) + 1)) = W4 at *
  have z1 : ∀ st : ExtW W4, st.val.cell? ⟨rb, 1, none⟩ = some (.slice (some ⟨g, 0, none⟩) all.length cap) := fun st => st.cell (hcell HZ4.out 1)
  have z2 : ∀ st : ExtW W4, st.val.cell? ⟨rb, 2, none⟩ = some (.int .i64 ((at_ : Int) + 1)) := fun st => st.cell (hcell HZ4.out 2)
  refine wp_region_ext (by kernel_rfl) (by kernel_rfl) ?_
  repeat (go_big_quiet_step (fail))
  refine wpQuiet_nil ?_
  rintro W5 ⟨⟨W6, hW5⟩, rfl⟩
  clear z1 z2
  have h5 := H4.out.keep hW5
  have hz5 := (hW5.block _ (Array.getElem?_eq_some_iff.1 HZ4.out).1).trans HZ4.out
  have r5 := own_fr R4.out (below_fr hW5 (fun _ => false) false) rfl
  have f5 := F4.out.trans ((below_fr hW5 rTy false).fx rb)
  have HZ5 := Lib.hid hz5; have H5 := Lib.hid h5; have F5 := Lib.hid f5; have R5 := Lib.hid r5
  have c0 := hcell hz5 0
  have cf := hfrz hz5 0
  clear hz5 h5 f5 r5 hW5 H4 HZ4 R4 F4 HZ3 HR3 H3 F3
  by_cases hl : at_ + 1 = all.length
  · have d0 : ((at_ : Int) + 1 == (all.length : Int)) = true := beq_iff_eq.2 (by omega)
    have HLL := Lib.hid hl
    clear hl hat' hal
    go_wp2
    go_end0
    refine ⟨rfl, rd_set (o := 0) H5.out HZ5.out rfl hlo _, ⟨_, ?_, own_fr R5.out (set_ty HZ5.out 0 (.int .i64 0)) rfl⟩, F5.out.trans (set_fx _ _ _ _ _ _)⟩
    rw [if_neg (by have := HLL.out; omega)]
    exact setCell_same HZ5.out 0 (.int .i64 0)
  · have d0 : ((at_ : Int) + 1 == (all.length : Int)) = false := beq_eq_false_iff_ne.2 (by omega)
    have HLL := Lib.hid hl
    clear hl hat' hal
    go_wp2
    go_end0
    refine ⟨rfl, H5.out, ⟨_, ?_, R5.out⟩, F5.out⟩
    rw [if_pos (by have := HLL.out; have := HAT.out; omega)]
    exact HZ5.out
end Go.Proofs.YtmakjfeepmiggaaGreat
namespace Go.Proofs.YtmakjfeepmiggaaGreat
open Go.RowKit Go.Maps
set_option linter.unusedVariables false
abbrev opC (ln : Int) (gone out : Bool) (b u s g r y : Int) : Array Value := #[.int .i64 ln, .bool gone, .bool out, .int .i64 b, .int .i64 u, .int .i64 s, .int .i64 g, .int .i64 r, .int .u64 y]
def ROp (w : World) (rb : Nat) (ln : Int) (gone out : Bool) (b u s g r y : Int) : Prop := w.heap[rb]? = some (.cells (opC ln gone out b u s g r y) 321 (0, 0))
theorem rd_set' {w0 w : World} {B : WB} {V : WV} {x : RS} {b o : Nat} {cs : Array Value} {T : TypeId} (h : RD w0 w B V x) (hb : w.heap[b]? = some (.cells cs T (0, 0))) (hT : rTy T = false) (hlo : w0.heap.size ≤ b) (v : Value) : RD w0 (w.setCell ⟨b, o, none⟩ v) B V x :=
  h.fr (set_ty hb o v) (fun X hX => by cases hXT : (X == T); rfl; rw [beq_iff_eq] at hXT; subst hXT; rw [hX] at hT; cases hT) (set_below h.below h.below.size hlo o v)
section
variable {w0 w : World} {B : WB} {V : WV} {x : RS} {rb : Nat} {b u s g r y : Int} {gone out : Bool}
set_option maxRecDepth 10000 in
set_option maxHeartbeats 1000000 in
theorem rput0 (h : RD w0 w B V x) (hr : x.room) (hs : (Lit.int .i64 s).wf = true) (hlo : w0.heap.size ≤ rb) (hy : 0 ≤ y ∧ y < 18446744073709551616) (hrr : 0 ≤ r ∧ r < 9223372036854775808) (hO : ROp w rb 1 gone false b u s g r y) :
    Calls Tryz.prog 173 #[.pointer (some ⟨rb, 0, none⟩), .pointer (some ⟨B.wb, 0, none⟩)] w fun e w' => e = .returned (.tuple #[]) ∧ RD w0 w' B V (x.acc 2 (itemA b u s) (r)) ∧ ROp w' rb 2 gone false b u s g r (y) ∧ Fx rTy false rb w w' := by
  have hta := tagsA_wf b u
  have hia := itemA_wf b u s
  have ht : ∀ W, Calls Tryz.prog 56 #[.agg #[.int .i64 b, .int .i64 u]] W fun e w' => e = .returned (.int .u64 (tagsA b u)) ∧ Below W.heap.size W w' := fun W => rtags_any b u W
  have hi : ∀ W, Calls Tryz.prog 89 #[.agg #[.int .i64 b, .int .i64 u, .int .i64 s]] W fun e w' => e = .returned (.int .u64 (itemA b u s)) ∧ Below W.heap.size W w' := fun W => ritem_any b u s hs W
  generalize tagsA b u = ta at *
  generalize itemA b u s = ia at *
  have e64 : IntKind.u64.wrap r = r := by rw [show IntKind.u64.wrap r = r % 18446744073709551616 from wu_eq r]; omega
  have hacc : ∀ W, Below w.heap.size w W → Calls Tryz.prog 54 #[.pointer (some ⟨B.wb, 0, none⟩), .int .u64 ia, .int .u64 r] W fun e w' => e = .returned (.int .u64 (rlook x.l ia)) ∧ RD w0 w' B V (x.acc 2 ia r) ∧ Fr rTy false W w' := fun W hW => rwstore (h.keep hW) hr ia hia r (bd_wf ⟨hrr.1, by omega⟩)
  have c3 := hcell hO 3
  have c4 := hcell hO 4
  have HACC := Lib.hid hacc; have HO := Lib.hid hO
  clear h hr hs hy hrr hO hta hia hacc
  go_enter Tryz.func173, Tryz.ntmps173
  go_upto_region 1 with (go_at_call 56; refine (ht _).mono ?_; intro e w1 hh; obtain ⟨hh1, b1⟩ := hh; subst hh1; have B1 := Lib.hid b1; clear b1)
  have hO1 := (B1.out.block _ (Array.getElem?_eq_some_iff.1 HO.out).1).trans HO.out
  clear c3 c4
  have c3 := hcell hO1 3
  have c4 := hcell hO1 4
  have c5 := hcell hO1 5
  have HO1 := Lib.hid hO1
  clear hO1
  go_upto_region 3 with (go_at_call 89; refine (hi _).mono ?_; intro e w2 hh; obtain ⟨hh1, b2⟩ := hh; subst hh1; have B2 := Lib.hid b2; clear b2)
  have hO2 := (B2.out.block _ (Array.getElem?_eq_some_iff.1 HO1.out).1).trans HO1.out
  clear c3 c4 c5 ht hi
  have c0 := hcell hO2 0; have c2 := hcell hO2 2
  have c7 := hcell hO2 7
  have HB := Lib.hid (B1.out.trans (B2.out.mono B1.out.size))
  have HO2 := Lib.hid hO2
  clear hO2 HO HO1 B1 B2
  have hacc := HACC.out _ HB.out
  go_upto_region 14 with (go_at_call 54; refine hacc.mono ?_; intro e w5 hh; obtain ⟨hh1, h5, f5⟩ := hh; subst hh1; have H5 := Lib.hid h5; have F5 := Lib.hid f5; clear h5 f5 hacc)
  have hO6 : ROp w5 rb 1 gone false b u s g r y := F5.out.cells _ _ _ _ HO2.out rfl
  have HO6 := Lib.hid hO6; have H6 := H5; have F6 : Hid (Fx rTy false rb w w5) := ((below_fr HB.out rTy false).trans F5.out).fx rb
  clear hO6 c0 c2 c7
  generalize w5 = w6 at *
  have z0 := hcell HO6.out 0
  have zf := hfrz HO6.out 0
  go_wp2
  go_end0
  exact ⟨rfl, rd_set' (o := 0) H6.out HO6.out rfl hlo _, setCell_same HO6.out 0 _, F6.out.trans (set_fx _ _ _ _ _ _)⟩
set_option maxRecDepth 10000 in
set_option maxHeartbeats 1000000 in
theorem rput1 (h : RD w0 w B V x) (hr : x.room) (hs : (Lit.int .i64 s).wf = true) (hlo : w0.heap.size ≤ rb) (hy : 0 ≤ y ∧ y < 18446744073709551616) (hrr : 0 ≤ r ∧ r < 9223372036854775808) (hO : ROp w rb 2 gone false b u s g r y) :
    Calls Tryz.prog 173 #[.pointer (some ⟨rb, 0, none⟩), .pointer (some ⟨B.wb, 0, none⟩)] w fun e w' => e = .returned (.tuple #[]) ∧ RD w0 w' B V (x.acc 1 (tagsA b u) (rlook x.l (tagsA b u))) ∧ ROp w' rb 3 gone false b u s g r (rlook x.l (tagsA b u)) ∧ Fx rTy false rb w w' := by
  have hta := tagsA_wf b u
  have hia := itemA_wf b u s
  have ht : ∀ W, Calls Tryz.prog 56 #[.agg #[.int .i64 b, .int .i64 u]] W fun e w' => e = .returned (.int .u64 (tagsA b u)) ∧ Below W.heap.size W w' := fun W => rtags_any b u W
  have hi : ∀ W, Calls Tryz.prog 89 #[.agg #[.int .i64 b, .int .i64 u, .int .i64 s]] W fun e w' => e = .returned (.int .u64 (itemA b u s)) ∧ Below W.heap.size W w' := fun W => ritem_any b u s hs W
  generalize tagsA b u = ta at *
  generalize itemA b u s = ia at *
  have hacc : ∀ W, Below w.heap.size w W → Calls Tryz.prog 55 #[.pointer (some ⟨B.wb, 0, none⟩), .int .u64 ta] W fun e w' => e = .returned (.int .u64 (rlook x.l ta)) ∧ RD w0 w' B V (x.acc 1 ta (rlook x.l ta)) ∧ Fr rTy false W w' := fun W hW => rwload (h.keep hW) hr ta hta
  have c3 := hcell hO 3
  have c4 := hcell hO 4
  have HACC := Lib.hid hacc; have HO := Lib.hid hO
  clear h hr hs hy hrr hO hta hia hacc
  go_enter Tryz.func173, Tryz.ntmps173
  go_upto_region 1 with (go_at_call 56; refine (ht _).mono ?_; intro e w1 hh; obtain ⟨hh1, b1⟩ := hh; subst hh1; have B1 := Lib.hid b1; clear b1)
  have hO1 := (B1.out.block _ (Array.getElem?_eq_some_iff.1 HO.out).1).trans HO.out
  clear c3 c4
  have c3 := hcell hO1 3
  have c4 := hcell hO1 4
  have c5 := hcell hO1 5
  have HO1 := Lib.hid hO1
  clear hO1
  go_upto_region 3 with (go_at_call 89; refine (hi _).mono ?_; intro e w2 hh; obtain ⟨hh1, b2⟩ := hh; subst hh1; have B2 := Lib.hid b2; clear b2)
  have hO2 := (B2.out.block _ (Array.getElem?_eq_some_iff.1 HO1.out).1).trans HO1.out
  clear c3 c4 c5 ht hi
  have c0 := hcell hO2 0; have c2 := hcell hO2 2
  have HB := Lib.hid (B1.out.trans (B2.out.mono B1.out.size))
  have HO2 := Lib.hid hO2
  clear hO2 HO HO1 B1 B2
  have hacc := HACC.out _ HB.out
  have hacc2 : Calls Tryz.prog 55 #[.pointer (some ⟨B.wb, 0, none⟩), .int .u64 ta] w2 fun e w' => e = .returned (.int .u64 (rlook x.l ta)) ∧ RD w0 w' B V (x.acc 1 ta (rlook x.l ta)) ∧ Fr rTy false w2 w' ∧ w'.cell? ⟨rb, 8, none⟩ = some (.int .u64 y) ∧ w'.frozen? ⟨rb, 8, none⟩ = false := hacc.mono fun e w' ⟨h1, h2, h3⟩ => ⟨h1, h2, h3, hcell (h3.cells _ _ _ _ HO2.out rfl) 8, hfrz (h3.cells _ _ _ _ HO2.out rfl) 8⟩
  clear hacc
  go_upto_region 14 with (go_at_call 55; refine hacc2.mono ?_; intro e w5 hh; obtain ⟨hh1, h5, f5, z8, zf⟩ := hh; subst hh1; have H5 := Lib.hid h5; have F5 := Lib.hid f5; clear h5 f5 hacc2)
  have hO5 := F5.out.cells _ _ _ _ HO2.out rfl
  have hO6 : ROp (w5.setCell ⟨rb, 8, none⟩ (.int .u64 (rlook x.l ta))) rb 2 gone false b u s g r (rlook x.l ta) := setCell_same hO5 8 _
  have h6 := rd_set' (o := 8) H5.out hO5 rfl hlo (.int .u64 (rlook x.l ta))
  have f6 : Fx rTy false rb w (w5.setCell ⟨rb, 8, none⟩ (.int .u64 (rlook x.l ta))) := (((below_fr HB.out rTy false).trans F5.out).fx rb).trans (set_fx _ _ _ _ _ _)
  have HO6 := Lib.hid hO6; have H6 := Lib.hid h6; have F6 := Lib.hid f6
  clear hO5 hO6 h6 f6 z8 zf c0 c2
  generalize w5.setCell ⟨rb, 8, none⟩ (.int .u64 (rlook x.l ta)) = w6 at *
  have z0 := hcell HO6.out 0
  have zf := hfrz HO6.out 0
  go_wp2
  go_end0
  exact ⟨rfl, rd_set' (o := 0) H6.out HO6.out rfl hlo _, setCell_same HO6.out 0 _, F6.out.trans (set_fx _ _ _ _ _ _)⟩
set_option maxRecDepth 10000 in
set_option maxHeartbeats 1000000 in
theorem rput2 (h : RD w0 w B V x) (hr : x.room) (hs : (Lit.int .i64 s).wf = true) (hlo : w0.heap.size ≤ rb) (hy : 0 ≤ y ∧ y < 18446744073709551616) (hrr : 0 ≤ r ∧ r < 9223372036854775808) (hO : ROp w rb 3 gone false b u s g r y) :
    Calls Tryz.prog 173 #[.pointer (some ⟨rb, 0, none⟩), .pointer (some ⟨B.wb, 0, none⟩)] w fun e w' => e = .returned (.tuple #[]) ∧ RD w0 w' B V (x.acc 2 (tagsA b u) (TagPure.withOf y s g)) ∧ ROp w' rb 0 gone false b u s g r (y) ∧ Fx rTy false rb w w' := by
  have hta := tagsA_wf b u
  have hia := itemA_wf b u s
  have ht : ∀ W, Calls Tryz.prog 56 #[.agg #[.int .i64 b, .int .i64 u]] W fun e w' => e = .returned (.int .u64 (tagsA b u)) ∧ Below W.heap.size W w' := fun W => rtags_any b u W
  have hi : ∀ W, Calls Tryz.prog 89 #[.agg #[.int .i64 b, .int .i64 u, .int .i64 s]] W fun e w' => e = .returned (.int .u64 (itemA b u s)) ∧ Below W.heap.size W w' := fun W => ritem_any b u s hs W
  generalize tagsA b u = ta at *
  generalize itemA b u s = ia at *
  have hwf : (Lit.int .u64 (TagPure.withOf y s g)).wf = true := withOf_wf y s _ hy.1 hy.2
  have hwith : ∀ W : World, Calls Tryz.prog 131 #[.int .u64 y, .int .i64 s, .int .i64 g] W fun e w' => e = .returned (.int .u64 (TagPure.withOf y s g)) ∧ W = w' := fun W => (rwith_any y s _ W hy.1 hy.2).mono fun e w' ⟨h1, h2⟩ => ⟨h1, h2⟩
  generalize TagPure.withOf y s g = nv at *
  have hacc : ∀ W, Below w.heap.size w W → Calls Tryz.prog 54 #[.pointer (some ⟨B.wb, 0, none⟩), .int .u64 ta, .int .u64 nv] W fun e w' => e = .returned (.int .u64 (rlook x.l ta)) ∧ RD w0 w' B V (x.acc 2 ta nv) ∧ Fr rTy false W w' := fun W hW => rwstore (h.keep hW) hr ta hta nv hwf
  clear hwf
  have c3 := hcell hO 3
  have c4 := hcell hO 4
  have HACC := Lib.hid hacc; have HO := Lib.hid hO
  clear h hr hs hy hrr hO hta hia hacc
  go_enter Tryz.func173, Tryz.ntmps173
  go_upto_region 1 with (go_at_call 56; refine (ht _).mono ?_; intro e w1 hh; obtain ⟨hh1, b1⟩ := hh; subst hh1; have B1 := Lib.hid b1; clear b1)
  have hO1 := (B1.out.block _ (Array.getElem?_eq_some_iff.1 HO.out).1).trans HO.out
  clear c3 c4
  have c3 := hcell hO1 3
  have c4 := hcell hO1 4
  have c5 := hcell hO1 5
  have HO1 := Lib.hid hO1
  clear hO1
  go_upto_region 3 with (go_at_call 89; refine (hi _).mono ?_; intro e w2 hh; obtain ⟨hh1, b2⟩ := hh; subst hh1; have B2 := Lib.hid b2; clear b2)
  have hO2 := (B2.out.block _ (Array.getElem?_eq_some_iff.1 HO1.out).1).trans HO1.out
  clear c3 c4 c5 ht hi
  have c0 := hcell hO2 0; have c2 := hcell hO2 2
  have HB := Lib.hid (B1.out.trans (B2.out.mono B1.out.size))
  have HO2 := Lib.hid hO2
  clear hO2 HO HO1 B1 B2
  go_upto_region 2 with (fail)
  clear c0 c2
  have x8 : ∀ st : ExtW w2, st.val.cell? ⟨rb, 8, none⟩ = some (.int .u64 y) := fun st => st.cell (hcell HO2.out 8)
  have x5 : ∀ st : ExtW w2, st.val.cell? ⟨rb, 5, none⟩ = some (.int .i64 s) := fun st => st.cell (hcell HO2.out 5)
  have x6 : ∀ st : ExtW w2, st.val.cell? ⟨rb, 6, none⟩ = some (.int .i64 g) := fun st => st.cell (hcell HO2.out 6)
  refine wp_region_ext_tail 16 (by kernel_rfl) (by kernel_rfl) ?_
  simp only [List.take_succ_cons, List.take_zero, List.drop_succ_cons, List.drop_zero]
  repeat (go_big_quiet_step ((go_at_call 131; with_reducible refine calls_ext_same (hwith _))))
  refine wpQuiet_nil ?_
  rintro W ⟨⟨W2, hW⟩, rfl⟩
  clear x8 x5 x6 hwith
  have hO3 := (hW.block _ (Array.getElem?_eq_some_iff.1 HO2.out).1).trans HO2.out
  have HO3 := Lib.hid hO3
  have HB3 := Lib.hid (HB.out.trans (hW.mono HB.out.size))
  clear hW hO3
  have hacc := HACC.out _ HB3.out
  go_upto_region 14 with (go_at_call 54; refine hacc.mono ?_; intro e w5 hh; obtain ⟨hh1, h5, f5⟩ := hh; subst hh1; have H5 := Lib.hid h5; have F5 := Lib.hid f5; clear h5 f5 hacc)
  have hO6 : ROp w5 rb 3 gone false b u s g r y := F5.out.cells _ _ _ _ HO3.out rfl
  have HO6 := Lib.hid hO6; have H6 := H5; have F6 : Hid (Fx rTy false rb w w5) := ((below_fr HB3.out rTy false).trans F5.out).fx rb
  clear hO6
  generalize w5 = w6 at *
  have z0 := hcell HO6.out 0
  have zf := hfrz HO6.out 0
  go_wp2
  go_end0
  exact ⟨rfl, rd_set' (o := 0) H6.out HO6.out rfl hlo _, setCell_same HO6.out 0 _, F6.out.trans (set_fx _ _ _ _ _ _)⟩
set_option maxRecDepth 10000 in
set_option maxHeartbeats 1000000 in
theorem rout0 (h : RD w0 w B V x) (hr : x.room) (hs : (Lit.int .i64 s).wf = true) (hlo : w0.heap.size ≤ rb) (hy : 0 ≤ y ∧ y < 18446744073709551616) (hrr : 0 ≤ r ∧ r < 9223372036854775808) (hO : ROp w rb 1 gone true b u s g r y) :
    Calls Tryz.prog 173 #[.pointer (some ⟨rb, 0, none⟩), .pointer (some ⟨B.wb, 0, none⟩)] w fun e w' => e = .returned (.tuple #[]) ∧ RD w0 w' B V (x.acc 1 (tagsA b u) (rlook x.l (tagsA b u))) ∧ ROp w' rb 2 gone true b u s g r (rlook x.l (tagsA b u)) ∧ Fx rTy false rb w w' := by
  have hta := tagsA_wf b u
  have hia := itemA_wf b u s
  have ht : ∀ W, Calls Tryz.prog 56 #[.agg #[.int .i64 b, .int .i64 u]] W fun e w' => e = .returned (.int .u64 (tagsA b u)) ∧ Below W.heap.size W w' := fun W => rtags_any b u W
  have hi : ∀ W, Calls Tryz.prog 89 #[.agg #[.int .i64 b, .int .i64 u, .int .i64 s]] W fun e w' => e = .returned (.int .u64 (itemA b u s)) ∧ Below W.heap.size W w' := fun W => ritem_any b u s hs W
  generalize tagsA b u = ta at *
  generalize itemA b u s = ia at *
  have hacc : ∀ W, Below w.heap.size w W → Calls Tryz.prog 55 #[.pointer (some ⟨B.wb, 0, none⟩), .int .u64 ta] W fun e w' => e = .returned (.int .u64 (rlook x.l ta)) ∧ RD w0 w' B V (x.acc 1 ta (rlook x.l ta)) ∧ Fr rTy false W w' := fun W hW => rwload (h.keep hW) hr ta hta
  have c3 := hcell hO 3
  have c4 := hcell hO 4
  have HACC := Lib.hid hacc; have HO := Lib.hid hO
  clear h hr hs hy hrr hO hta hia hacc
  go_enter Tryz.func173, Tryz.ntmps173
  go_upto_region 1 with (go_at_call 56; refine (ht _).mono ?_; intro e w1 hh; obtain ⟨hh1, b1⟩ := hh; subst hh1; have B1 := Lib.hid b1; clear b1)
  have hO1 := (B1.out.block _ (Array.getElem?_eq_some_iff.1 HO.out).1).trans HO.out
  clear c3 c4
  have c3 := hcell hO1 3
  have c4 := hcell hO1 4
  have c5 := hcell hO1 5
  have HO1 := Lib.hid hO1
  clear hO1
  go_upto_region 3 with (go_at_call 89; refine (hi _).mono ?_; intro e w2 hh; obtain ⟨hh1, b2⟩ := hh; subst hh1; have B2 := Lib.hid b2; clear b2)
  have hO2 := (B2.out.block _ (Array.getElem?_eq_some_iff.1 HO1.out).1).trans HO1.out
  clear c3 c4 c5 ht hi
  have c0 := hcell hO2 0; have c2 := hcell hO2 2
  have HB := Lib.hid (B1.out.trans (B2.out.mono B1.out.size))
  have HO2 := Lib.hid hO2
  clear hO2 HO HO1 B1 B2
  have hacc := HACC.out _ HB.out
  have hacc2 : Calls Tryz.prog 55 #[.pointer (some ⟨B.wb, 0, none⟩), .int .u64 ta] w2 fun e w' => e = .returned (.int .u64 (rlook x.l ta)) ∧ RD w0 w' B V (x.acc 1 ta (rlook x.l ta)) ∧ Fr rTy false w2 w' ∧ w'.cell? ⟨rb, 8, none⟩ = some (.int .u64 y) ∧ w'.frozen? ⟨rb, 8, none⟩ = false := hacc.mono fun e w' ⟨h1, h2, h3⟩ => ⟨h1, h2, h3, hcell (h3.cells _ _ _ _ HO2.out rfl) 8, hfrz (h3.cells _ _ _ _ HO2.out rfl) 8⟩
  clear hacc
  go_upto_region 14 with (go_at_call 55; refine hacc2.mono ?_; intro e w5 hh; obtain ⟨hh1, h5, f5, z8, zf⟩ := hh; subst hh1; have H5 := Lib.hid h5; have F5 := Lib.hid f5; clear h5 f5 hacc2)
  have hO5 := F5.out.cells _ _ _ _ HO2.out rfl
  have hO6 : ROp (w5.setCell ⟨rb, 8, none⟩ (.int .u64 (rlook x.l ta))) rb 1 gone true b u s g r (rlook x.l ta) := setCell_same hO5 8 _
  have h6 := rd_set' (o := 8) H5.out hO5 rfl hlo (.int .u64 (rlook x.l ta))
  have f6 : Fx rTy false rb w (w5.setCell ⟨rb, 8, none⟩ (.int .u64 (rlook x.l ta))) := (((below_fr HB.out rTy false).trans F5.out).fx rb).trans (set_fx _ _ _ _ _ _)
  have HO6 := Lib.hid hO6; have H6 := Lib.hid h6; have F6 := Lib.hid f6
  clear hO5 hO6 h6 f6 z8 zf c0 c2
  generalize w5.setCell ⟨rb, 8, none⟩ (.int .u64 (rlook x.l ta)) = w6 at *
  have z0 := hcell HO6.out 0
  have zf := hfrz HO6.out 0
  go_wp2
  go_end0
  exact ⟨rfl, rd_set' (o := 0) H6.out HO6.out rfl hlo _, setCell_same HO6.out 0 _, F6.out.trans (set_fx _ _ _ _ _ _)⟩
set_option maxRecDepth 10000 in
set_option maxHeartbeats 1000000 in
theorem rout1 (h : RD w0 w B V x) (hr : x.room) (hs : (Lit.int .i64 s).wf = true) (hlo : w0.heap.size ≤ rb) (hy : 0 ≤ y ∧ y < 18446744073709551616) (hrr : 0 ≤ r ∧ r < 9223372036854775808) (hO : ROp w rb 2 gone true b u s g r y) :
    Calls Tryz.prog 173 #[.pointer (some ⟨rb, 0, none⟩), .pointer (some ⟨B.wb, 0, none⟩)] w fun e w' => e = .returned (.tuple #[]) ∧ RD w0 w' B V (x.acc 2 (tagsA b u) (TagPure.withOf y s 0)) ∧ ROp w' rb 3 true true b u s g r (y) ∧ Fx rTy false rb w w' := by
  have hta := tagsA_wf b u
  have hia := itemA_wf b u s
  have ht : ∀ W, Calls Tryz.prog 56 #[.agg #[.int .i64 b, .int .i64 u]] W fun e w' => e = .returned (.int .u64 (tagsA b u)) ∧ Below W.heap.size W w' := fun W => rtags_any b u W
  have hi : ∀ W, Calls Tryz.prog 89 #[.agg #[.int .i64 b, .int .i64 u, .int .i64 s]] W fun e w' => e = .returned (.int .u64 (itemA b u s)) ∧ Below W.heap.size W w' := fun W => ritem_any b u s hs W
  generalize tagsA b u = ta at *
  generalize itemA b u s = ia at *
  have hwf : (Lit.int .u64 (TagPure.withOf y s 0)).wf = true := withOf_wf y s _ hy.1 hy.2
  have hwith : ∀ W : World, Calls Tryz.prog 131 #[.int .u64 y, .int .i64 s, .int .i64 0] W fun e w' => e = .returned (.int .u64 (TagPure.withOf y s 0)) ∧ W = w' := fun W => (rwith_any y s _ W hy.1 hy.2).mono fun e w' ⟨h1, h2⟩ => ⟨h1, h2⟩
  generalize TagPure.withOf y s 0 = nv at *
  have hacc : ∀ W, Below w.heap.size w W → Calls Tryz.prog 54 #[.pointer (some ⟨B.wb, 0, none⟩), .int .u64 ta, .int .u64 nv] W fun e w' => e = .returned (.int .u64 (rlook x.l ta)) ∧ RD w0 w' B V (x.acc 2 ta nv) ∧ Fr rTy false W w' := fun W hW => rwstore (h.keep hW) hr ta hta nv hwf
  clear hwf
  have c3 := hcell hO 3
  have c4 := hcell hO 4
  have HACC := Lib.hid hacc; have HO := Lib.hid hO
  clear h hr hs hy hrr hO hta hia hacc
  go_enter Tryz.func173, Tryz.ntmps173
  go_upto_region 1 with (go_at_call 56; refine (ht _).mono ?_; intro e w1 hh; obtain ⟨hh1, b1⟩ := hh; subst hh1; have B1 := Lib.hid b1; clear b1)
  have hO1 := (B1.out.block _ (Array.getElem?_eq_some_iff.1 HO.out).1).trans HO.out
  clear c3 c4
  have c3 := hcell hO1 3
  have c4 := hcell hO1 4
  have c5 := hcell hO1 5
  have HO1 := Lib.hid hO1
  clear hO1
  go_upto_region 3 with (go_at_call 89; refine (hi _).mono ?_; intro e w2 hh; obtain ⟨hh1, b2⟩ := hh; subst hh1; have B2 := Lib.hid b2; clear b2)
  have hO2 := (B2.out.block _ (Array.getElem?_eq_some_iff.1 HO1.out).1).trans HO1.out
  clear c3 c4 c5 ht hi
  have c0 := hcell hO2 0; have c2 := hcell hO2 2
  have HB := Lib.hid (B1.out.trans (B2.out.mono B1.out.size))
  have HO2 := Lib.hid hO2
  clear hO2 HO HO1 B1 B2
  go_upto_region 10 with (fail)
  clear c0 c2
  have x8 : ∀ st : ExtW w2, st.val.cell? ⟨rb, 8, none⟩ = some (.int .u64 y) := fun st => st.cell (hcell HO2.out 8)
  have x5 : ∀ st : ExtW w2, st.val.cell? ⟨rb, 5, none⟩ = some (.int .i64 s) := fun st => st.cell (hcell HO2.out 5)
  have x6 : ∀ st : ExtW w2, st.val.cell? ⟨rb, 6, none⟩ = some (.int .i64 g) := fun st => st.cell (hcell HO2.out 6)
  refine wp_region_ext_tail 12 (by kernel_rfl) (by kernel_rfl) ?_
  simp only [List.take_succ_cons, List.take_zero, List.drop_succ_cons, List.drop_zero]
  repeat (go_big_quiet_step ((go_at_call 131; with_reducible refine calls_ext_same (hwith _))))
  refine wpQuiet_nil ?_
  rintro W ⟨⟨W2, hW⟩, rfl⟩
  clear x8 x5 x6 hwith
  have hO3 := (hW.block _ (Array.getElem?_eq_some_iff.1 HO2.out).1).trans HO2.out
  have HO3 := Lib.hid hO3
  have HB3 := Lib.hid (HB.out.trans (hW.mono HB.out.size))
  clear hW hO3
  have hacc := HACC.out _ HB3.out
  have hacc2 : Calls Tryz.prog 54 #[.pointer (some ⟨B.wb, 0, none⟩), .int .u64 ta, .int .u64 nv] W fun e w' => e = .returned (.int .u64 (rlook x.l ta)) ∧ RD w0 w' B V (x.acc 2 ta nv) ∧ Fr rTy false W w' ∧ w'.cell? ⟨rb, 1, none⟩ = some (.bool gone) ∧ w'.frozen? ⟨rb, 1, none⟩ = false := hacc.mono fun e w' ⟨h1, h2, h3⟩ => ⟨h1, h2, h3, hcell (h3.cells _ _ _ _ HO3.out rfl) 1, hfrz (h3.cells _ _ _ _ HO3.out rfl) 1⟩
  clear hacc
  go_upto_region 14 with (go_at_call 54; refine hacc2.mono ?_; intro e w5 hh; obtain ⟨hh1, h5, f5, z8, zf⟩ := hh; subst hh1; have H5 := Lib.hid h5; have F5 := Lib.hid f5; clear h5 f5 hacc2)
  have hO5 := F5.out.cells _ _ _ _ HO3.out rfl
  have hO6 : ROp (w5.setCell ⟨rb, 1, none⟩ (.bool true)) rb 2 true true b u s g r y := setCell_same hO5 1 _
  have h6 := rd_set' (o := 1) H5.out hO5 rfl hlo (.bool true)
  have f6 : Fx rTy false rb w (w5.setCell ⟨rb, 1, none⟩ (.bool true)) := (((below_fr HB3.out rTy false).trans F5.out).fx rb).trans (set_fx _ _ _ _ _ _)
  have HO6 := Lib.hid hO6; have H6 := Lib.hid h6; have F6 := Lib.hid f6
  clear hO5 hO6 h6 f6 z8 zf
  generalize w5.setCell ⟨rb, 1, none⟩ (.bool true) = w6 at *
  have z0 := hcell HO6.out 0
  have zf := hfrz HO6.out 0
  go_wp2
  go_end0
  exact ⟨rfl, rd_set' (o := 0) H6.out HO6.out rfl hlo _, setCell_same HO6.out 0 _, F6.out.trans (set_fx _ _ _ _ _ _)⟩
set_option maxRecDepth 10000 in
set_option maxHeartbeats 1000000 in
theorem rout2 (h : RD w0 w B V x) (hr : x.room) (hs : (Lit.int .i64 s).wf = true) (hlo : w0.heap.size ≤ rb) (hy : 0 ≤ y ∧ y < 18446744073709551616) (hrr : 0 ≤ r ∧ r < 9223372036854775808) (hO : ROp w rb 3 gone true b u s g r y) :
    Calls Tryz.prog 173 #[.pointer (some ⟨rb, 0, none⟩), .pointer (some ⟨B.wb, 0, none⟩)] w fun e w' => e = .returned (.tuple #[]) ∧ RD w0 w' B V (x.acc 2 (itemA b u s) (0)) ∧ ROp w' rb 0 gone true b u s g r (y) ∧ Fx rTy false rb w w' := by
  have hta := tagsA_wf b u
  have hia := itemA_wf b u s
  have ht : ∀ W, Calls Tryz.prog 56 #[.agg #[.int .i64 b, .int .i64 u]] W fun e w' => e = .returned (.int .u64 (tagsA b u)) ∧ Below W.heap.size W w' := fun W => rtags_any b u W
  have hi : ∀ W, Calls Tryz.prog 89 #[.agg #[.int .i64 b, .int .i64 u, .int .i64 s]] W fun e w' => e = .returned (.int .u64 (itemA b u s)) ∧ Below W.heap.size W w' := fun W => ritem_any b u s hs W
  generalize tagsA b u = ta at *
  generalize itemA b u s = ia at *
  have hacc : ∀ W, Below w.heap.size w W → Calls Tryz.prog 54 #[.pointer (some ⟨B.wb, 0, none⟩), .int .u64 ia, .int .u64 0] W fun e w' => e = .returned (.int .u64 (rlook x.l ia)) ∧ RD w0 w' B V (x.acc 2 ia 0) ∧ Fr rTy false W w' := fun W hW => rwstore (h.keep hW) hr ia hia 0 (by decide)
  have c3 := hcell hO 3
  have c4 := hcell hO 4
  have HACC := Lib.hid hacc; have HO := Lib.hid hO
  clear h hr hs hy hrr hO hta hia hacc
  go_enter Tryz.func173, Tryz.ntmps173
  go_upto_region 1 with (go_at_call 56; refine (ht _).mono ?_; intro e w1 hh; obtain ⟨hh1, b1⟩ := hh; subst hh1; have B1 := Lib.hid b1; clear b1)
  have hO1 := (B1.out.block _ (Array.getElem?_eq_some_iff.1 HO.out).1).trans HO.out
  clear c3 c4
  have c3 := hcell hO1 3
  have c4 := hcell hO1 4
  have c5 := hcell hO1 5
  have HO1 := Lib.hid hO1
  clear hO1
  go_upto_region 3 with (go_at_call 89; refine (hi _).mono ?_; intro e w2 hh; obtain ⟨hh1, b2⟩ := hh; subst hh1; have B2 := Lib.hid b2; clear b2)
  have hO2 := (B2.out.block _ (Array.getElem?_eq_some_iff.1 HO1.out).1).trans HO1.out
  clear c3 c4 c5 ht hi
  have c0 := hcell hO2 0; have c2 := hcell hO2 2
  have HB := Lib.hid (B1.out.trans (B2.out.mono B1.out.size))
  have HO2 := Lib.hid hO2
  clear hO2 HO HO1 B1 B2
  have hacc := HACC.out _ HB.out
  go_upto_region 14 with (go_at_call 54; refine hacc.mono ?_; intro e w5 hh; obtain ⟨hh1, h5, f5⟩ := hh; subst hh1; have H5 := Lib.hid h5; have F5 := Lib.hid f5; clear h5 f5 hacc)
  have hO6 : ROp w5 rb 3 gone true b u s g r y := F5.out.cells _ _ _ _ HO2.out rfl
  have HO6 := Lib.hid hO6; have H6 := H5; have F6 : Hid (Fx rTy false rb w w5) := ((below_fr HB.out rTy false).trans F5.out).fx rb
  clear hO6 c0 c2
  generalize w5 = w6 at *
  have z0 := hcell HO6.out 0
  have zf := hfrz HO6.out 0
  go_wp2
  go_end0
  exact ⟨rfl, rd_set' (o := 0) H6.out HO6.out rfl hlo _, setCell_same HO6.out 0 _, F6.out.trans (set_fx _ _ _ _ _ _)⟩
end
end Go.Proofs.YtmakjfeepmiggaaGreat
namespace Go.Proofs.YtmakjfeepmiggaaGreat
open Go.RowKit Go.Maps TagPure
set_option linter.unusedVariables false
section
variable {w0 w : World} {B : WB} {V : WV} {s : CS} {b : Nat} {tgA it at_ g r : Int} {m : Nat} (hm : s.n ≤ m ∧ s.cnt ≤ m) (hl : m + 3 < lim) (hlo : w0.heap.size ≤ b) (hz : tgA ≠ 0) (hg : (Lit.int .u64 tgA).wf = true) (hi : (Lit.int .u64 it).wf = true)
include hm
include hl hlo hz hg hi
end
end Go.Proofs.YtmakjfeepmiggaaGreat
namespace Go.Proofs.YtmakjfeepmiggaaGreat
open Go.RowKit Go.Maps TagPure
set_option linter.unusedVariables false
end Go.Proofs.YtmakjfeepmiggaaGreat