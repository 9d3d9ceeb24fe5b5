/-
  hists.Order: the walk.
-/
import Derived.Test.YtmagpbbjjkmbpaaHistOrd
import Derived.Deep.WholeRow
import Derived.Deep.AppendLies
namespace Go.Proofs.Ytmagpbbjjkmbpaa
open Go.RowKit Go.Maps Go.Sort
set_option linter.unusedVariables false

theorem E0_ds (ps ds : List Int) (d : Int) : E0 ps (ds ++ [d]) = E0 ps ds ++ [⟨d, -1, (ds.length : Int)⟩] := by unfold E0; rw [dropE_snoc, List.append_assoc]
theorem E0_nil (ps : List Int) : E0 ps [] = callE ps := by simp [E0, dropE]
def HC.pts (l : List HC) : List Int := l.map HC.pt
def HD.sts (l : List HD) : List Int := l.map HD.st
theorem pts_take (l : List HC) (k : Nat) (x : HC) (h : l[k]? = some x) : HC.pts (l.take (k + 1)) = HC.pts (l.take k) ++ [x.pt] := by unfold HC.pts; rw [List.take_add_one, h]; simp
theorem sts_take (l : List HD) (k : Nat) (x : HD) (h : l[k]? = some x) : HD.sts (l.take (k + 1)) = HD.sts (l.take k) ++ [x.st] := by unfold HD.sts; rw [List.take_add_one, h]; simp
theorem pts_len (l : List HC) (k : Nat) (h : k ≤ l.length) : (HC.pts (l.take k)).length = k := by simp [HC.pts, h]
theorem sts_len (l : List HD) (k : Nat) (h : k ≤ l.length) : (HD.sts (l.take k)).length = k := by simp [HD.sts, h]
/-- A whole struct into the block that was made last. -/
theorem wpList_store_new {P : Program} {ops : Array Oper} {rest : List Oper} {op : Oper} {a : Act} {Q : Exit → Act → World → Prop} (hgd : op.guard = none) (ty : TypeId) (x y : Operand) (ho : op.op = .store ty x y)
    (w : World) (c c' : Array Value) (hx : a.eval x = .pointer (some ⟨w.heap.size, 0, none⟩)) (hy : a.eval y = .agg c') (hi : (P.info? ty).map (·.size) = some c'.size) (hs : c.size = c'.size) (h1 : c'.all (·.oneCell') = true)
    (h : wpList P ops Q rest (a.put op.dst undef) (w.alloc (.cells c' ty))) : wpList P ops Q (op :: rest) a (w.alloc (.cells c ty)) :=
  wpList_plain hgd fun _ hK => by
    unfold Oper.wp execOp
    simp only [ho, hx, hy, run_storeAt_new w ty c c' hi hs h1, Sem.run_bind, Sem.run_pure, Result.andThen_ok]
    exact hK _ _ h
set_option maxRecDepth 100000 in
set_option maxHeartbeats 4000000 in
theorem order_any (h : Hst) (w : World) (hr : HstRd w h) (h1 : h.cs.length ≤ 120) (h2 : h.ds.length ≤ 60) :
    Calls Try.prog 10 #[.agg #[.slice h.ca h.cs.length h.cc, .slice h.da h.ds.length h.dc]] w fun e w' => ∃ v O, e = .returned v ∧ ERow w' w.heap.size v O ∧ IsOrd (HC.pts h.cs) (HD.sts h.ds) O ∧ Below w.heap.size w w' := by
  obtain ⟨i0, hi0, hz0, hz1, hz2⟩ := info_parts3 info_entry
  have HI := Lib.hid hi0; have HZ0 := Lib.hid hz0; have HZ1 := Lib.hid hz1; have HZ2 := Lib.hid hz2
  have hB := hballoc w (.cells h.cells 25)
  have z := heap_alloc_new w (.cells h.cells 25)
  have HR := Lib.hid (hr.below hB); have HB := Lib.hid hB; have HZ := Lib.hid z
  clear hi0 hz0 hz1 hz2 hr hB z
  go_enter Try.func10, Try.ntmps10
  go_upto_region 1 with (fail)
  change Code.wp _ _ _ _ (w.alloc (.cells h.cells 25))
  obtain ⟨w1, hw1⟩ : ∃ w1, w1 = w.alloc (.cells h.cells 25) := ⟨_, rfl⟩
  rw [← hw1] at HR HB HZ ⊢
  clear hw1
  have z := HZ.out
  have c0 : w1.cell? ⟨w.heap.size, 0, none⟩ = some (.slice h.ca h.cs.length h.cc) := hblk z 0
  have hc0 : (h.cs.length : Int) ≤ 120 := by omega
  clear z
  have H1 := Lib.hid h1; have H2 := Lib.hid h2
  clear h1 h2
  go_wp2_with fail
  clear c0
  go_loopw [3, 4, 5, 11] (fun v3 _ _ i wr => ∃ k : Nat, k ≤ h.cs.length ∧ i = .int .i64 k ∧ Hid (wr.ownsRow w1.heap.size 42 3 v3 k (flatE (callE (HC.pts (h.cs.take k))))) ∧ Below w1.heap.size w1 wr) (fun _ _ _ i _ => h.cs.length - (intOf i).toNat)
  case atStart => exact ⟨0, by omega, rfl, World.ownsRow_nil _ _ _ _, Below.refl _ _⟩
  case round =>
    obtain ⟨k, hk, rfl, HO, hbw⟩ := hrel
    have HBW := Lib.hid hbw
    by_cases hlt : k < h.cs.length
    · have hlt' : (k : Int) < h.cs.length := by omega
      obtain ⟨b, off, x, cl, hca, hx, hcl, hsz, h1c, hld⟩ := (HR.out.cs.below hbw).whole k hlt
      have h19 : cl.toArray[19]? = some (.int .i64 x.pt) := by rw [hcl]; rfl
      have hi20 : (Try.prog.info? 57).map (·.size) = some cl.length := by rw [hsz]; kernel_rfl
      have HX := Lib.hid hx; have HLT := Lib.hid hlt; have H19 := Lib.hid h19; have H1C := Lib.hid h1c; have HLD := Lib.hid hld; have HI20 := Lib.hid hi20; have HSZ := Lib.hid hsz
      have hlen := pts_len h.cs k hk
      have HLEN := Lib.hid hlen
      rw [hca]
      have HCA := Lib.hid hca
      clear hx hbw hlt hlen hk h19 h1c hld hcl hsz hi20
      go_upto_region 5 with (first
        | (refine wpList_load_mid rfl 57 (.tmp 14) rfl b (off + k * 20) rfl cl _ HLD.out Try.underlying57 rfl HI20.out ?_)
        | (refine wpList_store_new rfl 57 (.tmp 5) (.tmp 15) rfl wr _ cl.toArray rfl rfl HI20.out (by simp [HSZ.out]) H1C.out ?_))
      go_frame
      have hb5 := hballoc wr (.cells cl.toArray 57)
      have hz5 := heap_alloc_new wr (.cells cl.toArray 57)
      have HO5 := Lib.hid (HO.out.alloc (.cells cl.toArray 57))
      generalize wr.alloc (.cells cl.toArray 57) = w5 at *
      have c5 : w5.cell? ⟨wr.heap.size, 19, none⟩ = some (.int .i64 x.pt) := (hblk hz5 19).trans H19.out
      have HB5 := Lib.hid hb5
      clear hb5 hz5
      have hk1 : (k : Int) ≤ 120 := by omega
      go_wp2_with (at_builtin; refine wpList_append_own _ rfl _ _ 34 rfl w1.heap.size 42 i0 (.agg #[.int .i64 0, .int .i64 0, .int .i64 0]) 3 24 Try.underlying34 HI.out HZ0.out HZ1.out HZ2.out rfl (by decide) _ _ _ rfl (HO5.out.alloc _) ⟨_, 0, none⟩ 1 1 [.int .i64 x.pt, .int .i64 k, .int .i64 (-1)] rfl rfl (World.news_of_block (cs := #[.int .i64 x.pt, .int .i64 k, .int .i64 (-1)]) (t := 42) (fr := (0, 0)) (heap_alloc_new w5 _)) ?c2 ?c3 ?c4 ?c5 ?_)
      case c2 => simp [Value.oneCell']
      case c3 => unfold maxLen; omega
      case c4 => omega
      case c5 => have h1 := HBW.out.size; have h2 := HB5.out.size; first | omega | (simp; omega)
      intro v' w6 hown hgrow _
      have hs5 := HBW.out.size
      have hb6 : Below w1.heap.size w1 w6 := ((HBW.out.trans (HB5.out.mono hs5)).alloc (Nat.le_trans hs5 HB5.out.size) (.cells #[.int .i64 x.pt, .int .i64 k, .int .i64 (-1)] 42)).grown hgrow (by have := HB5.out.size; simp; omega) (fun j hj => (HO5.out.lt j hj).1)
      have HO6 : Hid (w6.ownsRow w1.heap.size 42 3 v' (k + 1) (flatE (callE (HC.pts (h.cs.take (k + 1)))))) := by
        show World.ownsRow _ _ _ _ _ _ _
        rw [pts_take h.cs k x HX.out, callE_snoc, flatE_snoc, HLEN.out]; exact hown
      have HB6 := Lib.hid hb6
      clear hown hgrow hb6 c5
      go_wp2_with fail
      go_roundw
      case rel => exact ⟨k + 1, HLT.out, by go_num, HO6.out, HB6.out⟩
      case measure => have := HLT.out; simp [intOf]; omega
    · obtain rfl : k = h.cs.length := by omega
      rw [List.take_length, ← E0_nil] at HO
      have c1 : wr.cell? ⟨w.heap.size, 1, none⟩ = some (.slice h.da h.ds.length h.dc) := hblk ((HBW.out.block _ (Array.getElem?_eq_some_iff.1 HZ.out).1).trans HZ.out) 1
      have hd0 : (h.ds.length : Int) ≤ 60 := by have := H2.out; omega
      have HO0 := HO
      clear hbw hk hlt HO
      go_wp2_with fail
      clear c1
      go_loopw [3, 6, 7, 27] (fun v3 _ _ i wr => ∃ k : Nat, k ≤ h.ds.length ∧ i = .int .i64 k ∧ Hid (wr.ownsRow w1.heap.size 42 3 v3 (h.cs.length + k) (flatE (E0 (HC.pts h.cs) (HD.sts (h.ds.take k))))) ∧ Below w1.heap.size w1 wr) (fun _ _ _ i _ => h.ds.length - (intOf i).toNat)
      case atStart => exact ⟨0, by omega, rfl, HO0, HBW.out⟩
      case round =>
        clear HBW HO0
        obtain ⟨k, hk, rfl, HO, hbw⟩ := hrel
        have HBW := Lib.hid hbw
        by_cases hlt : k < h.ds.length
        · have hlt' : (k : Int) < h.ds.length := by omega
          obtain ⟨b, off, x, cl, hca, hx, hcl, hsz, h1c, hld⟩ := (HR.out.ds.below hbw).whole k hlt
          have h19 : cl.toArray[0]? = some (.int .i64 x.st) := by rw [hcl]; rfl
          have hi20 : (Try.prog.info? 62).map (·.size) = some cl.length := by rw [hsz]; kernel_rfl
          have HX := Lib.hid hx; have HLT := Lib.hid hlt; have H19 := Lib.hid h19; have H1C := Lib.hid h1c; have HLD := Lib.hid hld; have HI20 := Lib.hid hi20; have HSZ := Lib.hid hsz
          have hlen := sts_len h.ds k hk
          have HLEN := Lib.hid hlen
          rw [hca]
          have HCA := Lib.hid hca
          clear hx hbw hlt hlen hk h19 h1c hld hcl hsz hi20
          go_upto_region 10 with (first
            | (refine wpList_load_mid rfl 62 (.tmp 30) rfl b (off + k * 7) rfl cl _ HLD.out Try.underlying62 rfl HI20.out ?_)
            | (refine wpList_store_new rfl 62 (.tmp 7) (.tmp 31) rfl wr _ cl.toArray rfl rfl HI20.out (by simp [HSZ.out]) H1C.out ?_))
          go_frame
          have hb5 := hballoc wr (.cells cl.toArray 62)
          have hz5 := heap_alloc_new wr (.cells cl.toArray 62)
          have HO5 := Lib.hid (HO.out.alloc (.cells cl.toArray 62))
          generalize wr.alloc (.cells cl.toArray 62) = w5 at *
          have c5 : w5.cell? ⟨wr.heap.size, 0, none⟩ = some (.int .i64 x.st) := (hblk hz5 0).trans H19.out
          have HB5 := Lib.hid hb5
          clear hb5 hz5
          have hk1 : (k : Int) ≤ 60 := by omega
          have hcl1 := H1.out
          go_wp2_with (at_builtin; refine wpList_append_own _ rfl _ _ 34 rfl w1.heap.size 42 i0 (.agg #[.int .i64 0, .int .i64 0, .int .i64 0]) 3 24 Try.underlying34 HI.out HZ0.out HZ1.out HZ2.out rfl (by decide) _ _ _ rfl (HO5.out.alloc _) ⟨_, 0, none⟩ 1 1 [.int .i64 x.st, .int .i64 (-1), .int .i64 k] rfl rfl (World.news_of_block (cs := #[.int .i64 x.st, .int .i64 (-1), .int .i64 k]) (t := 42) (fr := (0, 0)) (heap_alloc_new w5 _)) ?c2 ?c3 ?c4 ?c5 ?_)
          case c2 => simp [Value.oneCell']
          case c3 => unfold maxLen; omega
          case c4 => omega
          case c5 => have h1 := HBW.out.size; have h2 := HB5.out.size; first | omega | (simp; omega)
          intro v' w6 hown hgrow _
          have hs5 := HBW.out.size
          have hb6 : Below w1.heap.size w1 w6 := ((HBW.out.trans (HB5.out.mono hs5)).alloc (Nat.le_trans hs5 HB5.out.size) (.cells #[.int .i64 x.st, .int .i64 (-1), .int .i64 k] 42)).grown hgrow (by have := HB5.out.size; simp; omega) (fun j hj => (HO5.out.lt j hj).1)
          have HO6 : Hid (w6.ownsRow w1.heap.size 42 3 v' (h.cs.length + (k + 1)) (flatE (E0 (HC.pts h.cs) (HD.sts (h.ds.take (k + 1)))))) := by
            show World.ownsRow _ _ _ _ _ _ _
            rw [sts_take h.ds k x HX.out, E0_ds, flatE_snoc, HLEN.out]; exact hown
          have HB6 := Lib.hid hb6
          clear hown hgrow hb6 c5 hcl1
          go_wp2_with fail
          go_roundw
          case rel => exact ⟨k + 1, HLT.out, by go_num, HO6.out, HB6.out⟩
          case measure => have := HLT.out; simp [intOf]; omega
        · obtain rfl : k = h.ds.length := by omega
          rw [List.take_length] at HO
          have hle : (E0 (HC.pts h.cs) (HD.sts h.ds)).length = h.cs.length + h.ds.length := by rw [E0_len]; simp [HC.pts, HD.sts]
          rw [← hle] at HO
          have hso := Lib.hid (esort_own (ps := HC.pts h.cs) (ds := HD.sts h.ds) (by have h1 := H1.out; have h2 := H2.out; simp only [HC.pts, HD.sts, List.length_map]; omega) HO.out)
          clear hbw hk hlt hle
          go_wp2_with (first
            | (go_at_call 30; refine hso.out.mono ?_; intro e w7 hh; obtain ⟨hh1, O, q1, q2, q3⟩ := hh; subst hh1; have HQ1 := Lib.hid q1; have HCL := Lib.hid (eclip_any q2); have HB7 := Lib.hid (HBW.out.trans q3); clear q1 q2 q3)
            | (go_at_call 33; refine HCL.out.mono ?_; intro e w8 hh; obtain ⟨v', hh1, he, hh2⟩ := hh; subst hh1; obtain rfl := hh2.symm; have HE := Lib.hid he; clear he))
          go_ret
          exact ⟨_, O, rfl, HE.out.mono HB.out.size, HQ1.out, HB.out.trans (HB7.out.mono HB.out.size)⟩
end Go.Proofs.Ytmagpbbjjkmbpaa
