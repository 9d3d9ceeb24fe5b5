/-
  hists.Well: is a history well?
-/
import Derived.Test.YtmagpbbjjkmbpaaHistGrt
import Derived.Test.YtmagpbbjjkmbpaaMapI64
namespace Go.Proofs.Ytmagpbbjjkmbpaa
open Go.RowKit Go.Maps Go.Sort
set_option linter.unusedVariables false

def HC.cw (x : HC) : Cw := ⟨x.th, x.fr, x.to, x.pt⟩
def cws (l : List HC) : List Cw := l.map HC.cw
theorem cws_take (l : List HC) (k : Nat) (x : HC) (h : l[k]? = some x) : cws (l.take (k + 1)) = cws (l.take k) ++ [x.cw] := by unfold cws; rw [List.take_add_one, h]; simp
theorem cws_pts (l : List HC) : (cws l).map Cw.pt = HC.pts l := by simp [cws, HC.pts, HC.cw]
theorem wel_iff (h : Hst) {O : List En} (ho : IsOrd (HC.pts h.cs) (HD.sts h.ds) O) : Wel (cws h.cs) (HD.sts h.ds) ↔ CwOk (cws h.cs) ∧ (O.map En.st).Nodup := by
  unfold Wel; rw [cws_pts, ord_nodup ho]
theorem cws_takeall (l : List HC) (k : Nat) : cws (l.take k) = (cws l).take k := by simp [cws]
theorem no_wel {h : Hst} {k : Nat} {x : HC} (hx : h.cs[k]? = some x) (hn : ¬ CwOk (cws (h.cs.take k) ++ [x.cw])) (ds : List Int) : ¬ Wel (cws h.cs) ds := fun c => hn (by
  rw [← cws_take _ _ _ hx, cws_takeall]; exact cwok_take c.1 _)
theorem ERow.keep {w w' : World} {base m : Nat} {v : Value} {l : List En} (h : ERow w base v l) (hk : Keeps (· = m) w w') (hm : m < base) : ERow w' base v l := by
  rcases h with h | ⟨g, cur, h1, h2, h3, h4⟩
  · exact .inl h
  · exact .inr ⟨g, cur, h1, h2, (hk.block g (Array.getElem?_eq_some_iff.1 h3).1 (fun c => by have : g = m := c; omega)).trans h3, h4⟩
def WellPost (h : Hst) (w : World) (e : Ending) (w' : World) : Prop := ∃ g, e = .returned (.bool g) ∧ Below w.heap.size w w' ∧ (g = true ↔ Wel (cws h.cs) (HD.sts h.ds))
set_option maxRecDepth 100000 in
set_option maxHeartbeats 8000000 in
theorem well_any (h : Hst) (w : World) (hr : HstRd w h) (h1 : h.cs.length ≤ 120) (h2 : h.ds.length ≤ 60) :
    Calls Try.prog 14 #[.agg #[.slice h.ca h.cs.length h.cc, .slice h.da h.ds.length h.dc]] w (WellPost h w) := by
  have hB := hballoc w (.cells h.cells 25)
  have z := heap_alloc_new w (.cells h.cells 25)
  have HR := Lib.hid (hr.below hB); have HB := Lib.hid hB; have HZ := Lib.hid z
  have H1 := Lib.hid h1; have H2 := Lib.hid h2
  clear hr hB z h1 h2
  have hmm := @run_makeMap Try.prog
  go_enter Try.func14, Try.ntmps14
  go_upto_region 1 with (fail)
  change Code.wp _ _ _ _ (w.alloc (.cells h.cells 25))
  obtain ⟨w1, hw1⟩ : ∃ w1, w1 = w.alloc (.cells h.cells 25) := ⟨_, rfl⟩
  rw [← hw1] at HR HB HZ ⊢
  clear hw1
  go_upto_region 2 with (fail)
  change Code.wp _ _ _ _ (w1.alloc (.map #[] 0))
  have hm1 := MapJ.made w1 3 3 .i64
  have hb2 := hballoc w1 (.map #[] 0)
  generalize w1.alloc (.map #[] 0) = w2 at *
  obtain ⟨m1, hm1e⟩ : ∃ m1, m1 = w1.heap.size := ⟨_, rfl⟩
  rw [← hm1e] at hm1 ⊢
  have HM1 := Lib.hid hm1; have HB2 := Lib.hid hb2; have HME := Lib.hid hm1e
  have c0 : w2.cell? ⟨w.heap.size, 0, none⟩ = some (.slice h.ca h.cs.length h.cc) := hblk ((hb2.block _ (Array.getElem?_eq_some_iff.1 HZ.out).1).trans HZ.out) 0
  have hc0 : (h.cs.length : Int) ≤ 120 := by have := H1.out; omega
  clear hm1 hb2 hm1e
  go_wp2_with fail
  clear c0
  go_loopw [5, 14] (fun _ i wr => ∃ k : Nat, k ≤ h.cs.length ∧ i = .int .i64 k ∧ Hid (CwOk (cws (h.cs.take k)) ∧ MapJ wr 3 3 .i64 m1 k (lastTo (cws (h.cs.take k)))) ∧ Below w1.heap.size w1 wr) (fun _ i _ => h.cs.length - (intOf i).toNat)
  case atStart => exact ⟨0, by omega, rfl, ⟨⟨fun c hc => by (simp [cws] at hc), by simp [cws]⟩, HM1.out⟩, HB2.out⟩
  case round =>
    clear HM1 HB2
    obtain ⟨k, hk, rfl, P, hbw⟩ := hrel
    have HBW := Lib.hid hbw
    by_cases hlt : k < h.cs.length
    · have hlt' : (k : Int) < h.cs.length := by omega
      obtain ⟨b, off, x, cl, hca, hx, hcl, hsz, h1c, hld⟩ := (HR.out.cs.below hbw).whole k hlt
      have q0 : cl.toArray[0]? = some (.int .i64 x.th) := by rw [hcl]; rfl
      have q8 : cl.toArray[8]? = some (.int .i64 x.fr) := by rw [hcl]; rfl
      have q9 : cl.toArray[9]? = some (.int .i64 x.to) := by rw [hcl]; rfl
      have q19 : cl.toArray[19]? = some (.int .i64 x.pt) := by rw [hcl]; rfl
      have hwf : x.wf := HR.out.cs.wf x (List.mem_of_getElem? hx)
      have hi20 : (Try.prog.info? 57).map (·.size) = some cl.length := by rw [hsz]; kernel_rfl
      have QQ := Lib.hid (And.intro q0 (And.intro q8 (And.intro q9 q19)))
      have HX := Lib.hid hx; have HLT := Lib.hid hlt; have H1C := Lib.hid h1c; have HLD := Lib.hid hld; have HI20 := Lib.hid hi20; have HSZ := Lib.hid hsz
      have HWF := Lib.hid (And.intro hwf.th hwf.to)
      have hsn := cwok_snoc P.out.1 x.cw
      obtain ⟨ok, hok⟩ : ∃ ok : Bool, ok = decide (0 ≤ x.th ∧ x.th ≤ 63 ∧ lastTo (cws (h.cs.take k)) x.th ≤ x.fr ∧ x.fr < x.pt ∧ x.pt ≤ x.to) := ⟨_, rfl⟩
      have hok2 : ok = true ↔ CwOk (cws (h.cs.take k) ++ [x.cw]) := by rw [hsn, hok, decide_eq_true_eq]; exact Iff.rfl
      have HOK := Lib.hid hok; have HOK2 := Lib.hid hok2
      rw [hca]
      have HCA := Lib.hid hca
      clear hx hbw hlt hk q0 q8 q9 q19 h1c hld hcl hsz hi20 hwf hsn hok hok2
      go_upto_region 5 with (first
        | (refine wpList_load_mid rfl 57 (.tmp 16) rfl b (off + k * 20) rfl cl _ HLD.out Try.underlying57 rfl HI20.out ?_)
        | (refine wpList_store_new rfl 57 (.tmp 5) (.tmp 17) rfl wr _ cl.toArray rfl rfl HI20.out (by simp [HSZ.out]) H1C.out ?_))
      go_frame
      have hb5 := hballoc wr (.cells cl.toArray 57)
      have hz5 := heap_alloc_new wr (.cells cl.toArray 57)
      generalize wr.alloc (.cells cl.toArray 57) = w5 at *
      have cth := (hblk hz5 0).trans QQ.out.1
      have cfr := (hblk hz5 8).trans QQ.out.2.1
      have cto := (hblk hz5 9).trans QQ.out.2.2.1
      have cpt := (hblk hz5 19).trans QQ.out.2.2.2
      have HM5 := Lib.hid (P.out.2.below hb5)
      have HB5 := Lib.hid (HBW.out.trans (hb5.mono HBW.out.size))
      obtain ⟨L, hL⟩ : ∃ L, L = lastTo (cws (h.cs.take k)) x.th := ⟨_, rfl⟩
      have hlk := look_j (t := 104) HM5.out Try.underlying3 Try.underlying3 (by kernel_rfl) Try.underlying104 HWF.out.1 hL.symm
      have HOK3 : Hid (ok = decide (0 ≤ x.th ∧ x.th ≤ 63 ∧ L ≤ x.fr ∧ x.fr < x.pt ∧ x.pt ≤ x.to)) := by rw [hL]; exact HOK.out
      clear hb5 hz5 hL
      go_cut [48] (fun v48 wx => v48 = .bool (!ok) ∧ wx = w5)
      case first =>
        by_cases t1 : x.th < 0
        · have T := Lib.hid t1
          go_wp2
          all_goals go_meet
          all_goals exact ⟨by rw [HOK3.out, decide_eq_false (by have := T.out; omega)]; rfl, rfl⟩
        · by_cases t2 : 64 ≤ x.th
          · have T := Lib.hid t2
            go_wp2
            all_goals go_meet
            all_goals exact ⟨by rw [HOK3.out, decide_eq_false (by have := T.out; omega)]; rfl, rfl⟩
          · by_cases t3 : x.fr < L
            · have T := Lib.hid t3
              go_wp2
              all_goals go_meet
              all_goals exact ⟨by rw [HOK3.out, decide_eq_false (by have := T.out; omega)]; rfl, rfl⟩
            · by_cases t4 : x.pt ≤ x.fr
              · have T := Lib.hid t4
                go_wp2
                all_goals go_meet
                all_goals exact ⟨by rw [HOK3.out, decide_eq_false (by have := T.out; omega)]; rfl, rfl⟩
              · by_cases t5 : x.to < x.pt
                · have T := Lib.hid t5
                  go_wp2
                  all_goals go_meet
                  all_goals exact ⟨by rw [HOK3.out, decide_eq_false (by have := T.out; omega)]; rfl, rfl⟩
                · have T : Hid (0 ≤ x.th ∧ x.th ≤ 63 ∧ L ≤ x.fr ∧ x.fr < x.pt ∧ x.pt ≤ x.to) := by show _ ∧ _; omega
                  go_wp2
                  all_goals go_meet
                  all_goals exact ⟨by rw [HOK3.out, decide_eq_true T.out]; rfl, rfl⟩
      case rest =>
        obtain ⟨rfl, rfl⟩ := hcut
        clear hlk
        cases ok
        · go_wp2
          go_ret
          have hno := no_wel HX.out (fun d => by have := HOK2.out.2 d; cases this) (HD.sts h.ds)
          exact ⟨false, rfl, HB.out.trans (HB5.out.mono HB.out.size), ⟨fun c => (by cases c), fun c => absurd c hno⟩⟩
        · have hkm : k < maxLen := by have h1 := HLT.out; have h2 := H1.out; unfold maxLen; omega
          have HKM := Lib.hid hkm
          clear hkm
          go_wp2_with (at_mapUpdate; refine wpList_putj rfl _ _ _ rfl HM5.out Try.underlying3 Try.underlying3 Try.underlying104 rfl HKM.out _ _ rfl rfl HWF.out.1 HWF.out.2 ?_; intro w9 hm9 hg9; have HM9 := Lib.hid hm9; have HB9 : Hid (Below w1.heap.size w1 w9) := HB5.out.trans ⟨hg9.os, hg9.tape, hg9.output, hg9.size, fun j hj => hg9.block j (Nat.lt_of_lt_of_le hj HB5.out.size) (fun c => by cases c; have := HME.out; omega)⟩; clear hm9 hg9)
          have Q : Hid (CwOk (cws (h.cs.take (k + 1))) ∧ MapJ w9 3 3 .i64 m1 (k + 1) (lastTo (cws (h.cs.take (k + 1))))) := by
            show _ ∧ _
            rw [cws_take _ _ _ HX.out]
            refine ⟨HOK2.out.1 rfl, ?_⟩
            have e : lastTo (cws (h.cs.take k) ++ [x.cw]) = upd (lastTo (cws (h.cs.take k))) x.th x.to := by
              funext t
              rw [lastTo_snoc]
              unfold upd
              show (if x.th = t then x.to else _) = if t = x.th then x.to else _
              by_cases ht : x.th = t
              · rw [if_pos ht, if_pos ht.symm]
              · rw [if_neg ht, if_neg (fun c => ht c.symm)]
            rw [e]; exact HM9.out
          go_roundw
          case rel => exact ⟨k + 1, HLT.out, by go_num, Q, HB9.out⟩
          case measure => have := HLT.out; simp [intOf]; omega
    · obtain rfl : k = h.cs.length := by omega
      rw [List.take_length] at P
      have HOK := Lib.hid P.out.1
      clear P hbw hk hlt
      go_upto_region 10 with (fail)
      change Code.wp _ _ _ _ (wr.alloc (.map #[] 0))
      have hm1 := MapJ.made wr 3 3 .i64
      have hb2 := HBW.out.trans ((hballoc wr (.map #[] 0)).mono HBW.out.size)
      generalize wr.alloc (.map #[] 0) = w3 at *
      obtain ⟨m2, hm2e⟩ : ∃ m2, m2 = wr.heap.size := ⟨_, rfl⟩
      rw [← hm2e] at hm1 ⊢
      have HM2 := Lib.hid hm1; have HB3 := Lib.hid hb2
      have HM2E : Hid (w1.heap.size ≤ m2) := by show _ ≤ _; rw [hm2e]; exact HBW.out.size
      have hz3 := (hb2.block _ (Array.getElem?_eq_some_iff.1 HZ.out).1).trans HZ.out
      have c0 : w3.cell? ⟨w.heap.size, 0, none⟩ = some (.slice h.ca h.cs.length h.cc) := hblk hz3 0
      have c1 : w3.cell? ⟨w.heap.size, 1, none⟩ = some (.slice h.da h.ds.length h.dc) := hblk hz3 1
      have hord := order_any h w3 (HR.out.below hb2) H1.out H2.out
      clear hm1 hb2 hm2e hz3
      go_upto_region 11 with (go_at_call 10; refine hord.mono ?_; rintro e w4 ⟨v, O, rfl, he, ho, hb4⟩; obtain ⟨oa, rfl, hol⟩ := he.sl; have HE := Lib.hid he; have HO := Lib.hid ho; have HM4 := Lib.hid (HM2.out.below hb4); have HB4 := Lib.hid (HB3.out.trans (hb4.mono HB3.out.size)); have HMLT := Lib.hid (Nat.lt_of_lt_of_le HM2.out.lt hb4.size); clear he ho hb4 hord c0 c1)
      have hol2 : (O.length : Int) ≤ 180 := by have h1 := HO.out.len; have h2 := H1.out; have h3 := H2.out; simp only [HC.pts, HD.sts, List.length_map] at h1; omega
      clear hol
      have HMB := Lib.hid HM2.out.lt
      clear HM2
      go_wp2_with fail
      go_loopw [7, 8, 9, 59] (fun _ _ _ i wr => ∃ (k : Nat) (f : Int → Int), k ≤ O.length ∧ i = .int .i64 k ∧ Hid (((O.take k).map En.st).Nodup ∧ MapJ wr 3 3 .i64 m2 k f ∧ ∀ s, 0 < f s ↔ s ∈ (O.take k).map En.st) ∧ Keeps (· = m2) w4 wr) (fun _ _ _ i _ => O.length - (intOf i).toNat)
      case atStart => exact ⟨0, _, by omega, rfl, ⟨by simp, HM4.out, fun s => by simp⟩, below_keeps (Below.refl _ _) _⟩
      case round =>
        clear HM4
        obtain ⟨k, f, hk, rfl, P, hkp⟩ := hrel
        have HKP := Lib.hid hkp
        have hbase := keeps_below hkp HB4.out HB4.out.size (fun j hj => by have := HM2E.out; omega)
        have HBB := Lib.hid (HB.out.trans (hbase.mono HB.out.size))
        by_cases hlt : k < O.length
        · have hlt' : (k : Int) < O.length := by omega
          obtain ⟨g, x, rfl, hx, e0, e1, e2⟩ := (HE.out.keep hkp HMB.out).at k hlt
          have HX := Lib.hid hx; have HLT := Lib.hid hlt
          have hwf : (Lit.int .i64 x.st).wf = true := by
            have hm : x ∈ O := List.mem_of_getElem? hx
            rcases HO.out.mem hm with ⟨j, hj, rfl⟩ | ⟨j, hj, rfl⟩
            · have hj2 : j < h.cs.length := by simpa [HC.pts] using hj
              have := HR.out.cs.wf _ (List.getElem_mem hj2)
              simpa [HC.pts] using this.pt
            · have hj2 : j < h.ds.length := by simpa [HD.sts] using hj
              have := HR.out.ds.wf _ (List.getElem_mem hj2)
              simpa [HD.sts] using this.st
          have HWF := Lib.hid hwf
          clear hx hlt hk hwf hbase hkp
          go_upto_region 13 with (fail)
          have hb5 := hballoc wr (.cells #[.int .i64 x.st, .int .i64 x.ca, .int .i64 x.dr] 42)
          have hz5 := heap_alloc_new wr (.cells #[.int .i64 x.st, .int .i64 x.ca, .int .i64 x.dr] 42)
          clear e0 e1 e2
          generalize wr.alloc (.cells #[.int .i64 x.st, .int .i64 x.ca, .int .i64 x.dr] 42) = w5 at *
          have cst : w5.cell? ⟨wr.heap.size, 0, none⟩ = some (.int .i64 x.st) := hblk hz5 0
          have HM5 := Lib.hid (P.out.2.1.below hb5)
          have HK5 := Lib.hid (HKP.out.again (below_keeps hb5 (· = m2)))
          have HB5 := Lib.hid (HBB.out.trans (hb5.mono HBB.out.size))
          obtain ⟨y, hy⟩ : ∃ y, y = f x.st := ⟨_, rfl⟩
          have hlk := look_j (t := 104) HM5.out Try.underlying3 Try.underlying3 (by kernel_rfl) Try.underlying104 HWF.out hy.symm
          have HY := Lib.hid hy
          clear hb5 hz5 hy
          by_cases hpos : 0 < y
          · have HPOS := Lib.hid hpos
            go_wp2
            go_ret
            have hin := (P.out.2.2 x.st).1 (by rw [← HY.out]; exact HPOS.out)
            exact ⟨false, rfl, HB5.out, ⟨fun c => (by cases c), fun c => by
              have hnd := ((wel_iff h HO.out).1 c).2
              have h3 : ((O.take (k + 1)).map En.st).Nodup := (hnd.sublist ((List.take_sublist _ _).map _))
              rw [List.take_add_one, HX.out] at h3
              simp only [Option.toList, List.map_append, List.map_cons, List.map_nil] at h3
              rw [List.nodup_append] at h3
              exact absurd rfl (h3.2.2 _ hin _ (by simp))⟩⟩
          · have HPOS := Lib.hid hpos
            have hkm : k < maxLen := by have h1 := HLT.out; unfold maxLen; omega
            have HKM := Lib.hid hkm
            have hvw : (Lit.int .i64 ((k : Int) + 1)).wf = true := by have h1 := HLT.out; simp [Lit.wf, IntKind.min, IntKind.max, IntKind.bits, IntKind.signed]; omega
            have HVW := Lib.hid hvw
            have hk180 : (k : Int) ≤ 180 := by have := HLT.out; omega
            clear hkm hvw
            go_wp2_with (at_mapUpdate; refine wpList_putj rfl _ _ _ rfl HM5.out Try.underlying3 Try.underlying3 Try.underlying104 rfl HKM.out _ _ rfl rfl HWF.out HVW.out ?_; intro w9 hm9 hg9; have HM9 := Lib.hid hm9; have HK9 : Hid (Keeps (· = m2) w4 w9) := HK5.out.again ⟨hg9.os, hg9.tape, hg9.output, hg9.size, fun j hj hne => hg9.block j hj (fun c => by cases c; exact hne rfl)⟩; clear hm9 hg9)
            have hni : x.st ∉ (O.take k).map En.st := fun c => by have := (P.out.2.2 x.st).2 c; rw [← HY.out] at this; exact HPOS.out this
            have Q : Hid (((O.take (k + 1)).map En.st).Nodup ∧ MapJ w9 3 3 .i64 m2 (k + 1) (upd f x.st ((k : Int) + 1)) ∧ ∀ s, 0 < upd f x.st ((k : Int) + 1) s ↔ s ∈ (O.take (k + 1)).map En.st) := by
              have e : (O.take (k + 1)).map En.st = (O.take k).map En.st ++ [x.st] := by rw [List.take_add_one, HX.out]; simp
              refine ⟨?_, HM9.out, fun s => ?_⟩
              · rw [e, List.nodup_append]
                exact ⟨P.out.1, by simp, fun a ha b hb c => by simp at hb; subst hb; subst c; exact hni ha⟩
              · rw [e]
                unfold upd
                by_cases hs : s = x.st
                · rw [if_pos hs]; simp [hs]; try omega
                · rw [if_neg hs, P.out.2.2 s]; simp [hs]
            go_roundw
            case rel => exact ⟨k + 1, _, HLT.out, by go_num, Q, HK9.out⟩
            case measure => have := HLT.out; simp [intOf]; omega
        · obtain rfl : k = O.length := by omega
          rw [List.take_length] at P
          have HND := Lib.hid P.out.1
          clear P hbase hkp hk hlt
          go_wp2
          go_ret
          exact ⟨true, rfl, HBB.out, ⟨fun _ => (wel_iff h HO.out).2 ⟨HOK.out, HND.out⟩, fun _ => rfl⟩⟩
end Go.Proofs.Ytmagpbbjjkmbpaa
