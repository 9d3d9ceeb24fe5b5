/-
  hists.Of: a thread's calls.
-/
import Derived.Test.YtmagpbbjjkmbpaaHistDo
namespace Go.Proofs.Ytmagpbbjjkmbpaa
open Go.RowKit Go.Maps Go.Sort
set_option linter.unusedVariables false

theorem info_called : (Try.prog.info? 57).map (fun i => (i.zero, i.size, i.bytes)) = some (some (.agg #[.int .i64 0, .int .u8 0, .string ⟨#[]⟩, .string ⟨#[]⟩, .int .u32 0, .int .i64 0, .int .u64 0, .int .u64 0, .int .i64 0, .int .i64 0, .int .u8 0, .int .u64 0, .string ⟨#[]⟩, .string ⟨#[]⟩, .int .u32 0, .int .u64 0, .int .i64 0, .int .i64 0, .int .u64 0, .int .i64 0]), 20, 192) := by kernel_rfl
theorem fold_set (cl : List Value) : ∀ (n : Nat) (zs : Array Value), zs.size = n + cl.length → List.foldl (fun (cs : Array Value) (x : Value × Nat) => cs.setIfInBounds x.snd x.fst) zs (cl.zipIdx n) = (zs.toList.take n ++ cl).toArray := by
  induction cl with
  | nil =>
    intro n zs h
    simp only [List.zipIdx_nil, List.foldl_nil, List.append_nil]
    rw [List.take_of_length_le (by simp at h ⊢; omega)]
  | cons c cl ih =>
    intro n zs h
    rw [List.zipIdx_cons, List.foldl_cons, ih (n + 1) _ (by simp at h ⊢; omega)]
    congr 1
    apply List.ext_getElem?
    intro i
    have hn : n < zs.size := by simp at h; omega
    by_cases hi : i < n
    · rw [List.getElem?_append_left (by simp; omega), List.getElem?_append_left (by simp; omega), List.getElem?_take, List.getElem?_take, if_pos (by omega), if_pos hi]
      simp only [Array.getElem?_toList]
      rw [Array.getElem?_setIfInBounds, if_neg (by omega)]
    · by_cases hi2 : i = n
      · subst hi2
        rw [List.getElem?_append_left (by simp; omega), List.getElem?_take, if_pos (by omega), List.getElem?_append_right (by simp; omega)]
        simp [hn, Nat.min_eq_left (Nat.le_of_lt hn)]
      · rw [List.getElem?_append_right (by simp; omega), List.getElem?_append_right (by simp; omega)]
        have e1 : (List.take (n + 1) (zs.setIfInBounds n c).toList).length = n + 1 := by simp; omega
        have e2 : (List.take n zs.toList).length = n := by simp; omega
        simp only [e1, e2]
        rw [show i - n = (i - (n + 1)) + 1 by omega, List.getElem?_cons_succ]
theorem fold_all (cl : List Value) (zs : Array Value) (h : zs.size = cl.length) : List.foldl (fun (cs : Array Value) (x : Value × Nat) => cs.setIfInBounds x.snd x.fst) zs cl.zipIdx = cl.toArray := by
  have := fold_set cl 0 zs (by omega)
  simpa using this
def flatC (l : List HC) : List Value := l.flatMap HC.cells
theorem flatC_snoc (l : List HC) (x : HC) : flatC (l ++ [x]) = flatC l ++ x.cells := by simp [flatC]
/-- A row of calls that a call made. -/
def CRow (w : World) (base : Nat) (v : Value) (l : List HC) : Prop := w.ownsRow base 57 20 v l.length (flatC l)
def ofL (l : List HC) (t : Int) : List HC := l.filter fun x => decide (x.th = t)
theorem ofL_take (l : List HC) (t : Int) (k : Nat) (x : HC) (h : l[k]? = some x) : ofL (l.take (k + 1)) t = if x.th = t then ofL (l.take k) t ++ [x] else ofL (l.take k) t := by
  unfold ofL
  rw [List.take_add_one, h]
  simp only [Option.toList, List.filter_append]
  by_cases hh : x.th = t
  · simp [hh]
  · simp [hh]
theorem ofL_le (l : List HC) (t : Int) (k : Nat) (hk : k ≤ l.length) : (ofL (l.take k) t).length ≤ k := by
  have := List.length_filter_le (fun x : HC => decide (x.th = t)) (l.take k)
  unfold ofL; simp at this ⊢; omega
theorem own_low {w : World} {b base e size n : Nat} {v : Value} {xs : List Value} (h : w.ownsRow b e size v n xs) (hb : base ≤ b) : w.ownsRow base e size v n xs := by
  obtain ⟨h1, h2 | ⟨g, cap, cur, rfl, hgb, r⟩⟩ := h
  · exact ⟨h1, .inl h2⟩
  · exact ⟨h1, .inr ⟨g, cap, cur, rfl, Nat.le_trans hb hgb, r⟩⟩
theorem cclip_any {w : World} {base n : Nat} {a : Option Addr} {cap : Nat} {xs : List Value} (h : w.ownsRow base 57 20 (.slice a n cap) n xs) : Calls Try.prog 35 #[.slice a n cap] w fun e w' => e = .returned (.slice a n n) ∧ w' = w := by
  obtain ⟨h1, ⟨e, rfl⟩ | ⟨g, cap', cur, e, hb, hg, hn, hm, hs, ht⟩⟩ := h
  · cases e
    clear h1
    go_enter Try.func35, Try.ntmps35
    go_wp2
    go_ret
    exact ⟨rfl, rfl⟩
  · cases e
    unfold maxLen at hm
    clear h1 hb hg hs ht
    go_enter Try.func35, Try.ntmps35
    go_wp2
    go_ret
    exact ⟨rfl, rfl⟩
set_option maxRecDepth 100000 in
set_option maxHeartbeats 4000000 in
theorem of34_any (h : Hst) (t : Int) (w : World) (hr : HstRd w h) (h1 : h.cs.length ≤ 120) :
    Calls Try.prog 12 #[.agg #[.slice h.ca h.cs.length h.cc, .slice h.da h.ds.length h.dc], .int .i64 t] w fun e w' => ∃ g cap, e = .returned (.slice g (ofL h.cs t).length (ofL h.cs t).length) ∧ w'.ownsRow w.heap.size 57 20 (.slice g (ofL h.cs t).length cap) (ofL h.cs t).length (flatC (ofL h.cs t)) ∧ Below w.heap.size w w' := by
  obtain ⟨i0, hi0, hz0, hz1, hz2⟩ := info_parts3 info_called
  have HI := Lib.hid hi0; have HZ0 := Lib.hid hz0; have HZ1 := Lib.hid hz1; have HZ2 := Lib.hid hz2
  have hB := hballoc w (.cells h.cells 25)
  have z := heap_alloc_new w (.cells h.cells 25)
  have HR := Lib.hid (hr.below hB); have HB := Lib.hid hB; have HZ := Lib.hid z
  clear hi0 hz0 hz1 hz2 hr hB z
  go_enter Try.func12, Try.ntmps12
  go_upto_region 1 with (fail)
  change Code.wp _ _ _ _ (w.alloc (.cells h.cells 25))
  obtain ⟨w1, hw1⟩ : ∃ w1, w1 = w.alloc (.cells h.cells 25) := ⟨_, rfl⟩
  rw [← hw1] at HR HB HZ ⊢
  clear hw1
  have c0 : w1.cell? ⟨w.heap.size, 0, none⟩ = some (.slice h.ca h.cs.length h.cc) := hblk HZ.out 0
  have hc0 : (h.cs.length : Int) ≤ 120 := by omega
  have H1 := Lib.hid h1
  clear h1
  go_wp2_with fail
  clear c0
  go_loopw [5, 7, 11] (fun v5 _ i wr => ∃ k : Nat, k ≤ h.cs.length ∧ i = .int .i64 k ∧ Hid (wr.ownsRow w1.heap.size 57 20 v5 (ofL (h.cs.take k) t).length (flatC (ofL (h.cs.take k) t))) ∧ Below w1.heap.size w1 wr) (fun _ _ i _ => h.cs.length - (intOf i).toNat)
  case atStart => exact ⟨0, by omega, rfl, World.ownsRow_nil _ _ _ _, Below.refl _ _⟩
  case round =>
    obtain ⟨k, hk, rfl, HO, hbw⟩ := hrel
    have HBW := Lib.hid hbw
    by_cases hlt : k < h.cs.length
    · have hlt' : (k : Int) < h.cs.length := by omega
      obtain ⟨b, off, x, cl, hca, hx, hcl, hsz, h1c, hld⟩ := (HR.out.cs.below hbw).whole k hlt
      have q0 : cl.toArray[0]? = some (.int .i64 x.th) := by rw [hcl]; rfl
      have hi20 : (Try.prog.info? 57).map (·.size) = some cl.length := by rw [hsz]; kernel_rfl
      have hle := ofL_le h.cs t k hk
      have HX := Lib.hid hx; have HLT := Lib.hid hlt; have Q0 := Lib.hid q0; have H1C := Lib.hid h1c; have HLD := Lib.hid hld; have HI20 := Lib.hid hi20; have HSZ := Lib.hid hsz; have HCL := Lib.hid hcl; have HLE := Lib.hid hle
      rw [hca]
      have HCA := Lib.hid hca
      clear hx hbw hlt hk q0 h1c hld hcl hsz hi20 hle
      go_upto_region 5 with (first
        | (refine wpList_load_mid rfl 57 (.tmp 13) rfl b (off + k * 20) rfl cl _ HLD.out Try.underlying57 rfl HI20.out ?_)
        | (refine wpList_store_new rfl 57 (.tmp 7) (.tmp 14) rfl wr _ cl.toArray rfl rfl HI20.out (by simp [HSZ.out]) H1C.out ?_))
      go_frame
      have hb5 := hballoc wr (.cells cl.toArray 57)
      have hz5 := heap_alloc_new wr (.cells cl.toArray 57)
      have HO5 := Lib.hid (HO.out.alloc (.cells cl.toArray 57))
      generalize hp5 : wr.heap.size = p5 at hz5 ⊢
      generalize wr.alloc (.cells cl.toArray 57) = w5 at *
      have c5 : w5.cell? ⟨p5, 0, none⟩ = some (.int .i64 x.th) := (hblk hz5 0).trans Q0.out
      have HB5 := Lib.hid (HBW.out.trans (hb5.mono HBW.out.size))
      have HZ5 := Lib.hid hz5
      clear hb5 hz5 hp5
      by_cases ht : x.th = t
      · have hte : (x.th == t) = true := beq_iff_eq.2 ht
        have HT := Lib.hid ht
        clear ht
        have hrg : w5.rangeAt p5 0 cl := fun j v hv => by rw [hblk HZ5.out]; simpa using hv
        have HRG := Lib.hid hrg
        clear hrg
        go_upto_region 6 with (fail)
        clear c5
        have hfold := fold_all cl #[.int .i64 0, .int .u8 0, .string ⟨#[]⟩, .string ⟨#[]⟩, .int .u32 0, .int .i64 0, .int .u64 0, .int .u64 0, .int .i64 0, .int .i64 0, .int .u8 0, .int .u64 0, .string ⟨#[]⟩, .string ⟨#[]⟩, .int .u32 0, .int .u64 0, .int .i64 0, .int .i64 0, .int .u64 0, .int .i64 0] (by rw [HSZ.out]; rfl)
        have hle1 := HLE.out
        have hsz2 := HSZ.out
        go_wp2_with (first
          | (refine wpList_load_mid rfl 57 (.tmp 7) rfl p5 0 rfl cl _ HRG.out Try.underlying57 rfl HI20.out ?_)
          | (at_builtin; refine wpList_append_own _ rfl _ _ 22 rfl w1.heap.size 57 i0 (.agg #[.int .i64 0, .int .u8 0, .string ⟨#[]⟩, .string ⟨#[]⟩, .int .u32 0, .int .i64 0, .int .u64 0, .int .u64 0, .int .i64 0, .int .i64 0, .int .u8 0, .int .u64 0, .string ⟨#[]⟩, .string ⟨#[]⟩, .int .u32 0, .int .u64 0, .int .i64 0, .int .i64 0, .int .u64 0, .int .i64 0]) 20 192 Try.underlying22 HI.out HZ0.out HZ1.out HZ2.out rfl (by decide) _ _ _ rfl (HO5.out.alloc _) ⟨_, 0, none⟩ 1 1 cl rfl (by rw [HSZ.out]) (by have h1 := World.news_of_block (fr := (0, 0)) (t := 57) (cs := cl.toArray) (heap_alloc_new w5 _); simpa using h1) ?c2 ?c3 ?c4 ?c5 ?_))
        case c2 => exact fun u hu => (Array.all_eq_true_iff_forall_mem.1 H1C.out) u (by simpa using hu)
        case c3 => unfold maxLen; omega
        case c4 => omega
        case c5 => have h1 := HB5.out.size; first | omega | (simp; omega)
        intro v' w6 hown hgrow _
        have hs5 := HB5.out.size
        have hb6 : Below w1.heap.size w1 w6 := (HB5.out.alloc hs5 (.cells cl.toArray 57)).grown hgrow (by simp; omega) (fun j hj => (HO5.out.lt j hj).1)
        have Q : Hid (w6.ownsRow w1.heap.size 57 20 v' (ofL (h.cs.take (k + 1)) t).length (flatC (ofL (h.cs.take (k + 1)) t))) := by
          rw [ofL_take _ _ _ _ HX.out, if_pos HT.out, flatC_snoc, List.length_append, ← HCL.out]; exact hown
        have HB6 := Lib.hid hb6
        clear hown hgrow hb6 hfold hle1 hsz2
        go_wp2_with fail
        go_roundw
        case rel => exact ⟨k + 1, HLT.out, by go_num, Q.out, HB6.out⟩
        case measure => have := HLT.out; simp [intOf]; omega
      · have hte : (x.th == t) = false := beq_eq_false_iff_ne.2 ht
        have HT := Lib.hid ht
        clear ht
        have Q : Hid (w5.ownsRow w1.heap.size 57 20 u5 (ofL (h.cs.take (k + 1)) t).length (flatC (ofL (h.cs.take (k + 1)) t))) := by
          rw [ofL_take _ _ _ _ HX.out, if_neg HT.out]; exact HO5.out
        go_wp2_with fail
        go_roundw
        case rel => exact ⟨k + 1, HLT.out, by go_num, Q.out, HB5.out⟩
        case measure => have := HLT.out; simp [intOf]; omega
    · obtain rfl : k = h.cs.length := by omega
      rw [List.take_length] at HO
      obtain ⟨g, cap, hv⟩ : ∃ g cap, u5 = .slice g (ofL h.cs t).length cap := by
        obtain ⟨-, ⟨e, e2⟩ | ⟨g, cap, cur, e, -⟩⟩ := HO.out
        · exact ⟨none, 0, by rw [e, e2]⟩
        · exact ⟨_, _, e⟩
      subst hv
      have hcl := Lib.hid (cclip_any HO.out)
      clear hbw hk hlt
      go_wp2_with (go_at_call 35; refine hcl.out.mono ?_; intro e w8 hh; obtain ⟨hh1, hh2⟩ := hh; subst hh1; obtain rfl := hh2.symm)
      go_ret
      exact ⟨g, cap, rfl, own_low HO.out HB.out.size, HB.out.trans (HBW.out.mono HB.out.size)⟩
end Go.Proofs.Ytmagpbbjjkmbpaa
