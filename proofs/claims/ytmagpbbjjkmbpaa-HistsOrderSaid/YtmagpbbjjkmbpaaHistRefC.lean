/-
  The document's calls of a thread (nestboxref34.Of).
-/
import Derived.Test.YtmagpbbjjkmbpaaHistRefO
namespace Go.Proofs.Ytmagpbbjjkmbpaa
open Go.RowKit Go.Maps Go.Sort
set_option linter.unusedVariables false

theorem info_rcalled : (Try.prog.info? 55).map (fun i => (i.zero, i.size, i.bytes)) = some (some (.agg #[.int .i64 0, .int .u8 0, .string ⟨#[]⟩, .string ⟨#[]⟩, .int .u32 0, .int .i64 0, .int .u64 0, .int .u64 0, .int .i64 0, .int .i64 0, .int .u8 0, .int .u64 0, .string ⟨#[]⟩, .string ⟨#[]⟩, .int .u32 0, .int .u64 0, .int .i64 0, .int .i64 0, .int .u64 0, .int .i64 0]), 20, 192) := by kernel_rfl
def zeroC : List Value := [.int .i64 0, .int .u8 0, .string ⟨#[]⟩, .string ⟨#[]⟩, .int .u32 0, .int .i64 0, .int .u64 0, .int .u64 0, .int .i64 0, .int .i64 0, .int .u8 0, .int .u64 0, .string ⟨#[]⟩, .string ⟨#[]⟩, .int .u32 0, .int .u64 0, .int .i64 0, .int .i64 0, .int .u64 0, .int .i64 0]
/-- A row of the document's calls that the call made. -/
def RCRow (w : World) (base : Nat) (v : Value) (l : List HC) : Prop := w.ownsRow base 55 20 v l.length (flatC l)
def ROfPost (h : Hst) (t : Int) (w : World) (e : Ending) (w' : World) : Prop := ∃ v, e = .returned v ∧ RCRow w' w.heap.size v (ofL h.cs t) ∧ Below w.heap.size w w'
set_option maxRecDepth 100000 in
set_option maxHeartbeats 4000000 in
theorem rof_any (h : Hst) (t : Int) (w : World) (hr : HstRd w h) (h1 : h.cs.length ≤ 120) :
    Calls Try.prog 13 #[.agg #[.slice h.ca h.cs.length h.cc, .slice h.da h.ds.length h.dc], .int .i64 t] w (ROfPost h t w) := by
  obtain ⟨i0, hi0, hz0, hz1, hz2⟩ := info_parts3 info_rcalled
  have HI := Lib.hid hi0; have HZ0 := Lib.hid hz0; have HZ1 := Lib.hid hz1; have HZ2 := Lib.hid hz2
  have hB := hballoc w (.cells h.cells 32)
  have z := heap_alloc_new w (.cells h.cells 32)
  have HR := Lib.hid (hr.below hB); have HB := Lib.hid hB; have HZ := Lib.hid z
  have HS := Lib.hid (show w.heap.size < (w.alloc (.cells h.cells 32)).heap.size by simp)
  clear hi0 hz0 hz1 hz2 hr hB z
  go_enter Try.func13, Try.ntmps13
  go_upto_region 1 with (fail)
  change Code.wp _ _ _ _ (w.alloc (.cells h.cells 32))
  obtain ⟨w1, hw1⟩ : ∃ w1, w1 = w.alloc (.cells h.cells 32) := ⟨_, rfl⟩
  rw [← hw1] at HR HB HZ HS ⊢
  clear hw1
  have hc0 : (h.cs.length : Int) ≤ 120 := by omega
  have H1 := Lib.hid h1
  clear h1
  go_wp2_with fail
  go_loopw [5, 6] (fun v5 i wr => ∃ k : Nat, k ≤ h.cs.length ∧ i = .int .i64 k ∧ Hid (RCRow wr w1.heap.size v5 (ofL (h.cs.take k) t)) ∧ Hid (Below w1.heap.size w1 wr)) (fun _ i _ => h.cs.length - (intOf i).toNat)
  case atStart => exact ⟨0, by omega, rfl, Lib.hid (World.ownsRow_nil _ _ _ _), Lib.hid (Below.refl _ _)⟩
  case round =>
    obtain ⟨k, hk, rfl, HO, HBW⟩ := hrel
    have c0 : wr.cell? ⟨w.heap.size, 0, none⟩ = some (.slice h.ca h.cs.length h.cc) := hblk ((HBW.out.block _ (Array.getElem?_eq_some_iff.1 HZ.out).1).trans HZ.out) 0
    have HS1 := Lib.hid HBW.out.size
    by_cases hlt : k < h.cs.length
    · have hlt' : (k : Int) < h.cs.length := by omega
      obtain ⟨b, off, x, cl, hca, hx, hcl, hsz, h1c, hld⟩ := (HR.out.cs.below HBW.out).whole k hlt
      have q0 : wr.cell? ⟨b, off + k * 20, none⟩ = some (.int .i64 x.th) := by
        have := hld 0 (.int .i64 x.th) (by rw [hcl]; rfl)
        simpa using this
      have hi20 : (Try.prog.info? 55).map (·.size) = some cl.length := by rw [hsz]; kernel_rfl
      have hle := ofL_le h.cs t k hk
      have HX := Lib.hid hx; have HLT := Lib.hid hlt; have H1C := Lib.hid h1c; have HLD := Lib.hid hld; have HI20 := Lib.hid hi20; have HSZ := Lib.hid hsz; have HCL := Lib.hid hcl; have HLE := Lib.hid hle
      rw [hca] at c0
      clear hca hx hlt hk h1c hld hcl hsz hi20 hle
      by_cases ht : x.th = t
      · have hte : (x.th == t) = true := beq_iff_eq.2 ht
        have HT := Lib.hid ht
        clear ht
        have hfold := fold_all cl #[.int .i64 0, .int .u8 0, .string ⟨#[]⟩, .string ⟨#[]⟩, .int .u32 0, .int .i64 0, .int .u64 0, .int .u64 0, .int .i64 0, .int .i64 0, .int .u8 0, .int .u64 0, .string ⟨#[]⟩, .string ⟨#[]⟩, .int .u32 0, .int .u64 0, .int .i64 0, .int .i64 0, .int .u64 0, .int .i64 0] (by rw [HSZ.out]; rfl)
        have hle1 := HLE.out
        have hsz2 := HSZ.out
        have hc20 := H1.out
        have hlt2 := HLT.out
        go_wp2_with (first
          | (refine wpList_load_mid rfl 55 (.tmp 26) rfl b (off + k * 20) rfl cl _ HLD.out Try.underlying55 rfl HI20.out ?_)
          | (at_builtin; refine wpList_append_own _ rfl _ _ 29 rfl w1.heap.size 55 i0 (.agg #[.int .i64 0, .int .u8 0, .string ⟨#[]⟩, .string ⟨#[]⟩, .int .u32 0, .int .i64 0, .int .u64 0, .int .u64 0, .int .i64 0, .int .i64 0, .int .u8 0, .int .u64 0, .string ⟨#[]⟩, .string ⟨#[]⟩, .int .u32 0, .int .u64 0, .int .i64 0, .int .i64 0, .int .u64 0, .int .i64 0]) 20 192 Try.underlying29 HI.out HZ0.out HZ1.out HZ2.out rfl (by decide) _ _ _ rfl (HO.out.alloc _) ⟨_, 0, none⟩ 1 1 cl rfl (by rw [HSZ.out]) (by have h1 := World.news_of_block (fr := (0, 0)) (t := 55) (cs := cl.toArray) (heap_alloc_new wr _); simpa using h1) ?c2 ?c3 ?c4 ?c5 ?_))
        case c2 => exact fun u hu => (Array.all_eq_true_iff_forall_mem.1 H1C.out) u (by simpa using hu)
        case c3 => unfold maxLen; omega
        case c4 => omega
        case c5 => have h1 := HS1.out; first | omega | (simp; omega)
        intro v' w6 hown hgrow _
        have hs5 := HS1.out
        have hb6 : Below w1.heap.size w1 w6 := (HBW.out.alloc hs5 (.cells cl.toArray 55)).grown hgrow (by simp; omega) (fun j hj => (HO.out.lt j hj).1)
        have Q : Hid (RCRow w6 w1.heap.size v' (ofL (h.cs.take (k + 1)) t)) := by
          show World.ownsRow _ _ _ _ _ _ _
          rw [ofL_take _ _ _ _ HX.out, if_pos HT.out, flatC_snoc, List.length_append, ← HCL.out]; exact hown
        have HB6 := Lib.hid hb6
        clear hown hgrow hb6 hfold hle1 hsz2 hc20 hlt2 c0 q0
        go_wp2_with fail
        go_roundw
        case rel => exact ⟨k + 1, HLT.out, by go_num, Q, HB6⟩
        case measure => have := HLT.out; simp [intOf]; omega
      · have hte : (x.th == t) = false := beq_eq_false_iff_ne.2 ht
        have HT := Lib.hid ht
        clear ht
        have Q : Hid (RCRow wr w1.heap.size u5 (ofL (h.cs.take (k + 1)) t)) := by
          rw [ofL_take _ _ _ _ HX.out, if_neg HT.out]; exact HO
        go_wp2_with fail
        go_roundw
        case rel => exact ⟨k + 1, HLT.out, by go_num, Q, HBW⟩
        case measure => have := HLT.out; simp [intOf]; omega
    · obtain rfl : k = h.cs.length := by omega
      rw [List.take_length] at HO
      clear hk hlt
      go_wp2_with fail
      go_ret
      exact ⟨_, rfl, own_low HO.out HB.out.size, HB.out.trans (HBW.out.mono HB.out.size)⟩
end Go.Proofs.Ytmagpbbjjkmbpaa
