/-
  A call as the document has it (nestboxlaw34.OtherCall).
-/
import Derived.Test.YtmagpbbjjkmbpaaHistRefC
namespace Go.Proofs.Ytmagpbbjjkmbpaa
open Go.RowKit Go.Maps Go.Sort
set_option linter.unusedVariables false

set_option maxRecDepth 100000 in
set_option maxHeartbeats 4000000 in
theorem othercall_any (x : HC) (w : World) :
    Calls Try.prog 16 #[.agg x.cells.toArray] w fun e w' => e = .returned (.agg x.cells.toArray) ∧ Below w.heap.size w w' := by
  have hB := hballoc w (.cells x.cells.toArray 57)
  have z := heap_alloc_new w (.cells x.cells.toArray 57)
  have HB := Lib.hid hB
  have HS := Lib.hid (show w.heap.size < (w.alloc (.cells x.cells.toArray 57)).heap.size by simp)
  have hcs : Hid (x.cells.toArray = #[.int .i64 x.th, .int .u8 x.vb, .string x.ky, .string x.vl, .int .u32 x.fl, .int .i64 x.ex, .int .u64 x.ui, .int .u64 x.bn, .int .i64 x.fr, .int .i64 x.to, .int .u8 x.ak, .int .u64 x.an, .string x.ik, .string x.iv, .int .u32 x.ifl, .int .u64 x.iid, .int .i64 x.idi, .int .i64 x.ige, .int .u64 x.ep, .int .i64 x.pt]) := rfl
  rw [hcs.out]
  rw [hcs.out] at HB HS z
  go_enter Try.func16, Try.ntmps16
  go_upto_region 1 with (fail)
  change Code.wp _ _ _ _ ((w.alloc (.cells #[.int .i64 x.th, .int .u8 x.vb, .string x.ky, .string x.vl, .int .u32 x.fl, .int .i64 x.ex, .int .u64 x.ui, .int .u64 x.bn, .int .i64 x.fr, .int .i64 x.to, .int .u8 x.ak, .int .u64 x.an, .string x.ik, .string x.iv, .int .u32 x.ifl, .int .u64 x.iid, .int .i64 x.idi, .int .i64 x.ige, .int .u64 x.ep, .int .i64 x.pt] 57)).alloc _)
  have HI20 : Hid ((Try.prog.info? 55).map (·.size) = some 20) := Lib.hid (by kernel_rfl)
  have HI7 : Hid ((Try.prog.info? 48).map (·.size) = some 7) := Lib.hid (by kernel_rfl)
  have HI8 : Hid ((Try.prog.info? 53).map (·.size) = some 8) := Lib.hid (by kernel_rfl)
  clear hB
  have HSZ1 : Hid (_ = _) := Lib.hid (show (w.alloc (.cells x.cells.toArray 57)).heap.size = w.heap.size + 1 by simp)
  rw [hcs.out] at HSZ1
  generalize hw1 : w.alloc (.cells #[.int .i64 x.th, .int .u8 x.vb, .string x.ky, .string x.vl, .int .u32 x.fl, .int .i64 x.ex, .int .u64 x.ui, .int .u64 x.bn, .int .i64 x.fr, .int .i64 x.to, .int .u8 x.ak, .int .u64 x.an, .string x.ik, .string x.iv, .int .u32 x.ifl, .int .u64 x.iid, .int .i64 x.idi, .int .i64 x.ige, .int .u64 x.ep, .int .i64 x.pt] 57) = w1 at *
  generalize hpb : w.heap.size = pb at *
  have z2 : (w1.alloc (.cells #[.int .i64 0, .int .u8 0, .string ⟨#[]⟩, .string ⟨#[]⟩, .int .u32 0, .int .i64 0, .int .u64 0, .int .u64 0, .int .i64 0, .int .i64 0, .int .u8 0, .int .u64 0, .string ⟨#[]⟩, .string ⟨#[]⟩, .int .u32 0, .int .u64 0, .int .i64 0, .int .i64 0, .int .u64 0, .int .i64 0] 55)).heap[pb]? = some (.cells #[.int .i64 x.th, .int .u8 x.vb, .string x.ky, .string x.vl, .int .u32 x.fl, .int .i64 x.ex, .int .u64 x.ui, .int .u64 x.bn, .int .i64 x.fr, .int .i64 x.to, .int .u8 x.ak, .int .u64 x.an, .string x.ik, .string x.iv, .int .u32 x.ifl, .int .u64 x.iid, .int .i64 x.idi, .int .i64 x.ige, .int .u64 x.ep, .int .i64 x.pt] 57 (0, 0)) := ((hballoc w1 _).block pb HS.out).trans z
  have c0 := hblk z2 0
  have c8 := hblk z2 8
  have c9 := hblk z2 9
  have c18 := hblk z2 18
  have c19 := hblk z2 19
  have rA : (w1.alloc (.cells #[.int .i64 0, .int .u8 0, .string ⟨#[]⟩, .string ⟨#[]⟩, .int .u32 0, .int .i64 0, .int .u64 0, .int .u64 0, .int .i64 0, .int .i64 0, .int .u8 0, .int .u64 0, .string ⟨#[]⟩, .string ⟨#[]⟩, .int .u32 0, .int .u64 0, .int .i64 0, .int .i64 0, .int .u64 0, .int .i64 0] 55)).rangeAt pb 1 [.int .u8 x.vb, .string x.ky, .string x.vl, .int .u32 x.fl, .int .i64 x.ex, .int .u64 x.ui, .int .u64 x.bn] := fun j v hv => by
    rw [hblk z2]
    have hj : j < 7 := (List.getElem?_eq_some_iff.1 hv).1
    match j, hj, hv with
    | 0, _, hv | 1, _, hv | 2, _, hv | 3, _, hv | 4, _, hv | 5, _, hv | 6, _, hv => exact hv
  have rB : (w1.alloc (.cells #[.int .i64 0, .int .u8 0, .string ⟨#[]⟩, .string ⟨#[]⟩, .int .u32 0, .int .i64 0, .int .u64 0, .int .u64 0, .int .i64 0, .int .i64 0, .int .u8 0, .int .u64 0, .string ⟨#[]⟩, .string ⟨#[]⟩, .int .u32 0, .int .u64 0, .int .i64 0, .int .i64 0, .int .u64 0, .int .i64 0] 55)).rangeAt pb 10 [.int .u8 x.ak, .int .u64 x.an, .string x.ik, .string x.iv, .int .u32 x.ifl, .int .u64 x.iid, .int .i64 x.idi, .int .i64 x.ige] := fun j v hv => by
    rw [hblk z2]
    have hj : j < 8 := (List.getElem?_eq_some_iff.1 hv).1
    match j, hj, hv with
    | 0, _, hv | 1, _, hv | 2, _, hv | 3, _, hv | 4, _, hv | 5, _, hv | 6, _, hv | 7, _, hv => exact hv
  have RA := Lib.hid rA; have RB := Lib.hid rB
  clear rA rB
  simp only [List.getElem?_toArray, List.getElem?_cons_zero, List.getElem?_cons_succ] at c0 c8 c9 c18 c19
  clear z2
  go_upto_region 1 with (fail)
  go_wp2_with (first
    | (refine wpList_load_mid rfl 48 (.tmp 5) rfl pb 1 rfl [.int .u8 x.vb, .string x.ky, .string x.vl, .int .u32 x.fl, .int .i64 x.ex, .int .u64 x.ui, .int .u64 x.bn] _ RA.out Try.underlying48 rfl HI7.out ?_)
    | (refine wpList_load_mid rfl 53 (.tmp 11) rfl pb 10 rfl [.int .u8 x.ak, .int .u64 x.an, .string x.ik, .string x.iv, .int .u32 x.ifl, .int .u64 x.iid, .int .i64 x.idi, .int .i64 x.ige] _ RB.out Try.underlying53 rfl HI8.out ?_)
    | (refine wpList_store_new rfl 55 (.tmp 2) (.tmp 17) rfl w1 _ #[.int .i64 x.th, .int .u8 x.vb, .string x.ky, .string x.vl, .int .u32 x.fl, .int .i64 x.ex, .int .u64 x.ui, .int .u64 x.bn, .int .i64 x.fr, .int .i64 x.to, .int .u8 x.ak, .int .u64 x.an, .string x.ik, .string x.iv, .int .u32 x.ifl, .int .u64 x.iid, .int .i64 x.idi, .int .i64 x.ige, .int .u64 x.ep, .int .i64 x.pt] (by rw [HSZ1.out]; rfl) rfl HI20.out (by simp) (by simp [Value.oneCell']) ?_))
  have z3 := heap_alloc_new w1 (.cells #[.int .i64 x.th, .int .u8 x.vb, .string x.ky, .string x.vl, .int .u32 x.fl, .int .i64 x.ex, .int .u64 x.ui, .int .u64 x.bn, .int .i64 x.fr, .int .i64 x.to, .int .u8 x.ak, .int .u64 x.an, .string x.ik, .string x.iv, .int .u32 x.ifl, .int .u64 x.iid, .int .i64 x.idi, .int .i64 x.ige, .int .u64 x.ep, .int .i64 x.pt] 55)
  have hb3 := HB.out.trans ((hballoc w1 (.cells #[.int .i64 x.th, .int .u8 x.vb, .string x.ky, .string x.vl, .int .u32 x.fl, .int .i64 x.ex, .int .u64 x.ui, .int .u64 x.bn, .int .i64 x.fr, .int .i64 x.to, .int .u8 x.ak, .int .u64 x.an, .string x.ik, .string x.iv, .int .u32 x.ifl, .int .u64 x.iid, .int .i64 x.idi, .int .i64 x.ige, .int .u64 x.ep, .int .i64 x.pt] 55)).mono (by have := HSZ1.out; have := HB.out.size; omega))
  rw [HSZ1.out] at z3
  generalize w1.alloc (.cells #[.int .i64 x.th, .int .u8 x.vb, .string x.ky, .string x.vl, .int .u32 x.fl, .int .i64 x.ex, .int .u64 x.ui, .int .u64 x.bn, .int .i64 x.fr, .int .i64 x.to, .int .u8 x.ak, .int .u64 x.an, .string x.ik, .string x.iv, .int .u32 x.ifl, .int .u64 x.iid, .int .i64 x.idi, .int .i64 x.ige, .int .u64 x.ep, .int .i64 x.pt] 55) = w3 at *
  have hr : w3.rangeAt (pb + 1) 0 [.int .i64 x.th, .int .u8 x.vb, .string x.ky, .string x.vl, .int .u32 x.fl, .int .i64 x.ex, .int .u64 x.ui, .int .u64 x.bn, .int .i64 x.fr, .int .i64 x.to, .int .u8 x.ak, .int .u64 x.an, .string x.ik, .string x.iv, .int .u32 x.ifl, .int .u64 x.iid, .int .i64 x.idi, .int .i64 x.ige, .int .u64 x.ep, .int .i64 x.pt] := fun j v hv => by
    rw [hblk z3]
    simpa using hv
  have hl := run_loadVar_mid (P := Try.prog) w3 (pb + 1) 0 55 [.int .i64 x.th, .int .u8 x.vb, .string x.ky, .string x.vl, .int .u32 x.fl, .int .i64 x.ex, .int .u64 x.ui, .int .u64 x.bn, .int .i64 x.fr, .int .i64 x.to, .int .u8 x.ak, .int .u64 x.an, .string x.ik, .string x.iv, .int .u32 x.ifl, .int .u64 x.iid, .int .i64 x.idi, .int .i64 x.ige, .int .u64 x.ep, .int .i64 x.pt] _ hr Try.underlying55 rfl HI20.out
  subst hpb
  go_frame
  exact bodyPost_ret (v := .agg #[.int .i64 x.th, .int .u8 x.vb, .string x.ky, .string x.vl, .int .u32 x.fl, .int .i64 x.ex, .int .u64 x.ui, .int .u64 x.bn, .int .i64 x.fr, .int .i64 x.to, .int .u8 x.ak, .int .u64 x.an, .string x.ik, .string x.iv, .int .u32 x.ifl, .int .u64 x.iid, .int .i64 x.idi, .int .i64 x.ige, .int .u64 x.ep, .int .i64 x.pt]) (by simp [results, Try.results16, asAddr, hl]) rfl ⟨rfl, hb3⟩
end Go.Proofs.Ytmagpbbjjkmbpaa
