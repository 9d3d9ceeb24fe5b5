import Derived.Test.YtmakjfeepmiggaaGreatZ29
import Derived.Test.YtmakjfeepmiggaaGreatZ7
import Derived.Test.YtmakjfeepmiggaaGreatZ16
import Derived.Test.YtmakjfeepmiggaaGreatB1
import Derived.Carry
namespace Go.Proofs.YtmakjfeepmiggaaGreat
open Go.RowKit Go.Maps
set_option linter.unusedVariables false
theorem WS.byk {w0 w w' : World} {B : WB} {V : WV} {s : CS} {S : Nat → Prop} (h : WS w0 w B V s) (hk : Keeps S w w') (hS : ∀ k, S k → w0.heap.size ≤ k ∧ ((∃ cs T fr, w.heap[k]? = some (.cells cs T fr) ∧ wTy T = false) ∨ ((∃ es cl, w.heap[k]? = some (.map es cl)) ∧ w.cell? ⟨B.cb, 0, none⟩ ≠ some (.map (some k)) ∧ ∀ q ∈ V.fm, q.1 ≠ k))) :
    WS w0 w' B V s ∧ w'.cell? ⟨B.cb, 0, none⟩ = w.cell? ⟨B.cb, 0, none⟩ := by
  have hno : ∀ (k : Nat) (cs : Array Value) (T : TypeId) (fr : Nat × Nat), w.heap[k]? = some (.cells cs T fr) → wTy T = true → ¬ S k := fun k cs T fr hc hT c => by
    rcases (hS k c).2 with ⟨cs2, T2, fr2, h2, h3⟩ | ⟨⟨es, cl, h2⟩, -⟩
    · have := hc.symm.trans h2
      simp only [Option.some.injEq, Obj.cells.injEq] at this
      rw [← this.2.1, hT] at h3; cases h3
    · rw [hc] at h2; cases h2
  have hcl : ∀ (k : Nat) (cs : Array Value) (T : TypeId) (fr : Nat × Nat), w.heap[k]? = some (.cells cs T fr) → wTy T = true → w'.heap[k]? = some (.cells cs T fr) := fun k cs T fr hc hT => (hk.block k (Array.getElem?_eq_some_iff.1 hc).1 (hno k cs T fr hc hT)).trans hc
  have hf : Fr (fun T => !wTy T) true w w' := ⟨hk.size, fun k cs T fr hc hT => hcl k cs T fr hc (by simpa using hT), fun h => by cases h⟩
  have hB : Below w0.heap.size w0 w' := keeps_below hk h.below h.below.size fun k c => (hS k c).1
  obtain ⟨cs, hh⟩ := own_hdr h.own
  have e : w'.cell? ⟨B.cb, 0, none⟩ = w.cell? ⟨B.cb, 0, none⟩ := by
    have := hcl _ _ _ _ hh rfl
    unfold World.cell?; simp only; rw [this, hh]
  have ho : Own w0 w' B.cb s := by
    obtain ⟨⟨S', hS'⟩, _⟩ := h.own
    refine ⟨⟨S', hS'.keep fun k hk2 => ?_⟩, hB⟩
    obtain ⟨mo, f, hA, rfl⟩ := hS'
    have hn : ¬ S k := by
      intro c
      rcases hk2 with rfl | hm | ⟨a, ha⟩
      · exact hno _ _ _ _ hA.hdr rfl c
      · obtain ⟨⟨D, ⟨es, cl, hb, _⟩, _⟩, _⟩ := hA.map k hm
        rcases (hS k c).2 with ⟨cs2, T2, fr2, h2, h3⟩ | ⟨-, h2, -⟩
        · rw [hb] at h2; cases h2
        · exact h2 (by simp [World.cell?, hA.hdr, hdrC, hm])
      · exact hno _ _ _ _ (hA.ptr a k ha).1 rfl c
    refine hk.block k ?_ hn
    rcases hk2 with rfl | hm | ⟨a, ha⟩
    · exact (Array.getElem?_eq_some_iff.1 hA.hdr).1
    · exact (hA.map k hm).1.lt
    · exact (Array.getElem?_eq_some_iff.1 (hA.ptr a k ha).1).1
  obtain ⟨SA, ha⟩ := h.ar
  refine ⟨⟨ho, hf.cells _ _ _ _ h.blk rfl, h.lo, ⟨SA, ha.fr hf rfl rfl rfl⟩, h.nt.fr hf rfl rfl, h.tkl, fun q hq => ?_⟩, e⟩
  obtain ⟨h1, h2⟩ := h.fmk q hq
  refine ⟨(hk.block q.1 (Array.getElem?_eq_some_iff.1 h1).1 fun c => ?_).trans h1, by rw [e]; exact h2⟩
  rcases (hS q.1 c).2 with ⟨cs2, T2, fr2, h3, h4⟩ | ⟨-, -, h3⟩
  · rw [h1] at h3; cases h3
  · exact h3 q hq rfl
structure Besd (w : World) (B : WB) (V : WV) (m : Nat) : Prop where
  ne : w.cell? ⟨B.cb, 0, none⟩ ≠ some (.map (some m))
  fm : ∀ q ∈ V.fm, q.1 ≠ m
theorem w_not_y (T : TypeId) (h : yTy T = true) : wTy T = false := by
  unfold yTy at h
  simp only [Bool.or_eq_true, beq_iff_eq] at h
  rcases h with (rfl | rfl) | rfl <;> rfl
theorem way_world {w0 w : World} {B : WB} {V : WV} {s : CS} {xb m : Nat} {x : WY} (h : WS w0 w B V s) (hx : WayAt w w0.heap.size xb x) (hm : x.mo = some m) (hb : Besd w B V m) : ∃ V2 : WV, WS w0 w B V2 s ∧ ∀ w2 s2, WS w0 w2 B V2 s2 → Fr wTy true w w2 → WS w0 w2 B V s2 ∧ WayAt w2 w0.heap.size xb x ∧ Besd w2 B V m := by
  obtain ⟨es, cl, hmb⟩ := (hx.mp m hm).2.blk
  refine ⟨{ V with fm := (m, es, cl) :: V.fm }, h.more hmb hb.ne, fun w2 s2 h2 hf => ?_⟩
  obtain ⟨g1, g2⟩ := h2.fmk (m, es, cl) (by simp)
  exact ⟨h2.less V.fm (fun q hq => by simp [hq]), hx.frm hf w_not_y (fun m' hm' => by rw [hm] at hm'; cases hm'; exact g1.trans hmb.symm), g2, hb.fm⟩
theorem way_node {w0 w w' : World} {B : WB} {V : WV} {s : CS} {xb m : Nat} {x : WY} (h : WS w0 w B V s) (hx : WayAt w w0.heap.size xb x) (hm : x.mo = some m) (hb : Besd w B V m) (hk : Keeps (NSet xb x.kb m) w w') : WS w0 w' B V s ∧ Besd w' B V m := by
  obtain ⟨h0, ⟨vb, vw, h1, h2, h3, h4⟩, h5, h6, h7⟩ := hx
  obtain ⟨es, cl, hmb⟩ := (h5 m hm).2.blk
  have key := h.byk hk fun k c => by
    rcases c with rfl | rfl | rfl
    · exact ⟨h0, .inl ⟨_, _, _, h1, rfl⟩⟩
    · rcases h4 with h4 | ⟨-, h4⟩
      · obtain ⟨-, ⟨rfl, -⟩ | ⟨g, cap, cur, rfl, hg, hc, -⟩⟩ := h2
        · cases h4
        · simp only [Value.ownBlock, Option.some.injEq] at h4
          subst h4
          exact ⟨hg, .inl ⟨_, _, _, hc, rfl⟩⟩
      · rw [h4]; exact ⟨h0, .inl ⟨_, _, _, h1, rfl⟩⟩
    · exact ⟨(h5 _ hm).1, .inr ⟨⟨es, cl, hmb⟩, hb.ne, hb.fm⟩⟩
  exact ⟨key.1, by rw [key.2]; exact hb.ne, hb.fm⟩
structure Fy (b c : Nat) (w w' : World) : Prop where
  size : w.heap.size ≤ w'.heap.size
  cells : ∀ (k : Nat) (cs : Array Value) (T : TypeId) (fr : Nat × Nat), w.heap[k]? = some (.cells cs T fr) → wTy T = false → k ≠ b → k ≠ c → w'.heap[k]? = some (.cells cs T fr)
theorem Fy.trans {b c d : Nat} {w w' w'' : World} (h : Fy b c w w') (k : Fy b d w' w'') (hd : d = c ∨ w.heap.size ≤ d) : Fy b c w w'' :=
  ⟨Nat.le_trans h.size k.size, fun i cs T fr h1 h2 h3 h4 => k.cells i cs T fr (h.cells i cs T fr h1 h2 h3 h4) h2 h3 (by
    have := (Array.getElem?_eq_some_iff.1 h1).1
    rcases hd with rfl | hd
    · exact h4
    · omega)⟩
theorem fr_fy {w w' : World} (h : Fr wTy true w w') (b c : Nat) : Fy b c w w' := ⟨h.size, fun k cs T fr h1 h2 _ _ => h.cells k cs T fr h1 h2⟩
theorem below_fy {w w' : World} (h : Below w.heap.size w w') (b c : Nat) : Fy b c w w' := fr_fy (below_fr h wTy true) b c
theorem keeps_fy {b c m : Nat} {w w' : World} {es : Array MapEntry} {cl : Nat} (h : Keeps (NSet b c m) w w') (hm : w.heap[m]? = some (.map es cl)) : Fy b c w w' :=
  ⟨h.size, fun k cs T fr h1 _ h3 h4 => (h.block k (Array.getElem?_eq_some_iff.1 h1).1 (fun e => by
    rcases e with e | e | e
    · exact h3 e
    · exact h4 e
    · subst e; rw [h1] at hm; cases hm)).trans h1⟩
theorem keep1_fy {b c : Nat} {w w' : World} (h : Keeps (fun k => k = b) w w') : Fy b c w w' := ⟨h.size, fun k cs T fr h1 _ h3 _ => (h.block k (Array.getElem?_eq_some_iff.1 h1).1 h3).trans h1⟩
end Go.Proofs.YtmakjfeepmiggaaGreat
namespace Go.Proofs.YtmakjfeepmiggaaGreat
open Go.RowKit Go.Maps
set_option linter.unusedVariables false
def wnew (bits most a b : Int) (kb m : Nat) : WY := ⟨bits, most, wfirst a b, 0, [], false, true, kb, some m⟩
theorem nodeL_two (a b : Int) : nodeL b (-1, -1) (nodeL a (-1, -1) []) = wfirst a b := by
  have e1 : nodeL a (-1, -1) [] = [(a, (-1, -1))] := if_neg (by simp [bks])
  rw [e1]
  unfold nodeL wfirst
  by_cases h : b = a
  · rw [if_pos h, if_pos (by simp [bks, h])]
  · rw [if_neg h, if_neg (by simp [bks, h])]; rfl
theorem tsize_bdW (b : Int) : 0 ≤ tsize b ∧ tsize b ≤ 4096 := by
  by_cases h : b < 1 ∨ 12 < b
  · rw [tsize_out h]; omega
  · rcases (show b = 1 ∨ b = 2 ∨ b = 3 ∨ b = 4 ∨ b = 5 ∨ b = 6 ∨ b = 7 ∨ b = 8 ∨ b = 9 ∨ b = 10 ∨ b = 11 ∨ b = 12 by omega) with rfl | rfl | rfl | rfl | rfl | rfl | rfl | rfl | rfl | rfl | rfl | rfl <;> decide
theorem ix_two0 (a b : Int) (W : World) : (Instr.index 136 (.agg #[.int .i64 a, .int .i64 b]) (.int .i64 0)).run Tryz.prog W = .ok (.int .i64 a) W := by kernel_rfl
theorem ix_two1 (a b : Int) (W : World) : (Instr.index 136 (.agg #[.int .i64 a, .int .i64 b]) (.int .i64 1)).run Tryz.prog W = .ok (.int .i64 b) W := by kernel_rfl
set_option maxRecDepth 10000 in
set_option maxHeartbeats 2000000 in
theorem newway_ok (bits a b most : Int) (ha : 0 ≤ a ∧ a < tsize bits) (hb : 0 ≤ b ∧ b < tsize bits) (w : World) : Calls Tryz.prog 10 #[.int .i64 bits, .int .i64 a, .int .i64 b, .int .i64 most] w fun e w' => ∃ xb kb m, e = .returned (.pointer (some ⟨xb, 0, none⟩)) ∧ WayAt w' w.heap.size xb (wnew bits most a b kb m) ∧ Below w.heap.size w w' ∧ w.heap.size ≤ m ∧ w.heap.size ≤ kb := by
  have hs := fun W => size_any bits W
  have hb1 := below_alloc w (.cells #[.int .i64 bits, .int .i64 most, .slice none 0 0, .map none, .int .i64 0, .slice none 0 0, .bool false, .bool false] 135)
  have hz1 := heap_alloc_new w (.cells #[.int .i64 bits, .int .i64 most, .slice none 0 0, .map none, .int .i64 0, .slice none 0 0, .bool false, .bool false] 135)
  have HB1 := Lib.hid hb1; have HZ1 := Lib.hid hz1
  have hp : 0 ≤ tsize bits ∧ tsize bits ≤ 4096 := tsize_bdW bits
  have hwa : (Lit.int .i64 a).wf = true := by simp only [Lit.wf, IntKind.min, IntKind.max, IntKind.bits, IntKind.signed]; simp; omega
  have hwb : (Lit.int .i64 b).wf = true := by simp only [Lit.wf, IntKind.min, IntKind.max, IntKind.bits, IntKind.signed]; simp; omega
  have HWA := Lib.hid hwa; have HWB := Lib.hid hwb
  clear hb1 hz1 hp hwa hwb
  generalize tsize bits = t at *
  go_enter Tryz.func10, Tryz.ntmps10
  go_upto_region 2 with (fail)
  change Code.wp _ _ _ _ (w.alloc (.cells #[.int .i64 bits, .int .i64 most, .slice none 0 0, .map none, .int .i64 0, .slice none 0 0, .bool false, .bool false] 135))
  generalize w.alloc (.cells #[.int .i64 bits, .int .i64 most, .slice none 0 0, .map none, .int .i64 0, .slice none 0 0, .bool false, .bool false] 135) = w1 at *
  obtain ⟨xq, hxq⟩ : ∃ xq, xq = w.heap.size := ⟨_, rfl⟩
  rw [← hxq] at HZ1
  simp only [← hxq]
  have HXQ := Lib.hid hxq
  clear hxq
  go_wp2
  go_loopw [19] (fun i wr => (i = .int .i64 0 ∨ i = .int .i64 1 ∨ i = .int .i64 2) ∧ wr = w1) (fun i _ => 2 - (intOf i).toNat)
  case atStart => exact ⟨.inl rfl, rfl⟩
  case round =>
    obtain ⟨hi, rfl⟩ := hrel
    rcases hi with rfl | rfl | rfl
    · have ix := ix_two0 a b wr
      have a0 : ¬ a < 0 := by omega
      have a1 : ¬ t ≤ a := by omega
      clear ha hb
      go_wp2_with (go_at_call 49; refine (hs _).mono ?_; rintro e w2 ⟨rfl, hw⟩; obtain rfl := hw.symm)
      go_roundw
      case rel => exact ⟨(by first | exact .inr (.inl rfl) | simp), (by first | rfl | trivial)⟩
      case measure => simp [intOf]
    · have ix := ix_two1 a b wr
      have a0 : ¬ b < 0 := by omega
      have a1 : ¬ t ≤ b := by omega
      clear ha hb
      go_wp2_with (go_at_call 49; refine (hs _).mono ?_; rintro e w2 ⟨rfl, hw⟩; obtain rfl := hw.symm)
      go_roundw
      case rel => exact ⟨(by first | exact .inr (.inr rfl) | simp), (by first | rfl | trivial)⟩
      case measure => simp [intOf]
    · have hmm := @run_makeMap Tryz.prog
      have hb2 := below_alloc wr (.map #[] 0)
      have hm2 := MapF.made wr
      have hzx := (hb2.block _ (Array.getElem?_eq_some_iff.1 HZ1.out).1).trans HZ1.out
      have c7 := hcell hzx 7
      have c3 := hcell hzx 3
      have hf7 := hfrz hzx 7
      have hf3 := hfrz hzx 3
      have hwm : wr.heap[wr.heap.size]? = none := Array.getElem?_eq_none (Nat.le_refl _)
      have hne : wr.heap.size ≠ xq := fun e => by have := (Array.getElem?_eq_some_iff.1 HZ1.out).1; omega
      have y1 := setCell_same hzx 7 (.bool true)
      have y2 := setCell_same y1 3 (.map (some wr.heap.size))
      have k1 := setCell_keeps (wr.alloc (.map #[] 0)) xq 7 (.bool true)
      have k2 := setCell_keeps ((wr.alloc (.map #[] 0)).setCell ⟨xq, 7, none⟩ (.bool true)) xq 3 (.map (some wr.heap.size))
      have hm3 := keeps_mp (keeps_mp hm2 k1 hne) k2 hne
      have hB0 : Below w.heap.size w wr := HB1.out
      have hB3 : Below w.heap.size w (((wr.alloc (.map #[] 0)).setCell ⟨xq, 7, none⟩ (.bool true)).setCell ⟨xq, 3, none⟩ (.map (some wr.heap.size))) :=
        keeps_below k2 (keeps_below k1 (hB0.trans (hb2.mono hB0.size)) (by have := hB0.size; have := hb2.size; omega) (fun k e => by have := HXQ.out; omega)) (by have := hB0.size; have := hb2.size; have := k1.size; omega) (fun k e => by have := HXQ.out; omega)
      have WA : WayAt (((wr.alloc (.map #[] 0)).setCell ⟨xq, 7, none⟩ (.bool true)).setCell ⟨xq, 3, none⟩ (.map (some wr.heap.size))) w.heap.size xq ⟨bits, most, [], 0, [], false, true, xq, some wr.heap.size⟩ :=
        ⟨by rw [HXQ.out]; exact Nat.le_refl _, ⟨.slice none 0 0, .slice none 0 0, y2, World.ownsRow_nil _ _ _ _, World.ownsRow_nil _ _ _ _, .inr ⟨rfl, rfl⟩⟩, fun m hm => by simp only [Option.some.injEq] at hm; subst hm; exact ⟨hB0.size, hm3⟩, fun _ => ⟨_, rfl⟩, fun _ => by rw [hcell y2]; rfl⟩
      have HWAY := Lib.hid WA; have HB3 := Lib.hid hB3
      clear WA hB3 hB0 hm3 k1 k2 y1 y2 hne hwm hm2 hb2 hzx
      go_upto_region 9 with (fail)
      clear hmm c7 c3 hf7 hf3
      have hmg : w.heap.size ≤ wr.heap.size := HB1.out.size
      generalize ((wr.alloc (.map #[] 0)).setCell ⟨xq, 7, none⟩ (.bool true)).setCell ⟨xq, 3, none⟩ (.map (some wr.heap.size)) = w3 at *
      generalize wr.heap.size = mm at *
      have HMG := Lib.hid hmg
      clear hmg
      have hn1 := node_any HWAY.out HB3.out.size rfl (by simp) a HWA.out (-1, -1)
      go_upto_region 10 with (go_at_call 50; refine hn1.mono ?_; intro e w4 hh; obtain ⟨hh1, kb4, a4, k4, b4⟩ := hh; subst hh1; have A4 := Lib.hid a4; have B4 := Lib.hid (keeps_below k4 HB3.out HB3.out.size (fun k c => by rcases c with c | c | c; (have := HXQ.out; omega); (have h1 := HXQ.out; simp only at c; omega); (have := HMG.out; omega))); have KB4 : Hid (w.heap.size ≤ kb4) := (by { show w.heap.size ≤ kb4; have h1 := HXQ.out; have h2 := HB3.out.size; rcases b4 with b4 | b4; (simp only at b4; omega); omega }); clear a4 k4 b4 hn1)
      have hl4 : (nodeL a (-1, -1) []).length ≤ 100000 := by unfold nodeL; split <;> simp
      have hn2 := node_any A4.out B4.out.size rfl hl4 b HWB.out (-1, -1)
      clear hl4
      go_upto_region 11 with (go_at_call 50; refine hn2.mono ?_; intro e w5 hh; obtain ⟨hh1, kb5, a5, k5, b5⟩ := hh; subst hh1; have A5 := Lib.hid a5; have B5 := Lib.hid (keeps_below k5 B4.out B4.out.size (fun k c => by rcases c with c | c | c; (have := HXQ.out; omega); (have h1 := KB4.out; simp only at c; omega); (have := HMG.out; omega))); have KB5 : Hid (w.heap.size ≤ kb5) := (by { show w.heap.size ≤ kb5; have h1 := KB4.out; have h2 := B4.out.size; rcases b5 with b5 | b5; (simp only at b5; omega); omega }); clear a5 k5 b5 hn2)
      go_wp2
      go_ret
      refine ⟨_, kb5, mm, rfl, ?_, B5.out, HMG.out, KB5.out⟩
      have := A5.out
      simp only [nodeL_two] at this
      exact this
end Go.Proofs.YtmakjfeepmiggaaGreat
namespace Go.Proofs.YtmakjfeepmiggaaGreat
open Go.RowKit Go.Maps
set_option linter.unusedVariables false
def encN (x : Nd) : List Value := [.int .i64 x.1, .int .i64 x.2.1, .int .i64 (if x.2.1 = -1 then 0 else x.2.2)]
def flatN (l : List Nd) : List Value := l.flatMap encN
theorem flatN_snoc (l : List Nd) (x : Nd) : flatN (l ++ [x]) = flatN l ++ encN x := by simp [flatN]
theorem flatN_at (l : List Nd) (k : Nat) (hk : k < l.length) (j : Nat) (hj : j < 3) : (flatN l)[k * 3 + j]? = (encN l[k])[j]? := by
  induction l generalizing k with
  | nil => exact absurd hk (Nat.not_lt_zero _)
  | cons p l ih =>
    have e : flatN (p :: l) = encN p ++ flatN l := by simp [flatN]
    rw [e]
    cases k with
    | zero =>
      rw [List.getElem?_append_left (by simp [encN]; omega)]
      simp
    | succ k =>
      rw [List.getElem?_append_right (by simp [encN]; omega)]
      have := ih k (by simpa using hk)
      simp only [List.getElem_cons_succ]
      rw [← this]
      congr 1
      simp [encN]; omega
def WY.rcells (x : WY) (vl vw : Value) : Array Value := #[.int .i64 (if (!x.made || x.over) = true then 0 else 1), vl, .int .i64 x.at_, .int .i64 x.bits, .int .i64 x.most, vw]
structure RWayAt (w : World) (lo b kr : Nat) (x : WY) : Prop where
  low : lo ≤ b
  ex : ∃ vl vw, w.heap[b]? = some (.cells (x.rcells vl vw) 56 (0, 0)) ∧ w.ownsRow lo 141 3 vl x.l.length (flatN x.l) ∧ w.ownsRow lo 71 3 vw x.way.length (flatS x.bits x.way) ∧ KbOk vl kr b
def ryTy (T : TypeId) : Bool := T == 56 || T == 141 || T == 71
section
variable {w w' : World} {lo b kr : Nat} {x : WY}
theorem RWayAt.fr {K : TypeId → Bool} {mp : Bool} (h : RWayAt w lo b kr x) (hf : Fr K mp w w') (hK : ∀ T, ryTy T = true → K T = false) : RWayAt w' lo b kr x := by
  obtain ⟨h0, vl, vw, h1, h2, h3, h4⟩ := h
  exact ⟨h0, vl, vw, hf.cells _ _ _ _ h1 (hK _ rfl), own_fr h2 hf (hK _ rfl), own_fr h3 hf (hK _ rfl), h4⟩
theorem RWayAt.below (h : RWayAt w lo b kr x) (hb : Below w.heap.size w w') : RWayAt w' lo b kr x := h.fr (below_fr hb (fun _ => false) false) (fun _ _ => rfl)
theorem RWayAt.lt (h : RWayAt w lo b kr x) : b < w.heap.size := by obtain ⟨_, vl, vw, h1, _⟩ := h; exact (Array.getElem?_eq_some_iff.1 h1).1
end
theorem rwy_cells {W : World} {q : Nat} {x : WY} {vl vw : Value} (z : W.heap[q]? = some (.cells (x.rcells vl vw) 56 (0, 0))) :
    W.cell? ⟨q, 0, none⟩ = some (.int .i64 (if (!x.made || x.over) = true then 0 else 1)) ∧ W.cell? ⟨q, 1, none⟩ = some vl ∧ W.cell? ⟨q, 2, none⟩ = some (.int .i64 x.at_) ∧ W.cell? ⟨q, 3, none⟩ = some (.int .i64 x.bits) ∧ W.cell? ⟨q, 4, none⟩ = some (.int .i64 x.most) ∧ W.cell? ⟨q, 5, none⟩ = some vw :=
  ⟨hcell z 0, hcell z 1, hcell z 2, hcell z 3, hcell z 4, hcell z 5⟩
theorem row3_at {w : World} {lo : Nat} {v : Value} {l : List Nd} (h : w.ownsRow lo 141 3 v l.length (flatN l)) (k : Nat) (hk : k < l.length) : ∃ g cap, v = .slice (some ⟨g, 0, none⟩) l.length cap ∧ w.cell? ⟨g, k * 3, none⟩ = some (.int .i64 (nd l k).1) := by
  obtain ⟨_, ⟨rfl, h0⟩ | ⟨g, cap, cur, rfl, _, hg, hn, hm, hs, ht⟩⟩ := h
  · omega
  · refine ⟨g, cap, rfl, ?_⟩
    have e := flatN_at l k hk 0 (by omega)
    rw [hcell hg]
    have e2 : (nd l k) = l[k] := by unfold nd; rw [List.getD_eq_getElem?_getD, List.getElem?_eq_getElem hk]; rfl
    rw [e2]
    rw [← ht, List.getElem?_take, if_pos (by omega)] at e
    simp only [Nat.add_zero, encN, List.getElem?_cons_zero] at e
    rw [← e]; simp
theorem rspot {w : World} {lo b kr : Nat} {x : WY} (h : RWayAt w lo b kr x) (u s : Int) : Calls Tryz.prog 58 #[.pointer (some ⟨b, 0, none⟩), .int .i64 u, .int .i64 s] w fun e w' => e = .returned (.agg #[.int .i64 x.bits, .int .i64 u, .int .i64 s]) ∧ Below w.heap.size w w' := by
  have hb := below_alloc w (.cells #[.int .i64 0, .int .i64 0, .int .i64 0] 71)
  have hz := heap_alloc_new w (.cells #[.int .i64 0, .int .i64 0, .int .i64 0] 71)
  obtain ⟨_, vl, vw, h1, -⟩ := h
  obtain ⟨-, -, -, c3, -⟩ := rwy_cells h1
  have c3' : (w.alloc (.cells #[.int .i64 0, .int .i64 0, .int .i64 0] 71)).cell? ⟨b, 3, none⟩ = some (.int .i64 x.bits) := by
    rw [World.cell?_alloc_past _ _ _ (World.block_lt_of_cell? _ _ c3)]; exact c3
  have HB := Lib.hid hb
  clear h1 hb
  go_enter Tryz.func58, Tryz.ntmps58
  go_wp2
  have hb2 := below_alloc w (.cells #[.int .i64 x.bits, .int .i64 u, .int .i64 s] 71)
  have hz2 := heap_alloc_new w (.cells #[.int .i64 x.bits, .int .i64 u, .int .i64 s] 71)
  have e0 := hcell hz2 0; have e1 := hcell hz2 1; have e2 := hcell hz2 2
  change bodyPost _ _ _ _ _ (w.alloc (.cells #[.int .i64 x.bits, .int .i64 u, .int .i64 s] 71))
  refine bodyPost_ret (v := .agg #[.int .i64 x.bits, .int .i64 u, .int .i64 s]) (by simp [results, Tryz.results58, go_sem, e0, e1, e2]) rfl ⟨rfl, hb2⟩
set_option maxHeartbeats 1000000 in
theorem ris {w : World} {lo b kr : Nat} {x : WY} (h : RWayAt w lo b kr x) (u : Int) (hl : x.l.length ≤ 100000) : Calls Tryz.prog 61 #[.pointer (some ⟨b, 0, none⟩), .int .i64 u] w fun e w' => e = .returned (.bool (decide (u ∈ bks x.l))) ∧ w' = w := by
  obtain ⟨_, vl, vw, h1, h2, -⟩ := h
  obtain ⟨-, c1, -⟩ := rwy_cells h1
  obtain ⟨av, cv, hvl, -⟩ := own_sl3 h2
  rw [hvl] at c1
  have H2 := Lib.hid h2; have HV := Lib.hid hvl; have HL := Lib.hid hl
  clear h1 h2 hvl hl
  go_enter Tryz.func61, Tryz.ntmps61
  go_wp2
  go_loopw [5] (fun v wr => ∃ k : Nat, k ≤ x.l.length ∧ v = .int .i64 k ∧ wr = w ∧ ∀ j, j < k → (nd x.l j).1 ≠ u) (fun v _ => x.l.length - (intOf v).toNat)
  case atStart => exact ⟨0, Nat.zero_le _, rfl, rfl, fun j hj => absurd hj (Nat.not_lt_zero _)⟩
  case round =>
    obtain ⟨k, hk, rfl, rfl, hno⟩ := hrel
    have HNO := Lib.hid hno
    clear hno
    by_cases hlt : k < x.l.length
    · have hlt' : (k : Int) < x.l.length := by omega
      have hk0 : (0 : Int) ≤ k := by omega
      have hkl := HL.out
      obtain ⟨g, cap, hvs, hcs⟩ := row3_at H2.out k hlt
      rw [HV.out] at hvs
      simp only [Value.slice.injEq] at hvs
      obtain ⟨rfl, -, -⟩ := hvs
      obtain ⟨p, hp⟩ : ∃ p, p = (nd x.l k).1 := ⟨_, rfl⟩
      rw [← hp] at hcs
      have HP := Lib.hid hp; have HLT := Lib.hid hlt
      clear hp hk hlt
      by_cases hpu : p = u
      · subst hpu
        go_wp2
        go_ret
        refine ⟨?_, rfl⟩
        rw [decide_eq_true (by rw [HP.out]; exact nd_mem HLT.out)]
        rfl
      · have hpf : (p == u) = false := beq_eq_false_iff_ne.2 hpu
        go_wp2
        go_roundw
        case measure => have := HLT.out; simp [intOf]; omega
        case rel =>
          refine ⟨k + 1, HLT.out, by have := HLT.out; go_num, trivial, fun j hj => ?_⟩
          by_cases e : j = k
          · subst e; rw [← HP.out]; exact hpu
          · exact HNO.out j (by omega)
    · obtain rfl : k = x.l.length := by omega
      go_wp2
      go_ret
      refine ⟨?_, rfl⟩
      rw [decide_eq_false (p := u ∈ bks x.l) ?_]
      · rfl
      intro c
      obtain ⟨i, hi, e⟩ := nd_of_mem c
      exact HNO.out i hi e
theorem own_none {w : World} (lo e size : Nat) : w.ownsRow lo e size (.slice none 0 0) 0 [] := ⟨by simp, .inl ⟨rfl, rfl⟩⟩
theorem radd_fin {w w6 : World} {lo b : Nat} {x : WY} {a : Option Addr} {cap c6 kb : Nat} {vw : Value} {y : Nd} (hlo : lo ≤ b) (h1 : w.heap[b]? = some (.cells (x.rcells (.slice a x.l.length cap) vw) 56 (0, 0)))
    (h2 : w.ownsRow lo 141 3 (.slice a x.l.length cap) x.l.length (flatN x.l)) (h3 : w.ownsRow lo 71 3 vw x.way.length (flatS x.bits x.way))
    (hown : w6.ownsRow lo 141 3 (.slice (some ⟨kb, 0, none⟩) (x.l.length + 1) c6) (x.l.length + 1) (flatN x.l ++ encN y)) (hg : Keeps (fun k => (Value.slice a x.l.length cap).ownBlock = some k) w w6) (hkb : (Value.slice a x.l.length cap).ownBlock = some kb ∨ w.heap.size ≤ kb) :
    RWayAt (w6.setCell ⟨b, 1, none⟩ (.slice (some ⟨kb, 0, none⟩) (x.l.length + 1) c6)) lo b kb { x with l := x.l ++ [y] } := by
  have hne : ∀ k, (Value.slice a x.l.length cap).ownBlock = some k → k ≠ b := fun k hk => by
    obtain ⟨cur, hc⟩ := own_blk h2 hk
    exact cells_ne hc h1 (by decide)
  have hvw : ∀ k, vw.ownBlock = some k → k ≠ b ∧ (Value.slice a x.l.length cap).ownBlock ≠ some k := fun k hk => by
    obtain ⟨cur, hc⟩ := own_blk h3 hk
    refine ⟨cells_ne hc h1 (by decide), fun e => ?_⟩
    obtain ⟨cur2, hc2⟩ := own_blk h2 e
    exact cells_ne hc hc2 (by decide) rfl
  have hkb2 : kb ≠ b := by
    rcases hkb with e | e
    · exact hne kb e
    · have := (Array.getElem?_eq_some_iff.1 h1).1; omega
  have hx6 := (hg.block b (Array.getElem?_eq_some_iff.1 h1).1 (fun c => hne b c rfl)).trans h1
  have sk := setCell_keeps w6 b 1 (.slice (some ⟨kb, 0, none⟩) (x.l.length + 1) c6)
  refine ⟨hlo, .slice (some ⟨kb, 0, none⟩) (x.l.length + 1) c6, vw, setCell_same hx6 1 _, ?_, ?_, .inl rfl⟩
  · simp only [List.length_append, List.length_singleton, flatN_snoc]
    exact own_keepsS hown sk fun k hk c => by
      simp only [Value.ownBlock, Option.some.injEq] at hk
      subst hk; exact hkb2 c
  · exact own_keepsS (own_keepsS h3 hg fun k hk c => (hvw k hk).2 c) sk fun k hk c => (hvw k hk).1 c
theorem info_node : (Tryz.prog.info? 141).map (fun i => (i.zero, i.size, i.bytes)) = some (some (.agg #[.int .i64 0, .int .i64 0, .int .i64 0]), 3, 24) := by kernel_rfl
set_option maxRecDepth 10000 in
set_option maxHeartbeats 1000000 in
theorem rnew_ok (kb m : Nat) (bits a b most : Int) (ha : 0 ≤ a ∧ a < tsize bits) (hb : 0 ≤ b ∧ b < tsize bits) (w : World) : Calls Tryz.prog 11 #[.int .i64 bits, .int .i64 a, .int .i64 b, .int .i64 most] w fun e w' => ∃ rb kr, e = .returned (.pointer (some ⟨rb, 0, none⟩)) ∧ RWayAt w' w.heap.size rb kr (wnew bits most a b kb m) ∧ Below w.heap.size w w' ∧ w.heap.size ≤ kr := by
  have hs := fun W => rsize_any bits W
  obtain ⟨i0, hi0, hz0, hz1, hz2⟩ := info_parts info_node
  have HI := Lib.hid hi0; have HZ0 := Lib.hid hz0; have HZ1 := Lib.hid hz1; have HZ2 := Lib.hid hz2
  clear hi0 hz0 hz1 hz2
  generalize tsize bits = t at *
  have a0 : ¬ a < 0 := by omega
  have a1 : ¬ t ≤ a := by omega
  have b0 : ¬ b < 0 := by omega
  have b1 : ¬ t ≤ b := by omega
  clear ha hb
  go_enter Tryz.func11, Tryz.ntmps11
  go_upto_region 5 with (go_at_call 51; refine (hs _).mono ?_; intro e w2 hh; obtain ⟨hh1, hh2⟩ := hh; subst hh1; obtain rfl := hh2.symm)
  have n0 := heap_alloc_new w (.cells #[.int .i64 a, .int .i64 (-1), .int .i64 0] 141)
  have k0 := below_alloc w (.cells #[.int .i64 a, .int .i64 (-1), .int .i64 0] 141)
  have k1 := below_alloc (w.alloc (.cells #[.int .i64 a, .int .i64 (-1), .int .i64 0] 141)) (.cells #[.int .i64 1, .slice (some ⟨w.heap.size, 0, none⟩) 1 1, .int .i64 0, .int .i64 bits, .int .i64 most, .slice none 0 0] 56)
  have r1 := heap_alloc_new (w.alloc (.cells #[.int .i64 a, .int .i64 (-1), .int .i64 0] 141)) (.cells #[.int .i64 1, .slice (some ⟨w.heap.size, 0, none⟩) 1 1, .int .i64 0, .int .i64 bits, .int .i64 most, .slice none 0 0] 56)
  have n1 := (k1.block _ (Array.getElem?_eq_some_iff.1 n0).1).trans n0
  have hsz : (w.alloc (.cells #[.int .i64 a, .int .i64 (-1), .int .i64 0] 141)).heap.size = w.heap.size + 1 := by simp
  rw [hsz] at r1
  have KB := Lib.hid (k0.trans (k1.mono k0.size))
  change Code.wp _ _ _ _ ((w.alloc (.cells #[.int .i64 a, .int .i64 (-1), .int .i64 0] 141)).alloc (.cells #[.int .i64 1, .slice (some ⟨w.heap.size, 0, none⟩) 1 1, .int .i64 0, .int .i64 bits, .int .i64 most, .slice none 0 0] 56))
  clear n0 k0 k1 hsz
  generalize (w.alloc (.cells #[.int .i64 a, .int .i64 (-1), .int .i64 0] 141)).alloc (.cells #[.int .i64 1, .slice (some ⟨w.heap.size, 0, none⟩) 1 1, .int .i64 0, .int .i64 bits, .int .i64 most, .slice none 0 0] 56) = w1 at *
  have own1 : w1.ownsRow w.heap.size 141 3 (.slice (some ⟨w.heap.size, 0, none⟩) 1 1) 1 (flatN [(a, -1, -1)]) := ⟨rfl, .inr ⟨w.heap.size, 1, _, rfl, Nat.le_refl _, n1, Nat.le_refl _, by unfold maxLen; decide, rfl, rfl⟩⟩
  have OW := Lib.hid own1; have R1 := Lib.hid r1
  have c1 : w1.cell? ⟨w.heap.size + 1, 1, none⟩ = some (.slice (some ⟨w.heap.size, 0, none⟩) 1 1) := hcell r1 1
  clear own1 r1 n1
  by_cases hba : b = a
  · subst hba
    have hq : (b != b) = false := by simp
    go_wp2
    go_ret
    refine ⟨w.heap.size + 1, w.heap.size, rfl, ⟨Nat.le_succ _, .slice (some ⟨w.heap.size, 0, none⟩) 1 1, .slice none 0 0, R1.out, ?_, own_none _ _ _, .inl rfl⟩, KB.out, Nat.le_refl _⟩
    have e : wfirst b b = [(b, -1, -1)] := if_pos rfl
    show w1.ownsRow _ _ _ _ (wfirst b b).length (flatN (wfirst b b))
    rw [e]; exact OW.out
  · have hq : (b != a) = true := bne_iff_ne.2 hba
    have hs1 : Hid (w.heap.size ≤ w1.heap.size) := KB.out.size
    have HBA := Lib.hid hba
    clear hba
    go_wp2_with (at_builtin; refine wpList_append_lies _ rfl _ _ 53 rfl w.heap.size 141 i0 (.agg #[.int .i64 0, .int .i64 0, .int .i64 0]) 3 24 Tryz.underlying53 HI.out HZ0.out HZ1.out HZ2.out rfl (by decide) (.slice (some ⟨w.heap.size, 0, none⟩) 1 1) 1 (flatN [(a, -1, -1)]) rfl (OW.out.alloc _) ⟨w1.heap.size, 0, none⟩ 1 1 [.int .i64 b, .int .i64 (-1), .int .i64 0] rfl rfl ?c1 ?c2 (by decide) ?c3 ?c4 ?c5 (w1.heap.size + 1) (by simp) ?_)
    case c1 => exact World.news_of_block (heap_alloc_new w1 _)
    case c2 => simp [Value.oneCell']
    case c3 => unfold maxLen; omega
    case c4 => omega
    case c5 => have := hs1.out; simp; omega
    intro kb2 c6 w6 hown' hgrow hkb hlt6
    have kb3 := below_alloc w1 (.cells #[.int .i64 b, .int .i64 (-1), .int .i64 0] 141)
    have gk := grown_keeps hgrow
    have hx2 := (kb3.block _ (Array.getElem?_eq_some_iff.1 R1.out).1).trans R1.out
    have hge : w.heap.size ≤ kb2 := by
      rcases hkb with e | e
      · simp only [Value.ownBlock, Option.some.injEq] at e; omega
      · have := hs1.out; omega
    have hkb9 : (Value.slice (some ⟨w.heap.size, 0, none⟩) 1 1).ownBlock = some kb2 ∨ (w1.alloc (.cells #[.int .i64 b, .int .i64 (-1), .int .i64 0] 141)).heap.size ≤ kb2 := by
      rcases hkb with e | e
      · exact .inl e
      · exact .inr (by rw [e]; simp)
    have fin1 := radd_fin (x := ⟨bits, most, [(a, -1, -1)], 0, [], false, true, kb, some m⟩) (y := (b, -1, -1)) (Nat.le_succ w.heap.size) hx2 (OW.out.alloc _) (own_none _ _ _) hown' gk hkb9
    have hx6 := (gk.block _ (Array.getElem?_eq_some_iff.1 hx2).1 (fun c => by simp only [Value.ownBlock, Option.some.injEq] at c; omega)).trans hx2
    have c6' : w6.cell? ⟨w.heap.size + 1, 1, none⟩ = some (.slice (some ⟨w.heap.size, 0, none⟩) 1 1) := hcell hx6 1
    have f6 : w6.frozen? ⟨w.heap.size + 1, 1, none⟩ = false := hfrz hx6 1
    have bw2 := KB.out.trans (kb3.mono KB.out.size)
    have bw6 := keeps_below gk bw2 bw2.size (fun k hk => by simp only [Value.ownBlock, Option.some.injEq] at hk; omega)
    have BW := Lib.hid (bw6.setCell (p := ⟨w.heap.size + 1, 1, none⟩) (Nat.le_succ _) (.slice (some ⟨kb2, 0, none⟩) 2 c6))
    have FIN := Lib.hid fin1; have HGE := Lib.hid hge
    clear kb3 gk hx2 hge hkb9 fin1 hx6 bw2 bw6 hown' hgrow hkb hlt6 c1
    go_wp2
    go_ret
    refine ⟨w.heap.size + 1, rfl, kb2, ?_, BW.out, HGE.out⟩
    have e : wnew bits most a b kb m = ⟨bits, most, [(a, -1, -1)] ++ [(b, -1, -1)], 0, [], false, true, kb, some m⟩ := by
      unfold wnew wfirst
      rw [if_neg HBA.out]; rfl
    rw [e]
    exact FIN.out
end Go.Proofs.YtmakjfeepmiggaaGreat