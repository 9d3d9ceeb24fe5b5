/-
  The document's cells in memory.
-/
import Derived.Test.YtmakjfeepmiggaaGreatRefPure
import Derived.Test.YtmakjfeepmiggaaGreatKeeps
namespace Go.Proofs.YtmakjfeepmiggaaGreat
open Go.RowKit
set_option linter.unusedVariables false

structure RS where
  l : List (Int × Int)
  cnt : Nat
  kind : Int
  addr : Int
  was : Int
  is : Int
def flat2 (l : List (Int × Int)) : List Value := l.flatMap fun p => [.int .u64 p.1, .int .u64 p.2]
theorem flat2_len (l : List (Int × Int)) : (flat2 l).length = l.length * 2 := by
  unfold flat2
  induction l with
  | nil => rfl
  | cons p l ih => simp only [List.flatMap_cons, List.length_append, ih, List.length_cons, List.length_nil]; omega
theorem flat2_at (l : List (Int × Int)) (i : Nat) (hi : i < l.length) : (flat2 l)[i * 2]? = some (.int .u64 (l[i]).1) ∧ (flat2 l)[i * 2 + 1]? = some (.int .u64 (l[i]).2) := by
  induction l generalizing i with
  | nil => simp at hi
  | cons p l ih =>
    have e : flat2 (p :: l) = .int .u64 p.1 :: .int .u64 p.2 :: flat2 l := rfl
    rw [e]
    cases i with
    | zero => exact ⟨rfl, rfl⟩
    | succ i =>
      have := ih i (by simpa using hi)
      rw [show (i + 1) * 2 = i * 2 + 1 + 1 by omega]
      simpa using this
theorem flat2_snoc (l : List (Int × Int)) (a v : Int) : flat2 (l ++ [(a, v)]) = flat2 l ++ [.int .u64 a, .int .u64 v] := by simp [flat2]
def rhdr (lv : Value) (x : RS) : Array Value := #[lv, .int .i64 x.cnt, .int .u8 x.kind, .int .u64 x.addr, .int .u64 x.was, .int .u64 x.is]
/-- The document's cells, from a base on. -/
structure RCells (w : World) (base r : Nat) (lv : Value) (x : RS) : Prop where
  hdr : w.heap[r]? = some (.cells (rhdr lv x) 155 (0, 0))
  lo : base ≤ r
  row : w.ownsRow base 221 2 lv x.l.length (flat2 x.l)
  wf : ∀ p ∈ x.l, (Lit.int .u64 p.1).wf = true ∧ (Lit.int .u64 p.2).wf = true
/-- What may be read of the list. -/
theorem RCells.form {w : World} {base r : Nat} {lv : Value} {x : RS} (h : RCells w base r lv x) : ∃ a cap, lv = .slice a x.l.length cap ∧ x.l.length ≤ maxLen ∧
    (0 < x.l.length → ∃ g, a = some ⟨g, 0, none⟩ ∧ ∀ (i : Nat) (hi : i < x.l.length), w.cell? ⟨g, i * 2, none⟩ = some (.int .u64 (x.l[i]).1) ∧ w.cell? ⟨g, i * 2 + 1, none⟩ = some (.int .u64 (x.l[i]).2)) := by
  obtain ⟨h1, ⟨rfl, h0⟩ | ⟨g, cap, cur, rfl, hb, hg, hn, hm, hs, ht⟩⟩ := h.row
  · exact ⟨none, 0, by rw [h0], by omega, fun h => by omega⟩
  · refine ⟨_, cap, rfl, by omega, fun _ => ⟨g, rfl, fun i hi => ?_⟩⟩
    obtain ⟨f0, f1⟩ := flat2_at x.l i hi
    rw [← ht, List.getElem?_take, if_pos (by omega)] at f0 f1
    simp only [Array.getElem?_toList] at f0 f1
    simp [World.cell?, hg, f0, f1]
theorem RCells.cell {w : World} {base r : Nat} {lv : Value} {x : RS} (h : RCells w base r lv x) (o : Nat) : w.cell? ⟨r, o, none⟩ = (rhdr lv x)[o]? := by
  have := h.hdr; unfold World.cell?; simp only; rw [this]; rfl
theorem rlook_drop {l : List (Int × Int)} {k : Nat} {p : Int × Int} (a : Int) (h : l[k]? = some p) : rlook (l.drop k) a = if p.1 = a then p.2 else rlook (l.drop (k + 1)) a := by
  have hk : k < l.length := (List.getElem?_eq_some_iff.1 h).1
  rw [List.drop_eq_getElem_cons hk]
  have : l[k] = p := (List.getElem?_eq_some_iff.1 h).2
  rw [this]; rfl

theorem rpeek_any (w : World) (base r : Nat) (lv : Value) (x : RS) (h : RCells w base r lv x) (a : Int) : Calls Tryz.prog 180 #[.pointer (some ⟨r, 0, none⟩), .int .u64 a] w fun e w' => e = .returned (.int .u64 (rlook x.l a)) ∧ w' = w := by
  obtain ⟨ad, cap, rfl, hm, hc⟩ := h.form
  have c0 : w.cell? ⟨r, 0, none⟩ = some (.slice ad x.l.length cap) := h.cell 0
  unfold maxLen at hm
  clear h
  go_enter Tryz.func180, Tryz.ntmps180
  go_wp2
  go_loop [5] (fun i => ∃ k : Nat, k ≤ x.l.length ∧ i = .int .i64 k ∧ rlook x.l a = rlook (x.l.drop k) a) (fun i => x.l.length - (intOf i).toNat)
  case atStart => exact ⟨0, by omega, rfl, rfl⟩
  case round =>
    obtain ⟨k, hk, rfl, hf⟩ := hrel
    by_cases hlt : k < x.l.length
    · obtain ⟨g, rfl, hcc⟩ := hc (by omega)
      obtain ⟨q0, q1⟩ := hcc k hlt
      rw [rlook_drop a (List.getElem?_eq_getElem hlt)] at hf
      generalize x.l[k] = p at *
      have hlt' : (k : Int) < x.l.length := by omega
      clear hcc hc
      by_cases hpa : p.1 = a
      · have hb : (p.1 == a) = true := beq_iff_eq.2 hpa
        rw [if_pos hpa] at hf
        have HF := Lib.hid hf
        clear hf hpa
        go_wp2
        go_ret
        exact ⟨ret_u64 HF.out.symm, rfl⟩
      · have hb : (p.1 == a) = false := beq_eq_false_iff_ne.2 hpa
        rw [if_neg hpa] at hf
        have HF := Lib.hid hf
        clear hf hpa
        go_wp2
        go_round
        case rel => exact ⟨k + 1, by omega, by go_num, HF.out⟩
        case measure => simp [intOf]; omega
    · obtain rfl : k = x.l.length := by omega
      have HF := Lib.hid hf
      clear hf hc
      go_wp2
      go_ret
      exact ⟨ret_u64 (by rw [HF.out, List.drop_length]; rfl), rfl⟩

theorem own_slice {w : World} {base e size n : Nat} {v : Value} {xs : List Value} (h : w.ownsRow base e size v n xs) : ∃ a m c, v = .slice a m c := by
  obtain ⟨h1, ⟨rfl, h0⟩ | ⟨g, cap, cur, rfl, r⟩⟩ := h
  · exact ⟨_, _, _, rfl⟩
  · exact ⟨_, _, _, rfl⟩
theorem rput_mem {l : List (Int × Int)} {a v : Int} {q : Int × Int} (h : q ∈ rput l a v) : q ∈ l ∨ q = (a, v) := by
  have key : ∀ (l : List (Int × Int)) (o : List (Int × Int) × Bool), ∀ q ∈ (l.foldl (rstep a v) o).1, q ∈ o.1 ∨ q ∈ l ∨ q = (a, v) := by
    intro l
    induction l with
    | nil => intro o q hq; exact .inl hq
    | cons p l ih =>
      intro o q hq
      rcases ih _ q hq with h | h | h
      · unfold rstep at h
        simp only at h
        split at h <;> split at h <;> (try simp only [List.mem_append, List.mem_singleton] at h) <;> grind
      · exact .inr (.inl (by simp [h]))
      · exact .inr (.inr h)
  have h2 := key l ([], v == 0)
  unfold rput rrun at h
  split at h
  · rcases List.mem_append.1 h with h | h
    · rcases h2 q h with h | h
      · simp at h
      · exact h
    · simp only [List.mem_singleton] at h; exact .inr h
  · rcases h2 q h with h | h
    · simp at h
    · exact h
theorem info_rword : (Tryz.prog.info? 221).map (fun i => (i.zero, i.size, i.bytes)) = some (some (.agg #[.int .u64 0, .int .u64 0]), 2, 16) := by kernel_rfl
theorem radd_plain (b off j : Nat) : (Addr.add ⟨b, off, none⟩ j) = ⟨b, off + j, none⟩ := by
  unfold Addr.add; split <;> simp_all
theorem rnews (w : World) (a v : Int) (T : TypeId) : ∀ j u, ([.int .u64 a, .int .u64 v] : List Value)[j]? = some u → (w.alloc (.cells #[.int .u64 a, .int .u64 v] T)).cell? ((⟨w.heap.size, 0, none⟩ : Addr).add j) = some u := by
  intro j u hj
  have hq := heap_alloc_new w (.cells #[.int .u64 a, .int .u64 v] T)
  rw [radd_plain, Nat.zero_add]
  unfold World.cell?; simp only; rw [hq]
  match j, hj with
  | 0, hj => exact hj
  | 1, hj => exact hj
theorem rown_below {w w' : World} {base e size n : Nat} {v : Value} {xs : List Value} (h : w.ownsRow base e size v n xs) (hb : Below w.heap.size w w') : w'.ownsRow base e size v n xs := by
  obtain ⟨h1, h2 | ⟨g, cap, cur, rfl, hb1, hg, r⟩⟩ := h
  · exact ⟨h1, .inl h2⟩
  · exact ⟨h1, .inr ⟨g, cap, cur, rfl, hb1, (hb.block g (Array.getElem?_eq_some_iff.1 hg).1).trans hg, r⟩⟩

set_option maxRecDepth 10000 in
set_option maxHeartbeats 2000000 in
theorem rput_any (w : World) (base r : Nat) (lv : Value) (x : RS) (h : RCells w base r lv x) (hn : x.l.length ≤ 100000) (hbase : base ≤ w.heap.size) (a v : Int) (ha : (Lit.int .u64 a).wf = true) (hv : (Lit.int .u64 v).wf = true) :
    Calls Tryz.prog 178 #[.pointer (some ⟨r, 0, none⟩), .int .u64 a, .int .u64 v] w fun e w' => e = .returned (.tuple #[]) ∧ (∃ lv', RCells w' base r lv' { x with l := rput x.l a v }) ∧ Keeps (· = r) w w' := by
  obtain ⟨ad, cap, rfl, hm, hc⟩ := h.form
  have HH := Lib.hid h; have HA := Lib.hid ha; have HV := Lib.hid hv; have HN := Lib.hid hn
  obtain ⟨i0, hi0, hz0, hz1, hz2⟩ := info_parts info_rword
  have HI := Lib.hid hi0; have HZ0 := Lib.hid hz0; have HZ1 := Lib.hid hz1; have HZ2 := Lib.hid hz2
  have hr : r < w.heap.size := (Array.getElem?_eq_some_iff.1 h.hdr).1
  have c0 : ∀ w', Below w.heap.size w w' → w'.cell? ⟨r, 0, none⟩ = some (.slice ad x.l.length cap) := fun w' hb => (hb.cell (p := ⟨r, 0, none⟩) hr).trans (h.cell 0)
  have HC0 := Lib.hid c0; have HCC := Lib.hid hc
  unfold maxLen at hm
  clear h ha hv hi0 hz0 hz1 hz2 c0 hc hn
  go_enter Tryz.func178, Tryz.ntmps178
  go_wp2
  go_loopw [6, 7, 8] (fun ov dv i wr => ∃ k : Nat, k ≤ x.l.length ∧ i = .int .i64 k ∧ dv = .bool (rrun (x.l.take k) a v).2 ∧ wr.ownsRow w.heap.size 221 2 ov (rrun (x.l.take k) a v).1.length (flat2 (rrun (x.l.take k) a v).1) ∧ Below w.heap.size w wr) (fun _ _ i _ => x.l.length - (intOf i).toNat)
  case atStart => exact ⟨0, by omega, rfl, rfl, World.ownsRow_nil _ _ _ _, Below.refl _ _⟩
  case round =>
    obtain ⟨k, hk, rfl, rfl, hown, hbl⟩ := hrel
    have c0 := HC0.out _ hbl
    have hlen := rrun_len (x.l.take k) a v
    rw [List.length_take] at hlen
    by_cases hlt : k < x.l.length
    · obtain ⟨g, rfl, hcc⟩ := HCC.out (by omega)
      obtain ⟨q0, q1⟩ := hcc k hlt
      have HG : Hid (g < w.heap.size) := World.block_lt_of_cell? _ _ q0
      have HQ0 := Lib.hid q0; have HQ1 := Lib.hid q1
      have q0 := (hbl.cell (p := ⟨g, k * 2, none⟩) (World.block_lt_of_cell? _ _ q0)).trans q0
      have q1 := (hbl.cell (p := ⟨g, k * 2 + 1, none⟩) (World.block_lt_of_cell? _ _ q1)).trans q1
      have hst := rrun_take a v (List.getElem?_eq_getElem hlt)
      generalize x.l[k] = p at *
      obtain ⟨pa, pv⟩ := p
      simp only at q0 q1
      generalize rrun (x.l.take k) a v = o at *
      obtain ⟨out, dn⟩ := o
      simp only at hown hlen
      have hlt' : (k : Int) < x.l.length := by omega
      have HS := Lib.hid hst; have HO := Lib.hid hown; have HB := Lib.hid hbl
      have hol : out.length + 2 ≤ 1000000 := by have := HN.out; omega
      clear hst hown hbl hcc hlen
      cases dn
      · cases h1 : decide (a ≤ pa)
        · have h1x := of_decide_eq_false h1
          cases h2 : (pa != a)
          · have HF : Hid (rstep a v (out, false) (pa, pv) = (out, false)) := by show _ = _; simp [rstep, h1x, h2]
            go_wp2
            go_roundw
            case rel => exact ⟨k + 1, by omega, by go_num, by rw [HS.out, HF.out], by rw [HS.out, HF.out]; exact HO.out, HB.out⟩
            case measure => simp [intOf]; omega
          · have HF : Hid (rstep a v (out, false) (pa, pv) = (out ++ [(pa, pv)], false)) := by show _ = _; simp [rstep, h1x, h2]
            go_wp2_with (at_builtin; refine wpList_append_own _ rfl _ _ 153 rfl w.heap.size 221 i0 (.agg #[.int .u64 0, .int .u64 0]) 2 16 Tryz.underlying153 HI.out HZ0.out HZ1.out HZ2.out rfl (by decide) _ _ _ rfl (HO.out.alloc _) ⟨_, 0, none⟩ 1 1 [.int .u64 pa, .int .u64 pv] rfl rfl (rnews _ pa pv _) ?c2 ?c3 ?c4 ?c5 ?_)
            case c2 => simp [Value.oneCell']
            case c3 => unfold maxLen; first | omega | (simp; omega)
            case c4 => first | omega | (simp; omega)
            case c5 => have := HB.out.size; first | omega | (simp; omega)
            intro v' w2 hown' hgrow _
            go_wp2
            go_roundw
            case rel =>
              refine ⟨k + 1, by omega, by go_num, by rw [HS.out, HF.out], ?_, (HB.out.alloc HB.out.size _).grown hgrow (by simp; have := HB.out.size; omega) (fun j hj => (HO.out.lt j hj).1)⟩
              rw [HS.out, HF.out]; rw [flat2_snoc, show (out ++ [(pa, pv)]).length = out.length + 1 by simp]; exact hown'
            case measure => simp [intOf]; omega
        · have h1x := of_decide_eq_true h1
          go_wp2_with (at_builtin; refine wpList_append_own _ rfl _ _ 153 rfl w.heap.size 221 i0 (.agg #[.int .u64 0, .int .u64 0]) 2 16 Tryz.underlying153 HI.out HZ0.out HZ1.out HZ2.out rfl (by decide) _ _ _ rfl (HO.out.alloc _) ⟨_, 0, none⟩ 1 1 [.int .u64 a, .int .u64 v] rfl rfl (rnews _ a v _) ?c2 ?c3 ?c4 ?c5 ?_)
          case c2 => simp [Value.oneCell']
          case c3 => unfold maxLen; omega
          case c4 => omega
          case c5 => have := HB.out.size; first | omega | (simp; omega)
          intro v1 w1 hown1 hgrow1 _
          have hb1 : Below w.heap.size w w1 := (HB.out.alloc HB.out.size _).grown hgrow1 (by simp; have := HB.out.size; omega) (fun j hj => (HO.out.lt j hj).1)
          have c0 := HC0.out _ hb1
          have HO1 : Hid (w1.ownsRow w.heap.size 221 2 v1 (out ++ [(a, v)]).length (flat2 (out ++ [(a, v)]))) := by show w1.ownsRow _ _ _ _ _ _; simpa [flat2_snoc] using hown1
          have q0 := (hb1.cell (p := ⟨g, k * 2, none⟩) HG.out).trans HQ0.out
          have q1 := (hb1.cell (p := ⟨g, k * 2 + 1, none⟩) HG.out).trans HQ1.out
          have HB1 := Lib.hid hb1
          clear hown1 hgrow1 hb1
          cases h2 : (pa != a)
          · have HF : Hid (rstep a v (out, false) (pa, pv) = (out ++ [(a, v)], true)) := by show _ = _; simp [rstep, h1x, h2]
            go_wp2
            go_roundw
            case rel => exact ⟨k + 1, by omega, by go_num, by rw [HS.out, HF.out], by rw [HS.out, HF.out]; exact HO1.out, HB1.out⟩
            case measure => simp [intOf]; omega
          · have HF : Hid (rstep a v (out, false) (pa, pv) = (out ++ [(a, v)] ++ [(pa, pv)], true)) := by show _ = _; simp [rstep, h1x, h2]
            go_wp2_with (at_builtin; refine wpList_append_own _ rfl _ _ 153 rfl w.heap.size 221 i0 (.agg #[.int .u64 0, .int .u64 0]) 2 16 Tryz.underlying153 HI.out HZ0.out HZ1.out HZ2.out rfl (by decide) _ _ _ rfl (HO1.out.alloc _) ⟨_, 0, none⟩ 1 1 [.int .u64 pa, .int .u64 pv] rfl rfl (rnews _ pa pv _) ?c2 ?c3 ?c4 ?c5 ?_)
            case c2 => simp [Value.oneCell']
            case c3 => unfold maxLen; first | omega | (simp; omega)
            case c4 => first | omega | (simp; omega)
            case c5 => have := HB1.out.size; first | omega | (simp; omega)
            intro v' w2 hown' hgrow _
            go_wp2
            go_roundw
            case rel =>
              refine ⟨k + 1, by omega, by go_num, by rw [HS.out, HF.out], ?_, (HB1.out.alloc HB1.out.size _).grown hgrow (by simp; have := HB1.out.size; omega) (fun j hj => (HO1.out.lt j hj).1)⟩
              rw [HS.out, HF.out]; rw [flat2_snoc, show (out ++ [(a, v)] ++ [(pa, pv)]).length = out.length + 1 + 1 by simp]; exact hown'
            case measure => simp [intOf]; omega
      · cases h2 : (pa != a)
        · have HF : Hid (rstep a v (out, true) (pa, pv) = (out, true)) := by show _ = _; simp [rstep, h2]
          go_wp2
          go_roundw
          case rel => exact ⟨k + 1, by omega, by go_num, by rw [HS.out, HF.out], by rw [HS.out, HF.out]; exact HO.out, HB.out⟩
          case measure => simp [intOf]; omega
        · have HF : Hid (rstep a v (out, true) (pa, pv) = (out ++ [(pa, pv)], true)) := by show _ = _; simp [rstep, h2]
          go_wp2_with (at_builtin; refine wpList_append_own _ rfl _ _ 153 rfl w.heap.size 221 i0 (.agg #[.int .u64 0, .int .u64 0]) 2 16 Tryz.underlying153 HI.out HZ0.out HZ1.out HZ2.out rfl (by decide) _ _ _ rfl (HO.out.alloc _) ⟨_, 0, none⟩ 1 1 [.int .u64 pa, .int .u64 pv] rfl rfl (rnews _ pa pv _) ?c2 ?c3 ?c4 ?c5 ?_)
          case c2 => simp [Value.oneCell']
          case c3 => unfold maxLen; first | omega | (simp; omega)
          case c4 => first | omega | (simp; omega)
          case c5 => have := HB.out.size; first | omega | (simp; omega)
          intro v' w2 hown' hgrow _
          go_wp2
          go_roundw
          case rel =>
            refine ⟨k + 1, by omega, by go_num, by rw [HS.out, HF.out], ?_, (HB.out.alloc HB.out.size _).grown hgrow (by simp; have := HB.out.size; omega) (fun j hj => (HO.out.lt j hj).1)⟩
            rw [HS.out, HF.out]; rw [flat2_snoc, show (out ++ [(pa, pv)]).length = out.length + 1 by simp]; exact hown'
          case measure => simp [intOf]; omega
    · obtain rfl : k = x.l.length := by omega
      rw [List.take_length] at hown ⊢
      have hR : RCells w base r (.slice ad x.l.length cap) x := HH.out
      have HO := Lib.hid hown; have HB := Lib.hid hbl
      have hrp : rput x.l a v = if (!(rrun x.l a v).2) = true then (rrun x.l a v).1 ++ [(a, v)] else (rrun x.l a v).1 := rfl
      have hlr := rrun_len x.l a v
      have HRP := Lib.hid hrp
      generalize rrun x.l a v = o at *
      obtain ⟨out, dn⟩ := o
      have hol : out.length + 2 ≤ 1000000 := by have := HN.out; simp only at hlr; omega
      clear hown hbl hR hrp hlen hlr
      have key : ∀ (W : World) (ov : Value), W.ownsRow w.heap.size 221 2 ov (rput x.l a v).length (flat2 (rput x.l a v)) → Below w.heap.size w W →
          (∃ lv', RCells (W.setCell ⟨r, 0, none⟩ ov) base r lv' { x with l := rput x.l a v }) ∧ Keeps (· = r) w (W.setCell ⟨r, 0, none⟩ ov) := fun W ov ho hb => by
        have hd : W.heap[r]? = some (.cells (rhdr (.slice ad x.l.length cap) x) 155 (0, 0)) := (hb.block r hr).trans HH.out.hdr
        refine ⟨⟨ov, setCell_same hd 0 ov, HH.out.lo, ?_, fun p hp => ?_⟩, ((below_keeps hb _).again (setCell_keeps _ _ _ _))⟩
        · obtain ⟨h1, h2 | ⟨g, cp, cur, rfl, h3, h4, h5⟩⟩ := ho
          · exact ⟨h1, .inl h2⟩
          · exact ⟨h1, .inr ⟨g, cp, cur, rfl, Nat.le_trans hbase h3, (Below.heap_setCell _ _ _ _ (by simp; omega)).trans h4, h5⟩⟩
        · rcases rput_mem hp with hp | hp
          · exact HH.out.wf p hp
          · rw [hp]; exact ⟨HA.out, HV.out⟩
      have HK := Lib.hid key
      clear key
      have f0 : ∀ W, Below w.heap.size w W → W.frozen? ⟨r, 0, none⟩ = false := fun W hb => by
        have hd : W.heap[r]? = some (.cells (rhdr (.slice ad x.l.length cap) x) 155 (0, 0)) := (hb.block r hr).trans HH.out.hdr
        simp [World.frozen?, hd]
      cases dn
      · have HF : Hid (rput x.l a v = out ++ [(a, v)]) := HRP.out
        have HFF := Lib.hid f0
        clear f0
        go_wp2_with (at_builtin; refine wpList_append_own _ rfl _ _ 153 rfl w.heap.size 221 i0 (.agg #[.int .u64 0, .int .u64 0]) 2 16 Tryz.underlying153 HI.out HZ0.out HZ1.out HZ2.out rfl (by decide) _ _ _ rfl (HO.out.alloc _) ⟨_, 0, none⟩ 1 1 [.int .u64 a, .int .u64 v] rfl rfl (rnews _ a v _) ?c2 ?c3 ?c4 ?c5 ?_)
        case c2 => simp [Value.oneCell']
        case c3 => unfold maxLen; omega
        case c4 => omega
        case c5 => have := HB.out.size; first | omega | (simp; omega)
        intro v1 w1 hown1 hgrow1 _
        have hb1 : Below w.heap.size w w1 := (HB.out.alloc HB.out.size _).grown hgrow1 (by simp; have := HB.out.size; omega) (fun j hj => (HO.out.lt j hj).1)
        obtain ⟨sa, sn, sc, rfl⟩ := own_slice hown1
        have hk := HK.out w1 _ (by rw [HF.out, flat2_snoc, List.length_append]; exact hown1) hb1
        have f1 := HFF.out _ hb1
        have c1 := HC0.out _ hb1
        have HKK := Lib.hid hk
        clear hk hown1 hgrow1 hb1
        go_wp2
        go_end0
        exact ⟨rfl, HKK.out⟩
      · have HF : Hid (rput x.l a v = out) := HRP.out
        obtain ⟨sa, sn, sc, hsl⟩ := own_slice HO.out
        subst hsl
        have hk := HK.out wr _ (by rw [HF.out]; exact HO.out) HB.out
        have f1 := f0 _ HB.out
        have HKK := Lib.hid hk
        clear hk f0
        go_wp2
        go_end0
        exact ⟨rfl, HKK.out⟩

/-- What an access leaves. -/
def RS.acc (x : RS) (k a i : Int) : RS := ⟨rput x.l a i, x.cnt + 1, k, a, rlook x.l a, i⟩
theorem RCells.keep {w w' : World} {base r : Nat} {lv : Value} {x : RS} (h : RCells w base r lv x) (hb : Below w.heap.size w w') : RCells w' base r lv x :=
  ⟨(hb.block r (Array.getElem?_eq_some_iff.1 h.hdr).1).trans h.hdr, h.lo, rown_below h.row hb, h.wf⟩
theorem RCells.five {w : World} {base r : Nat} {lv : Value} {x : RS} (h : RCells w base r lv x) (n : Nat) (k a s i : Int) (h2 : ∀ g, lv.ownBlock = some g → g ≠ r) :
    RCells (((((w.setCell ⟨r, 1, none⟩ (.int .i64 (n : Int))).setCell ⟨r, 2, none⟩ (.int .u8 k)).setCell ⟨r, 3, none⟩ (.int .u64 a)).setCell ⟨r, 4, none⟩ (.int .u64 s)).setCell ⟨r, 5, none⟩ (.int .u64 i)) base r lv ⟨x.l, n, k, a, s, i⟩ := by
  refine ⟨setCell_same (setCell_same (setCell_same (setCell_same (setCell_same h.hdr 1 _) 2 _) 3 _) 4 _) 5 _, h.lo, ?_, h.wf⟩
  obtain ⟨h1, h3 | ⟨g, cap, cur, rfl, hb, hg, r3⟩⟩ := h.row
  · exact ⟨h1, .inl h3⟩
  · have hne := h2 g rfl
    refine ⟨h1, .inr ⟨g, cap, cur, rfl, hb, ?_, r3⟩⟩
    rw [Below.heap_setCell _ _ _ _ hne, Below.heap_setCell _ _ _ _ hne, Below.heap_setCell _ _ _ _ hne, Below.heap_setCell _ _ _ _ hne, Below.heap_setCell _ _ _ _ hne]; exact hg
theorem RCells.apart {w : World} {base r : Nat} {lv : Value} {x : RS} (h : RCells w base r lv x) : ∀ g, lv.ownBlock = some g → g ≠ r := by
  intro g hg c
  obtain ⟨h1, ⟨rfl, h3⟩ | ⟨g', cap, cur, rfl, hb, hgg, r3⟩⟩ := h.row
  · simp [Value.ownBlock] at hg
  · simp only [Value.ownBlock, Option.some.injEq] at hg
    subst hg; subst c
    have := hgg.symm.trans h.hdr; simp only [Option.some.injEq, Obj.cells.injEq] at this; exact absurd this.2.1 (by decide)

set_option maxRecDepth 10000 in
theorem racc_any (w : World) (base r : Nat) (lv : Value) (x : RS) (h : RCells w base r lv x) (hn : x.l.length ≤ 100000) (hc : x.cnt ≤ 1000000) (hbase : base ≤ w.heap.size) (k a i : Int) (ha : (Lit.int .u64 a).wf = true) (hi : (Lit.int .u64 i).wf = true) :
    Calls Tryz.prog 181 #[.pointer (some ⟨r, 0, none⟩), .int .u8 k, .int .u64 a, .int .u64 i] w fun e w' => e = .returned (.int .u64 (rlook x.l a)) ∧ (∃ lv', RCells w' base r lv' (x.acc k a i)) ∧ Keeps (· = r) w w' := by
  have hp := rpeek_any w base r lv x h a
  have hq := rput_any w base r lv x h hn hbase a i ha hi
  have e1 : wrap64 ((x.cnt : Int) + 1) = (x.cnt : Int) + 1 := IntWalk.wrap64_in _ (by omega)
  clear h ha hi
  go_enter Tryz.func181, Tryz.ntmps181
  go_wp2_with (first
    | (go_at_call 180; refine hp.mono ?_; rintro e w1 ⟨rfl, hw⟩; obtain rfl := hw.symm; clear hp)
    | (go_at_call 178; refine hq.mono ?_; rintro e w1 ⟨rfl, ⟨lv1, h1⟩, hk⟩; have c1 := h1.cell 1; have c2 := h1.cell 2; have c3 := h1.cell 3; have c4 := h1.cell 4; have c5 := h1.cell 5; have f1 : ∀ o, w1.frozen? ⟨r, o, none⟩ = false := (fun o => by have := h1.hdr; simp [World.frozen?, this]); simp only [rhdr] at c1 c2 c3 c4 c5; have H1 := Lib.hid h1; have HK := Lib.hid hk; clear h1 hk hq))
  go_ret
  exact ⟨rfl, ⟨lv1, H1.out.five (x.cnt + 1) k a _ i H1.out.apart⟩, ((((HK.out.again (setCell_keeps _ _ _ _)).again (setCell_keeps _ _ _ _)).again (setCell_keeps _ _ _ _)).again (setCell_keeps _ _ _ _)).again (setCell_keeps _ _ _ _)⟩
end Go.Proofs.YtmakjfeepmiggaaGreat
