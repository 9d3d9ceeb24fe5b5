import Derived.Test.YtmakjfeepmiggaaGreatZ16
namespace Go.Proofs.YtmakjfeepmiggaaGreat
open Go.RowKit Go.Maps Go.Sort Go.Shelf
set_option linter.unusedVariables false
def encS (bits : Int) (p : Int × Int) : List Value := [.int .i64 bits, .int .i64 p.1, .int .i64 p.2]
theorem flatS_snoc (bits : Int) (l : List (Int × Int)) (p : Int × Int) : flatS bits (l ++ [p]) = flatS bits l ++ [.int .i64 bits, .int .i64 p.1, .int .i64 p.2] := by simp [flatS]
theorem flatS_at (bits : Int) (l : List (Int × Int)) (k : Nat) (hk : k < l.length) (j : Nat) (hj : j < 3) : (flatS bits l)[k * 3 + j]? = (encS bits l[k])[j]? := by
  induction l generalizing k with
  | nil => simp at hk
  | cons x r ih =>
    have e : flatS bits (x :: r) = encS bits x ++ flatS bits r := rfl
    rw [e]
    match k with
    | 0 =>
      rw [List.getElem?_append_left (by simp [encS]; omega)]
      simp
    | k + 1 =>
      rw [List.getElem?_append_right (by simp [encS]; omega)]
      have := ih k (by simp at hk; omega)
      simp only [List.getElem_cons_succ]
      rw [← this]
      congr 1
      simp [encS]; omega
def SpN (w : World) (base : Nat) (v : Value) (bits : Int) (l : List (Int × Int)) : Prop :=
  (v = .slice none 0 0 ∧ l = []) ∨ ∃ g cur, v = .slice (some ⟨g, 0, none⟩) l.length l.length ∧ base ≤ g ∧ w.heap[g]? = some (.cells cur 71 (0, 0)) ∧ l.length ≤ maxLen ∧ cur.toList.take (l.length * 3) = flatS bits l
section
variable {w w' : World} {base : Nat} {v : Value} {bits : Int} {l : List (Int × Int)}
theorem SpN.fr {K : TypeId → Bool} {mp : Bool} (h : SpN w base v bits l) (hf : Fr K mp w w') (hK : K 71 = false) : SpN w' base v bits l := by
  rcases h with h | ⟨g, cur, h1, h2, h3, h4⟩
  · exact .inl h
  · exact .inr ⟨g, cur, h1, h2, hf.cells _ _ _ _ h3 hK, h4⟩
theorem SpN.below (h : SpN w base v bits l) (hb : Below w.heap.size w w') : SpN w' base v bits l := h.fr (below_fr hb (fun _ => false) false) rfl
theorem SpN.mono {b : Nat} (h : SpN w b v bits l) (hb : base ≤ b) : SpN w base v bits l := by
  rcases h with h | ⟨g, cur, h1, h2, h3⟩
  · exact .inl h
  · exact .inr ⟨g, cur, h1, Nat.le_trans hb h2, h3⟩
theorem SpN.sl (h : SpN w base v bits l) : ∃ a, v = .slice a l.length l.length ∧ l.length ≤ maxLen := by
  rcases h with ⟨rfl, rfl⟩ | ⟨g, cur, rfl, -, -, h4, -⟩
  · exact ⟨none, rfl, Nat.zero_le _⟩
  · exact ⟨_, rfl, h4⟩
theorem SpN.at (h : SpN w base v bits l) (k : Nat) (hk : k < l.length) : ∃ g, v = .slice (some ⟨g, 0, none⟩) l.length l.length ∧ base ≤ g ∧ g < w.heap.size ∧ w.cell? ⟨g, k * 3, none⟩ = some (.int .i64 bits) ∧ w.cell? ⟨g, k * 3 + 1, none⟩ = some (.int .i64 (l[k]).1) ∧ w.cell? ⟨g, k * 3 + 2, none⟩ = some (.int .i64 (l[k]).2) ∧ ∀ o, w.frozen? ⟨g, o, none⟩ = false := by
  rcases h with ⟨-, rfl⟩ | ⟨g, cur, hv, hb, hg, hm, ht⟩
  · simp at hk
  · have hj : ∀ j, j < 3 → w.cell? ⟨g, k * 3 + j, none⟩ = (encS bits l[k])[j]? := fun j hj => by
      rw [← flatS_at bits l k hk j hj, ← ht, List.getElem?_take, if_pos (by omega), hcell hg]
      simp
    exact ⟨g, hv, hb, (Array.getElem?_eq_some_iff.1 hg).1, hj 0 (by omega), hj 1 (by omega), hj 2 (by omega), fun o => hfrz hg o⟩
end
theorem info_spot3 : (Tryz.prog.info? 71).map (fun i => (i.zero, i.size, i.bytes)) = some (some (.agg #[.int .i64 0, .int .i64 0, .int .i64 0]), 3, 24) := by kernel_rfl
theorem sclip_any {w : World} {base : Nat} {v : Value} {bits : Int} {l : List (Int × Int)} (h : w.ownsRow base 71 3 v l.length (flatS bits l)) : Calls Tryz.prog 118 #[v] w fun e w' => ∃ v', e = .returned v' ∧ SpN w base v' bits l ∧ w' = w := by
  obtain ⟨h1, ⟨rfl, h0⟩ | ⟨g, cap, cur, rfl, hb, hg, hn, hm, hs, ht⟩⟩ := h
  · have : l = [] := List.length_eq_zero_iff.1 h0
    subst this
    clear h1 h0
    go_enter Tryz.func118, Tryz.ntmps118
    go_wp2
    go_ret
    exact ⟨_, rfl, .inl ⟨rfl, rfl⟩, rfl⟩
  · have hm2 := Nat.le_trans hn hm
    have H : Hid (SpN w base (.slice (some ⟨g, 0, none⟩) l.length l.length) bits l) := .inr ⟨g, cur, rfl, hb, hg, hm2, ht⟩
    unfold maxLen at hm hm2
    clear h1 hb hg hs ht
    go_enter Tryz.func118, Tryz.ntmps118
    go_wp2
    go_ret
    exact ⟨_, rfl, H.out, rfl⟩
theorem flatS_one (bits : Int) (l : List (Int × Int)) : ∀ u ∈ flatS bits l, u.oneCell' = true := by
  intro u hu
  obtain ⟨p, _, hp⟩ := List.mem_flatMap.1 hu
  simp at hp
  rcases hp with rfl | rfl | rfl <;> rfl
set_option maxRecDepth 10000 in
theorem sclone_any {w : World} {base : Nat} {v : Value} {bits : Int} {l : List (Int × Int)} (h : w.ownsRow base 71 3 v l.length (flatS bits l)) (hl : l.length ≤ 100000) : Calls Tryz.prog 119 #[v] w fun e w' => ∃ v', e = .returned v' ∧ w'.ownsRow w.heap.size 71 3 v' l.length (flatS bits l) ∧ Below w.heap.size w w' := by
  obtain ⟨i0, hi0, hz0, hz1, hz2⟩ := info_parts info_spot3
  have HI := Lib.hid hi0; have HZ0 := Lib.hid hz0; have HZ1 := Lib.hid hz1; have HZ2 := Lib.hid hz2
  clear hi0 hz0 hz1 hz2
  obtain ⟨h1, ⟨rfl, h0⟩ | ⟨g, cap, cur, rfl, hb, hg, hn, hm, hs, ht⟩⟩ := h
  · have : l = [] := List.length_eq_zero_iff.1 h0
    subst this
    clear h1 h0 hl
    have q22 : ∀ (w : World) (a : Option Addr) (n c n' c' : Nat), (binOp .eql 54 (.slice a n c) (.slice none n' c')).run Tryz.prog w = .ok (.bool a.isNone) w := fun w a n c n' c' => Go.Lib.run_eql_slice_nil w _ _ a n c n' c' Tryz.underlying54
    go_enter Tryz.func119, Tryz.ntmps119
    go_wp2
    go_ret
    exact ⟨_, rfl, World.ownsRow_nil _ _ _ _, Below.refl _ _⟩
  · have hcs : ∀ j u, (flatS bits l)[j]? = some u → w.cell? ⟨g, j, none⟩ = some u := fun j u hj => by
      have hj2 : j < (flatS bits l).length := (List.getElem?_eq_some_iff.1 hj).1
      rw [flatS_len] at hj2
      rw [← ht, List.getElem?_take, if_pos hj2] at hj
      rw [hcell hg, ← hj]; simp
    have hglt := (Array.getElem?_eq_some_iff.1 hg).1
    have HC := Lib.hid hcs; have HL := Lib.hid hl; have HG := Lib.hid hglt
    clear h1 hb hg hn hs ht hcs hl hm hglt
    have q22 : ∀ (w : World) (a : Option Addr) (n c n' c' : Nat), (binOp .eql 54 (.slice a n c) (.slice none n' c')).run Tryz.prog w = .ok (.bool a.isNone) w := fun w a n c n' c' => Go.Lib.run_eql_slice_nil w _ _ a n c n' c' Tryz.underlying54
    go_enter Tryz.func119, Tryz.ntmps119
    go_wp2_with (at_builtin; refine wpList_append_own _ rfl _ _ 54 rfl w.heap.size 71 i0 (.agg #[.int .i64 0, .int .i64 0, .int .i64 0]) 3 24 Tryz.underlying54 HI.out HZ0.out HZ1.out HZ2.out rfl (by decide) _ _ _ rfl (World.ownsRow_made w #[] 0 (Nat.le_refl _) (Nat.zero_le _) (by simp)) ⟨g, 0, none⟩ l.length cap (flatS bits l) rfl ?c1 ?c2 ?c3 ?c4 ?c5 ?c6 ?_)
    case c1 => exact flatS_len _ _
    case c2 =>
      intro j u hj
      have ea : (⟨g, 0, none⟩ : Addr).add j = ⟨g, 0 + j, none⟩ := by simp [Addr.add]; omega
      rw [ea]
      rw [World.cell?_alloc_past _ _ _ (show g < _ from HG.out), Nat.zero_add]
      exact HC.out j u hj
    case c3 => exact flatS_one bits l
    case c4 => have := HL.out; unfold maxLen; omega
    case c5 => have := HL.out; omega
    case c6 => simp
    intro v' w2 hown hgr _
    have hb1 := below_alloc w (.cells #[] 71)
    have hB : Below w.heap.size w w2 := ((Below.refl w.heap.size w).trans hb1).grown hgr (by simp) (fun k hk => by simp [Value.ownBlock] at hk; omega)
    have HO := Lib.hid hown; have HB := Lib.hid hB
    clear hown hgr hb1 hB
    go_wp2
    go_ret
    have := HO.out
    first
      | exact ⟨_, rfl, this, HB.out⟩
      | (simp only [Nat.zero_add, List.nil_append] at this; exact ⟨_, rfl, this, HB.out⟩)
theorem holds_flatS {w : World} {g e : Nat} {cur : Array Value} (hg : w.heap[g]? = some (.cells cur e (0, 0))) (bits : Int) (l : List (Int × Int)) (ht : cur.toList.take (l.length * 3) = flatS bits l) : HoldsK (encS bits) 3 w g 0 l.toArray := by
  intro j hj
  rw [size_flatK] at hj
  have hj2 : j < l.length * 3 := by simpa using hj
  have hi : j / 3 < l.length := by omega
  have hc : cur[j]? = (flatS bits l)[j]? := by rw [← ht, List.getElem?_take_of_lt hj2]; simp
  have hw : w.cell? ⟨g, 0 + j, none⟩ = cur[j]? := by simp [World.cell?, hg]
  refine ⟨?_, by simp [World.frozen?, hg]⟩
  rw [get_flatK _ _ _ _ hj, hw, hc]
  have hf := flatS_at bits l (j / 3) hi (j % 3) (by omega)
  rw [show j / 3 * 3 + j % 3 = j by omega] at hf
  rw [hf]
  have hlt : j % 3 < (encS bits l[j / 3]).length := by show j % 3 < 3; omega
  rw [List.getElem?_eq_getElem hlt]
  rw [show l.toArray[j / 3]! = l[j / 3] by simp [hi], id, getElem!_pos (encS bits l[j / 3]) _ hlt]
theorem flatK_list (bits : Int) (l : List (Int × Int)) : (flatK (encS bits) 3 l.toArray).toList = flatS bits l := by
  refine List.ext_getElem? fun j => ?_
  by_cases hj : j < l.length * 3
  · have hi : j / 3 < l.length := by omega
    have hf := flatS_at bits l (j / 3) hi (j % 3) (by omega)
    rw [show j / 3 * 3 + j % 3 = j by omega] at hf
    have hlt : j % 3 < (encS bits l[j / 3]).length := by show j % 3 < 3; omega
    have hj2 : j < l.toArray.size * 3 := by simpa using hj
    have hg := get_flatK (encS bits) 3 l.toArray j hj2
    rw [show l.toArray[j / 3]! = l[j / 3] by simp [hi], getElem!_pos (encS bits l[j / 3]) _ hlt, getElem!_pos _ j (by rw [size_flatK]; exact hj2)] at hg
    rw [hf, List.getElem?_eq_getElem hlt, Array.getElem?_toList, Array.getElem?_eq_getElem (by rw [size_flatK]; exact hj2), hg]
  · rw [List.getElem?_eq_none (by rw [Array.length_toList, size_flatK]; simp; omega), List.getElem?_eq_none (by rw [flatS_len]; omega)]
theorem srev_any {w : World} {base : Nat} {v : Value} {bits : Int} {l : List (Int × Int)} (h : w.ownsRow base 71 3 v l.length (flatS bits l)) (hl : l.length ≤ 100000) : Calls Tryz.prog 137 #[v] w fun e w' => e = .returned (.tuple #[]) ∧ w'.ownsRow base 71 3 v l.reverse.length (flatS bits l.reverse) ∧ Keeps (fun k => v.ownBlock = some k) w w' := by
  obtain ⟨h1, ⟨rfl, h0⟩ | ⟨g, cap, cur, rfl, hb, hg, hn, hm, hs, ht⟩⟩ := h
  · have : l = [] := List.length_eq_zero_iff.1 h0
    subst this
    exact (@AnyQ.slices_Reverse_empty _ _ revS none 0 w).mono fun e w' ⟨a, b⟩ => ⟨a, by rw [b]; exact World.ownsRow_nil _ _ _ _, by rw [b]; exact below_keeps (Below.refl _ _) _⟩
  · have hH := holds_flatS hg bits l ht
    have := AnyQ.slices_Reverse revS 3 Tryz.isAgg71 Tryz.sizeOf71 (encS bits) (fun _ => rfl) (fun x v hv => by simp [encS] at hv; rcases hv with rfl | rfl | rfl <;> rfl) g 0 cap l.toArray w hH (by simp; omega)
    refine Calls.mono (show Calls Tryz.prog 137 #[.slice (some ⟨g, 0, none⟩) l.length cap] w _ from this) fun e w' hh => ?_
    obtain ⟨he, n, rfl⟩ := hh
    have hk : Keeps (fun k => (Value.slice (some ⟨g, 0, none⟩) l.length cap).ownBlock = some k) w (putRowK (encS bits) 3 (Sort.ahead w n) g 0 l.toArray.reverse) := by
      refine ⟨rfl, rfl, rfl, by simp [putRowK, putRow, mapBlock, Sort.ahead], fun k hk hne => ?_⟩
      have hne : ¬ g = k := fun c => hne (by subst c; rfl)
      simp [putRowK, putRow, mapBlock, Sort.ahead, Array.getElem?_modify, hne]
    have hh : (putRowK (encS bits) 3 (Sort.ahead w n) g 0 l.toArray.reverse).heap[g]? = some (.cells (putCells id 0 (flatK (encS bits) 3 l.toArray.reverse) cur) 71 (0, 0)) := by
      simp [putRowK, putRow, mapBlock, Sort.ahead, Array.getElem?_modify, hg, onCells]
    refine ⟨he, ⟨flatS_len _ _, .inr ⟨g, cap, _, by rw [List.length_reverse], hb, hh, by rw [List.length_reverse]; exact hn, hm, by rw [← hs]; simp [putCells], ?_⟩⟩, hk⟩
    have e2 : l.toArray.reverse = l.reverse.toArray := by simp
    rw [e2, ← flatK_list bits l.reverse]
    refine List.ext_getElem? fun j => ?_
    have hsz : (flatK (encS bits) 3 l.reverse.toArray).size = l.length * 3 := by rw [size_flatK]; simp
    have hcap : l.length * 3 ≤ cur.size := by rw [hs]; exact Nat.mul_le_mul_right 3 hn
    by_cases hj : j < l.length * 3
    · rw [List.getElem?_take, if_pos (by rw [List.length_reverse]; exact hj), Array.getElem?_toList, Array.getElem?_toList]
      simp only [putCells, Array.getElem?_mapIdx]
      rw [Array.getElem?_eq_getElem (show j < cur.size by omega)]
      simp only [Option.map_some]
      rw [if_pos (by rw [hsz]; omega), Array.getElem?_eq_getElem (by rw [hsz]; exact hj)]
      simp only [id, Nat.sub_zero]
      rw [getElem!_pos _ j (by rw [hsz]; exact hj)]
    · rw [List.getElem?_eq_none (by rw [List.length_take, List.length_reverse]; omega), List.getElem?_eq_none (by rw [Array.length_toList, hsz]; omega)]
theorem wgot {w : World} {lo xb : Nat} {x : WY} (h : WayAt w lo xb x) (hl : x.way.length ≤ 100000) : Calls Tryz.prog 40 #[.pointer (some ⟨xb, 0, none⟩)] w fun e w' => ∃ v, e = .returned v ∧ SpN w' w.heap.size v x.bits x.way ∧ Below w.heap.size w w' := by
  obtain ⟨_, ⟨vb, vw, h1, -, h3, -⟩, -⟩ := h
  have hc := sclone_any h3 hl
  obtain ⟨-, -, -, -, -, c5, -, -⟩ := wy_cells h1
  clear h1 h3 hl
  go_enter Tryz.func40, Tryz.ntmps40
  go_wp2_with (first
    | (go_at_call 119; refine hc.mono ?_; intro e w2 hh; obtain ⟨v2, hh1, o2, b2⟩ := hh; subst hh1; have hcl := sclip_any o2; have B2 := Lib.hid b2; clear o2 b2 hc c5)
    | (go_at_call 118; refine hcl.mono ?_; intro e w3 hh; obtain ⟨v3, hh1, o3, hw⟩ := hh; subst hh1; obtain rfl := hw.symm; have O3 := Lib.hid o3; clear o3 hcl))
  go_ret
  exact ⟨_, rfl, O3.out, B2.out⟩
end Go.Proofs.YtmakjfeepmiggaaGreat