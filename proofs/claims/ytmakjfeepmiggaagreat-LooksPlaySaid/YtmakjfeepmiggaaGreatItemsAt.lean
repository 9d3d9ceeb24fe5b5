/-
  Package items at the level of arenas: Add, At, Count, New.
-/
import Derived.Test.YtmakjfeepmiggaaGreatItemsAdd
namespace Go.Proofs.YtmakjfeepmiggaaGreat
open Go.RowKit
set_option linter.unusedVariables false

theorem arena_row {w : World} {base b cap : Nat} {ao : Option Addr} {ps : List Nat} {l : List Itm} (h : ArenaAt w base b ao cap ps l) (j : Nat) (hj : j < ps.length) :
    ∃ g, ao = some ⟨g, 0, none⟩ ∧ w.cell? ⟨g, j, none⟩ = some (.pointer (some ⟨ps[j], 0, none⟩)) := by
  rcases h.own.2 with ⟨hn, h0⟩ | ⟨g, c, cur, hv, hg, hh, hnc, hcm, hcs, ht⟩
  · omega
  · simp only [Value.slice.injEq] at hv
    refine ⟨g, hv.1, ?_⟩
    have e1 : ((ps.map fun p => Value.pointer (some ⟨p, 0, none⟩)))[j]? = some (.pointer (some ⟨ps[j], 0, none⟩)) := by simp [hj]
    rw [← ht, List.getElem?_take, if_pos (by omega)] at e1
    simpa [World.cell?, hh] using e1

theorem iadd_any (x : Itm) (base b : Nat) (l : List Itm) (S : Nat → Prop) (w : World) (h : Arena w base b l S) (hbase : base ≤ w.heap.size) (hl : l.length < 1048576) :
    Calls Tryz.prog 79 #[.pointer (some ⟨b, 0, none⟩), .agg x.cells.toArray] w fun e w' => e = .returned (.tuple #[.int .i64 (l.length + 1 : Nat), .int .i64 0]) ∧
      ∃ S', Arena w' base b (l ++ [x]) S' ∧ Keeps S w w' ∧ ∀ k, S' k → S k ∨ w.heap.size ≤ k := by
  obtain ⟨ao, cap, ps, h, rfl⟩ := h
  by_cases hg : l.length = 64 * ps.length
  · refine (add_grow x b base l.length ao cap ps w hg h.hdr (by omega) h.own hbase h.no).mono ?_
    rintro e w' ⟨g, cap', p, cs, rfl, hk, hdr, hblk, hcs, hp, hat, hown⟩
    have hpn : ∀ q ∈ ps, q < w.heap.size := by
      intro q hq
      obtain ⟨j, hj, rfl⟩ := List.mem_iff_getElem.1 hq
      obtain ⟨c, h1, _⟩ := h.blk j hj
      exact (Array.getElem?_eq_some_iff.1 h1).1
    have hbn : b < w.heap.size := (Array.getElem?_eq_some_iff.1 h.hdr).1
    refine ⟨rfl, arenaFp b (some ⟨g, 0, none⟩) (ps ++ [p]), ⟨some ⟨g, 0, none⟩, cap', ps ++ [p], ⟨?_, ?_, h.lo, ?_, ?_, ?_, ?_, ?_, ?_, ?_, ?_⟩, rfl⟩, ?_, ?_⟩
    · simpa using hdr
    · simpa using hown
    · intro q hq
      simp only [List.mem_append, List.mem_singleton] at hq
      rcases hq with hq | rfl
      · exact h.los q hq
      · omega
    · simp; omega
    · simp; omega
    · intro j hj
      simp only [List.length_append, List.length_singleton] at hj
      by_cases hj2 : j < ps.length
      · obtain ⟨c, h1, h2, h3⟩ := h.blk j hj2
        refine ⟨c, ?_, h2, fun i hi hil f hf => ?_⟩
        · rw [List.getElem_append_left hj2, hk.block _ (hpn _ (List.getElem_mem hj2)) (fun c => ?_)]
          · exact h1
          · rcases c with c | c
            · exact h.nb (c ▸ List.getElem_mem hj2)
            · exact h.nps _ (List.getElem_mem hj2) c
        · rw [List.getElem_append_left (by omega)]; exact h3 i hi (by omega) f hf
      · obtain rfl : j = ps.length := by omega
        refine ⟨put6 cs 0 x, by simpa using hblk, by rw [put6_size]; exact hcs, fun i hi hil f hf => ?_⟩
        simp only [List.length_append, List.length_singleton] at hil
        obtain rfl : i = 0 := by omega
        rw [List.getElem_append_right (by omega)]
        have := put6_in cs 0 x f hf (by omega)
        simpa using this
    · rw [List.nodup_append]
      refine ⟨h.nodup, by simp, fun a ha q hq => ?_⟩
      simp only [List.mem_singleton] at hq
      have := hpn a ha
      omega
    · simp only [List.mem_append, List.mem_singleton]
      rintro (hq | hq)
      · exact h.nb hq
      · omega
    · simp only [Value.ownBlock, ne_eq, Option.some.injEq]
      rcases hat with hat | hat
      · intro c; exact h.no (c ▸ hat)
      · omega
    · intro q hq
      simp only [Value.ownBlock, ne_eq, Option.some.injEq]
      simp only [List.mem_append, List.mem_singleton] at hq
      rcases hat with hat | hat
      · have := (h.own.lt _ hat).2
        rcases hq with hq | hq
        · intro c; exact h.nps q hq (c ▸ hat)
        · omega
      · rcases hq with hq | hq
        · have := hpn q hq; omega
        · omega
    · refine hk.mono fun k hk1 hk2 => ?_
      rcases hk2 with hk2 | hk2
      · exact .inl hk2
      · cases ao with
        | none => simp [Value.ownBlock] at hk2
        | some a => simp [Value.ownBlock] at hk2; exact .inr (.inl ⟨a, rfl, hk2⟩)
    · rintro k (hk | ⟨a, ha, rfl⟩ | hk)
      · exact .inl (.inl hk)
      · simp only [Option.some.injEq] at ha
        subst ha
        rcases hat with hat | hat
        · cases ao with
          | none => simp [Value.ownBlock] at hat
          | some a => simp [Value.ownBlock] at hat; exact .inl (.inr (.inl ⟨a, rfl, hat⟩))
        · exact .inr (by show w.heap.size ≤ g; omega)
      · simp only [List.mem_append, List.mem_singleton] at hk
        rcases hk with hk | hk
        · exact .inl (.inr (.inr hk))
        · exact .inr (by omega)
  · have hmost := h.most
    have hj : l.length / 64 < ps.length := by omega
    obtain ⟨g, rfl, hrow⟩ := arena_row h _ hj
    obtain ⟨cs, hb1, hb2, hb3⟩ := h.blk _ hj
    have hbn : b < w.heap.size := (Array.getElem?_eq_some_iff.1 h.hdr).1
    have hpn := (Array.getElem?_eq_some_iff.1 hb1).1
    have hpm := List.getElem_mem hj
    generalize hpe : ps[l.length / 64] = p at *
    have hA : AddIn (w.alloc (.cells x.cells.toArray 80)) b g ps.length cap p l.length w.heap.size cs x :=
      ⟨by rw [Below.heap_alloc _ _ _ hbn]; exact h.hdr, by rw [World.cell?_alloc_past _ _ _ (World.block_lt_of_cell? _ _ hrow)]; exact hrow, by rw [Below.heap_alloc _ _ _ hpn]; exact hb1, hb2, heap_alloc_new w _,
        fun c => h.nb (c ▸ hpm), by omega, by omega, hj⟩
    have hleast := h.least
    refine (add_room x b g ps.length cap p l.length _ rfl cs w hA hg (by omega) (by omega)).mono ?_
    rintro e w' ⟨rfl, hk, hdr, hblk⟩
    have hgb : g ≠ b := fun c => h.no (by simp [Value.ownBlock, c])
    have hgp : g ≠ p := fun c => h.nps p hpm (by simp [Value.ownBlock, c])
    have hgn := h.own.lt g rfl
    refine ⟨rfl, arenaFp b (some ⟨g, 0, none⟩) ps, ⟨some ⟨g, 0, none⟩, cap, ps, ⟨by simpa using hdr, ?_, h.lo, h.los, by simp; omega, by simp; omega, ?_, h.nodup, h.nb, h.no, h.nps⟩, rfl⟩, ?_, fun k hk => .inl hk⟩
    · exact ownsRow_same h.own (hk.block g hgn.2 (by rintro (c | c); exact hgb c; exact hgp c))
    · intro j hj2
      by_cases hje : j = l.length / 64
      · subst hje
        rw [hpe]
        refine ⟨_, hblk, by rw [put6_size]; exact hb2, fun i hi hil f hf => ?_⟩
        simp only [List.length_append, List.length_singleton] at hil
        by_cases hie : i = l.length % 64
        · have e : 64 * (l.length / 64) + i = l.length := by omega
          have e2 : 6 * i + f = l.length % 64 * 6 + f := by omega
          rw [e2, put6_in _ _ _ _ hf (by omega)]
          simp only [e]
          simp
        · rw [put6_out _ _ _ _ (by omega), hb3 i hi (by omega) f hf, List.getElem_append_left (by omega)]
      · obtain ⟨c, h1, h2, h3⟩ := h.blk j hj2
        have hne : ps[j] ≠ p := by
          intro c2
          rw [← hpe] at c2
          exact hje ((List.getElem_inj h.nodup).1 c2)
        refine ⟨c, ?_, h2, fun i hi hil f hf => ?_⟩
        · rw [hk.block _ (Array.getElem?_eq_some_iff.1 h1).1 (by rintro (c | c); exact h.nb (c ▸ List.getElem_mem hj2); exact hne c)]; exact h1
        · simp only [List.length_append, List.length_singleton] at hil
          rw [List.getElem_append_left (by omega)]; exact h3 i hi (by omega) f hf
    · refine hk.mono fun k hk1 hk2 => ?_
      rcases hk2 with hk2 | hk2
      · exact .inl hk2
      · exact .inr (.inr (hk2 ▸ hpm))

theorem count_arena (base b : Nat) (l : List Itm) (S : Nat → Prop) (w : World) (h : Arena w base b l S) :
    Calls Tryz.prog 71 #[.pointer (some ⟨b, 0, none⟩)] w fun e w' => e = .returned (.int .i64 l.length) ∧ w = w' := by
  obtain ⟨ao, cap, ps, h, rfl⟩ := h
  have c1 : w.cell? ⟨b, 1, none⟩ = some (.int .i64 l.length) := by simp [World.cell?, h.hdr]
  go_enter Tryz.func71, Tryz.ntmps71
  go_wp2
  go_ret
  exact ⟨rfl, rfl⟩
theorem count_nil (w : World) : Calls Tryz.prog 71 #[.pointer none] w fun e w' => e = .returned (.int .i64 0) ∧ w = w' := by
  go_enter Tryz.func71, Tryz.ntmps71
  go_wp2
  go_ret
  exact ⟨rfl, rfl⟩
theorem new_arena (base : Nat) (w : World) (hb : base ≤ w.heap.size) :
    Calls Tryz.prog 127 #[] w fun e w' => ∃ b S, e = .returned (.pointer (some ⟨b, 0, none⟩)) ∧ Arena w' base b [] S ∧ Below w.heap.size w w' ∧ ∀ k, S k → w.heap.size ≤ k := by
  go_enter Tryz.func127, Tryz.ntmps127
  go_wp2
  go_ret
  refine ⟨w.heap.size, _, rfl, ⟨none, 0, [], ⟨?_, World.ownsRow_nil _ _ _ _, hb, by simp, by simp, by simp, by simp, by simp, by simp, by simp [Value.ownBlock], by simp⟩, rfl⟩, (Below.refl _ _).alloc (Nat.le_refl _) _, ?_⟩
  · simpa using heap_alloc_new w _
  · rintro k (hk | ⟨a, ha, _⟩ | hk)
    · omega
    · cases ha
    · cases hk
theorem add_full (x : Itm) (base b : Nat) (l : List Itm) (S : Nat → Prop) (w : World) (h : Arena w base b l S) (hl : l.length = 1048576) :
    Calls Tryz.prog 79 #[.pointer (some ⟨b, 0, none⟩), .agg x.cells.toArray] w fun e w' => e = .returned (.tuple #[.int .i64 0, .int .i64 3]) ∧ Below w.heap.size w w' := by
  obtain ⟨ao, cap, ps, h, rfl⟩ := h
  have hb : b < w.heap.size := (Array.getElem?_eq_some_iff.1 h.hdr).1
  have c1 : w.cell? ⟨b, 1, none⟩ = some (.int .i64 l.length) := by simp [World.cell?, h.hdr]
  have e1 : ((l.length : Int) == 1048576) = true := by simp [hl]
  clear hl
  go_enter Tryz.func79, Tryz.ntmps79
  go_wp2
  go_ret2
  exact ⟨rfl, (Below.refl _ _).alloc (Nat.le_refl _) _⟩

/-- The record of a number, or zeros. -/
def atOf (l : List Itm) (r : Int) : Itm × Bool := if 1 ≤ r ∧ r ≤ l.length then (l.getD (r.toNat - 1) Itm.zero, true) else (Itm.zero, false)

set_option maxHeartbeats 800000 in
theorem at_in (base b : Nat) (l : List Itm) (S : Nat → Prop) (r : Nat) (w : World) (h : Arena w base b l S) (hl : l.length ≤ 1048576) (h1 : 1 ≤ r) (h2 : r ≤ l.length) :
    Calls Tryz.prog 75 #[.pointer (some ⟨b, 0, none⟩), .int .i64 r] w fun e w' => e = .returned (.tuple #[.agg (l.getD (r - 1) Itm.zero).cells.toArray, .bool true]) ∧ Below w.heap.size w w' := by
  have hC := fun o => count_arena base b l S (w.alloc o) (h.below ((Below.refl _ _).alloc (Nat.le_refl _) _))
  obtain ⟨ao, cap, ps, h, rfl⟩ := h
  have hmost := h.most
  have hj : (r - 1) / 64 < ps.length := by omega
  obtain ⟨g, rfl, hrow⟩ := arena_row h _ hj
  obtain ⟨cs, hb1, hb2, hb3⟩ := h.blk _ hj
  have hb : b < w.heap.size := (Array.getElem?_eq_some_iff.1 h.hdr).1
  have hb' : b < w.heap.size + 1 := by omega
  have hpn := (Array.getElem?_eq_some_iff.1 hb1).1
  have c0 : w.cell? ⟨b, 0, none⟩ = some (.slice (some ⟨g, 0, none⟩) ps.length cap) := by simp [World.cell?, h.hdr]
  have hgl := World.block_lt_of_cell? _ _ hrow
  have e : 64 * ((r - 1) / 64) + (r - 1) % 64 = r - 1 := by omega
  obtain ⟨x, hxe⟩ : ∃ x, l[r - 1] = x := ⟨_, rfl⟩
  have hcell : ∀ f, f < 6 → cs[6 * ((r - 1) % 64) + f]? = x.cells[f]? := fun f hf => by
    have := hb3 ((r - 1) % 64) (by omega) (by omega) f hf
    simp only [e, hxe] at this
    exact this
  have hx : l.getD (r - 1) Itm.zero = x := by rw [List.getD_eq_getElem?_getD, List.getElem?_eq_getElem (by omega), hxe]; rfl
  rw [hx]
  clear hx hb3 hxe
  generalize ps[(r - 1) / 64] = p at *
  obtain ⟨o, ho⟩ : ∃ o, (r - 1) % 64 * 6 = o := ⟨_, rfl⟩
  have hc : ∀ f, f < 6 → w.cell? ⟨p, o + f, none⟩ = x.cells[f]? := fun f hf => by
    rw [← hcell f hf, ← ho, Nat.mul_comm]; simp [World.cell?, hb1]
  have HP := fun W h1 h2 => Lib.hid (place_any b g ps.length cap p (r - 1) o W ho (by omega) h1 hj h2)
  have HC := fun o => Lib.hid (hC o)
  have x0 : w.cell? ⟨p, o, none⟩ = some (.string x.key) := hc 0 (by omega)
  have x1 : w.cell? ⟨p, o + 1, none⟩ = some (.string x.val) := hc 1 (by omega)
  have x2 : w.cell? ⟨p, o + 2, none⟩ = some (.int .u32 x.flags) := hc 2 (by omega)
  have x3 : w.cell? ⟨p, o + 3, none⟩ = some (.int .u64 x.id) := hc 3 (by omega)
  have x4 : w.cell? ⟨p, o + 4, none⟩ = some (.int .i64 x.dies) := hc 4 (by omega)
  have x5 : w.cell? ⟨p, o + 5, none⟩ = some (.int .i64 x.gen) := hc 5 (by omega)
  have d1 : decide ((r : Int) < 1) = false := by simp; omega
  have d2 : decide ((l.length : Int) < (r : Int)) = false := by simp; omega
  have d3 : decide (l.length < r) = false := by simp; omega
  have hr1 : ((r : Int) - 1) = ((r - 1 : Nat) : Int) := by omega
  have HR := Lib.hid hr1
  clear hc hcell hC e hr1 hb1
  go_enter Tryz.func75, Tryz.ntmps75
  go_wp2_with (first | (go_at_call 71; refine ((HC _).out).mono ?_; rintro e w' ⟨rfl, rfl⟩))
  rw [HR.out]
  refine ((HP _ (by rw [World.cell?_alloc_past _ _ _ hb]; exact c0) (by rw [World.cell?_alloc_past _ _ _ hgl]; exact hrow)).out).mono ?_
  rintro e w' ⟨rfl, rfl⟩
  go_wp2
  refine bodyPost_ret (v := .tuple #[.agg x.cells.toArray, .bool true]) (by simp [results, Tryz.results75, go_sem, Itm.cells]) rfl ⟨rfl, ?_⟩
  exact (Below.refl _ _).alloc (Nat.le_refl _) _

theorem at_low (b : Option Addr) (r : Int) (w : World) (h1 : r < 1) :
    Calls Tryz.prog 75 #[.pointer b, .int .i64 r] w fun e w' => e = .returned (.tuple #[.agg Itm.zero.cells.toArray, .bool false]) ∧ Below w.heap.size w w' := by
  go_enter Tryz.func75, Tryz.ntmps75
  go_wp2
  refine bodyPost_ret (v := .tuple #[.agg Itm.zero.cells.toArray, .bool false]) (by simp [results, Tryz.results75, go_sem, Itm.cells, Itm.zero]; rfl) rfl ⟨rfl, ?_⟩
  exact (Below.refl _ _).alloc (Nat.le_refl _) _
theorem at_nil (r : Int) (w : World) :
    Calls Tryz.prog 75 #[.pointer none, .int .i64 r] w fun e w' => e = .returned (.tuple #[.agg Itm.zero.cells.toArray, .bool false]) ∧ Below w.heap.size w w' := by
  by_cases h : r < 1
  · exact at_low none r w h
  · have h1 : 0 < r := by omega
    have h2 : 1 ≤ r := by omega
    go_enter Tryz.func75, Tryz.ntmps75
    go_wp2_with (go_at_call 71; refine (count_nil _).mono ?_; rintro e w' ⟨rfl, rfl⟩)
    refine bodyPost_ret (v := .tuple #[.agg Itm.zero.cells.toArray, .bool false]) (by simp [results, Tryz.results75, go_sem, Itm.cells, Itm.zero]; rfl) rfl ⟨rfl, ?_⟩
    exact (Below.refl _ _).alloc (Nat.le_refl _) _
theorem at_high (base b : Nat) (l : List Itm) (S : Nat → Prop) (r : Int) (w : World) (h : Arena w base b l S) (h2 : (l.length : Int) < r) :
    Calls Tryz.prog 75 #[.pointer (some ⟨b, 0, none⟩), .int .i64 r] w fun e w' => e = .returned (.tuple #[.agg Itm.zero.cells.toArray, .bool false]) ∧ Below w.heap.size w w' := by
  have hC := fun o => count_arena base b l S (w.alloc o) (h.below ((Below.refl _ _).alloc (Nat.le_refl _) _))
  have h1 : 1 ≤ r := by omega
  go_enter Tryz.func75, Tryz.ntmps75
  go_wp2_with (go_at_call 71; refine (hC _).mono ?_; rintro e w' ⟨rfl, rfl⟩)
  refine bodyPost_ret (v := .tuple #[.agg Itm.zero.cells.toArray, .bool false]) (by simp [results, Tryz.results75, go_sem, Itm.cells, Itm.zero]; rfl) rfl ⟨rfl, ?_⟩
  exact (Below.refl _ _).alloc (Nat.le_refl _) _
theorem iat_any (base b : Nat) (l : List Itm) (S : Nat → Prop) (r : Int) (w : World) (h : Arena w base b l S) (hl : l.length ≤ 1048576) :
    Calls Tryz.prog 75 #[.pointer (some ⟨b, 0, none⟩), .int .i64 r] w fun e w' => e = .returned (.tuple #[.agg (atOf l r).1.cells.toArray, .bool (atOf l r).2]) ∧ Below w.heap.size w w' := by
  unfold atOf
  by_cases h1 : 1 ≤ r ∧ r ≤ l.length
  · rw [if_pos h1]
    have := at_in base b l S r.toNat w h hl (by omega) (by omega)
    rwa [Int.toNat_of_nonneg (by omega)] at this
  · rw [if_neg h1]
    by_cases h2 : r < 1
    · exact at_low _ r w h2
    · exact at_high base b l S r w h (by omega)
end Go.Proofs.YtmakjfeepmiggaaGreat
