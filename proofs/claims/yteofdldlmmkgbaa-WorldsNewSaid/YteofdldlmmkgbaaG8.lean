/-
  Texts of this prover, merged: ItemsAt, ItemsLaw, Open.
-/
import Derived.Test.YteofdldlmmkgbaaG7
import Derived.Test.YteofdldlmmkgbaaG1
import Derived.ProofKit
/-
  Package items at the level of arenas: Add, At, Count, New.
-/
namespace Go.Proofs.Yteofdldlmmkgbaa
open Go.RowKit
set_option linter.unusedVariables false

theorem arena_row {w : World} {base b cap : Nat} {ao : Option Addr} {ps : List Nat} {l : List Itm} (h : ArenaAt w base b ao cap ps l) (j : Nat) (hj : j < ps.length) :
    ∃ g, ao = some ⟨g, 0, none⟩ ∧ w.cell? ⟨g, j, none⟩ = some (.pointer (some ⟨ps[j], 0, none⟩)) := by
  rcases h.own.2 with ⟨hn, h0⟩ | ⟨g, c, cur, hv, hg, hh, hnc, hcm, hcs, ht⟩
  · omega
  · simp only [Value.slice.injEq] at hv
    refine ⟨g, hv.1, ?_⟩
    have e1 : ((ps.map fun p => Value.pointer (some ⟨p, 0, none⟩)))[j]? = some (.pointer (some ⟨ps[j], 0, none⟩)) := by simp [hj]
    rw [← ht, List.getElem?_take, if_pos (by omega)] at e1
    simpa [World.cell?, hh] using e1

theorem iadd_any (x : Itm) (base b : Nat) (l : List Itm) (S : Nat → Prop) (w : World) (h : Arena w base b l S) (hbase : base ≤ w.heap.size) (hl : l.length < 1048576) :
    Calls Try.prog 23 #[.pointer (some ⟨b, 0, none⟩), .agg x.cells.toArray] w fun e w' => e = .returned (.tuple #[.int .i64 (l.length + 1 : Nat), .int .i64 0]) ∧
      ∃ S', Arena w' base b (l ++ [x]) S' ∧ Keeps S w w' ∧ ∀ k, S' k → S k ∨ w.heap.size ≤ k := by
  obtain ⟨ao, cap, ps, h, rfl⟩ := h
  by_cases hg : l.length = 64 * ps.length
  · refine (add_grow x b base l.length ao cap ps w hg h.hdr (by omega) h.own hbase h.no).mono ?_
    rintro e w' ⟨g, cap', p, cs, rfl, hk, hdr, hblk, hcs, hp, hat, hown⟩
    have hpn : ∀ q ∈ ps, q < w.heap.size := by
      intro q hq
      obtain ⟨j, hj, rfl⟩ := List.mem_iff_getElem.1 hq
      obtain ⟨c, h1, _⟩ := h.blk j hj
      exact (Array.getElem?_eq_some_iff.1 h1).1
    have hbn : b < w.heap.size := (Array.getElem?_eq_some_iff.1 h.hdr).1
    refine ⟨rfl, arenaFp b (some ⟨g, 0, none⟩) (ps ++ [p]), ⟨some ⟨g, 0, none⟩, cap', ps ++ [p], ⟨?_, ?_, h.lo, ?_, ?_, ?_, ?_, ?_, ?_, ?_, ?_⟩, rfl⟩, ?_, ?_⟩
    · simpa using hdr
    · simpa using hown
    · intro q hq
      simp only [List.mem_append, List.mem_singleton] at hq
      rcases hq with hq | rfl
      · exact h.los q hq
      · omega
    · simp; omega
    · simp; omega
    · intro j hj
      simp only [List.length_append, List.length_singleton] at hj
      by_cases hj2 : j < ps.length
      · obtain ⟨c, h1, h2, h3⟩ := h.blk j hj2
        refine ⟨c, ?_, h2, fun i hi hil f hf => ?_⟩
        · rw [List.getElem_append_left hj2, hk.block _ (hpn _ (List.getElem_mem hj2)) (fun c => ?_)]
          · exact h1
          · rcases c with c | c
            · exact h.nb (c ▸ List.getElem_mem hj2)
            · exact h.nps _ (List.getElem_mem hj2) c
        · rw [List.getElem_append_left (by omega)]; exact h3 i hi (by omega) f hf
      · obtain rfl : j = ps.length := by omega
        refine ⟨put6 cs 0 x, by simpa using hblk, by rw [put6_size]; exact hcs, fun i hi hil f hf => ?_⟩
        simp only [List.length_append, List.length_singleton] at hil
        obtain rfl : i = 0 := by omega
        rw [List.getElem_append_right (by omega)]
        have := put6_in cs 0 x f hf (by omega)
        simpa using this
    · rw [List.nodup_append]
      refine ⟨h.nodup, by simp, fun a ha q hq => ?_⟩
      simp only [List.mem_singleton] at hq
      have := hpn a ha
      omega
    · simp only [List.mem_append, List.mem_singleton]
      rintro (hq | hq)
      · exact h.nb hq
      · omega
    · simp only [Value.ownBlock, ne_eq, Option.some.injEq]
      rcases hat with hat | hat
      · intro c; exact h.no (c ▸ hat)
      · omega
    · intro q hq
      simp only [Value.ownBlock, ne_eq, Option.some.injEq]
      simp only [List.mem_append, List.mem_singleton] at hq
      rcases hat with hat | hat
      · have := (h.own.lt _ hat).2
        rcases hq with hq | hq
        · intro c; exact h.nps q hq (c ▸ hat)
        · omega
      · rcases hq with hq | hq
        · have := hpn q hq; omega
        · omega
    · refine hk.mono fun k hk1 hk2 => ?_
      rcases hk2 with hk2 | hk2
      · exact .inl hk2
      · cases ao with
        | none => simp [Value.ownBlock] at hk2
        | some a => simp [Value.ownBlock] at hk2; exact .inr (.inl ⟨a, rfl, hk2⟩)
    · rintro k (hk | ⟨a, ha, rfl⟩ | hk)
      · exact .inl (.inl hk)
      · simp only [Option.some.injEq] at ha
        subst ha
        rcases hat with hat | hat
        · cases ao with
          | none => simp [Value.ownBlock] at hat
          | some a => simp [Value.ownBlock] at hat; exact .inl (.inr (.inl ⟨a, rfl, hat⟩))
        · exact .inr (by show w.heap.size ≤ g; omega)
      · simp only [List.mem_append, List.mem_singleton] at hk
        rcases hk with hk | hk
        · exact .inl (.inr (.inr hk))
        · exact .inr (by omega)
  · have hmost := h.most
    have hj : l.length / 64 < ps.length := by omega
    obtain ⟨g, rfl, hrow⟩ := arena_row h _ hj
    obtain ⟨cs, hb1, hb2, hb3⟩ := h.blk _ hj
    have hbn : b < w.heap.size := (Array.getElem?_eq_some_iff.1 h.hdr).1
    have hpn := (Array.getElem?_eq_some_iff.1 hb1).1
    have hpm := List.getElem_mem hj
    generalize hpe : ps[l.length / 64] = p at *
    have hA : AddIn (w.alloc (.cells x.cells.toArray 61)) b g ps.length cap p l.length w.heap.size cs x :=
      ⟨by rw [Below.heap_alloc _ _ _ hbn]; exact h.hdr, by rw [World.cell?_alloc_past _ _ _ (World.block_lt_of_cell? _ _ hrow)]; exact hrow, by rw [Below.heap_alloc _ _ _ hpn]; exact hb1, hb2, heap_alloc_new w _,
        fun c => h.nb (c ▸ hpm), by omega, by omega, hj⟩
    have hleast := h.least
    refine (add_room x b g ps.length cap p l.length _ rfl cs w hA hg (by omega) (by omega)).mono ?_
    rintro e w' ⟨rfl, hk, hdr, hblk⟩
    have hgb : g ≠ b := fun c => h.no (by simp [Value.ownBlock, c])
    have hgp : g ≠ p := fun c => h.nps p hpm (by simp [Value.ownBlock, c])
    have hgn := h.own.lt g rfl
    refine ⟨rfl, arenaFp b (some ⟨g, 0, none⟩) ps, ⟨some ⟨g, 0, none⟩, cap, ps, ⟨by simpa using hdr, ?_, h.lo, h.los, by simp; omega, by simp; omega, ?_, h.nodup, h.nb, h.no, h.nps⟩, rfl⟩, ?_, fun k hk => .inl hk⟩
    · exact ownsRow_same h.own (hk.block g hgn.2 (by rintro (c | c); exact hgb c; exact hgp c))
    · intro j hj2
      by_cases hje : j = l.length / 64
      · subst hje
        rw [hpe]
        refine ⟨_, hblk, by rw [put6_size]; exact hb2, fun i hi hil f hf => ?_⟩
        simp only [List.length_append, List.length_singleton] at hil
        by_cases hie : i = l.length % 64
        · have e : 64 * (l.length / 64) + i = l.length := by omega
          have e2 : 6 * i + f = l.length % 64 * 6 + f := by omega
          rw [e2, put6_in _ _ _ _ hf (by omega)]
          simp only [e]
          simp
        · rw [put6_out _ _ _ _ (by omega), hb3 i hi (by omega) f hf, List.getElem_append_left (by omega)]
      · obtain ⟨c, h1, h2, h3⟩ := h.blk j hj2
        have hne : ps[j] ≠ p := by
          intro c2
          rw [← hpe] at c2
          exact hje ((List.getElem_inj h.nodup).1 c2)
        refine ⟨c, ?_, h2, fun i hi hil f hf => ?_⟩
        · rw [hk.block _ (Array.getElem?_eq_some_iff.1 h1).1 (by rintro (c | c); exact h.nb (c ▸ List.getElem_mem hj2); exact hne c)]; exact h1
        · simp only [List.length_append, List.length_singleton] at hil
          rw [List.getElem_append_left (by omega)]; exact h3 i hi (by omega) f hf
    · refine hk.mono fun k hk1 hk2 => ?_
      rcases hk2 with hk2 | hk2
      · exact .inl hk2
      · exact .inr (.inr (hk2 ▸ hpm))

theorem count_arena (base b : Nat) (l : List Itm) (S : Nat → Prop) (w : World) (h : Arena w base b l S) :
    Calls Try.prog 74 #[.pointer (some ⟨b, 0, none⟩)] w fun e w' => e = .returned (.int .i64 l.length) ∧ w = w' := by
  obtain ⟨ao, cap, ps, h, rfl⟩ := h
  have c1 : w.cell? ⟨b, 1, none⟩ = some (.int .i64 l.length) := by simp [World.cell?, h.hdr]
  go_enter Try.func74, Try.ntmps74
  go_wp2
  go_ret
  exact ⟨rfl, rfl⟩
theorem count_nil (w : World) : Calls Try.prog 74 #[.pointer none] w fun e w' => e = .returned (.int .i64 0) ∧ w = w' := by
  go_enter Try.func74, Try.ntmps74
  go_wp2
  go_ret
  exact ⟨rfl, rfl⟩
theorem new_arena (base : Nat) (w : World) (hb : base ≤ w.heap.size) :
    Calls Try.prog 53 #[] w fun e w' => ∃ b S, e = .returned (.pointer (some ⟨b, 0, none⟩)) ∧ Arena w' base b [] S ∧ Below w.heap.size w w' ∧ ∀ k, S k → w.heap.size ≤ k := by
  go_enter Try.func53, Try.ntmps53
  go_wp2
  go_ret
  refine ⟨w.heap.size, _, rfl, ⟨none, 0, [], ⟨?_, World.ownsRow_nil _ _ _ _, hb, by simp, by simp, by simp, by simp, by simp, by simp, by simp [Value.ownBlock], by simp⟩, rfl⟩, (Below.refl _ _).alloc (Nat.le_refl _) _, ?_⟩
  · simpa using heap_alloc_new w _
  · rintro k (hk | ⟨a, ha, _⟩ | hk)
    · omega
    · cases ha
    · cases hk
theorem add_full (x : Itm) (base b : Nat) (l : List Itm) (S : Nat → Prop) (w : World) (h : Arena w base b l S) (hl : l.length = 1048576) :
    Calls Try.prog 23 #[.pointer (some ⟨b, 0, none⟩), .agg x.cells.toArray] w fun e w' => e = .returned (.tuple #[.int .i64 0, .int .i64 3]) ∧ Below w.heap.size w w' := by
  obtain ⟨ao, cap, ps, h, rfl⟩ := h
  have hb : b < w.heap.size := (Array.getElem?_eq_some_iff.1 h.hdr).1
  have c1 : w.cell? ⟨b, 1, none⟩ = some (.int .i64 l.length) := by simp [World.cell?, h.hdr]
  have e1 : ((l.length : Int) == 1048576) = true := by simp [hl]
  clear hl
  go_enter Try.func23, Try.ntmps23
  go_wp2
  go_ret2
  exact ⟨rfl, (Below.refl _ _).alloc (Nat.le_refl _) _⟩

/-- The record of a number, or zeros. -/
def atOf (l : List Itm) (r : Int) : Itm × Bool := if 1 ≤ r ∧ r ≤ l.length then (l.getD (r.toNat - 1) Itm.zero, true) else (Itm.zero, false)

set_option maxHeartbeats 800000 in
theorem at_in (base b : Nat) (l : List Itm) (S : Nat → Prop) (r : Nat) (w : World) (h : Arena w base b l S) (hl : l.length ≤ 1048576) (h1 : 1 ≤ r) (h2 : r ≤ l.length) :
    Calls Try.prog 24 #[.pointer (some ⟨b, 0, none⟩), .int .i64 r] w fun e w' => e = .returned (.tuple #[.agg (l.getD (r - 1) Itm.zero).cells.toArray, .bool true]) ∧ Below w.heap.size w w' := by
  have hC := fun o => count_arena base b l S (w.alloc o) (h.below ((Below.refl _ _).alloc (Nat.le_refl _) _))
  obtain ⟨ao, cap, ps, h, rfl⟩ := h
  have hmost := h.most
  have hj : (r - 1) / 64 < ps.length := by omega
  obtain ⟨g, rfl, hrow⟩ := arena_row h _ hj
  obtain ⟨cs, hb1, hb2, hb3⟩ := h.blk _ hj
  have hb : b < w.heap.size := (Array.getElem?_eq_some_iff.1 h.hdr).1
  have hb' : b < w.heap.size + 1 := by omega
  have hpn := (Array.getElem?_eq_some_iff.1 hb1).1
  have c0 : w.cell? ⟨b, 0, none⟩ = some (.slice (some ⟨g, 0, none⟩) ps.length cap) := by simp [World.cell?, h.hdr]
  have hgl := World.block_lt_of_cell? _ _ hrow
  have e : 64 * ((r - 1) / 64) + (r - 1) % 64 = r - 1 := by omega
  obtain ⟨x, hxe⟩ : ∃ x, l[r - 1] = x := ⟨_, rfl⟩
  have hcell : ∀ f, f < 6 → cs[6 * ((r - 1) % 64) + f]? = x.cells[f]? := fun f hf => by
    have := hb3 ((r - 1) % 64) (by omega) (by omega) f hf
    simp only [e, hxe] at this
    exact this
  have hx : l.getD (r - 1) Itm.zero = x := by rw [List.getD_eq_getElem?_getD, List.getElem?_eq_getElem (by omega), hxe]; rfl
  rw [hx]
  clear hx hb3 hxe
  generalize ps[(r - 1) / 64] = p at *
  obtain ⟨o, ho⟩ : ∃ o, (r - 1) % 64 * 6 = o := ⟨_, rfl⟩
  have hc : ∀ f, f < 6 → w.cell? ⟨p, o + f, none⟩ = x.cells[f]? := fun f hf => by
    rw [← hcell f hf, ← ho, Nat.mul_comm]; simp [World.cell?, hb1]
  have HP := fun W h1 h2 => Lib.hid (place_any b g ps.length cap p (r - 1) o W ho (by omega) h1 hj h2)
  have HC := fun o => Lib.hid (hC o)
  have x0 : w.cell? ⟨p, o, none⟩ = some (.string x.key) := hc 0 (by omega)
  have x1 : w.cell? ⟨p, o + 1, none⟩ = some (.string x.val) := hc 1 (by omega)
  have x2 : w.cell? ⟨p, o + 2, none⟩ = some (.int .u32 x.flags) := hc 2 (by omega)
  have x3 : w.cell? ⟨p, o + 3, none⟩ = some (.int .u64 x.id) := hc 3 (by omega)
  have x4 : w.cell? ⟨p, o + 4, none⟩ = some (.int .i64 x.dies) := hc 4 (by omega)
  have x5 : w.cell? ⟨p, o + 5, none⟩ = some (.int .i64 x.gen) := hc 5 (by omega)
  have d1 : decide ((r : Int) < 1) = false := by simp; omega
  have d2 : decide ((l.length : Int) < (r : Int)) = false := by simp; omega
  have d3 : decide (l.length < r) = false := by simp; omega
  have hr1 : ((r : Int) - 1) = ((r - 1 : Nat) : Int) := by omega
  have HR := Lib.hid hr1
  clear hc hcell hC e hr1 hb1
  go_enter Try.func24, Try.ntmps24
  go_wp2_with (first | (go_at_call 74; refine ((HC _).out).mono ?_; rintro e w' ⟨rfl, rfl⟩))
  rw [HR.out]
  refine ((HP _ (by rw [World.cell?_alloc_past _ _ _ hb]; exact c0) (by rw [World.cell?_alloc_past _ _ _ hgl]; exact hrow)).out).mono ?_
  rintro e w' ⟨rfl, rfl⟩
  go_wp2
  refine bodyPost_ret (v := .tuple #[.agg x.cells.toArray, .bool true]) (by simp [results, Try.results24, go_sem, Itm.cells]) rfl ⟨rfl, ?_⟩
  exact (Below.refl _ _).alloc (Nat.le_refl _) _

theorem at_low (b : Option Addr) (r : Int) (w : World) (h1 : r < 1) :
    Calls Try.prog 24 #[.pointer b, .int .i64 r] w fun e w' => e = .returned (.tuple #[.agg Itm.zero.cells.toArray, .bool false]) ∧ Below w.heap.size w w' := by
  go_enter Try.func24, Try.ntmps24
  go_wp2
  refine bodyPost_ret (v := .tuple #[.agg Itm.zero.cells.toArray, .bool false]) (by simp [results, Try.results24, go_sem, Itm.cells, Itm.zero]; rfl) rfl ⟨rfl, ?_⟩
  exact (Below.refl _ _).alloc (Nat.le_refl _) _
theorem at_nil (r : Int) (w : World) :
    Calls Try.prog 24 #[.pointer none, .int .i64 r] w fun e w' => e = .returned (.tuple #[.agg Itm.zero.cells.toArray, .bool false]) ∧ Below w.heap.size w w' := by
  by_cases h : r < 1
  · exact at_low none r w h
  · have h1 : 0 < r := by omega
    have h2 : 1 ≤ r := by omega
    go_enter Try.func24, Try.ntmps24
    go_wp2_with (go_at_call 74; refine (count_nil _).mono ?_; rintro e w' ⟨rfl, rfl⟩)
    refine bodyPost_ret (v := .tuple #[.agg Itm.zero.cells.toArray, .bool false]) (by simp [results, Try.results24, go_sem, Itm.cells, Itm.zero]; rfl) rfl ⟨rfl, ?_⟩
    exact (Below.refl _ _).alloc (Nat.le_refl _) _
theorem at_high (base b : Nat) (l : List Itm) (S : Nat → Prop) (r : Int) (w : World) (h : Arena w base b l S) (h2 : (l.length : Int) < r) :
    Calls Try.prog 24 #[.pointer (some ⟨b, 0, none⟩), .int .i64 r] w fun e w' => e = .returned (.tuple #[.agg Itm.zero.cells.toArray, .bool false]) ∧ Below w.heap.size w w' := by
  have hC := fun o => count_arena base b l S (w.alloc o) (h.below ((Below.refl _ _).alloc (Nat.le_refl _) _))
  have h1 : 1 ≤ r := by omega
  go_enter Try.func24, Try.ntmps24
  go_wp2_with (go_at_call 74; refine (hC _).mono ?_; rintro e w' ⟨rfl, rfl⟩)
  refine bodyPost_ret (v := .tuple #[.agg Itm.zero.cells.toArray, .bool false]) (by simp [results, Try.results24, go_sem, Itm.cells, Itm.zero]; rfl) rfl ⟨rfl, ?_⟩
  exact (Below.refl _ _).alloc (Nat.le_refl _) _
theorem iat_any (base b : Nat) (l : List Itm) (S : Nat → Prop) (r : Int) (w : World) (h : Arena w base b l S) (hl : l.length ≤ 1048576) :
    Calls Try.prog 24 #[.pointer (some ⟨b, 0, none⟩), .int .i64 r] w fun e w' => e = .returned (.tuple #[.agg (atOf l r).1.cells.toArray, .bool (atOf l r).2]) ∧ Below w.heap.size w w' := by
  unfold atOf
  by_cases h1 : 1 ≤ r ∧ r ≤ l.length
  · rw [if_pos h1]
    have := at_in base b l S r.toNat w h hl (by omega) (by omega)
    rwa [Int.toNat_of_nonneg (by omega)] at this
  · rw [if_neg h1]
    by_cases h2 : r < 1
    · exact at_low _ r w h2
    · exact at_high base b l S r w h (by omega)
end Go.Proofs.Yteofdldlmmkgbaa

/-
  nestboxlaw06: the walks of lives and of the statements.
-/
namespace Go.Proofs.Yteofdldlmmkgbaa
open Go.RowKit
set_option linter.unusedVariables false

theorem add_lit (x : Itm) (base b : Nat) (l : List Itm) (S : Nat → Prop) (w : World) (h : Arena w base b l S) (hbase : base ≤ w.heap.size) (hl : l.length < 1048576) :
    Calls Try.prog 23 #[.pointer (some ⟨b, 0, none⟩), .agg #[.string (x).key, .string (x).val, .int .u32 (x).flags, .int .u64 (x).id, .int .i64 (x).dies, .int .i64 (x).gen]] w fun e w' => e = .returned (.tuple #[.int .i64 (l.length + 1 : Nat), .int .i64 0]) ∧
      ∃ S', Arena w' base b (l ++ [x]) S' ∧ Keeps S w w' ∧ ∀ k, S' k → S k ∨ w.heap.size ≤ k := iadd_any x base b l S w h hbase hl
theorem at_lit (base b : Nat) (l : List Itm) (S : Nat → Prop) (r : Int) (w : World) (h : Arena w base b l S) (hl : l.length ≤ 1048576) :
    Calls Try.prog 24 #[.pointer (some ⟨b, 0, none⟩), .int .i64 r] w fun e w' => e = .returned (.tuple #[.agg #[.string ((atOf l r).1).key, .string ((atOf l r).1).val, .int .u32 ((atOf l r).1).flags, .int .u64 ((atOf l r).1).id, .int .i64 ((atOf l r).1).dies, .int .i64 ((atOf l r).1).gen], .bool (atOf l r).2]) ∧ Below w.heap.size w w' := iat_any base b l S r w h hl

/-- One arena, all of whose blocks are the call's own: what the walk needs of it. -/
theorem add_one (x : Itm) (W : World) (base b : Nat) (l : List Itm) (S : Nat → Prop) (w : World) (h : Arena w base b l S) (hB : Below base W w) (hb : base ≤ w.heap.size) (hl : l.length < 1048576) :
    Calls Try.prog 23 #[.pointer (some ⟨b, 0, none⟩), .agg #[.string (x).key, .string (x).val, .int .u32 (x).flags, .int .u64 (x).id, .int .i64 (x).dies, .int .i64 (x).gen]] w fun e w' => e = .returned (.tuple #[.int .i64 (l.length + 1 : Nat), .int .i64 0]) ∧
      ∃ S', Arena w' base b (l ++ [x]) S' ∧ Below base W w' ∧ base ≤ w'.heap.size ∧ Keeps S w w' ∧ ∀ k, S' k → S k ∨ w.heap.size ≤ k :=
  (add_lit x base b l S w h hb hl).mono fun e w' ⟨he, S', h1, h2, h3⟩ => ⟨he, S', h1, keeps_below h2 hB hb (fun k hk => (h.fp k hk).1), Nat.le_trans hb h2.size, h2, h3⟩
theorem at_one (W : World) (base b : Nat) (l : List Itm) (S : Nat → Prop) (r : Int) (w : World) (h : Arena w base b l S) (hB : Below base W w) (hb : base ≤ w.heap.size) (hl : l.length ≤ 1048576) :
    Calls Try.prog 24 #[.pointer (some ⟨b, 0, none⟩), .int .i64 r] w fun e w' => e = .returned (.tuple #[.agg #[.string ((atOf l r).1).key, .string ((atOf l r).1).val, .int .u32 ((atOf l r).1).flags, .int .u64 ((atOf l r).1).id, .int .i64 ((atOf l r).1).dies, .int .i64 ((atOf l r).1).gen], .bool (atOf l r).2]) ∧ Arena w' base b l S ∧ Below base W w' ∧ base ≤ w'.heap.size ∧ Below w.heap.size w w' :=
  (at_lit base b l S r w h hl).mono fun e w' ⟨he, h1⟩ => ⟨he, h.below h1, hB.trans (h1.mono hb), Nat.le_trans hb h1.size, h1⟩

end Go.Proofs.Yteofdldlmmkgbaa

/-
  What may be read of an argument, whatever its type (integers, bools, strings, structs, arrays, slices of these): a type is a list of leaves, a leaf for each cell.
-/
namespace Go.Proofs.Yteofdldlmmkgbaa
open Go.RowKit
set_option linter.unusedVariables false

inductive Leaf where
  | int (k : IntKind)
  | bool
  | str
  | sl (e : List Leaf)

mutual
/-- The cell v is one of this leaf. -/
def Leaf.holds (w : World) : Leaf → Value → Prop
  | .int k, v => ∃ n, v = .int k n ∧ (Lit.int k n).wf = true
  | .bool, v => ∃ b, v = .bool b
  | .str, v => ∃ s : ByteArray, v = .string s ∧ s.size ≤ maxLen
  | .sl e, v => ∃ a len cap, v = .slice a len cap ∧ len ≤ cap ∧ cap ≤ maxLen ∧ (a = none → cap = 0) ∧
      (len = 0 ∨ ∃ b off, a = some ⟨b, off, none⟩ ∧ ∀ i, i < len → ∃ cs : List Value, cs.length = Leaf.many e ∧ (∀ j, j < cs.length → w.cell? ⟨b, off + (i * Leaf.many e + j), none⟩ = cs[j]?) ∧ Leaf.allHold w e cs)
def Leaf.allHold (w : World) : List Leaf → List Value → Prop
  | [], [] => True
  | s :: ss, v :: vs => Leaf.holds w s v ∧ Leaf.allHold w ss vs
  | _, _ => False
def Leaf.many : List Leaf → Nat
  | [] => 0
  | _ :: r => Leaf.many r + 1
end
theorem Leaf.many_len (e : List Leaf) : Leaf.many e = e.length := by
  induction e with
  | nil => rfl
  | cons s e ih => simp [Leaf.many, ih]
theorem allHold_len (w : World) : ∀ (ss : List Leaf) (cs : List Value), Leaf.allHold w ss cs → cs.length = ss.length
  | [], [], _ => rfl
  | [], _ :: _, h => h.elim
  | _ :: _, [], h => h.elim
  | _ :: ss, _ :: cs, h => by simp [allHold_len w ss cs h.2]
theorem allHold_append (w : World) : ∀ (ss ts : List Leaf) (cs ds : List Value), Leaf.allHold w ss cs → Leaf.allHold w ts ds → Leaf.allHold w (ss ++ ts) (cs ++ ds)
  | [], _, [], _, _, h => h
  | [], _, _ :: _, _, h, _ => h.elim
  | _ :: _, _, [], _, h, _ => h.elim
  | _ :: ss, ts, _ :: cs, ds, h, h' => ⟨h.1, allHold_append w ss ts cs ds h.2 h'⟩

/-- The leaves of a struct's fields, if they lie one behind the other. -/
def leavesF (P : Program) (rec : TypeId → Option (List Leaf)) : List Field → Nat → Option (List Leaf)
  | [], _ => some []
  | f :: fs, o => match rec f.type, leavesF P rec fs (o + P.cellsOf f.type) with
    | some a, some b => if f.offset = o ∧ P.cellsOf f.type = a.length then some (a ++ b) else none
    | _, _ => none
def leavesN (a : List Leaf) : Nat → List Leaf
  | 0 => []
  | n + 1 => a ++ leavesN a n
/-- The leaves of a type. -/
def leaves (P : Program) : Nat → TypeId → Option (List Leaf)
  | 0, _ => none
  | n + 1, t => match P.underlying t with
    | some .bool => some [.bool]
    | some (.int k) => some [.int k]
    | some .string => some [.str]
    | some (.slice e) => match leaves P n e with
      | some l => if P.cellsOf e = l.length ∧ l ≠ [] then some [.sl l] else none
      | none => none
    | some (.struct fs) => match leavesF P (leaves P n) fs.toList 0 with
      | some l => if P.cellsOf t = l.length then some l else none
      | none => none
    | some (.array m e) => match leaves P n e with
      | some l => if P.cellsOf e = l.length ∧ P.cellsOf t = m * l.length then some (leavesN l m) else none
      | none => none
    | _ => none

theorem mapM_get {β : Type} {f : Nat → Option β} {n : Nat} {r : List β} (h : (List.range n).mapM f = some r) (i : Nat) (hi : i < n) : ∃ y, f i = some y := by
  have h1 := mapM_some_get h i i (by simp [hi])
  have h2 := mapM_some_length h
  simp at h2
  rw [List.getElem?_eq_getElem (by omega)] at h1
  exact ⟨_, h1⟩
theorem take_drop_split {α : Type} (cs : List α) (o n m : Nat) (h : cs.length = o + (n + m)) : (cs.drop o).take (n + m) = (cs.drop o).take n ++ (cs.drop (o + n)).take m := by
  rw [List.take_add, List.drop_drop]

section
variable {H : Type} {enc : TypeId × Value → H} {P : Program} {w : World} {base : Nat} {spare : Nat → Bool} {held : Bool}

theorem holdF (n : Nat) (IH : ∀ (m : Nat) (t : TypeId) (cs : List Value) (x : DataW H × List MemPlace) (l : List Leaf), leaves P n t = some l → DataW.trod enc P w base spare held m t cs = some x → Leaf.allHold w l cs)
    (m : Nat) (cs : List Value) : ∀ (fs : List Field) (o : Nat) (l : List Leaf) (xs : List (DataW H × List MemPlace)), leavesF P (leaves P n) fs o = some l →
      fs.mapM (fun f => DataW.trod enc P w base spare held m f.type ((cs.drop f.offset).take (P.cellsOf f.type))) = some xs → cs.length = o + l.length → Leaf.allHold w l (cs.drop o)
  | [], o, l, xs, h1, _, hl => by
    simp only [leavesF, Option.some.injEq] at h1
    subst h1
    rw [List.drop_eq_nil_of_le (by simp at hl; omega)]
    exact trivial
  | f :: fs, o, l, xs, h1, h2, hl => by
    simp only [leavesF] at h1
    cases ha : leaves P n f.type with
    | none => simp [ha] at h1
    | some a =>
      cases hb : leavesF P (leaves P n) fs (o + P.cellsOf f.type) with
      | none => simp [ha, hb] at h1
      | some b =>
        simp only [ha, hb] at h1
        split at h1
        · rename_i hc
          simp only [Option.some.injEq] at h1
          subst h1
          simp only [List.length_append] at hl
          rw [List.mapM_cons] at h2
          simp only [Option.pure_def, Option.bind_eq_bind] at h2
          cases hx : DataW.trod enc P w base spare held m f.type ((cs.drop f.offset).take (P.cellsOf f.type)) with
          | none => simp [hx] at h2
          | some x =>
            simp only [hx, Option.bind_some] at h2
            cases hy : fs.mapM (fun f => DataW.trod enc P w base spare held m f.type ((cs.drop f.offset).take (P.cellsOf f.type))) with
            | none => simp [hy] at h2
            | some ys =>
              have i1 := IH m f.type _ x a ha hx
              have i2 := holdF n IH m cs fs (o + P.cellsOf f.type) b ys hb hy (by omega)
              rw [hc.1, hc.2] at i1
              rw [hc.2] at i2
              have e : cs.drop o = (cs.drop o).take a.length ++ cs.drop (o + a.length) := by
                rw [← List.drop_drop, List.take_append_drop]
              rw [e]
              exact allHold_append w _ _ _ _ i1 i2
        · cases h1
theorem holdN (n : Nat) (e : TypeId) (l : List Leaf) (IH : ∀ (m : Nat) (cs : List Value) (x : DataW H × List MemPlace), DataW.trod enc P w base spare held m e cs = some x → Leaf.allHold w l cs)
    (m : Nat) (cs : List Value) (hc : P.cellsOf e = l.length) (k : Nat) :
    (∀ i, i < k → ∃ x, DataW.trod enc P w base spare held m e ((cs.drop (i * P.cellsOf e)).take (P.cellsOf e)) = some x) → cs.length = k * l.length → Leaf.allHold w (leavesN l k) cs := by
  have key : ∀ (j : Nat), j ≤ k → (∀ i, i < k → ∃ x, DataW.trod enc P w base spare held m e ((cs.drop (i * P.cellsOf e)).take (P.cellsOf e)) = some x) → cs.length = k * l.length →
      Leaf.allHold w (leavesN l j) (cs.drop ((k - j) * l.length)) := by
    intro j
    induction j with
    | zero => intro _ _ hl; rw [Nat.sub_zero, List.drop_eq_nil_of_le (by omega)]; exact trivial
    | succ j ih =>
      intro hj h hl
      have i2 := ih (by omega) h hl
      obtain ⟨x, hx⟩ := h (k - (j + 1)) (by omega)
      have i1 := IH m _ x hx
      rw [hc] at i1
      have e1 : (k - j) * l.length = (k - (j + 1)) * l.length + l.length := by
        rw [show k - j = (k - (j + 1)) + 1 by omega, Nat.add_mul, Nat.one_mul]
      rw [e1] at i2
      have e : cs.drop ((k - (j + 1)) * l.length) = (cs.drop ((k - (j + 1)) * l.length)).take l.length ++ cs.drop ((k - (j + 1)) * l.length + l.length) := by
        rw [← List.drop_drop, List.take_append_drop]
      rw [e]
      exact allHold_append w _ _ _ _ i1 i2
  intro h hl
  have := key k (Nat.le_refl _) h hl
  simpa using this

/-- An argument that was read is of its type's leaves. -/
theorem holds_of_trod : ∀ (n m : Nat) (t : TypeId) (cs : List Value) (x : DataW H × List MemPlace) (l : List Leaf), leaves P n t = some l → DataW.trod enc P w base spare held m t cs = some x → Leaf.allHold w l cs
  | 0, _, _, _, _, _, h, _ => by simp [leaves] at h
  | n + 1, 0, _, _, _, _, _, h => by simp [DataW.trod] at h
  | n + 1, m + 1, t, cs, x, l, h1, h2 => by
    have IH := holds_of_trod n
    unfold leaves at h1
    unfold DataW.trod at h2
    split at h1
    · rename_i hu
      simp only [Option.some.injEq] at h1; subst h1
      rw [hu] at h2
      split at h2 <;> simp_all [Leaf.allHold, Leaf.holds]
    · rename_i k hu
      simp only [Option.some.injEq] at h1; subst h1
      rw [hu] at h2
      split at h2 <;> simp_all [Leaf.allHold, Leaf.holds]
    · rename_i hu
      simp only [Option.some.injEq] at h1; subst h1
      rw [hu] at h2
      split at h2 <;> simp_all [Leaf.allHold, Leaf.holds]
    · rename_i e hu
      cases hl : leaves P n e with
      | none => simp [hl] at h1
      | some le =>
        simp only [hl] at h1
        split at h1
        · rename_i hc
          simp only [Option.some.injEq] at h1; subst h1
          rw [hu] at h2
          split at h2
          case h_7 =>
            simp only [Leaf.allHold, Leaf.holds, and_true]
            exact ⟨none, 0, 0, rfl, Nat.le_refl _, Nat.zero_le _, fun _ => rfl, .inl rfl⟩
          case h_8 =>
            rename_i e' a len cap h3
            cases h3
            simp only at h2
            split at h2
            · rename_i hb
              simp only [Leaf.allHold, Leaf.holds, and_true]
              refine ⟨some a, len, cap, rfl, hb.2.1, hb.2.2, (fun h => by cases h), ?_⟩
              by_cases h0 : len = 0
              · exact .inl h0
              · refine .inr ?_
                cases hm : (List.range len).mapM (fun i => (w.cells? base (a.add (i * P.cellsOf e)) (P.cellsOf e)).bind (DataW.trod enc P w base spare held m e)) with
                | none => rw [hm] at h2; simp at h2
                | some elems =>
                  have hget := fun i hi => mapM_get hm i hi
                  have each : ∀ i, i < len → ∃ cs, w.cells? base (a.add (i * P.cellsOf e)) (P.cellsOf e) = some cs ∧ Leaf.allHold w le cs := by
                    intro i hi
                    obtain ⟨y, hy⟩ := hget i hi
                    cases hcs : w.cells? base (a.add (i * P.cellsOf e)) (P.cellsOf e) with
                    | none => rw [hcs] at hy; simp at hy
                    | some cs => rw [hcs] at hy; exact ⟨cs, rfl, IH _ _ _ _ _ hl hy⟩
                  obtain ⟨c0, hc0, _⟩ := each 0 (by omega)
                  have hpos : 0 < P.cellsOf e := by rw [hc.1]; exact List.length_pos_iff.2 hc.2
                  have h00 := (World.cells?_some hc0).2.2 0 hpos
                  have hl0 := (World.cells?_some hc0).2.1
                  rw [List.getElem?_eq_getElem (by omega)] at h00
                  have hspot : a.spot = none := by
                    have := World.cell?_spot h00
                    simpa [Addr.add] using this
                  obtain ⟨b, off, spot⟩ := a
                  simp only at hspot
                  subst hspot
                  refine ⟨b, off, rfl, fun i hi => ?_⟩
                  obtain ⟨cs, h5, h6⟩ := each i hi
                  obtain ⟨_, h7, h8⟩ := World.cells?_some h5
                  refine ⟨cs, by rw [h7, hc.1, Leaf.many_len], fun j hj => ?_, h6⟩
                  have h9 := h8 j (by omega)
                  rw [Leaf.many_len, ← hc.1, ← h9]
                  congr 1
                  unfold Addr.add
                  split <;> split <;> simp_all <;> omega
            · cases h2
          all_goals (exfalso; simp_all; done)
        · cases h1
    · rename_i fs hu
      cases hl : leavesF P (leaves P n) fs.toList 0 with
      | none => simp [hl] at h1
      | some l' =>
        simp only [hl] at h1
        split at h1
        · rename_i hc
          simp only [Option.some.injEq] at h1; subst h1
          rw [hu] at h2
          simp only at h2
          split at h2
          · rename_i hcl
            cases hm : fs.toList.mapM (fun f => DataW.trod enc P w base spare held m f.type ((cs.drop f.offset).take (P.cellsOf f.type))) with
            | none => rw [hm] at h2; simp at h2
            | some ys => simpa using holdF n IH m cs fs.toList 0 l' ys hl hm (by omega)
          · cases h2
        · cases h1
    · rename_i k e hu
      cases hl : leaves P n e with
      | none => simp [hl] at h1
      | some le =>
        simp only [hl] at h1
        split at h1
        · rename_i hc
          simp only [Option.some.injEq] at h1; subst h1
          rw [hu] at h2
          simp only at h2
          split at h2
          · rename_i hcl
            cases hm : (List.range k).mapM (fun i => DataW.trod enc P w base spare held m e ((cs.drop (i * P.cellsOf e)).take (P.cellsOf e))) with
            | none => rw [hm] at h2; simp at h2
            | some ys => exact holdN n e le (fun m cs x h => IH m e cs x le hl h) m cs hc.1 k (fun i hi => mapM_get hm i hi) (by omega)
          · cases h2
        · cases h1
    · cases h1
end
theorem okWide_array {P : Program} {w : World} {r : Reach} {base : Nat} {t n e : TypeId} {v : Value} (ht : P.underlying t = some (.array n e)) (h : Value.okWide P w r base t v) : ∃ cs : Array Value, v = .agg cs := by
  simp only [Value.okWide, ht] at h
  obtain ⟨cs, h1, _⟩ := h
  exact ⟨cs, h1⟩
theorem list_of {α : Type} (p : Nat → α → Prop) : ∀ (n : Nat), (∀ i, i < n → ∃ x, p i x) → ∃ l : List α, l.length = n ∧ ∀ i, (hi : i < l.length) → p i l[i]
  | 0, _ => ⟨[], rfl, fun i hi => by simp at hi⟩
  | n + 1, h => by
    obtain ⟨l, h1, h2⟩ := list_of p n (fun i hi => h i (by omega))
    obtain ⟨x, hx⟩ := h n (by omega)
    refine ⟨l ++ [x], by simp [h1], fun i hi => ?_⟩
    simp only [List.length_append, List.length_singleton] at hi
    by_cases hn : i < l.length
    · rw [List.getElem_append_left hn]; exact h2 i hn
    · have e : i = l.length := by omega
      subst e
      simpa [h1] using hx

theorem opened {H : Type} {enc : TypeId × Value → H} {w : World} {base n : Nat} {spare : Nat → Bool} {held : Bool} {t : TypeId} {v : Value} {d : DataW H} {p : List MemPlace} {l : List Leaf} (hl : leaves Try.prog n t = some l)
    (k : DataW.Trod enc Try.prog w base spare held t v d p) : Leaf.allHold w l v.cells.toList := by
  obtain ⟨m, hm⟩ := k
  exact holds_of_trod n m t _ _ l hl hm

theorem allHold_cons {w : World} {s : Leaf} {ss : List Leaf} {cs : List Value} (h : Leaf.allHold w (s :: ss) cs) : ∃ c r, cs = c :: r ∧ Leaf.holds w s c ∧ Leaf.allHold w ss r := by
  cases cs with
  | nil => exact h.elim
  | cons c r => exact ⟨c, r, rfl, h.1, h.2⟩
theorem allHold_nil {w : World} {cs : List Value} (h : Leaf.allHold w [] cs) : cs = [] := by
  cases cs with
  | nil => rfl
  | cons c r => exact h.elim
theorem holds_int {w : World} {k : IntKind} {v : Value} (h : Leaf.holds w (.int k) v) : ∃ n, v = .int k n ∧ (Lit.int k n).wf = true := by simpa only [Leaf.holds] using h
theorem holds_str {w : World} {v : Value} (h : Leaf.holds w .str v) : ∃ s : ByteArray, v = .string s ∧ s.size ≤ maxLen := by simpa only [Leaf.holds] using h
theorem holds_bool {w : World} {v : Value} (h : Leaf.holds w .bool v) : ∃ b, v = .bool b := by simpa only [Leaf.holds] using h
/-- A list of records that may be read; a record: its cells. -/
def Recs (w : World) (e : List Leaf) (v : Value) (l : List (List Value)) : Prop :=
  ∃ a cap, v = .slice a l.length cap ∧ l.length ≤ cap ∧ cap ≤ maxLen ∧ (a = none → cap = 0) ∧ (∀ x ∈ l, Leaf.allHold w e x) ∧
    (l = [] ∨ ∃ b off, a = some ⟨b, off, none⟩ ∧ ∀ i, (hi : i < l.length) → ∀ j, j < e.length → w.cell? ⟨b, off + (i * e.length + j), none⟩ = (l[i])[j]?)
theorem recs_of {w : World} {e : List Leaf} {v : Value} (h : Leaf.holds w (.sl e) v) : ∃ l, Recs w e v l := by
  simp only [Leaf.holds, Leaf.many_len] at h
  obtain ⟨a, len, cap, rfl, h1, h2, h3, h4⟩ := h
  rcases h4 with rfl | ⟨b, off, rfl, h5⟩
  · exact ⟨[], a, cap, rfl, h1, h2, h3, by simp, .inl rfl⟩
  · obtain ⟨l, hl, hp⟩ := list_of (fun i (x : List Value) => Leaf.allHold w e x ∧ ∀ j, j < e.length → w.cell? ⟨b, off + (i * e.length + j), none⟩ = x[j]?) len (fun i hi => by
      obtain ⟨cs, c1, c2, c3⟩ := h5 i hi
      exact ⟨cs, c3, fun j hj => c2 j (by omega)⟩)
    subst hl
    refine ⟨l, _, cap, rfl, h1, h2, h3, fun x hx => ?_, .inr ⟨b, off, rfl, fun i hi => (hp i hi).2⟩⟩
    obtain ⟨i, hi, rfl⟩ := List.mem_iff_getElem.1 hx
    exact (hp i hi).1
end Go.Proofs.Yteofdldlmmkgbaa
