/-
  hists.Order: whatever history.
-/
import Derived.Test.YtmagpbbjjkmbpaaHistRow
import Derived.Laws.EntriesVeiled
import Derived.Deep.WholeRow
namespace Go.Proofs.Ytmagpbbjjkmbpaa
open Go.RowKit Go.Maps Go.Sort
set_option linter.unusedVariables false

theorem info_entry : (Try.prog.info? 42).map (fun i => (i.zero, i.size, i.bytes)) = some (some (.agg #[.int .i64 0, .int .i64 0, .int .i64 0]), 3, 24) := by kernel_rfl
theorem info_parts3 {P : Program} {t : TypeId} {z : Value} {s b : Nat} (h : (P.info? t).map (fun i => (i.zero, i.size, i.bytes)) = some (some z, s, b)) : ∃ i, P.info? t = some i ∧ i.zero = some z ∧ i.size = s ∧ i.bytes = b := by
  cases hi : P.info? t with
  | none => rw [hi] at h; cases h
  | some i => rw [hi] at h; simp only [Option.map_some, Option.some.injEq, Prod.mk.injEq] at h; exact ⟨i, rfl, h.1, h.2.1, h.2.2⟩
/-- The sort of no entries. -/
theorem esort_nil (f : Value) (w : World) : Calls Try.prog 30 #[.slice none 0 0, f] w fun e w' => e = .returned (.tuple #[]) ∧ w' = w := by
  have h1 : ∀ W, Calls Try.prog 71 #[.slice none 0 0, .int .i64 0, .int .i64 0, f] W fun e w' => e = .returned (.tuple #[]) ∧ w' = W := fun W => by
    go_enter Try.func71, Try.ntmps71
    go_wp2
    go_loopw [8] (fun v wr => v = .int .i64 1 ∧ wr = W) (fun _ _ => 0)
    case atStart => exact ⟨rfl, rfl⟩
    case round =>
      obtain ⟨rfl, rfl⟩ := hrel
      go_wp2
      go_end0
      exact ⟨rfl, rfl⟩
  have h2 : ∀ W, Calls Try.prog 50 #[.slice none 0 0, .int .i64 0, f] W fun e w' => e = .returned (.tuple #[]) ∧ w' = W := fun W => by
    go_enter Try.func50, Try.ntmps50
    go_wp2
    go_loopw [7, 8] (fun v u wr => v = .int .i64 0 ∧ u = .int .i64 20 ∧ wr = W) (fun _ _ _ => 0)
    case atStart => exact ⟨rfl, rfl, rfl⟩
    case round =>
      obtain ⟨rfl, rfl, rfl⟩ := hrel
      obtain ⟨wo, rfl⟩ : ∃ wo : World, wo = wr := ⟨_, rfl⟩
      go_wp2_with (go_at_call 71; refine (h1 _).mono ?_; intro e w1 hh; obtain ⟨hh1, hh2⟩ := hh; subst hh1; obtain rfl := hh2.symm)
      go_loopw [6, 7, 8, 9] (fun v _ _ _ wr => v = .int .i64 20 ∧ wr = wo) (fun _ _ _ _ _ => 0)
      case atStart => exact ⟨rfl, rfl⟩
      case round =>
        obtain ⟨rfl, rfl⟩ := hrel
        go_wp2
        go_end0
        exact ⟨rfl, rfl⟩
  go_enter Try.func30, Try.ntmps30
  go_wp2_with (go_at_call 50; refine (h2 _).mono ?_; intro e w1 hh; obtain ⟨hh1, hh2⟩ := hh; subst hh1; obtain rfl := hh2.symm)
  go_end0
  exact ⟨rfl, rfl⟩
/-- The sort, of a row that the call made. -/
theorem esort_own {w : World} {base : Nat} {v : Value} {ps ds : List Int} (hl : ps.length + ds.length ≤ 180) (h : w.ownsRow base 42 3 v (E0 ps ds).length (flatE (E0 ps ds))) :
    Calls Try.prog 30 #[v, .func (.func 31) #[] #[]] w fun e w' => e = .returned (.tuple #[]) ∧ ∃ O, IsOrd ps ds O ∧ w'.ownsRow base 42 3 v O.length (flatE O) ∧ Below base w w' := by
  obtain ⟨h1, ⟨rfl, h0⟩ | ⟨g, cap, cur, rfl, hb, hg, hn, hm, hs, ht⟩⟩ := h
  · refine (esort_nil _ w).mono fun e w' ⟨h2, h3⟩ => ⟨h2, [], ?_⟩
    have hz : E0 ps ds = [] := List.length_eq_zero_iff.1 h0
    subst h3
    exact ⟨⟨by rw [hz], List.Pairwise.nil⟩, World.ownsRow_nil _ _ _ _, Below.refl _ _⟩
  · have hlen := E0_len ps ds
    obtain ⟨d0, hd0⟩ : ∃ d0, d0 = (E0 ps ds).toArray := ⟨_, rfl⟩
    have hsz : d0.size = (E0 ps ds).length := by rw [hd0]; simp
    have hH := holds_flatE hg (E0 ps ds) ht
    rw [← hd0] at hH
    have hlt : g < w.heap.size := (Array.getElem?_eq_some_iff.1 hg).1
    have R := row_e hH hlt
    have hrk : RkA En.rk d0 0 d0.size := fun i j _ h2 h3 => by
      have := List.pairwise_iff_getElem.1 (E0_rk ps ds (by omega)) i j (by omega) (by omega) h2
      rw [hd0, getElem!_pos _ i (by simp; omega), getElem!_pos _ j (by simp; omega)]
      simpa using this
    have hc := esort (cap := cap) R (by omega) (by omega) hrk
    rw [hsz] at hc
    refine hc.mono fun e w' ⟨h2, d', hp, ho, hw⟩ => ⟨h2, d'.toList, ?_⟩
    have hds : d'.size = (E0 ps ds).length := hp.1.trans hsz
    obtain ⟨r1, r2⟩ := esort_row hb hg hn hm hs ht hds hw
    refine ⟨⟨?_, ?_⟩, ?_, ?_⟩
    · have h3 := hp.2.2
      have e1 : d'.extract 0 (E0 ps ds).length = d' := by rw [← hds]; simp
      have e2 : d0.extract 0 (E0 ps ds).length = d0 := by rw [← hsz]; simp
      rw [e1, e2, hd0] at h3
      simpa using h3
    · rw [List.pairwise_iff_getElem]
      intro i j hi hj hij
      have hi' : i < d'.size := by simpa using hi
      have hj' : j < d'.size := by simpa using hj
      have := ho i j (Nat.zero_le _) hij (by omega)
      rw [getElem!_pos d' i hi', getElem!_pos d' j hj'] at this
      simpa using this
    · have : d'.toList.length = (E0 ps ds).length := by simpa using hds
      rw [this] at r1
      rw [this]; exact r1
    · exact keeps_below r2 (Below.refl _ _) (Nat.le_of_lt (Nat.lt_of_le_of_lt hb hlt)) (fun j hj => by rw [hj]; exact hb)
end Go.Proofs.Ytmagpbbjjkmbpaa
