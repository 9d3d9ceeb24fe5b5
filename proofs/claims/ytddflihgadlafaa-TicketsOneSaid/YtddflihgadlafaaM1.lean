/-
  Texts of this prover, merged: TurnLaw, OwnRow, Grown, Bytes.
-/
import Derived.Test.YtddflihgadlafaaLib
import Derived.Test.YtddflihgadlafaaFrame
import Derived.Test.YtddflihgadlafaaOpen
import Derived.Deep.AppendLies
/-
  TicketsOne: the plain law: clients in a line, without any program.
-/
namespace Go.Proofs.Ytddflihgadlafaa
set_option linter.unusedVariables false

/-- Where a client is: nothing begun, waiting with a ticket, having the lock for some steps more, giving it back. -/
inductive Ph where
  | idle
  | wait (k : Nat)
  | hold (h : Nat)
  | give
def Ph.busy : Ph → Bool
  | .hold _ => true
  | .give => true
  | _ => false
def Ph.cost (H : Nat) : Ph → Nat
  | .idle => 0
  | .wait _ => H + 2
  | .hold h => h + 1
  | .give => 1
structure TSt where
  left : Nat → Nat
  ph : Nat → Ph
  N : Nat
  S : Nat
  served : Nat
  drawn : List Nat
def tupd {α : Type} (f : Nat → α) (j : Nat) (v : α) : Nat → α := fun i => if i = j then v else f i
theorem tupd_same {α : Type} (f : Nat → α) (j : Nat) (v : α) : tupd f j v j = v := by simp [tupd]
theorem tupd_other {α : Type} (f : Nat → α) {i j : Nat} (v : α) (h : i ≠ j) : tupd f j v i = f i := by simp [tupd, h]
def sumTo (f : Nat → Nat) : Nat → Nat
  | 0 => 0
  | n + 1 => sumTo f n + f n
theorem sumTo_congr {f g : Nat → Nat} : ∀ {n : Nat}, (∀ i, i < n → f i = g i) → sumTo f n = sumTo g n
  | 0, _ => rfl
  | n + 1, h => by
    have h1 := sumTo_congr (n := n) fun i hi => h i (by omega)
    have h2 := h n (by omega)
    simp only [sumTo]; omega
theorem sumTo_one {f g : Nat → Nat} {j : Nat} (ho : ∀ i, i ≠ j → f i = g i) : ∀ {n : Nat}, j < n → sumTo f n + g j = sumTo g n + f j
  | 0, h => by omega
  | n + 1, h => by
    simp only [sumTo]
    by_cases hj : j = n
    · subst hj
      have h1 := sumTo_congr (f := f) (g := g) (n := j) fun i hi => ho i (by omega)
      omega
    · have h1 := sumTo_one ho (n := n) (by omega)
      have h2 := ho n (by omega)
      omega
theorem sumTo_le {f : Nat → Nat} {m : Nat} : ∀ {n : Nat}, (∀ i, i < n → f i ≤ m) → sumTo f n ≤ n * m
  | 0, _ => by simp [sumTo]
  | n + 1, h => by
    have h1 := sumTo_le (n := n) fun i hi => h i (by omega)
    have h2 := h n (by omega)
    have h3 : (n + 1) * m = n * m + m := Nat.succ_mul n m
    simp only [sumTo]; omega
theorem sumTo_zero {f : Nat → Nat} : ∀ {n : Nat}, sumTo f n = 0 → ∀ i, i < n → f i = 0
  | 0, _, i, hi => by omega
  | n + 1, h, i, hi => by
    simp only [sumTo] at h
    by_cases hj : i = n
    · subst hj; omega
    · exact sumTo_zero (n := n) (by omega) i (by omega)

/-- A client's step. -/
def tgo (H : Nat) (σ : TSt) (j : Nat) : TSt :=
  match σ.ph j with
  | .give => { σ with ph := tupd σ.ph j .idle, S := σ.S + 1 }
  | .hold h => { σ with ph := tupd σ.ph j (if h ≤ 1 then .give else .hold (h - 1)) }
  | .wait k => if k = σ.S then { σ with ph := tupd σ.ph j (.hold H), served := σ.served + 1 } else σ
  | .idle => if 0 < σ.left j then { σ with left := tupd σ.left j (σ.left j - 1), ph := tupd σ.ph j (.wait σ.N), N := σ.N + 1, drawn := σ.drawn ++ [j] } else σ

structure TInv (n H total : Nat) (σ : TSt) : Prop where
  len : σ.drawn.length = σ.N
  waits : ∀ j, j < n → ∀ k, σ.ph j = .wait k → σ.served ≤ k ∧ k < σ.N ∧ σ.drawn[k]? = some j
  line : ∀ k, σ.served ≤ k → k < σ.N → ∃ j, j < n ∧ σ.ph j = .wait k
  lock : (∃ j, j < n ∧ (σ.ph j).busy = true ∧ (∀ i, i < n → (σ.ph i).busy = true → i = j) ∧ σ.served = σ.S + 1) ∨ ((∀ j, j < n → (σ.ph j).busy = false) ∧ σ.served = σ.S)
  le : σ.served ≤ σ.N
  sum : sumTo σ.left n + σ.N = total
  has : ∀ j, j < n → ∀ h, σ.ph j = .hold h → 1 ≤ h ∧ h ≤ H

theorem busy_wait (k : Nat) : (Ph.wait k).busy = false := rfl
theorem TInv.next {n H total : Nat} {σ : TSt} (h : TInv n H total σ) (hH : 1 ≤ H) (j : Nat) (hj : j < n) : TInv n H total (tgo H σ j) := by
  unfold tgo
  split
  · rename_i hp
    -- giving
    obtain ⟨j', hj', hb, hu, hs⟩ | ⟨hn, hs⟩ := h.lock
    · obtain rfl : j = j' := hu j hj (by rw [hp]; rfl)
      refine ⟨h.len, fun i hi k hk => ?_, fun k h1 h2 => ?_, .inr ⟨fun i hi => ?_, by simp; omega⟩, h.le, h.sum, fun i hi g hg => ?_⟩
      · by_cases e : i = j
        · subst e; simp [tupd_same] at hk
        · simp only [tupd_other _ _ e] at hk; exact h.waits i hi k hk
      · obtain ⟨i, hi, hw⟩ := h.line k h1 h2
        refine ⟨i, hi, ?_⟩
        have e : i ≠ j := fun e => by subst e; rw [hp] at hw; cases hw
        simp only [tupd_other _ _ e]; exact hw
      · by_cases e : i = j
        · subst e; simp [tupd_same, Ph.busy]
        · simp only [tupd_other _ _ e]
          cases hbi : (σ.ph i).busy
          · rfl
          · exact absurd (hu i hi hbi) e
      · by_cases e : i = j
        · subst e; simp [tupd_same] at hg
        · simp only [tupd_other _ _ e] at hg; exact h.has i hi g hg
    · have := hn j hj; rw [hp] at this; cases this
  · rename_i g hp
    -- having
    have hbz : (if g ≤ 1 then Ph.give else Ph.hold (g - 1)).busy = true := by split <;> rfl
    obtain ⟨j', hj', hb, hu, hs⟩ | ⟨hn, hs⟩ := h.lock
    · obtain rfl : j = j' := hu j hj (by rw [hp]; rfl)
      refine ⟨h.len, fun i hi k hk => ?_, fun k h1 h2 => ?_, .inl ⟨j, hj, ?_, fun i hi hbi => ?_, hs⟩, h.le, h.sum, fun i hi g' hg => ?_⟩
      · by_cases e : i = j
        · subst e; simp only [tupd_same] at hk; rw [hk] at hbz; cases hbz
        · simp only [tupd_other _ _ e] at hk; exact h.waits i hi k hk
      · obtain ⟨i, hi, hw⟩ := h.line k h1 h2
        refine ⟨i, hi, ?_⟩
        have e : i ≠ j := fun e => by subst e; rw [hp] at hw; cases hw
        simp only [tupd_other _ _ e]; exact hw
      · simp only [tupd_same]; exact hbz
      · by_cases e : i = j
        · exact e
        · simp only [tupd_other _ _ e] at hbi; exact hu i hi hbi
      · by_cases e : i = j
        · subst e; simp only [tupd_same] at hg
          have := h.has i hi g hp
          split at hg
          · cases hg
          · cases hg; omega
        · simp only [tupd_other _ _ e] at hg; exact h.has i hi g' hg
    · have := hn j hj; rw [hp] at this; cases this
  · rename_i k hp
    split
    · rename_i hk
      obtain ⟨w1, w2, w3⟩ := h.waits j hj k hp
      obtain ⟨j', hj', hb, hu, hs⟩ | ⟨hn, hs⟩ := h.lock
      · omega
      · refine ⟨h.len, fun i hi k' hk' => ?_, fun k' h1 h2 => ?_, .inl ⟨j, hj, ?_, fun i hi hbi => ?_, by simp; omega⟩, by simp; omega, h.sum, fun i hi g' hg => ?_⟩
        · by_cases e : i = j
          · subst e; simp [tupd_same] at hk'
          · simp only [tupd_other _ _ e] at hk'
            obtain ⟨v1, v2, v3⟩ := h.waits i hi k' hk'
            refine ⟨?_, v2, v3⟩
            have : k' ≠ k := fun c => by subst c; rw [w3] at v3; cases v3; exact e rfl
            simp; omega
        · simp only at h1
          obtain ⟨i, hi, hw⟩ := h.line k' (by omega) h2
          refine ⟨i, hi, ?_⟩
          have e : i ≠ j := fun e => by subst e; rw [hp] at hw; cases hw; omega
          simp only [tupd_other _ _ e]; exact hw
        · simp only [tupd_same]; rfl
        · by_cases e : i = j
          · exact e
          · simp only [tupd_other _ _ e] at hbi; rw [hn i hi] at hbi; cases hbi
        · by_cases e : i = j
          · subst e; simp only [tupd_same] at hg; cases hg; omega
          · simp only [tupd_other _ _ e] at hg; exact h.has i hi g' hg
    · exact h
  · rename_i hp
    split
    · rename_i hl
      refine ⟨by simp [h.len], fun i hi k' hk' => ?_, fun k' h1 h2 => ?_, ?_, by have := h.le; simp; omega, ?_, fun i hi g' hg => ?_⟩
      · by_cases e : i = j
        · subst e; simp only [tupd_same] at hk'
          cases hk'
          refine ⟨h.le, by simp, ?_⟩
          rw [← h.len]; simp
        · simp only [tupd_other _ _ e] at hk'
          obtain ⟨v1, v2, v3⟩ := h.waits i hi k' hk'
          refine ⟨v1, by simp; omega, ?_⟩
          simp only
          rw [List.getElem?_append_left (by rw [h.len]; exact v2)]; exact v3
      · simp only at h1 h2
        by_cases c : k' = σ.N
        · exact ⟨j, hj, by simp only [tupd_same]; rw [c]⟩
        · obtain ⟨i, hi, hw⟩ := h.line k' h1 (by omega)
          refine ⟨i, hi, ?_⟩
          have e : i ≠ j := fun e => by subst e; rw [hp] at hw; cases hw
          simp only [tupd_other _ _ e]; exact hw
      · have hbe : ∀ i, (tupd σ.ph j (.wait σ.N) i).busy = (σ.ph i).busy := fun i => by
          by_cases e : i = j
          · subst e; rw [tupd_same, hp]; rfl
          · rw [tupd_other _ _ e]
        simp only [hbe]
        exact h.lock
      · have h1 := sumTo_one (f := tupd σ.left j (σ.left j - 1)) (g := σ.left) (j := j) (fun i hi => tupd_other _ _ hi) hj
        rw [tupd_same] at h1
        have := h.sum
        simp only; omega
      · by_cases e : i = j
        · subst e; simp only [tupd_same] at hg; cases hg
        · simp only [tupd_other _ _ e] at hg; exact h.has i hi g' hg
    · exact h

/-- What is left to do. -/
def tcost (H : Nat) (σ : TSt) (j : Nat) : Nat := σ.left j * (H + 3) + (σ.ph j).cost H
def tleft (n H : Nat) (σ : TSt) : Nat := sumTo (tcost H σ) n
/-- Does a client not go, when those go that do not wait, and are not done? -/
def tskip (σ : TSt) (j : Nat) : Bool :=
  match σ.ph j with
  | .idle => σ.left j == 0
  | .wait k => k != σ.S
  | _ => false
theorem tgo_cost {n H total : Nat} {σ : TSt} (h : TInv n H total σ) (j : Nat) (hj : j < n) :
    (tgo H σ j = σ ∧ tskip σ j = true) ∨ (tleft n H (tgo H σ j) + 1 = tleft n H σ ∧ tskip σ j = false) := by
  have key : ∀ σ' : TSt, (∀ i, i ≠ j → tcost H σ' i = tcost H σ i) → tcost H σ' j + 1 = tcost H σ j → tleft n H σ' + 1 = tleft n H σ := fun σ' h1 h2 => by
    have := sumTo_one (f := tcost H σ') (g := tcost H σ) h1 hj
    unfold tleft; omega
  unfold tgo tskip
  cases hp : σ.ph j with
  | give =>
    refine .inr ⟨key _ (fun i hi => ?_) ?_, rfl⟩
    · simp only [tcost, tupd_other _ _ hi]
    · simp only [tcost, tupd_same, hp, Ph.cost]
  | hold g =>
    have hg := h.has j hj g hp
    refine .inr ⟨key _ (fun i hi => ?_) ?_, rfl⟩
    · simp only [tcost, tupd_other _ _ hi]
    · simp only [tcost, tupd_same, hp]
      split
      · simp only [Ph.cost]; omega
      · simp only [Ph.cost]; omega
  | wait k =>
    dsimp only
    by_cases hk : k = σ.S
    · rw [if_pos hk]
      refine .inr ⟨key _ (fun i hi => ?_) ?_, by simp [hk]⟩
      · simp only [tcost, tupd_other _ _ hi]
      · simp only [tcost, tupd_same, hp, Ph.cost]; omega
    · rw [if_neg hk]
      exact .inl ⟨rfl, by simp [hk]⟩
  | idle =>
    dsimp only
    by_cases hl : 0 < σ.left j
    · rw [if_pos hl]
      refine .inr ⟨key _ (fun i hi => ?_) ?_, by simp; omega⟩
      · simp only [tcost, tupd_other _ _ hi]
      · simp only [tcost, tupd_same, hp, Ph.cost]
        obtain ⟨l, hl'⟩ : ∃ l, σ.left j = l + 1 := ⟨σ.left j - 1, by omega⟩
        rw [hl']
        have : (l + 1) * (H + 3) = l * (H + 3) + (H + 3) := Nat.succ_mul _ _
        simp only [Nat.add_sub_cancel]; omega
    · rw [if_neg hl]
      exact .inl ⟨rfl, by simp; omega⟩
theorem tgo_le {n H total : Nat} {σ : TSt} (h : TInv n H total σ) (j : Nat) (hj : j < n) : tleft n H (tgo H σ j) ≤ tleft n H σ := by
  rcases tgo_cost h j hj with ⟨h1, _⟩ | ⟨h1, _⟩
  · rw [h1]; exact Nat.le_refl _
  · omega
/-- A round. -/
def tround (H : Nat) (σ : TSt) (j : Nat) : TSt := if tskip σ j then σ else tgo H σ j
theorem tround_go {n H total : Nat} {σ : TSt} (h : TInv n H total σ) (j : Nat) (hj : j < n) : tround H σ j = tgo H σ j := by
  unfold tround
  rcases tgo_cost h j hj with ⟨h1, h2⟩ | ⟨h1, h2⟩
  · rw [h2, h1]; rfl
  · rw [h2]; rfl
/-- Clients in turn. -/
def turns (n H : Nat) (σ : TSt) : Nat → TSt
  | 0 => σ
  | i + 1 => tround H (turns n H σ i) (i % n)
theorem turns_inv {n H total : Nat} {σ : TSt} (h : TInv n H total σ) (hH : 1 ≤ H) (hn : 0 < n) : ∀ i, TInv n H total (turns n H σ i)
  | 0 => h
  | i + 1 => by
    have := turns_inv h hH hn i
    have hj := Nat.mod_lt i hn
    simp only [turns]
    rw [tround_go this _ hj]
    exact this.next hH _ hj
theorem turns_le {n H total : Nat} {σ : TSt} (h : TInv n H total σ) (hH : 1 ≤ H) (hn : 0 < n) (a : Nat) : ∀ m, tleft n H (turns n H σ (a + m)) ≤ tleft n H (turns n H σ a)
  | 0 => Nat.le_refl _
  | m + 1 => by
    have h1 := turns_le h hH hn a m
    have hI := turns_inv h hH hn (a + m)
    have hj := Nat.mod_lt (a + m) hn
    have h2 := tgo_le hI _ hj
    rw [← tround_go hI _ hj] at h2
    exact Nat.le_trans h2 h1
theorem turns_win {n H total : Nat} {σ : TSt} (h : TInv n H total σ) (hH : 1 ≤ H) (hn : 0 < n) (a : Nat) :
    ∀ m, tleft n H (turns n H σ (a + m)) < tleft n H (turns n H σ a) ∨ (turns n H σ (a + m) = turns n H σ a ∧ ∀ i, i < m → tskip (turns n H σ a) ((a + i) % n) = true)
  | 0 => .inr ⟨rfl, fun i hi => by omega⟩
  | m + 1 => by
    have hI := turns_inv h hH hn (a + m)
    have hj := Nat.mod_lt (a + m) hn
    have e : turns n H σ (a + (m + 1)) = tgo H (turns n H σ (a + m)) ((a + m) % n) := tround_go hI _ hj
    rcases turns_win h hH hn a m with h1 | ⟨h1, h2⟩
    · left; rw [e]; exact Nat.lt_of_le_of_lt (tgo_le hI _ hj) h1
    · rcases tgo_cost hI _ hj with ⟨g1, g2⟩ | ⟨g1, g2⟩
      · right
        refine ⟨by rw [e, g1, h1], fun i hi => ?_⟩
        by_cases c : i = m
        · subst c; rw [h1] at g2; exact g2
        · exact h2 i (by omega)
      · left; rw [e]; rw [h1] at g1 ⊢; omega
theorem all_skip {n H total : Nat} {σ : TSt} (h : TInv n H total σ) (hs : ∀ j, j < n → tskip σ j = true) : tleft n H σ = 0 := by
  have hb : ∀ j, j < n → (σ.ph j).busy = false := fun j hj => by
    have := hs j hj
    unfold tskip at this
    cases hp : σ.ph j <;> rw [hp] at this <;> first | rfl | (simp at this; done)
  have hse : σ.served = σ.S := by
    obtain ⟨j, hj, h1, _⟩ | ⟨_, h1⟩ := h.lock
    · rw [hb j hj] at h1; cases h1
    · exact h1
  have hN : σ.served = σ.N := by
    by_cases c : σ.served < σ.N
    · obtain ⟨j, hj, hw⟩ := h.line σ.served (Nat.le_refl _) c
      have := hs j hj
      unfold tskip at this
      rw [hw] at this
      simp [hse] at this
    · have := h.le; omega
  have hz : ∀ j, j < n → tcost H σ j = 0 := fun j hj => by
    have h1 := hs j hj
    have h2 := hb j hj
    unfold tskip at h1
    unfold tcost
    cases hp : σ.ph j with
    | idle => rw [hp] at h1; simp only [beq_iff_eq] at h1; rw [h1]; simp [Ph.cost]
    | wait k => have := h.waits j hj k hp; omega
    | hold g => rw [hp] at h2; cases h2
    | give => rw [hp] at h2; cases h2
  have : ∀ m, m ≤ n → sumTo (tcost H σ) m = 0 := fun m => by
    induction m with
    | zero => intro; rfl
    | succ m ih => intro hm; simp only [sumTo]; rw [ih (by omega), hz m (by omega)]
  exact this n (Nat.le_refl _)
theorem turns_down {n H total : Nat} {σ : TSt} (h : TInv n H total σ) (hH : 1 ≤ H) (hn : 0 < n) : ∀ q, tleft n H (turns n H σ (n * q)) ≤ tleft n H σ - q
  | 0 => Nat.le_refl _
  | q + 1 => by
    have h1 := turns_down h hH hn q
    have e : n * (q + 1) = n * q + n := Nat.mul_succ n q
    rw [e]
    rcases turns_win h hH hn (n * q) n with h2 | ⟨h2, h3⟩
    · omega
    · rw [h2, all_skip (turns_inv h hH hn (n * q)) fun j hj => by have := h3 j hj; rwa [Nat.mul_add_mod, Nat.mod_eq_of_lt hj] at this]
      exact Nat.zero_le _
/-- Behind 4000 rounds all is done. -/
theorem turns_end {n H total : Nat} {σ : TSt} (h : TInv n H total σ) (hH : 1 ≤ H) (hn : 0 < n) (hn8 : n ≤ 8) (hc : tleft n H σ ≤ 192) :
    (∀ j, j < n → (turns n H σ 4000).left j = 0 ∧ (turns n H σ 4000).ph j = .idle) ∧ (turns n H σ 4000).N = total ∧ (turns n H σ 4000).S = total ∧ (turns n H σ 4000).served = total := by
  have hI := turns_inv h hH hn 4000
  have h0 : tleft n H (turns n H σ 4000) = 0 := by
    have h1 := turns_down h hH hn 192
    have h2 := turns_le h hH hn (n * 192) (4000 - n * 192)
    have h3 : n * 192 ≤ 8 * 192 := Nat.mul_le_mul_right _ hn8
    rw [show n * 192 + (4000 - n * 192) = 4000 by omega] at h2
    omega
  have hz := sumTo_zero h0
  have hd : ∀ j, j < n → (turns n H σ 4000).left j = 0 ∧ (turns n H σ 4000).ph j = .idle := fun j hj => by
    have := hz j hj
    unfold tcost at this
    have h1 : (turns n H σ 4000).left j * (H + 3) = 0 := by omega
    refine ⟨(Nat.mul_eq_zero.1 h1).resolve_right (by omega), ?_⟩
    cases hp : (turns n H σ 4000).ph j with
    | idle => rfl
    | wait k => rw [hp] at this; simp only [Ph.cost] at this; omega
    | hold g => rw [hp] at this; simp only [Ph.cost] at this; omega
    | give => rw [hp] at this; simp only [Ph.cost] at this; omega
  have hs : sumTo (turns n H σ 4000).left n = 0 := by
    have := sumTo_congr (f := (turns n H σ 4000).left) (g := fun _ => 0) (n := n) fun i hi => (hd i hi).1
    rw [this]
    have : ∀ m, sumTo (fun _ => 0) m = 0 := fun m => by induction m with | zero => rfl | succ m ih => simp only [sumTo]; omega
    exact this n
  have hN := hI.sum
  have hle := hI.le
  have hse : (turns n H σ 4000).served = (turns n H σ 4000).N := by
    by_cases c : (turns n H σ 4000).served < (turns n H σ 4000).N
    · obtain ⟨j, hj, hw⟩ := hI.line _ (Nat.le_refl _) c
      rw [(hd j hj).2] at hw; cases hw
    · omega
  have hS : (turns n H σ 4000).served = (turns n H σ 4000).S := by
    obtain ⟨j, hj, h1, _⟩ | ⟨_, h1⟩ := hI.lock
    · rw [(hd j hj).2] at h1; cases h1
    · exact h1
  exact ⟨hd, by omega, by omega, by omega⟩
/-- How it begins. -/
def tstart (R : Nat → Nat) : TSt := ⟨R, fun _ => .idle, 0, 0, 0, []⟩
theorem tstart_inv (n H : Nat) (R : Nat → Nat) : TInv n H (sumTo R n) (tstart R) :=
  ⟨rfl, fun j _ k hk => (by cases hk), fun k _ h => absurd h (Nat.not_lt_zero k), .inr ⟨fun _ _ => rfl, rfl⟩, Nat.le_refl _, rfl, fun j _ g hg => (by cases hg)⟩
theorem tstart_cost (n H : Nat) (R : Nat → Nat) (hn : n ≤ 8) (hH : H ≤ 3) (hR : ∀ j, R j ≤ 4) : tleft n H (tstart R) ≤ 192 := by
  have h1 : ∀ j, j < n → tcost H (tstart R) j ≤ 24 := fun j _ => by
    have h2 : R j * (H + 3) ≤ 4 * 6 := Nat.mul_le_mul (hR j) (by omega)
    have h3 : tcost H (tstart R) j = R j * (H + 3) := rfl
    omega
  have := sumTo_le h1
  unfold tleft; omega
end Go.Proofs.Ytddflihgadlafaa

/-
  Rows that the call made.
-/
namespace Go.Proofs.Ytddflihgadlafaa
open Go.RowKit
set_option linter.unusedVariables false

/-- A row of pointers that the call made. -/
theorem own_lit (w : World) (base e : Nat) (xs : List Value) (hb : base ≤ w.heap.size) (hn : xs.length ≤ maxLen) : (w.alloc (.cells xs.toArray e)).ownsRow base e 1 (.slice (some ⟨w.heap.size, 0, none⟩) xs.length xs.length) xs.length xs :=
  ⟨by simp, .inr ⟨_, _, _, rfl, hb, heap_alloc_new w _, Nat.le_refl _, hn, by simp, by simp⟩⟩
theorem own_at {w : World} {base e n : Nat} {v : Value} {xs : List Value} (h : w.ownsRow base e 1 v n xs) (i : Nat) (hi : i < n) : ∃ g cap x, v = .slice (some ⟨g, 0, none⟩) n cap ∧ xs[i]? = some x ∧ w.cell? ⟨g, i, none⟩ = some x ∧ base ≤ g := by
  obtain ⟨h1, ⟨rfl, h0⟩ | ⟨g, cap, cur, rfl, hb, hg, hn, hm, hs, ht⟩⟩ := h
  · omega
  · have hx : i < xs.length := by omega
    refine ⟨g, cap, xs[i], rfl, List.getElem?_eq_getElem hx, ?_, hb⟩
    have e1 : xs[i]? = (cur.toList.take (n * 1))[i]? := by rw [ht]
    rw [List.getElem?_take, if_pos (by omega), List.getElem?_eq_getElem hx] at e1
    unfold World.cell?; simp only; rw [hg]
    simpa using e1.symm
end Go.Proofs.Ytddflihgadlafaa

/-
  A row that has grown, in a frame by types.
-/
namespace Go.Proofs.Ytddflihgadlafaa
open Go.RowKit
set_option linter.unusedVariables false

theorem own_sl2 {w : World} {base e size n : Nat} {v : Value} {xs : List Value} (h : w.ownsRow base e size v n xs) : ∃ a cap, v = .slice a n cap := by
  obtain ⟨-, ⟨rfl, rfl⟩ | ⟨g, cap, cur, rfl, -⟩⟩ := h
  · exact ⟨none, 0, rfl⟩
  · exact ⟨_, cap, rfl⟩
theorem grown_ty {w w' : World} {base e size n : Nat} {v : Value} {xs : List Value} (h : w.ownsRow base e size v n xs) (hg : w.grownBy w' v.ownBlock) : Fr (fun T => T == e) false w w' := by
  obtain ⟨-, ⟨rfl, -⟩ | ⟨g, cap, cur, rfl, -, hb, -⟩⟩ := h
  · exact ⟨hg.size, fun k cs T fr hk _ => (hg.block k (Array.getElem?_eq_some_iff.1 hk).1 (fun c => by simp [Value.ownBlock] at c)).trans hk, fun _ k es cl hk => (hg.block k (Array.getElem?_eq_some_iff.1 hk).1 (fun c => by simp [Value.ownBlock] at c)).trans hk⟩
  · refine ⟨hg.size, fun k cs T fr hk hT => (hg.block k (Array.getElem?_eq_some_iff.1 hk).1 (fun c => ?_)).trans hk, fun _ k es cl hk => (hg.block k (Array.getElem?_eq_some_iff.1 hk).1 (fun c => ?_)).trans hk⟩
    · simp only [Value.ownBlock, Option.some.injEq] at c
      subst c
      have := hb.symm.trans hk; simp only [Option.some.injEq, Obj.cells.injEq] at this
      rw [this.2.1] at hT; simp at hT
    · simp only [Value.ownBlock, Option.some.injEq] at c
      subst c
      have := hb.symm.trans hk; cases this
theorem grown_below {w0 w w' : World} {B : Nat} {base e size n : Nat} {v : Value} {xs : List Value} (h : w.ownsRow base e size v n xs) (hg : w.grownBy w' v.ownBlock) (hB : Below B w0 w) (hs : B ≤ w.heap.size) (hb : B ≤ base) : Below B w0 w' :=
  hB.grown hg hs fun k hk => by
    obtain ⟨-, ⟨rfl, -⟩ | ⟨g, cap, cur, rfl, hb2, -⟩⟩ := h
    · simp [Value.ownBlock] at hk
    · simp only [Value.ownBlock, Option.some.injEq] at hk; omega
theorem set_ty {w : World} {q T : Nat} {cs : Array Value} (h : w.heap[q]? = some (.cells cs T (0, 0))) (o : Nat) (v : Value) : Fr (fun X => X == T) false w (w.setCell ⟨q, o, none⟩ v) :=
  keeps_fr (setCell_keeps w q o v) _ _ fun k e => ⟨_, _, _, e ▸ h, by simp⟩
theorem set_below {w0 w : World} {B q : Nat} (hB : Below B w0 w) (hs : B ≤ w.heap.size) (hq : B ≤ q) (o : Nat) (v : Value) : Below B w0 (w.setCell ⟨q, o, none⟩ v) :=
  keeps_below (setCell_keeps w q o v) hB hs fun k e => e ▸ hq
theorem ty_or {K1 K2 : TypeId → Bool} {w w' w'' : World} (h1 : Fr K1 false w w') (h2 : Fr K2 false w' w'') : Fr (fun T => K1 T || K2 T) false w w'' :=
  (h1.mono (fun T h => by simp only [Bool.or_eq_false_iff] at h; exact h.1) id).trans (h2.mono (fun T h => by simp only [Bool.or_eq_false_iff] at h; exact h.2) id)
end Go.Proofs.Ytddflihgadlafaa

/-
  Lists of bytes in memory.
-/
namespace Go.Proofs.Ytddflihgadlafaa
open Go.RowKit
set_option linter.unusedVariables false

structure By8 (w : World) (a : Option Addr) (cap : Nat) (l : List Int) : Prop where
  le : l.length ≤ cap
  most : cap ≤ maxLen
  nil : a = none → cap = 0
  wf : ∀ x ∈ l, 0 ≤ x ∧ x < 256
  cell : l = [] ∨ ∃ b off, a = some ⟨b, off, none⟩ ∧ ∀ i, (hi : i < l.length) → w.cell? ⟨b, off + i, none⟩ = some (.int .u8 l[i])
theorem By8.at {w : World} {a : Option Addr} {cap : Nat} {l : List Int} (h : By8 w a cap l) (i : Nat) (hi : i < l.length) :
    ∃ b off x, a = some ⟨b, off, none⟩ ∧ (0 ≤ x ∧ x < 256) ∧ w.cell? ⟨b, off + i, none⟩ = some (.int .u8 x) := by
  rcases h.cell with rfl | ⟨b, off, rfl, h5⟩
  · simp at hi
  · exact ⟨b, off, l[i], rfl, h.wf _ (List.getElem_mem hi), h5 i hi⟩
theorem By8.below {w w' : World} {a : Option Addr} {cap : Nat} {l : List Int} (h : By8 w a cap l) (hb : Below w.heap.size w w') : By8 w' a cap l := by
  refine ⟨h.le, h.most, h.nil, h.wf, h.cell.imp id fun ⟨b, off, e, h5⟩ => ⟨b, off, e, fun i hi => ?_⟩⟩
  have h6 := h5 i hi
  exact (hb.cell (World.block_lt_of_cell? _ _ h6)).trans h6
theorem by8_of {w : World} {v : Value} (h : Leaf.holds w (.sl [.int .u8]) v) : ∃ (l : List Int) (a : Option Addr) (cap : Nat), v = .slice a l.length cap ∧ By8 w a cap l := by
  obtain ⟨l, a, cap, rfl, h1, h2, h3, h4, h5⟩ := recs_of h
  have hwf : ∀ x, (Lit.int .u8 x).wf = true → 0 ≤ x ∧ x < 256 := fun x hx => by
    have hmin : IntKind.u8.min = 0 := rfl
    have hmax : IntKind.u8.max = 255 := rfl
    simp only [Lit.wf, Bool.and_eq_true, decide_eq_true_eq] at hx; omega
  obtain ⟨m, hm, hp⟩ := list_of (fun i (x : Int) => l[i]? = some [.int .u8 x] ∧ 0 ≤ x ∧ x < 256) l.length (fun i hi => by
    obtain ⟨c0, r, e0, g0, h⟩ := allHold_cons (h4 _ (List.getElem_mem hi))
    obtain rfl := allHold_nil h
    obtain ⟨z0, rfl, k0⟩ := holds_int g0
    exact ⟨z0, by rw [List.getElem?_eq_getElem hi, e0], hwf _ k0⟩)
  refine ⟨m, a, cap, by rw [hm], ⟨by omega, h2, h3, fun x hx => ?_, ?_⟩⟩
  · obtain ⟨i, hi, rfl⟩ := List.mem_iff_getElem.1 hx
    exact (hp i hi).2
  · rcases h5 with rfl | ⟨b, off, rfl, h6⟩
    · exact .inl (List.length_eq_zero_iff.1 hm)
    · refine .inr ⟨b, off, rfl, fun i hi => ?_⟩
      have hi2 : i < l.length := by omega
      have hq := (hp i (by omega)).1
      rw [List.getElem?_eq_getElem hi2, Option.some.injEq] at hq
      have a0 := h6 i hi2 0 (by decide)
      rw [hq] at a0
      simpa using a0
theorem leaves_by8 : leaves Try.prog 4 75 = some [.sl [.int .u8]] := by kernel_rfl
end Go.Proofs.Ytddflihgadlafaa
