import Derived.Test.YtmakjfeepmiggaaGreatZ8
import Derived.Test.YtmakjfeepmiggaaGreatB1
import Derived.Test.YtmakjfeepmiggaaGreatB2
namespace Go.Proofs.YtmakjfeepmiggaaGreat
open Go.RowKit Go.Maps
set_option linter.unusedVariables false
theorem ranges_le {H : Type} {P : Program} {k : TypeId} {R : Value → Option (DataW H × List MemPlace)} {w : World} {b r n : Nat} {D : DataW H} {left : Lit → Bool} {cnt : Nat} (h : w.ranges P k R b r n D left cnt) : cnt ≤ n := by
  obtain ⟨es, clock, since, seen, c0, _, _, hn, _, _, _, hc, _⟩ := h
  rw [← hc]
  exact Nat.le_trans (by unfold leftOf; exact Array.size_filter_le) hn
theorem same_kA (a x : Int) : (kA a).sameKey (kA x) = decide (a = x) := by simp [kA, Lit.sameKey]
structure Wds (val : Int → Int) (left : Lit → Bool) (ws : List (Int × Int)) : Prop where
  eq : ∀ p ∈ ws, p.2 = val p.1 ∧ p.2 ≠ 0 ∧ left (kA p.1) = false ∧ (Lit.int .u64 p.1).wf = true
  ne : ws.Pairwise fun p q => p.1 ≠ q.1
  all : ∀ a, val a ≠ 0 → left (kA a) = true ∨ ∃ p ∈ ws, p.1 = a
theorem Wds.skip {val : Int → Int} {left : Lit → Bool} {ws : List (Int × Int)} {x : Int} (h : Wds val left ws) (hx : val x = 0) : Wds val (fun z => left z && !z.sameKey (kA x)) ws := by
  refine ⟨fun p hp => ?_, h.ne, fun a ha => ?_⟩
  · obtain ⟨h1, h2, h3, h4⟩ := h.eq p hp
    exact ⟨h1, h2, by simp [h3], h4⟩
  · rcases h.all a ha with h1 | h1
    · have : a ≠ x := fun c => ha (c ▸ hx)
      exact .inl (by simp [h1, same_kA, this])
    · exact .inr h1
theorem Wds.more {val : Int → Int} {left : Lit → Bool} {ws : List (Int × Int)} {x : Int} (h : Wds val left ws) (hx : val x ≠ 0) (hl : left (kA x) = true) (hw : (Lit.int .u64 x).wf = true) :
    Wds val (fun z => left z && !z.sameKey (kA x)) (ws ++ [(x, val x)]) := by
  refine ⟨fun p hp => ?_, ?_, fun a ha => ?_⟩
  · rcases List.mem_append.1 hp with hp | hp
    · obtain ⟨h1, h2, h3, h4⟩ := h.eq p hp
      exact ⟨h1, h2, by simp [h3], h4⟩
    · simp only [List.mem_singleton] at hp
      subst hp
      exact ⟨rfl, hx, by simp [same_kA], hw⟩
  · refine List.pairwise_append.2 ⟨h.ne, List.pairwise_singleton _ _, fun p hp q hq c => ?_⟩
    simp only [List.mem_singleton] at hq
    subst hq
    have := (h.eq p hp).2.2.1
    simp only at c
    rw [c, hl] at this
    cases this
  · rcases h.all a ha with h1 | ⟨p, hp, h1⟩
    · by_cases hax : a = x
      · exact .inr ⟨(x, val x), by simp, hax.symm⟩
      · exact .inl (by simp [h1, same_kA, hax])
    · exact .inr ⟨p, by simp [hp], h1⟩
theorem rlook_mem {l : List (Int × Int)} (h : Ris l) {p : Int × Int} (hp : p ∈ l) : rlook l p.1 = p.2 := by
  induction l with
  | nil => cases hp
  | cons q r ih =>
    have h2 := List.pairwise_cons.1 h
    rcases List.mem_cons.1 hp with rfl | hp
    · simp [rlook]
    · have := h2.1 p hp
      have hne : q.1 ≠ p.1 := by omega
      simp only [rlook, if_neg hne]
      exact ih h2.2 hp
open Go.Sort in
theorem wds_sorted {val : Int → Int} {left : Lit → Bool} {ws : List (Int × Int)} (h : Wds val left ws) (hl : ∀ k, left k = false) {d' : Array (Int × Int)} (hp : PermIn 0 ws.length ws.toArray d') (hs : SortedIn (ltOf cmpW) 0 ws.length d') :
    d'.size = ws.length ∧ Ris d'.toList ∧ (∀ p ∈ d'.toList, p.2 ≠ 0 ∧ p.2 = val p.1 ∧ (Lit.int .u64 p.1).wf = true) ∧ ∀ a, rlook d'.toList a = val a := by
  obtain ⟨h1, _, h3⟩ := hp
  have h1 : d'.size = ws.length := by simpa using h1
  have e1 : (d'.extract 0 ws.length) = d' := by rw [← h1]; simp
  have e2 : (ws.toArray.extract 0 ws.length) = ws.toArray := by simp
  rw [e1, e2] at h3
  have h3 : d'.toList.Perm ws := by simpa using h3
  have hne : d'.toList.Pairwise fun p q => p.1 ≠ q.1 := (h3.pairwise_iff (fun h c => h c.symm)).2 h.ne
  have hris : Ris d'.toList := by
    unfold Ris
    rw [List.pairwise_iff_getElem] at hne ⊢
    intro i j hi hj hij
    have a := hne i j hi hj hij
    have hi' : i < d'.size := by simpa using hi
    have hj' : j < d'.size := by simpa using hj
    have b := hs i j (Nat.zero_le _) hij (by omega)
    rw [ltW, getElem!_pos d' i hi', getElem!_pos d' j hj'] at b
    simp only [decide_eq_false_iff_not] at b
    simp only [Array.getElem_toList] at a ⊢
    omega
  have hall : ∀ p ∈ d'.toList, p.2 ≠ 0 ∧ p.2 = val p.1 ∧ (Lit.int .u64 p.1).wf = true := fun p hp => by
    obtain ⟨a1, a2, a3, a4⟩ := h.eq p (h3.mem_iff.1 hp)
    exact ⟨a2, a1, a4⟩
  refine ⟨h1, hris, hall, fun a => ?_⟩
  by_cases ha : val a = 0
  · rw [ha]
    refine rlook_out fun q hq c => ?_
    obtain ⟨a1, a2, _⟩ := hall q hq
    rw [c] at a2
    exact a1 (a2.trans ha)
  · rcases h.all a ha with c | ⟨p, hp, rfl⟩
    · rw [hl] at c; cases c
    · have hm := h3.mem_iff.2 hp
      rw [rlook_mem hris hm]
      exact (hall p hm).2.1
open Go.Sort in
theorem holds_flat2 {w : World} {g e : Nat} {cur : Array Value} (hg : w.heap[g]? = some (.cells cur e (0, 0))) (ws : List (Int × Int)) (ht : cur.toList.take (ws.length * 2) = flat2 ws) : HoldsK encW 2 w g 0 ws.toArray := by
  intro j hj
  rw [size_flatK] at hj
  have hj2 : j < ws.length * 2 := by simpa using hj
  have hi : j / 2 < ws.length := by omega
  obtain ⟨f0, f1⟩ := flat2_at ws (j / 2) hi
  have hc : cur[j]? = (flat2 ws)[j]? := by rw [← ht, List.getElem?_take_of_lt hj2]; simp
  have hw : w.cell? ⟨g, 0 + j, none⟩ = cur[j]? := by simp [World.cell?, hg]
  refine ⟨?_, by simp [World.frozen?, hg]⟩
  rw [get_flatK _ _ _ _ hj, hw, hc]
  rcases (by omega : j % 2 = 0 ∨ j % 2 = 1) with h | h
  · rw [show j = j / 2 * 2 by omega, f0]
    simp [encW, hi]
  · rw [show j = j / 2 * 2 + 1 by omega, f1]
    have e1 : (j / 2 * 2 + 1) / 2 = j / 2 := by omega
    have e2 : (j / 2 * 2 + 1) % 2 = 1 := by omega
    rw [e1, e2]
    simp [encW, hi]
open Go.Sort in
theorem sort_keeps (w : World) (g n : Nat) (d : Array (Int × Int)) (os : Array Obj) : Keeps (· = g) w (sortWorldK encW 2 w g 0 n d os) := by
  refine ⟨rfl, rfl, rfl, size_sortWorldK_c _ _ _ _ _ _ _ _, fun k hk hne => ?_⟩
  have hne : ¬ g = k := fun c => hne c.symm
  unfold sortWorldK grow putRowK putRow mapBlock Sort.ahead
  simp only
  rw [Array.getElem?_append_left (by simpa using hk)]
  simp [Array.getElem?_modify, hne]
def WFrom (w : World) (base : Nat) (a : Option Addr) (ws : List (Int × Int)) (k : Nat) : Prop :=
  ws.length ≤ k ∨ ∃ g cur, a = some ⟨g, 0, none⟩ ∧ base ≤ g ∧ w.heap[g]? = some (.cells cur 226 (0, 0)) ∧ ∀ i, k ≤ i → (hi : i < ws.length) → cur[i * 2]? = some (.int .u64 (ws[i]).1) ∧ cur[i * 2 + 1]? = some (.int .u64 (ws[i]).2)
open Go.Sort in
theorem wfrom_sorted {w : World} {base g : Nat} {cur : Array Value} (hgb : base ≤ g) (hg : w.heap[g]? = some (.cells cur 226 (0, 0))) {ws : List (Int × Int)} (ht : cur.toList.take (ws.length * 2) = flat2 ws) {n : Nat} {d' : Array (Int × Int)} {os : Array Obj} (hd : d'.size = ws.length) :
    WFrom (sortWorldK encW 2 w g 0 n d' os) base (some ⟨g, 0, none⟩) d'.toList 0 := by
  have hlt : g < w.heap.size := (Array.getElem?_eq_some_iff.1 hg).1
  have hH := holdsK_sortWorldK_c encW 2 w g 0 ws.toArray d' n os (holds_flat2 hg ws ht) hlt (by simpa using hd)
  have hh : (sortWorldK encW 2 w g 0 n d' os).heap[g]? = some (.cells (putCells id 0 (flatK encW 2 d') cur) 226 (0, 0)) := by
    unfold sortWorldK grow putRowK putRow mapBlock Sort.ahead
    simp only
    rw [Array.getElem?_append_left (by simpa using hlt)]
    simp [Array.getElem?_modify, hg, onCells]
  generalize putCells id 0 (flatK encW 2 d') cur = c2 at hh
  refine .inr ⟨g, c2, rfl, hgb, hh, fun i _ hi => ?_⟩
  have hi : i < d'.size := by simpa using hi
  have c0 := (hH.cell (i := i) (c := 0) hi (by omega)).1
  have c1 := (hH.cell (i := i) (c := 1) hi (by omega)).1
  rw [getElem!_pos d' i hi] at c0 c1
  have e : ∀ o, (sortWorldK encW 2 w g 0 n d' os).cell? ⟨g, o, none⟩ = c2[o]? := fun o => by unfold World.cell?; simp only; rw [hh]; rfl
  rw [e] at c0 c1
  simp only [Array.getElem_toList]
  exact ⟨by simpa [encW] using c0, by simpa [encW] using c1⟩
theorem clip_any (g n cap : Nat) (hn : n ≤ cap) (hc : cap ≤ maxLen) (w : World) : Calls Tryz.prog 186 #[.slice (some ⟨g, 0, none⟩) n cap] w fun e w' => e = .returned (.slice (some ⟨g, 0, none⟩) n n) ∧ w' = w := by
  unfold maxLen at hc
  go_enter Tryz.func186, Tryz.ntmps186
  go_wp2
  go_ret
  exact ⟨rfl, rfl⟩
theorem info_cword : (Tryz.prog.info? 226).map (fun i => (i.zero, i.size, i.bytes)) = some (some (.agg #[.int .u64 0, .int .u64 0]), 2, 16) := by kernel_rfl
theorem own_but {w w1 : World} {base e size n r : Nat} {v : Value} {xs : List Value} (h : w.ownsRow base e size v n xs) (hg : w.grownBy w1 (some r)) (hr : r < base) : w1.ownsRow base e size v n xs := by
  obtain ⟨h1, h2 | ⟨g, cap, cur, rfl, hgb, hh, r2⟩⟩ := h
  · exact ⟨h1, .inl h2⟩
  · exact ⟨h1, .inr ⟨g, cap, cur, rfl, hgb, (hg.block g (Array.getElem?_eq_some_iff.1 hh).1 (fun c => by cases c; omega)).trans hh, r2⟩⟩
structure WordsOf (w : World) (base : Nat) (val : Int → Int) (a : Option Addr) (ws : List (Int × Int)) : Prop where
  row : WFrom w base a ws 0
  most : ws.length ≤ 1000000
  wf : ∀ p ∈ ws, (Lit.int .u64 p.1).wf = true ∧ (Lit.int .u64 p.2).wf = true
  ris : Ris ws
  nz : ∀ p ∈ ws, p.2 ≠ 0
  look : ∀ x, rlook ws x = val x
theorem wordsOf_nil {w : World} {base : Nat} {val : Int → Int} (h : ∀ x, val x = 0) : WordsOf w base val none [] :=
  ⟨.inl (Nat.le_refl _), Nat.zero_le _, fun p hp => (by cases hp), List.Pairwise.nil, fun p hp => (by cases hp), fun x => (h x).symm⟩
set_option maxRecDepth 10000 in
set_option maxHeartbeats 2000000 in
theorem words_any (w : World) (base b : Nat) (s : CS) (S : Nat → Prop) (hA : Cells w base b s S) (hn : s.n ≤ 1000000) :
    Calls Tryz.prog 141 #[.pointer (some ⟨b, 0, none⟩)] w fun e w' => ∃ a ws, e = .returned (.slice a ws.length ws.length) ∧ WordsOf w' w.heap.size s.val a ws ∧ Below w.heap.size w w' := by
  obtain ⟨mo, f, hA, hS⟩ := hA
  cases mo with
  | none =>
    have hz : ∀ a, s.val a = 0 := fun a => hA.zero a (hA.nomap rfl a)
    exact (words_zero w base b s S ⟨none, f, hA, hS⟩ hz).mono fun e w' ⟨he, hb⟩ => ⟨none, [], he, wordsOf_nil hz, hb⟩
  | some m =>
    subst hS
    have hb : b < w.heap.size := (Array.getElem?_eq_some_iff.1 hA.hdr).1
    have c0 : w.cell? ⟨b, 0, none⟩ = some (.map (some m)) := by simp [World.cell?, hA.hdr, hdrC]
    obtain ⟨⟨D, hown, hf, hh⟩, hm1, hm2⟩ := hA.map m rfl
    have hml : m < w.heap.size := hown.lt
    obtain ⟨i0, hi0, hz0, hz1, hz2⟩ := info_parts info_cword
    have HI := Lib.hid hi0; have HZ0 := Lib.hid hz0; have HZ1 := Lib.hid hz1; have HZ2 := Lib.hid hz2
    have hst : Wds s.val (Maps.has D) [] := ⟨fun p hp => (by cases hp), List.Pairwise.nil, fun a ha => .inl ((hh a).trans (by
      cases e : f a with
      | none => exact absurd (hA.zero a e) ha
      | some p => rfl))⟩
    have HA := Lib.hid hA; have HF := Lib.hid hf; have HH := Lib.hid hh; have HN := Lib.hid hn; have HST := Lib.hid hst
    clear hA hf hh hn hst hi0 hz0 hz1 hz2 hm2
    go_enter Tryz.func141, Tryz.ntmps141
    go_wp2_with (first
      | (at_range; refine wpList_range_own _ rfl _ 237 rfl 39 233 addr_keyed Tryz.underlying237 _ m s.n _ rfl hown ?_; intro w0 hrg0 hg0 hs0)
      | fail)
    go_frame
    go_loopw [3] (fun v wr => ∃ (ws : List (Int × Int)) (left : Lit → Bool) (cnt : Nat), wr.ownsRow (w.heap.size + 1) 226 2 v ws.length (flat2 ws) ∧ Wds s.val left ws ∧ ws.length + cnt ≤ s.n ∧ wr.ranges Tryz.prog 39 ptrR m w.heap.size s.n D left cnt ∧ Below w.heap.size w wr)
      (fun _ wr => wr.rangeLeft m w.heap.size)
    case atStart => exact ⟨[], _, _, World.ownsRow_nil _ _ _ _, HST.out, by have := ranges_le hrg0; simpa using this, hrg0, ⟨hg0.os, hg0.tape, hg0.output, hg0.size, fun k hk => hg0.block k hk (by simp)⟩⟩
    case round =>
      obtain ⟨ws, left, cnt, hrow, hwd, hct, hrg, hgw⟩ := hrel
      go_wp2_with (first
        | (at_next; refine wpList_next_ranges _ rfl _ rfl 39 addr_keyed ptrR (Value.int .u64) ptrV (fun key kl hkey => by obtain ⟨x, rfl, _⟩ := Maps.keyOf_int_inv Tryz.underlying39 hkey; exact ⟨x, rfl⟩) (fun v y hv => by obtain ⟨c, rfl, _⟩ := ptrR_inv hv; exact ⟨c, rfl⟩) m w.heap.size s.n _ _ _ rfl hrg ?_ ?_)
        | fail)
      · intro _ hl0
        have hwn := HN.out
        obtain ⟨hfl, ⟨rfl, hnil⟩ | ⟨g, cap, cur, rfl, hgb, hg, hnc, hcm, hcs, ht⟩⟩ := hrow
        · obtain rfl : ws = [] := List.eq_nil_of_length_eq_zero hnil
          have hz : ∀ a, s.val a = 0 := fun a => by
            by_cases ha : s.val a = 0
            · exact ha
            · rcases hwd.all a ha with c | ⟨p, hp, _⟩
              · rw [hl0] at c; cases c
              · cases hp
          have HZ := Lib.hid hz
          have HGW := Lib.hid hgw
          clear hz hwd hrg hgw hct hl0
          go_wp2_with (first
            | (go_at_call 183; refine (sort_nil _ _).mono ?_; rintro e w1 ⟨rfl, g1⟩)
            | (go_at_call 186; refine (clip_nil _).mono ?_; rintro e w2 ⟨rfl, g2⟩))
          go_ret
          exact ⟨none, [], rfl, wordsOf_nil HZ.out, (HGW.out.trans (g1.mono HGW.out.size)).trans (g2.mono (Nat.le_trans HGW.out.size g1.size))⟩
        · have hsort := sort_any g 0 cap ws.toArray wr (holds_flat2 hg ws ht) (Array.getElem?_eq_some_iff.1 hg).1 (by simp; omega)
          simp only [List.size_toArray] at hsort
          have hclip := clip_any g ws.length cap hnc hcm
          have hk : ∀ n d' os, Sort.PermIn 0 ws.length ws.toArray d' → Sort.SortedIn (ltOf cmpW) 0 ws.length d' → d'.size = ws.length ∧ WordsOf (sortWorldK encW 2 wr g 0 n d' os) w.heap.size s.val (some ⟨g, 0, none⟩) d'.toList ∧ Below w.heap.size w (sortWorldK encW 2 wr g 0 n d' os) := fun n d' os hp hs => by
            obtain ⟨a1, a2, a3, a4⟩ := wds_sorted hwd hl0 hp hs
            have hr := wfrom_sorted (n := n) (os := os) (base := w.heap.size) (by omega) hg ht a1
            exact ⟨a1, ⟨hr, by simp [a1]; omega, fun p hp => ⟨(a3 p hp).2.2, by rw [(a3 p hp).2.1]; exact HA.out.wf _⟩, a2, fun p hp => (a3 p hp).1, a4⟩, keeps_below (sort_keeps wr g n d' os) hgw hgw.size fun k hk => by omega⟩
          have HK := Lib.hid hk; have HS := Lib.hid hsort; have HC := Lib.hid hclip
          unfold maxLen at hcm
          clear hk hsort hclip hwd hrg hgw hl0 hg ht hct hfl
          go_wp2_with (first
            | (go_at_call 183; refine HS.out.mono ?_; rintro e w1 ⟨rfl, d', n, os, hp, hs, hw1⟩)
            | (go_at_call 186; refine (HC.out _).mono ?_; rintro e w2 ⟨rfl, rfl⟩))
          go_ret
          obtain ⟨a1, a2, a3⟩ := HK.out n d' os hp hs
          exact ⟨some ⟨g, 0, none⟩, d'.toList, by rw [show d'.toList.length = ws.length by simp [a1]]; rfl, a2, a3⟩
      · intro x c kl y yp w1 cnt1 hk hlk hR hat hrg1 hlt hg1 hs1 hen
        obtain ⟨x', ex, hkl, hwx⟩ := Maps.keyOf_int_inv Tryz.underlying39 hk
        cases ex
        subst hkl
        have e0 : y = pD c := by have := (ptrR_mk c).symm.trans hR; simp only [Option.some.injEq, Prod.mk.injEq] at this; exact this.1.symm
        have e1 : f x = c := pD_inj ((HF.out x).symm.trans ((hat _).trans e0))
        have e2 : (f x).isSome = true := (HH.out x).symm.trans (has_true_of_atKey hat)
        rw [e1] at e2
        cases c with
        | none => cases e2
        | some p =>
          have hp := HA.out.ptr x p e1
          have hpl : p < w.heap.size := (Array.getElem?_eq_some_iff.1 hp.1).1
          have hgw1 : Below w.heap.size w w1 := hgw.trans ⟨hg1.os, hg1.tape, hg1.output, hg1.size, fun k hk => hg1.block k (Nat.lt_of_lt_of_le hk hgw.size) (fun c => by cases c; omega)⟩
          have hpc := cell_of_word ((hgw1.block p hpl).trans hp.1)
          have hrow1 := own_but hrow hg1 (Nat.lt_succ_self _)
          have hz0 : s.val x = 0 → Wds s.val (fun z => left z && !z.sameKey (kA x)) ws := hwd.skip
          have hz1 : s.val x ≠ 0 → Wds s.val (fun z => left z && !z.sameKey (kA x)) (ws ++ [(x, s.val x)]) := fun h => hwd.more h hlk hwx
          have hs1' : w.heap.size < w1.heap.size := by have := hrg1.lt; exact this
          have hlen1 : ws.length + 1 + cnt1 ≤ s.n := by omega
          simp only [ptrV, Option.map] at hen ⊢
          have HR := Lib.hid hrg; have HR1 := Lib.hid hrg1; have HRW := Lib.hid hrow1; have HW0 := Lib.hid hz0; have HW1 := Lib.hid hz1; have HG1 := Lib.hid hgw1; have HLT := Lib.hid hlt; have HSZ := Lib.hid hs1'; have HL1 := Lib.hid hlen1; have HM := Lib.hid hml
          clear hrg hrg1 hat hR e0 e1 e2 hp hk hlk hwx hrow hrow1 hz0 hz1 hgw hgw1 hwd hlt hs1' hct hlen1 hg1 hs1 hown hrg0 hg0 hs0 hml hpl hb hm1
          generalize s.val x = d at *
          cases hd : (d != 0)
          · have hd' : d = 0 := by simpa using hd
            go_wp2_with (go_at_call 135; refine (a_load p _ _ hpc).mono ?_; rintro e w' ⟨rfl, rfl⟩)
            go_roundw
            case rel => exact ⟨ws, _, _, HRW.out, HW0.out hd', by have := HL1.out; omega, HR1.out, HG1.out⟩
            case measure => rw [HR1.out.left_eq, HR.out.left_eq]; exact HLT.out
          · have hd' : d ≠ 0 := by simpa using hd
            go_wp2_with (first
              | (go_at_call 135; refine (a_load p _ _ hpc).mono ?_; rintro e w' ⟨rfl, rfl⟩)
              | (at_builtin; refine wpList_append_own _ rfl _ _ 243 rfl (w.heap.size + 1) 226 i0 (.agg #[.int .u64 0, .int .u64 0]) 2 16 Tryz.underlying243 HI.out HZ0.out HZ1.out HZ2.out rfl (by decide) _ _ _ rfl (HRW.out.alloc _) ⟨_, 0, none⟩ 1 1 [.int .u64 x, .int .u64 d] rfl rfl (rnews _ x d _) ?c2 ?c3 ?c4 ?c5 ?_))
            case c2 => simp [Value.oneCell']
            case c3 => have := HL1.out; have := HN.out; unfold maxLen; omega
            case c4 => have := HL1.out; have := HN.out; omega
            case c5 => have := HSZ.out; first | omega | (simp; omega)
            intro v' w2 hown' hgrow _
            have hb2 := (HG1.out.alloc HG1.out.size (.cells #[.int .u64 x, .int .u64 d] 226)).grown hgrow (by simp; have := HG1.out.size; omega) (fun j hj => by have := (HRW.out.lt j hj).1; omega)
            have hr2 := (HR1.out.alloc (.cells #[.int .u64 x, .int .u64 d] 226)).kept hgrow (fun c => by have := (HRW.out.lt m c.symm).1; have := HM.out; omega) (fun c => by have := (HRW.out.lt _ c.symm).1; omega)
            have HB2 := Lib.hid hb2; have HR2 := Lib.hid hr2; have HO2 := Lib.hid hown'
            clear hb2 hr2 hown' hgrow
            go_wp2
            go_roundw
            case rel => exact ⟨ws ++ [(x, d)], _, _, by rw [flat2_snoc, show (ws ++ [(x, d)]).length = ws.length + 1 by simp]; exact HO2.out, HW1.out hd', by have := HL1.out; simp; omega, HR2.out, HB2.out⟩
            case measure => rw [HR2.out.left_eq, HR.out.left_eq]; exact HLT.out
end Go.Proofs.YtmakjfeepmiggaaGreat
namespace Go.Proofs.YtmakjfeepmiggaaGreat
open Go.RowKit Go.Maps
set_option linter.unusedVariables false
end Go.Proofs.YtmakjfeepmiggaaGreat
namespace Go.Proofs.YtmakjfeepmiggaaGreat
open Go.RowKit Go.Maps
set_option linter.unusedVariables false
theorem words_own {w0 w : World} {b : Nat} {s : CS} (h : Own w0 w b s) (hn : s.n ≤ 1000000) : Calls Tryz.prog 141 #[.pointer (some ⟨b, 0, none⟩)] w fun e w' => ∃ a ws, e = .returned (.slice a ws.length ws.length) ∧ WordsOf w' w.heap.size s.val a ws ∧ Below w.heap.size w w' := by
  obtain ⟨⟨S, hS⟩, hB⟩ := h
  exact words_any w _ b s S hS hn
theorem last_ext {w0 w : World} {b : Nat} {s : CS} (h : Own w0 w b s) (st : ExtW w) : Calls Tryz.prog 69 #[.pointer (some ⟨b, 0, none⟩)] st.val fun e w' => e = .returned (.agg #[.int .u8 s.kind, .int .u64 s.addr, .int .u64 s.was, .int .u64 s.is]) ∧ Below st.val.heap.size st.val w' := by
  obtain ⟨⟨S, hS⟩, hB⟩ := h.keep st.below
  exact last_any _ _ b s S hS
theorem count_ext {w0 w : World} {b : Nat} {s : CS} (h : Own w0 w b s) (st : ExtW w) : Calls Tryz.prog 139 #[.pointer (some ⟨b, 0, none⟩)] st.val fun e w' => e = .returned (.int .i64 s.cnt) ∧ st.val = w' :=
  (count_own (h.keep st.below)).mono fun e w' ⟨he, hw⟩ => ⟨he, hw.symm⟩
theorem peek_ext {w0 w : World} {b : Nat} {s : CS} (h : Own w0 w b s) (a : Int) (ha : (Lit.int .u64 a).wf = true) (v : Int) (hv : s.val a = v) (st : ExtW w) : Calls Tryz.prog 142 #[.pointer (some ⟨b, 0, none⟩), .int .u64 a] st.val fun e w' => e = .returned (.int .u64 v) ∧ st.val = w' := by
  subst hv
  exact (peek_own (h.keep st.below) a ha).mono fun e w' ⟨he, hw⟩ => ⟨he, hw.symm⟩
theorem wfrom_next {wr W : World} {base g k : Nat} {cur : Array Value} {ws : List (Int × Int)} (hgb : base ≤ g) (hg : W.heap[g]? = some (.cells cur 226 (0, 0))) (hc : ∀ i, k ≤ i → (hi : i < ws.length) → cur[i * 2]? = some (.int .u64 (ws[i]).1) ∧ cur[i * 2 + 1]? = some (.int .u64 (ws[i]).2)) (u v : Value) :
    WFrom ((W.setCell ⟨g, k * 2, none⟩ u).setCell ⟨g, k * 2 + 1, none⟩ v) base (some ⟨g, 0, none⟩) ws (k + 1) := by
  refine .inr ⟨g, _, rfl, hgb, setCell_same (setCell_same hg _ _) _ _, fun i hi hl => ?_⟩
  obtain ⟨h1, h2⟩ := hc i (by omega) hl
  have n1 : k * 2 ≠ i * 2 := by omega
  have n2 : k * 2 + 1 ≠ i * 2 := by omega
  have n3 : k * 2 ≠ i * 2 + 1 := by omega
  have n4 : k * 2 + 1 ≠ i * 2 + 1 := by omega
  rw [Array.getElem?_setIfInBounds_ne n2, Array.getElem?_setIfInBounds_ne n1, Array.getElem?_setIfInBounds_ne n4, Array.getElem?_setIfInBounds_ne n3]
  exact ⟨h1, h2⟩
theorem wfrom_below {w w' : World} {base : Nat} {a : Option Addr} {ws : List (Int × Int)} {k : Nat} (h : WFrom w base a ws k) (hb : Below w.heap.size w w') : WFrom w' base a ws k := by
  rcases h with h | ⟨g, cur, ha, h1, h2, h3⟩
  · exact .inl h
  · exact .inr ⟨g, cur, ha, h1, (hb.block g (Array.getElem?_eq_some_iff.1 h2).1).trans h2, h3⟩
set_option maxRecDepth 10000 in
set_option maxHeartbeats 2000000 in
theorem same05_any {w0 w : World} {cb r : Nat} {s : CS} {x : RS} (h : Both w0 w cb r s x) (hn : s.n ≤ 1000000) :
    Calls Tryz.prog 73 #[.pointer (some ⟨cb, 0, none⟩), .pointer (some ⟨r, 0, none⟩)] w fun e w' => e = .returned (.bool true) ∧ Below w.heap.size w w' := by
  have hw := words_own h.own hn
  obtain ⟨lv, hR⟩ := h.ref
  obtain ⟨ad, cap, rfl, hm, hc⟩ := hR.form
  have ha := h.alike
  have hv := ha.val
  obtain ⟨l, cnt, kind, addr, was, is⟩ := x
  have e1 := ha.cnt; have e2 := ha.kind; have e3 := ha.addr; have e4 := ha.was; have e5 := ha.is
  simp only at e1 e2 e3 e4 e5 hv hm hc
  subst e1 e2 e3 e4 e5
  have hrl : r < w.heap.size := (Array.getElem?_eq_some_iff.1 hR.hdr).1
  have k0 : w.cell? ⟨r, 0, none⟩ = some (.slice ad l.length cap) := hR.cell 0
  have k1 : w.cell? ⟨r, 1, none⟩ = some (.int .i64 s.cnt) := hR.cell 1
  have k2 : w.cell? ⟨r, 2, none⟩ = some (.int .u8 s.kind) := hR.cell 2
  have k3 : w.cell? ⟨r, 3, none⟩ = some (.int .u64 s.addr) := hR.cell 3
  have k4 : w.cell? ⟨r, 4, none⟩ = some (.int .u64 s.was) := hR.cell 4
  have k5 : w.cell? ⟨r, 5, none⟩ = some (.int .u64 s.is) := hR.cell 5
  have hris := ha.ris
  have hnz := ha.nz
  have hO := h.own
  have hwf := hR.wf
  simp only at hris hnz hwf
  have HA := Lib.hid (And.intro hris (And.intro hnz hv)); have HO := Lib.hid hO; have HWF := Lib.hid hwf; have HC := Lib.hid hc
  have HK := Lib.hid (And.intro k0 (And.intro k1 (And.intro k2 (And.intro k3 (And.intro k4 k5)))))
  unfold maxLen at hm
  clear h ha hv hR hris hnz hO hwf hc k0 k1 k2 k3 k4 k5 hn
  go_enter Tryz.func73, Tryz.ntmps73
  go_wp2_with (go_at_call 141; refine hw.mono ?_; rintro e w1 ⟨a, ws, rfl, hW, hb⟩)
  obtain rfl : ws = l := ris_eq hW.ris HA.out.1 hW.nz HA.out.2.1 (fun a => by rw [hW.look, HA.out.2.2])
  have c : ∀ o v, w.cell? ⟨r, o, none⟩ = some v → ∀ st : ExtW w1, st.val.cell? ⟨r, o, none⟩ = some v := fun o v h st => st.cell ((hb.cell (p := ⟨r, o, none⟩) hrl).trans h)
  obtain ⟨k0, k1, k2, k3, k4, k5⟩ := HK.out
  have x0 := c _ _ k0; have x1 := c _ _ k1; have x2 := c _ _ k2; have x3 := c _ _ k3; have x4 := c _ _ k4; have x5 := c _ _ k5
  have hcount := fun st : ExtW w1 => count_ext (HO.out.keep hb) st
  have hlast := fun st : ExtW w1 => last_ext (HO.out.keep hb) st
  have HW := Lib.hid hW; have HB := Lib.hid hb
  clear c k0 k1 k2 k3 k4 k5 hW hb hw
  refine wp_region_ext (by kernel_rfl) (by kernel_rfl) ?_
  repeat (go_big_quiet_step (first
    | (go_at_call 139; with_reducible refine calls_ext_same (hcount _))
    | (go_at_call 69; with_reducible refine calls_ext (hlast _))))
  refine wpQuiet_nil ?_
  rintro W ⟨⟨W2, hW2⟩, rfl⟩
  clear x0 x1 x2 x3 x4 x5 hcount hlast
  have hF := wfrom_below HW.out.row hW2
  have hB2 : Below w.heap.size w W := HB.out.trans (hW2.mono HB.out.size)
  have HF := Lib.hid hF; have HB2 := Lib.hid hB2
  clear hF hB2 hW2
  go_wp2
  go_loopw [6] (fun i wr => ∃ k : Nat, k ≤ ws.length ∧ i = .int .i64 k ∧ WFrom wr w.heap.size a ws k ∧ Below w.heap.size w wr) (fun i _ => ws.length - (intOf i).toNat)
  case atStart => exact ⟨0, by omega, rfl, HF.out, HB2.out⟩
  case round =>
    obtain ⟨k, hk, rfl, hf, hbl⟩ := hrel
    by_cases hlt : k < ws.length
    · rcases hf with hf | ⟨g, cur, rfl, hgb, hg, hcur⟩
      · omega
      obtain ⟨gr, rfl, hrow⟩ := HC.out (by omega)
      obtain ⟨r0, r1⟩ := hrow k hlt
      obtain ⟨q0, q1⟩ := hcur k (Nat.le_refl _) hlt
      have hpk : s.val (ws[k]).1 = (ws[k]).2 := by rw [HA.out.2.2]; exact rlook_mem HA.out.1 (List.getElem_mem hlt)
      have hwfk := (HWF.out _ (List.getElem_mem hlt)).1
      have r0 := (hbl.cell (World.block_lt_of_cell? _ _ r0)).trans r0
      have r1 := (hbl.cell (World.block_lt_of_cell? _ _ r1)).trans r1
      have b0 := (hbl.cell (p := ⟨r, 0, none⟩) hrl).trans HK.out.1
      have p0 : wr.cell? ⟨g, k * 2, none⟩ = some (.int .u64 (ws[k]).1) := by simp [World.cell?, hg, q0]
      have p1 : wr.cell? ⟨g, k * 2 + 1, none⟩ = some (.int .u64 (ws[k]).2) := by simp [World.cell?, hg, q1]
      have hpeek := fun st : ExtW wr => peek_ext (HO.out.keep hbl) _ hwfk _ hpk st
      generalize ws[k] = p at *
      obtain ⟨pa, pv⟩ := p
      simp only at r0 r1 p0 p1 q0 q1 hpeek
      have HQ0 := Lib.hid q0; have HQ1 := Lib.hid q1
      have y0 := fun st : ExtW wr => st.cell r0
      have y1 := fun st : ExtW wr => st.cell r1
      have y2 := fun st : ExtW wr => st.cell b0
      have y3 := fun st : ExtW wr => st.cell p0
      have y4 := fun st : ExtW wr => st.cell p1
      have hlt' : (k : Int) < ws.length := by omega
      have HG := Lib.hid hg; have HCU := Lib.hid hcur; have HBL := Lib.hid hbl
      clear r0 r1 b0 p0 p1 q0 q1 hpk hwfk hrow hg hcur hbl
      go_wp2
      refine wp_region_ext (by kernel_rfl) (by kernel_rfl) ?_
      repeat (go_big_quiet_step ((go_at_call 142; with_reducible refine calls_ext_same (hpeek _))))
      refine wpQuiet_nil ?_
      rintro W3 ⟨⟨W4, hW4⟩, rfl⟩
      clear y0 y1 y2 y3 y4 hpeek
      have hg3 := (hW4.block g (Array.getElem?_eq_some_iff.1 HG.out).1).trans HG.out
      have f0 : ∀ o, W3.frozen? ⟨g, o, none⟩ = false := fun o => by simp [World.frozen?, hg3]
      have q0' : cur[k * 2]? = some (.int .u64 pa) := HQ0.out
      have q1' : cur[k * 2 + 1]? = some (.int .u64 pv) := HQ1.out
      have z0 : W3.cell? ⟨g, k * 2, none⟩ = some (.int .u64 pa) := by simp [World.cell?, hg3, q0']
      have z1 : W3.cell? ⟨g, k * 2 + 1, none⟩ = some (.int .u64 pv) := by simp [World.cell?, hg3, q1']
      clear q0' q1'
      have HN := Lib.hid (fun u v => wfrom_next (wr := wr) hgb hg3 HCU.out u v)
      have HB4 : Hid (Below w.heap.size w W3) := HBL.out.trans (hW4.mono HBL.out.size)
      clear hg3 hW4
      go_wp2
      go_roundw
      case rel => exact ⟨k + 1, by omega, by go_num, HN.out _ _, by
        have := keeps_below ((setCell_keeps W3 g (k * 2) (.int .u64 0)).again (setCell_keeps _ g (k * 2 + 1) (.int .u64 0))) HB4.out HB4.out.size (fun q e => by omega)
        exact this⟩
      case measure => simp [intOf]; omega
    · obtain rfl : k = ws.length := by omega
      have HB := Lib.hid hbl
      clear hf hbl
      go_wp2
      go_ret
      exact ⟨rfl, HB.out⟩
end Go.Proofs.YtmakjfeepmiggaaGreat
namespace Go.Proofs.YtmakjfeepmiggaaGreat
open Go.RowKit Go.Maps
set_option linter.unusedVariables false
section
variable {w0 w : World} {B R : WB} {V : WV} {s : CS} {x : RS}
theorem WS.iat (h : WS w0 w B V s) (hl : V.its.length ≤ 1048576) (r : Int) : Calls Tryz.prog 75 #[.pointer (some ⟨B.ib, 0, none⟩), .int .i64 r] w fun e w' => e = .returned (.tuple #[.agg #[.string ((atOf V.its r).1).key, .string ((atOf V.its r).1).val, .int .u32 ((atOf V.its r).1).flags, .int .u64 ((atOf V.its r).1).id, .int .i64 ((atOf V.its r).1).dies, .int .i64 ((atOf V.its r).1).gen], .bool (atOf V.its r).2]) ∧ Below w.heap.size w w' := by
  obtain ⟨S, hS⟩ := h.ar
  exact iat_any _ _ _ S r w hS hl
theorem RD.iat (h : RD w0 w R V x) (hl : V.its.length ≤ 1048576) (r : Int) : Calls Tryz.prog 76 #[.pointer (some ⟨R.ib, 0, none⟩), .int .i64 r] w fun e w' => e = .returned (.tuple #[.agg #[.string ((atOf V.its r).1).key, .string ((atOf V.its r).1).val, .int .u32 ((atOf V.its r).1).flags, .int .u64 ((atOf V.its r).1).id, .int .i64 ((atOf V.its r).1).dies, .int .i64 ((atOf V.its r).1).gen], .bool (atOf V.its r).2]) ∧ Below w.heap.size w w' := by
  obtain ⟨S, hS⟩ := h.ar
  exact rat_any _ _ _ S r w hS hl
end
end Go.Proofs.YtmakjfeepmiggaaGreat