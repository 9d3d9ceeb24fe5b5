/-
  Texts of this prover, merged: SortLay, CellsSort, CellsWords, SameAny, Same05, OwnRow, Grown, Tag, Hash, Tickets, NotesAll, NoteAdd, WorldNote.
-/
import Derived.Test.YtdabcnjjbfmkaaaRows
import Derived.Test.YtdabcnjjbfmkaaaLib
import Derived.Test.YtdabcnjjbfmkaaaCellsWords0
import Derived.Test.YtdabcnjjbfmkaaaRefNew
import Derived.Test.YtdabcnjjbfmkaaaSame
import Derived.Test.YtdabcnjjbfmkaaaFrame
import Derived.Test.YtdabcnjjbfmkaaaTagPure
import Derived.Test.YtdabcnjjbfmkaaaRefPlaces
import Derived.Test.YtdabcnjjbfmkaaaBegin0
import Derived.Test.YtdabcnjjbfmkaaaPairDo
import Derived.Shelf.SlSortCmp.WholeK
import Derived.Deep.AppendLies
import Derived.Deep.QuietTactic
import Derived.BigQuiet
import Derived.Laws.EntriesVeiled
import Derived.Deep.DeepCutAuto
/-
  DERIVED: THE SHELF's CONTRACTS AT THIS DUMP, IN PLAIN WORDS (tools/lay-plain.mjs out of 'YtdabcnjjbfmkaaaSortSrc.lean', which tools/lay-shelf.mjs wrote): THE SAME DECLARATIONS UNDER THE SAME NAMES: 'import', 'namespace', 'open', 'def', 'theorem' AND NOTHING ELSE: no command of the shelf's: FOR A HAND-IN. Each laying: the table of numbers ('.._ren') and one theorem, a field a fact of the dump's own or the kernel's comparison; each contract: ONE APPLICATION.
-/
namespace Go.Proofs.Ytdabcnjjbfmkaaa
open Go.Shelf
def sortW_ren : Go.Shelf.Ren := ⟨fun | 6 => 121 | 15 => 151 | 14 => 150 | 28 => 170 | 29 => 171 | 20 => 162 | 21 => 163 | 22 => 164 | 23 => 165 | 24 => 166 | 25 => 167 | 26 => 168 | 27 => 169 | 46 => 174 | 47 => 175 | 48 => 176 | 49 => 177 | 50 => 178 | 57 => 182 | n => n, fun | 22 => 165 | 24 => 167 | 25 => 225 | 3 => 3 | 39 => 210 | 0 => 0 | 53 => 50 | 55 => 39 | 4 => 4 | 46 => 254 | 45 => 253 | 50 => 258 | 5 => 5 | 9 => 9 | 66 => 262 | 70 => 265 | 76 => 268 | 77 => 127 | n => n, fun | n => n⟩
theorem sortW : Go.Proofs.SlLaysF0.n6 Try.prog sortW_ren := {
  mixed := by kernel_rfl
  f6 := ⟨Try.f121.name, by decide, Try.func121.trans (congrArg some (by kernel_rfl))⟩
  f14 := ⟨Try.f150.name, by decide, Try.func150.trans (congrArg some (by kernel_rfl))⟩
  f15 := Try.func151.trans (congrArg some (by kernel_rfl))
  f20 := ⟨Try.f162.name, by decide, Try.func162.trans (congrArg some (by kernel_rfl))⟩
  f21 := ⟨Try.f163.name, by decide, Try.func163.trans (congrArg some (by kernel_rfl))⟩
  f22 := ⟨Try.f164.name, by decide, Try.func164.trans (congrArg some (by kernel_rfl))⟩
  f23 := ⟨Try.f165.name, by decide, Try.func165.trans (congrArg some (by kernel_rfl))⟩
  f24 := ⟨Try.f166.name, by decide, Try.func166.trans (congrArg some (by kernel_rfl))⟩
  f25 := ⟨Try.f167.name, by decide, Try.func167.trans (congrArg some (by kernel_rfl))⟩
  f26 := ⟨Try.f168.name, by decide, Try.func168.trans (congrArg some (by kernel_rfl))⟩
  f27 := ⟨Try.f169.name, by decide, Try.func169.trans (congrArg some (by kernel_rfl))⟩
  f28 := Try.func170.trans (congrArg some (by kernel_rfl))
  f29 := Try.func171.trans (congrArg some (by kernel_rfl))
  f46 := ⟨Try.f174.name, by decide, Try.func174.trans (congrArg some (by kernel_rfl))⟩
  f47 := Try.func175.trans (congrArg some (by kernel_rfl))
  f48 := Try.func176.trans (congrArg some (by kernel_rfl))
  f49 := ⟨Try.f177.name, by decide, Try.func177.trans (congrArg some (by kernel_rfl))⟩
  f50 := ⟨Try.f178.name, by decide, Try.func178.trans (congrArg some (by kernel_rfl))⟩
  f57 := ⟨Try.f182.name, by decide, Try.func182.trans (congrArg some (by kernel_rfl))⟩
  t0 := Try.underlying0
  a0 := Try.isAgg0
  z0 := Try.sizeOf0
  v0 := Try.zeroValue0
  t3 := Try.underlying3
  a3 := Try.isAgg3
  z3 := Try.sizeOf3
  v3 := Try.zeroValue3
  t4 := Try.underlying4
  a4 := Try.isAgg4
  z4 := Try.sizeOf4
  v4 := Try.zeroValue4
  t5 := Try.underlying5
  a5 := Try.isAgg5
  z5 := Try.sizeOf5
  v5 := Try.zeroValue5
  t9 := Try.underlying9
  a9 := Try.isAgg9
  z9 := Try.sizeOf9
  v9 := Try.zeroValue9
  t22 := Try.underlying165
  a22 := Try.isAgg165
  z22 := Try.sizeOf165
  v22 := Try.zeroValue165
  t25 := Try.underlying225
  a25 := Try.isAgg225
  z25 := Try.sizeOf225
  v25 := Try.zeroValue225
  t39 := Try.underlying210
  a39 := Try.isAgg210
  z39 := Try.sizeOf210
  v39 := Try.zeroValue210
  t45 := Try.underlying253
  a45 := Try.isAgg253
  z45 := Try.sizeOf253
  v45 := Try.zeroValue253
  t46 := Try.underlying254
  a46 := Try.isAgg254
  z46 := Try.sizeOf254
  v46 := Try.zeroValue254
  t50 := Try.underlying258
  a50 := Try.isAgg258
  z50 := Try.sizeOf258
  v50 := Try.zeroValue258
  t53 := Try.underlying50
  a53 := Try.isAgg50
  z53 := Try.sizeOf50
  v53 := Try.zeroValue50
  t55 := Try.underlying39
  a55 := Try.isAgg39
  z55 := Try.sizeOf39
  v55 := Try.zeroValue39
  t66 := Try.underlying262
  a66 := Try.isAgg262
  z66 := Try.sizeOf262
  v66 := Try.zeroValue262
  t70 := Try.underlying265
  a70 := Try.isAgg265
  z70 := Try.sizeOf265
  v70 := Try.zeroValue265
  t76 := Try.underlying268
  a76 := Try.isAgg268
  z76 := Try.sizeOf268
  v76 := Try.zeroValue268
  t77 := Try.underlying127
  a77 := Try.isAgg127
  z77 := Try.sizeOf127
  v77 := Try.zeroValue127 }
end Go.Proofs.Ytdabcnjjbfmkaaa

/-
  The sort of words, by their addresses: whatever length.
-/
namespace Go.Proofs.Ytdabcnjjbfmkaaa
open Go.RowKit Go.Shelf Go.Lib Go.Sort
set_option linter.unusedVariables false

theorem isnan_any (a : Int) (w : World) : Calls Try.prog 152 #[.int .u64 a] w fun e w' => e = .returned (.bool false) ∧ w' = w := by
  go_enter Try.func152, Try.ntmps152
  go_wp2
  go_ret
  exact ⟨rfl, rfl⟩
theorem cmp_any (a b : Int) (w : World) : Calls Try.prog 123 #[.int .u64 a, .int .u64 b] w fun e w' => e = .returned (.int .i64 (Lib.compareInt a b)) ∧ w' = w := by
  unfold Lib.compareInt
  by_cases h1 : a < b
  · rw [if_pos h1]
    go_enter Try.func123, Try.ntmps123
    go_wp2_with (go_at_call 152; refine (isnan_any _ _).mono ?_; rintro e w1 ⟨rfl, rfl⟩)
    go_ret
    exact ⟨rfl, rfl⟩
  · rw [if_neg h1]
    by_cases h2 : b < a
    · rw [if_pos h2]
      go_enter Try.func123, Try.ntmps123
      go_wp2_with (go_at_call 152; refine (isnan_any _ _).mono ?_; rintro e w1 ⟨rfl, rfl⟩)
      go_ret
      exact ⟨rfl, rfl⟩
    · rw [if_neg h2]
      go_enter Try.func123, Try.ntmps123
      go_wp2_with (go_at_call 152; refine (isnan_any _ _).mono ?_; rintro e w1 ⟨rfl, rfl⟩)
      go_ret
      exact ⟨rfl, rfl⟩
/-- A word's two cells. -/
def encW (x : Int × Int) : List Value := [.int .u64 x.1, .int .u64 x.2]
def cmpW (x y : Int × Int) : Int := Lib.compareInt x.1 y.1
theorem closure_any (x y : Int × Int) (W : World) : Calls Try.prog 122 #[.agg #[.int .u64 x.1, .int .u64 x.2], .agg #[.int .u64 y.1, .int .u64 y.2]] W fun e w' => e = .returned (.int .i64 (cmpW x y)) ∧ ∃ q os', w' = grow (W.drewN q) os' := by
  have hcon := fun W' => cmp_any x.1 y.1 W'
  unfold cmpW
  generalize Lib.compareInt x.1 y.1 = r at hcon ⊢
  go_enter Try.func122, Try.ntmps122
  go_wp2_with (go_at_call 123; refine (hcon _).mono ?_; rintro e w' ⟨rfl, rfl⟩)
  go_ret
  exact ⟨rfl, 0, _, by rw [alloc_eq_grow, alloc_eq_grow, grow_grow]; rfl⟩
theorem cmpLaysW (blk off size : Nat) (w : World) : CmpLays Try.prog 122 #[] encW 2 cmpW blk off size w := fun _ _ _ _ x y => closure_any x y _
theorem ltW (x y : Int × Int) : ltOf cmpW x y = decide (x.1 < y.1) := by
  unfold ltOf cmpW Lib.compareInt
  by_cases h1 : x.1 < y.1
  · simp [h1]
  · by_cases h2 : y.1 < x.1 <;> simp [h1, h2]
theorem swoW : SWO (ltOf cmpW) where
  irrefl x := by rw [ltW]; simp
  trans x y z h1 h2 := by rw [ltW] at *; simp at *; omega
  ntrans x y z h1 h2 := by rw [ltW] at *; simp at *; omega
theorem sort_any (blk off cap : Nat) (d : Array (Int × Int)) (w : World) (hH : HoldsK encW 2 w blk off d) (hblk : blk < w.heap.size) (hsz : d.size < 4611686018427387904) :
    Calls Try.prog 121 #[.slice (some ⟨blk, off, none⟩) d.size cap, .func (.func 122) #[] #[]] w fun e w' => e = .returned (.tuple #[]) ∧ ∃ d' n os, PermIn 0 d.size d d' ∧ SortedIn (ltOf cmpW) 0 d.size d' ∧ w' = sortWorldK encW 2 w blk off n d' os := by
  have eg : ∀ args w, (callFunc 122 args).run Try.prog w = .ok (.enter 122 args) w := fun args w => by kernel_rfl
  exact AnyQ.slices_SortFunc sortW 2 Try.isAgg167 Try.sizeOf167 encW (fun _ => rfl) (fun x v hv => by simp [encW] at hv; rcases hv with rfl | rfl <;> rfl) cmpW swoW 122 #[] blk off cap d w eg (cmpLaysW blk off d.size w) hH hblk hsz
end Go.Proofs.Ytdabcnjjbfmkaaa

/-
  Words of cells, whatever they hold.
-/
namespace Go.Proofs.Ytdabcnjjbfmkaaa
open Go.RowKit Go.Maps
set_option linter.unusedVariables false

theorem ranges_le {H : Type} {P : Program} {k : TypeId} {R : Value → Option (DataW H × List MemPlace)} {w : World} {b r n : Nat} {D : DataW H} {left : Lit → Bool} {cnt : Nat} (h : w.ranges P k R b r n D left cnt) : cnt ≤ n := by
  obtain ⟨es, clock, since, seen, c0, _, _, hn, _, _, _, hc, _⟩ := h
  rw [← hc]
  exact Nat.le_trans (by unfold leftOf; exact Array.size_filter_le) hn
theorem same_kA (a x : Int) : (kA a).sameKey (kA x) = decide (a = x) := by simp [kA, Lit.sameKey]

/-- The words so far, by what is left of the map. -/
structure Wds (val : Int → Int) (left : Lit → Bool) (ws : List (Int × Int)) : Prop where
  eq : ∀ p ∈ ws, p.2 = val p.1 ∧ p.2 ≠ 0 ∧ left (kA p.1) = false ∧ (Lit.int .u64 p.1).wf = true
  ne : ws.Pairwise fun p q => p.1 ≠ q.1
  all : ∀ a, val a ≠ 0 → left (kA a) = true ∨ ∃ p ∈ ws, p.1 = a
theorem Wds.skip {val : Int → Int} {left : Lit → Bool} {ws : List (Int × Int)} {x : Int} (h : Wds val left ws) (hx : val x = 0) : Wds val (fun z => left z && !z.sameKey (kA x)) ws := by
  refine ⟨fun p hp => ?_, h.ne, fun a ha => ?_⟩
  · obtain ⟨h1, h2, h3, h4⟩ := h.eq p hp
    exact ⟨h1, h2, by simp [h3], h4⟩
  · rcases h.all a ha with h1 | h1
    · have : a ≠ x := fun c => ha (c ▸ hx)
      exact .inl (by simp [h1, same_kA, this])
    · exact .inr h1
theorem Wds.more {val : Int → Int} {left : Lit → Bool} {ws : List (Int × Int)} {x : Int} (h : Wds val left ws) (hx : val x ≠ 0) (hl : left (kA x) = true) (hw : (Lit.int .u64 x).wf = true) :
    Wds val (fun z => left z && !z.sameKey (kA x)) (ws ++ [(x, val x)]) := by
  refine ⟨fun p hp => ?_, ?_, fun a ha => ?_⟩
  · rcases List.mem_append.1 hp with hp | hp
    · obtain ⟨h1, h2, h3, h4⟩ := h.eq p hp
      exact ⟨h1, h2, by simp [h3], h4⟩
    · simp only [List.mem_singleton] at hp
      subst hp
      exact ⟨rfl, hx, by simp [same_kA], hw⟩
  · refine List.pairwise_append.2 ⟨h.ne, List.pairwise_singleton _ _, fun p hp q hq c => ?_⟩
    simp only [List.mem_singleton] at hq
    subst hq
    have := (h.eq p hp).2.2.1
    simp only at c
    rw [c, hl] at this
    cases this
  · rcases h.all a ha with h1 | ⟨p, hp, h1⟩
    · by_cases hax : a = x
      · exact .inr ⟨(x, val x), by simp, hax.symm⟩
      · exact .inl (by simp [h1, same_kA, hax])
    · exact .inr ⟨p, by simp [hp], h1⟩

theorem rlook_mem {l : List (Int × Int)} (h : Ris l) {p : Int × Int} (hp : p ∈ l) : rlook l p.1 = p.2 := by
  induction l with
  | nil => cases hp
  | cons q r ih =>
    have h2 := List.pairwise_cons.1 h
    rcases List.mem_cons.1 hp with rfl | hp
    · simp [rlook]
    · have := h2.1 p hp
      have hne : q.1 ≠ p.1 := by omega
      simp only [rlook, if_neg hne]
      exact ih h2.2 hp

open Go.Sort in
theorem wds_sorted {val : Int → Int} {left : Lit → Bool} {ws : List (Int × Int)} (h : Wds val left ws) (hl : ∀ k, left k = false) {d' : Array (Int × Int)} (hp : PermIn 0 ws.length ws.toArray d') (hs : SortedIn (ltOf cmpW) 0 ws.length d') :
    d'.size = ws.length ∧ Ris d'.toList ∧ (∀ p ∈ d'.toList, p.2 ≠ 0 ∧ p.2 = val p.1 ∧ (Lit.int .u64 p.1).wf = true) ∧ ∀ a, rlook d'.toList a = val a := by
  obtain ⟨h1, _, h3⟩ := hp
  have h1 : d'.size = ws.length := by simpa using h1
  have e1 : (d'.extract 0 ws.length) = d' := by rw [← h1]; simp
  have e2 : (ws.toArray.extract 0 ws.length) = ws.toArray := by simp
  rw [e1, e2] at h3
  have h3 : d'.toList.Perm ws := by simpa using h3
  have hne : d'.toList.Pairwise fun p q => p.1 ≠ q.1 := (h3.pairwise_iff (fun h c => h c.symm)).2 h.ne
  have hris : Ris d'.toList := by
    unfold Ris
    rw [List.pairwise_iff_getElem] at hne ⊢
    intro i j hi hj hij
    have a := hne i j hi hj hij
    have hi' : i < d'.size := by simpa using hi
    have hj' : j < d'.size := by simpa using hj
    have b := hs i j (Nat.zero_le _) hij (by omega)
    rw [ltW, getElem!_pos d' i hi', getElem!_pos d' j hj'] at b
    simp only [decide_eq_false_iff_not] at b
    simp only [Array.getElem_toList] at a ⊢
    omega
  have hall : ∀ p ∈ d'.toList, p.2 ≠ 0 ∧ p.2 = val p.1 ∧ (Lit.int .u64 p.1).wf = true := fun p hp => by
    obtain ⟨a1, a2, a3, a4⟩ := h.eq p (h3.mem_iff.1 hp)
    exact ⟨a2, a1, a4⟩
  refine ⟨h1, hris, hall, fun a => ?_⟩
  by_cases ha : val a = 0
  · rw [ha]
    refine rlook_out fun q hq c => ?_
    obtain ⟨a1, a2, _⟩ := hall q hq
    rw [c] at a2
    exact a1 (a2.trans ha)
  · rcases h.all a ha with c | ⟨p, hp, rfl⟩
    · rw [hl] at c; cases c
    · have hm := h3.mem_iff.2 hp
      rw [rlook_mem hris hm]
      exact (hall p hm).2.1

open Go.Sort in
theorem holds_flat2 {w : World} {g e : Nat} {cur : Array Value} (hg : w.heap[g]? = some (.cells cur e (0, 0))) (ws : List (Int × Int)) (ht : cur.toList.take (ws.length * 2) = flat2 ws) : HoldsK encW 2 w g 0 ws.toArray := by
  intro j hj
  rw [size_flatK] at hj
  have hj2 : j < ws.length * 2 := by simpa using hj
  have hi : j / 2 < ws.length := by omega
  obtain ⟨f0, f1⟩ := flat2_at ws (j / 2) hi
  have hc : cur[j]? = (flat2 ws)[j]? := by rw [← ht, List.getElem?_take_of_lt hj2]; simp
  have hw : w.cell? ⟨g, 0 + j, none⟩ = cur[j]? := by simp [World.cell?, hg]
  refine ⟨?_, by simp [World.frozen?, hg]⟩
  rw [get_flatK _ _ _ _ hj, hw, hc]
  rcases (by omega : j % 2 = 0 ∨ j % 2 = 1) with h | h
  · rw [show j = j / 2 * 2 by omega, f0]
    simp [encW, hi]
  · rw [show j = j / 2 * 2 + 1 by omega, f1]
    have e1 : (j / 2 * 2 + 1) / 2 = j / 2 := by omega
    have e2 : (j / 2 * 2 + 1) % 2 = 1 := by omega
    rw [e1, e2]
    simp [encW, hi]

open Go.Sort in
theorem sort_keeps (w : World) (g n : Nat) (d : Array (Int × Int)) (os : Array Obj) : Keeps (· = g) w (sortWorldK encW 2 w g 0 n d os) := by
  refine ⟨rfl, rfl, rfl, size_sortWorldK_c _ _ _ _ _ _ _ _, fun k hk hne => ?_⟩
  have hne : ¬ g = k := fun c => hne c.symm
  unfold sortWorldK grow putRowK putRow mapBlock Sort.ahead
  simp only
  rw [Array.getElem?_append_left (by simpa using hk)]
  simp [Array.getElem?_modify, hne]

/-- From place k on the row that a call itself made holds the words. -/
def WFrom (w : World) (base : Nat) (a : Option Addr) (ws : List (Int × Int)) (k : Nat) : Prop :=
  ws.length ≤ k ∨ ∃ g cur, a = some ⟨g, 0, none⟩ ∧ base ≤ g ∧ w.heap[g]? = some (.cells cur 167 (0, 0)) ∧ ∀ i, k ≤ i → (hi : i < ws.length) → cur[i * 2]? = some (.int .u64 (ws[i]).1) ∧ cur[i * 2 + 1]? = some (.int .u64 (ws[i]).2)

open Go.Sort in
theorem wfrom_sorted {w : World} {base g : Nat} {cur : Array Value} (hgb : base ≤ g) (hg : w.heap[g]? = some (.cells cur 167 (0, 0))) {ws : List (Int × Int)} (ht : cur.toList.take (ws.length * 2) = flat2 ws) {n : Nat} {d' : Array (Int × Int)} {os : Array Obj} (hd : d'.size = ws.length) :
    WFrom (sortWorldK encW 2 w g 0 n d' os) base (some ⟨g, 0, none⟩) d'.toList 0 := by
  have hlt : g < w.heap.size := (Array.getElem?_eq_some_iff.1 hg).1
  have hH := holdsK_sortWorldK_c encW 2 w g 0 ws.toArray d' n os (holds_flat2 hg ws ht) hlt (by simpa using hd)
  have hh : (sortWorldK encW 2 w g 0 n d' os).heap[g]? = some (.cells (putCells id 0 (flatK encW 2 d') cur) 167 (0, 0)) := by
    unfold sortWorldK grow putRowK putRow mapBlock Sort.ahead
    simp only
    rw [Array.getElem?_append_left (by simpa using hlt)]
    simp [Array.getElem?_modify, hg, onCells]
  generalize putCells id 0 (flatK encW 2 d') cur = c2 at hh
  refine .inr ⟨g, c2, rfl, hgb, hh, fun i _ hi => ?_⟩
  have hi : i < d'.size := by simpa using hi
  have c0 := (hH.cell (i := i) (c := 0) hi (by omega)).1
  have c1 := (hH.cell (i := i) (c := 1) hi (by omega)).1
  rw [getElem!_pos d' i hi] at c0 c1
  have e : ∀ o, (sortWorldK encW 2 w g 0 n d' os).cell? ⟨g, o, none⟩ = c2[o]? := fun o => by unfold World.cell?; simp only; rw [hh]; rfl
  rw [e] at c0 c1
  simp only [Array.getElem_toList]
  exact ⟨by simpa [encW] using c0, by simpa [encW] using c1⟩

theorem clip_any (g n cap : Nat) (hn : n ≤ cap) (hc : cap ≤ maxLen) (w : World) : Calls Try.prog 124 #[.slice (some ⟨g, 0, none⟩) n cap] w fun e w' => e = .returned (.slice (some ⟨g, 0, none⟩) n n) ∧ w' = w := by
  unfold maxLen at hc
  go_enter Try.func124, Try.ntmps124
  go_wp2
  go_ret
  exact ⟨rfl, rfl⟩
theorem info_cword : (Try.prog.info? 167).map (fun i => (i.zero, i.size, i.bytes)) = some (some (.agg #[.int .u64 0, .int .u64 0]), 2, 16) := by kernel_rfl

theorem own_but {w w1 : World} {base e size n r : Nat} {v : Value} {xs : List Value} (h : w.ownsRow base e size v n xs) (hg : w.grownBy w1 (some r)) (hr : r < base) : w1.ownsRow base e size v n xs := by
  obtain ⟨h1, h2 | ⟨g, cap, cur, rfl, hgb, hh, r2⟩⟩ := h
  · exact ⟨h1, .inl h2⟩
  · exact ⟨h1, .inr ⟨g, cap, cur, rfl, hgb, (hg.block g (Array.getElem?_eq_some_iff.1 hh).1 (fun c => by cases c; omega)).trans hh, r2⟩⟩
/-- What words tell. -/
structure WordsOf (w : World) (base : Nat) (val : Int → Int) (a : Option Addr) (ws : List (Int × Int)) : Prop where
  row : WFrom w base a ws 0
  most : ws.length ≤ 1000000
  wf : ∀ p ∈ ws, (Lit.int .u64 p.1).wf = true ∧ (Lit.int .u64 p.2).wf = true
  ris : Ris ws
  nz : ∀ p ∈ ws, p.2 ≠ 0
  look : ∀ x, rlook ws x = val x
theorem wordsOf_nil {w : World} {base : Nat} {val : Int → Int} (h : ∀ x, val x = 0) : WordsOf w base val none [] :=
  ⟨.inl (Nat.le_refl _), Nat.zero_le _, fun p hp => (by cases hp), List.Pairwise.nil, fun p hp => (by cases hp), fun x => (h x).symm⟩

set_option maxRecDepth 10000 in
set_option maxHeartbeats 2000000 in
theorem words_any (w : World) (base b : Nat) (s : CS) (S : Nat → Prop) (hA : Cells w base b s S) (hn : s.n ≤ 1000000) :
    Calls Try.prog 77 #[.pointer (some ⟨b, 0, none⟩)] w fun e w' => ∃ a ws, e = .returned (.slice a ws.length ws.length) ∧ WordsOf w' w.heap.size s.val a ws ∧ Below w.heap.size w w' := by
  obtain ⟨mo, f, hA, hS⟩ := hA
  cases mo with
  | none =>
    have hz : ∀ a, s.val a = 0 := fun a => hA.zero a (hA.nomap rfl a)
    exact (words_zero w base b s S ⟨none, f, hA, hS⟩ hz).mono fun e w' ⟨he, hb⟩ => ⟨none, [], he, wordsOf_nil hz, hb⟩
  | some m =>
    subst hS
    have hb : b < w.heap.size := (Array.getElem?_eq_some_iff.1 hA.hdr).1
    have c0 : w.cell? ⟨b, 0, none⟩ = some (.map (some m)) := by simp [World.cell?, hA.hdr, hdrC]
    obtain ⟨⟨D, hown, hf, hh⟩, hm1, hm2⟩ := hA.map m rfl
    have hml : m < w.heap.size := hown.lt
    obtain ⟨i0, hi0, hz0, hz1, hz2⟩ := info_parts info_cword
    have HI := Lib.hid hi0; have HZ0 := Lib.hid hz0; have HZ1 := Lib.hid hz1; have HZ2 := Lib.hid hz2
    have hst : Wds s.val (Maps.has D) [] := ⟨fun p hp => (by cases hp), List.Pairwise.nil, fun a ha => .inl ((hh a).trans (by
      cases e : f a with
      | none => exact absurd (hA.zero a e) ha
      | some p => rfl))⟩
    have HA := Lib.hid hA; have HF := Lib.hid hf; have HH := Lib.hid hh; have HN := Lib.hid hn; have HST := Lib.hid hst
    clear hA hf hh hn hst hi0 hz0 hz1 hz2 hm2
    go_enter Try.func77, Try.ntmps77
    go_wp2_with (first
      | (at_range; refine wpList_range_own _ rfl _ 130 rfl 47 114 addr_keyed Try.underlying130 _ m s.n _ rfl hown ?_; intro w0 hrg0 hg0 hs0)
      | fail)
    go_frame
    go_loopw [3] (fun v wr => ∃ (ws : List (Int × Int)) (left : Lit → Bool) (cnt : Nat), wr.ownsRow (w.heap.size + 1) 167 2 v ws.length (flat2 ws) ∧ Wds s.val left ws ∧ ws.length + cnt ≤ s.n ∧ wr.ranges Try.prog 47 ptrR m w.heap.size s.n D left cnt ∧ Below w.heap.size w wr)
      (fun _ wr => wr.rangeLeft m w.heap.size)
    case atStart => exact ⟨[], _, _, World.ownsRow_nil _ _ _ _, HST.out, by have := ranges_le hrg0; simpa using this, hrg0, ⟨hg0.os, hg0.tape, hg0.output, hg0.size, fun k hk => hg0.block k hk (by simp)⟩⟩
    case round =>
      obtain ⟨ws, left, cnt, hrow, hwd, hct, hrg, hgw⟩ := hrel
      go_wp2_with (first
        | (at_next; refine wpList_next_ranges _ rfl _ rfl 47 addr_keyed ptrR (Value.int .u64) ptrV (fun key kl hkey => by obtain ⟨x, rfl, _⟩ := Maps.keyOf_int_inv Try.underlying47 hkey; exact ⟨x, rfl⟩) (fun v y hv => by obtain ⟨c, rfl, _⟩ := ptrR_inv hv; exact ⟨c, rfl⟩) m w.heap.size s.n _ _ _ rfl hrg ?_ ?_)
        | fail)
      · intro _ hl0
        have hwn := HN.out
        obtain ⟨hfl, ⟨rfl, hnil⟩ | ⟨g, cap, cur, rfl, hgb, hg, hnc, hcm, hcs, ht⟩⟩ := hrow
        · obtain rfl : ws = [] := List.eq_nil_of_length_eq_zero hnil
          have hz : ∀ a, s.val a = 0 := fun a => by
            by_cases ha : s.val a = 0
            · exact ha
            · rcases hwd.all a ha with c | ⟨p, hp, _⟩
              · rw [hl0] at c; cases c
              · cases hp
          have HZ := Lib.hid hz
          have HGW := Lib.hid hgw
          clear hz hwd hrg hgw hct hl0
          go_wp2_with (first
            | (go_at_call 121; refine (sort_nil _ _).mono ?_; rintro e w1 ⟨rfl, g1⟩)
            | (go_at_call 124; refine (clip_nil _).mono ?_; rintro e w2 ⟨rfl, g2⟩))
          go_ret
          exact ⟨none, [], rfl, wordsOf_nil HZ.out, (HGW.out.trans (g1.mono HGW.out.size)).trans (g2.mono (Nat.le_trans HGW.out.size g1.size))⟩
        · have hsort := sort_any g 0 cap ws.toArray wr (holds_flat2 hg ws ht) (Array.getElem?_eq_some_iff.1 hg).1 (by simp; omega)
          simp only [List.size_toArray] at hsort
          have hclip := clip_any g ws.length cap hnc hcm
          have hk : ∀ n d' os, Sort.PermIn 0 ws.length ws.toArray d' → Sort.SortedIn (ltOf cmpW) 0 ws.length d' → d'.size = ws.length ∧ WordsOf (sortWorldK encW 2 wr g 0 n d' os) w.heap.size s.val (some ⟨g, 0, none⟩) d'.toList ∧ Below w.heap.size w (sortWorldK encW 2 wr g 0 n d' os) := fun n d' os hp hs => by
            obtain ⟨a1, a2, a3, a4⟩ := wds_sorted hwd hl0 hp hs
            have hr := wfrom_sorted (n := n) (os := os) (base := w.heap.size) (by omega) hg ht a1
            exact ⟨a1, ⟨hr, by simp [a1]; omega, fun p hp => ⟨(a3 p hp).2.2, by rw [(a3 p hp).2.1]; exact HA.out.wf _⟩, a2, fun p hp => (a3 p hp).1, a4⟩, keeps_below (sort_keeps wr g n d' os) hgw hgw.size fun k hk => by omega⟩
          have HK := Lib.hid hk; have HS := Lib.hid hsort; have HC := Lib.hid hclip
          unfold maxLen at hcm
          clear hk hsort hclip hwd hrg hgw hl0 hg ht hct hfl
          go_wp2_with (first
            | (go_at_call 121; refine HS.out.mono ?_; rintro e w1 ⟨rfl, d', n, os, hp, hs, hw1⟩)
            | (go_at_call 124; refine (HC.out _).mono ?_; rintro e w2 ⟨rfl, rfl⟩))
          go_ret
          obtain ⟨a1, a2, a3⟩ := HK.out n d' os hp hs
          exact ⟨some ⟨g, 0, none⟩, d'.toList, by rw [show d'.toList.length = ws.length by simp [a1]]; rfl, a2, a3⟩
      · intro x c kl y yp w1 cnt1 hk hlk hR hat hrg1 hlt hg1 hs1 hen
        obtain ⟨x', ex, hkl, hwx⟩ := Maps.keyOf_int_inv Try.underlying47 hk
        cases ex
        subst hkl
        have e0 : y = pD c := by have := (ptrR_mk c).symm.trans hR; simp only [Option.some.injEq, Prod.mk.injEq] at this; exact this.1.symm
        have e1 : f x = c := pD_inj ((HF.out x).symm.trans ((hat _).trans e0))
        have e2 : (f x).isSome = true := (HH.out x).symm.trans (has_true_of_atKey hat)
        rw [e1] at e2
        cases c with
        | none => cases e2
        | some p =>
          have hp := HA.out.ptr x p e1
          have hpl : p < w.heap.size := (Array.getElem?_eq_some_iff.1 hp.1).1
          have hgw1 : Below w.heap.size w w1 := hgw.trans ⟨hg1.os, hg1.tape, hg1.output, hg1.size, fun k hk => hg1.block k (Nat.lt_of_lt_of_le hk hgw.size) (fun c => by cases c; omega)⟩
          have hpc := cell_of_word ((hgw1.block p hpl).trans hp.1)
          have hrow1 := own_but hrow hg1 (Nat.lt_succ_self _)
          have hz0 : s.val x = 0 → Wds s.val (fun z => left z && !z.sameKey (kA x)) ws := hwd.skip
          have hz1 : s.val x ≠ 0 → Wds s.val (fun z => left z && !z.sameKey (kA x)) (ws ++ [(x, s.val x)]) := fun h => hwd.more h hlk hwx
          have hs1' : w.heap.size < w1.heap.size := by have := hrg1.lt; exact this
          have hlen1 : ws.length + 1 + cnt1 ≤ s.n := by omega
          simp only [ptrV, Option.map] at hen ⊢
          have HR := Lib.hid hrg; have HR1 := Lib.hid hrg1; have HRW := Lib.hid hrow1; have HW0 := Lib.hid hz0; have HW1 := Lib.hid hz1; have HG1 := Lib.hid hgw1; have HLT := Lib.hid hlt; have HSZ := Lib.hid hs1'; have HL1 := Lib.hid hlen1; have HM := Lib.hid hml
          clear hrg hrg1 hat hR e0 e1 e2 hp hk hlk hwx hrow hrow1 hz0 hz1 hgw hgw1 hwd hlt hs1' hct hlen1 hg1 hs1 hown hrg0 hg0 hs0 hml hpl hb hm1
          generalize s.val x = d at *
          cases hd : (d != 0)
          · have hd' : d = 0 := by simpa using hd
            go_wp2_with (go_at_call 59; refine (a_load p _ _ hpc).mono ?_; rintro e w' ⟨rfl, rfl⟩)
            go_roundw
            case rel => exact ⟨ws, _, _, HRW.out, HW0.out hd', by have := HL1.out; omega, HR1.out, HG1.out⟩
            case measure => rw [HR1.out.left_eq, HR.out.left_eq]; exact HLT.out
          · have hd' : d ≠ 0 := by simpa using hd
            go_wp2_with (first
              | (go_at_call 59; refine (a_load p _ _ hpc).mono ?_; rintro e w' ⟨rfl, rfl⟩)
              | (at_builtin; refine wpList_append_own _ rfl _ _ 165 rfl (w.heap.size + 1) 167 i0 (.agg #[.int .u64 0, .int .u64 0]) 2 16 Try.underlying165 HI.out HZ0.out HZ1.out HZ2.out rfl (by decide) _ _ _ rfl (HRW.out.alloc _) ⟨_, 0, none⟩ 1 1 [.int .u64 x, .int .u64 d] rfl rfl (rnews _ x d _) ?c2 ?c3 ?c4 ?c5 ?_))
            case c2 => simp [Value.oneCell']
            case c3 => have := HL1.out; have := HN.out; unfold maxLen; omega
            case c4 => have := HL1.out; have := HN.out; omega
            case c5 => have := HSZ.out; first | omega | (simp; omega)
            intro v' w2 hown' hgrow _
            have hb2 := (HG1.out.alloc HG1.out.size (.cells #[.int .u64 x, .int .u64 d] 167)).grown hgrow (by simp; have := HG1.out.size; omega) (fun j hj => by have := (HRW.out.lt j hj).1; omega)
            have hr2 := (HR1.out.alloc (.cells #[.int .u64 x, .int .u64 d] 167)).kept hgrow (fun c => by have := (HRW.out.lt m c.symm).1; have := HM.out; omega) (fun c => by have := (HRW.out.lt _ c.symm).1; omega)
            have HB2 := Lib.hid hb2; have HR2 := Lib.hid hr2; have HO2 := Lib.hid hown'
            clear hb2 hr2 hown' hgrow
            go_wp2
            go_roundw
            case rel => exact ⟨ws ++ [(x, d)], _, _, by rw [flat2_snoc, show (ws ++ [(x, d)]).length = ws.length + 1 by simp]; exact HO2.out, HW1.out hd', by have := HL1.out; simp; omega, HR2.out, HB2.out⟩
            case measure => rw [HR2.out.left_eq, HR.out.left_eq]; exact HLT.out
end Go.Proofs.Ytdabcnjjbfmkaaa

/-
  An access of both cells, whichever; both new.
-/
namespace Go.Proofs.Ytdabcnjjbfmkaaa
open Go.RowKit Go.Maps
set_option linter.unusedVariables false

theorem alike_zero : Alike CS.zero RS.zero := ⟨rfl, List.Pairwise.nil, (fun p hp => by cases hp), rfl, rfl, rfl, rfl, rfl⟩
theorem far_zero : Far CS.zero RS.zero 1 := ⟨by decide, by decide, by decide⟩
theorem both_new {w0 w w8 : World} {cb : Nat} (hO : Own w0 w cb CS.zero) (hr : RCells w8 w.heap.size w.heap.size (.slice none 0 0) RS.zero) (hle : w0.heap.size ≤ w.heap.size) (hb : Below w.heap.size w w8) : Both w0 w8 cb w.heap.size CS.zero RS.zero :=
  ⟨hO.keep hb, ⟨_, hr.hdr, hle, World.ownsRow_nil _ _ _ _, fun p hp => by cases hp⟩, alike_zero⟩

end Go.Proofs.Ytdabcnjjbfmkaaa

/-
  Are cells the document's, by all that they tell: they are, where both say the same.
-/
namespace Go.Proofs.Ytdabcnjjbfmkaaa
open Go.RowKit Go.Maps
set_option linter.unusedVariables false

theorem words_own {w0 w : World} {b : Nat} {s : CS} (h : Own w0 w b s) (hn : s.n ≤ 1000000) : Calls Try.prog 77 #[.pointer (some ⟨b, 0, none⟩)] w fun e w' => ∃ a ws, e = .returned (.slice a ws.length ws.length) ∧ WordsOf w' w.heap.size s.val a ws ∧ Below w.heap.size w w' := by
  obtain ⟨⟨S, hS⟩, hB⟩ := h
  exact words_any w _ b s S hS hn
theorem last_ext {w0 w : World} {b : Nat} {s : CS} (h : Own w0 w b s) (st : ExtW w) : Calls Try.prog 22 #[.pointer (some ⟨b, 0, none⟩)] st.val fun e w' => e = .returned (.agg #[.int .u8 s.kind, .int .u64 s.addr, .int .u64 s.was, .int .u64 s.is]) ∧ Below st.val.heap.size st.val w' := by
  obtain ⟨⟨S, hS⟩, hB⟩ := h.keep st.below
  exact last_any _ _ b s S hS
theorem count_ext {w0 w : World} {b : Nat} {s : CS} (h : Own w0 w b s) (st : ExtW w) : Calls Try.prog 48 #[.pointer (some ⟨b, 0, none⟩)] st.val fun e w' => e = .returned (.int .i64 s.cnt) ∧ st.val = w' :=
  (count_own (h.keep st.below)).mono fun e w' ⟨he, hw⟩ => ⟨he, hw.symm⟩
theorem peek_ext {w0 w : World} {b : Nat} {s : CS} (h : Own w0 w b s) (a : Int) (ha : (Lit.int .u64 a).wf = true) (v : Int) (hv : s.val a = v) (st : ExtW w) : Calls Try.prog 19 #[.pointer (some ⟨b, 0, none⟩), .int .u64 a] st.val fun e w' => e = .returned (.int .u64 v) ∧ st.val = w' := by
  subst hv
  exact (peek_own (h.keep st.below) a ha).mono fun e w' ⟨he, hw⟩ => ⟨he, hw.symm⟩

theorem wfrom_next {wr W : World} {base g k : Nat} {cur : Array Value} {ws : List (Int × Int)} (hgb : base ≤ g) (hg : W.heap[g]? = some (.cells cur 167 (0, 0))) (hc : ∀ i, k ≤ i → (hi : i < ws.length) → cur[i * 2]? = some (.int .u64 (ws[i]).1) ∧ cur[i * 2 + 1]? = some (.int .u64 (ws[i]).2)) (u v : Value) :
    WFrom ((W.setCell ⟨g, k * 2, none⟩ u).setCell ⟨g, k * 2 + 1, none⟩ v) base (some ⟨g, 0, none⟩) ws (k + 1) := by
  refine .inr ⟨g, _, rfl, hgb, setCell_same (setCell_same hg _ _) _ _, fun i hi hl => ?_⟩
  obtain ⟨h1, h2⟩ := hc i (by omega) hl
  have n1 : k * 2 ≠ i * 2 := by omega
  have n2 : k * 2 + 1 ≠ i * 2 := by omega
  have n3 : k * 2 ≠ i * 2 + 1 := by omega
  have n4 : k * 2 + 1 ≠ i * 2 + 1 := by omega
  rw [Array.getElem?_setIfInBounds_ne n2, Array.getElem?_setIfInBounds_ne n1, Array.getElem?_setIfInBounds_ne n4, Array.getElem?_setIfInBounds_ne n3]
  exact ⟨h1, h2⟩
theorem wfrom_below {w w' : World} {base : Nat} {a : Option Addr} {ws : List (Int × Int)} {k : Nat} (h : WFrom w base a ws k) (hb : Below w.heap.size w w') : WFrom w' base a ws k := by
  rcases h with h | ⟨g, cur, ha, h1, h2, h3⟩
  · exact .inl h
  · exact .inr ⟨g, cur, ha, h1, (hb.block g (Array.getElem?_eq_some_iff.1 h2).1).trans h2, h3⟩

end Go.Proofs.Ytdabcnjjbfmkaaa

/-
  Rows that the call made.
-/
namespace Go.Proofs.Ytdabcnjjbfmkaaa
open Go.RowKit
set_option linter.unusedVariables false

/-- A row of pointers that the call made. -/
theorem own_lit (w : World) (base e : Nat) (xs : List Value) (hb : base ≤ w.heap.size) (hn : xs.length ≤ maxLen) : (w.alloc (.cells xs.toArray e)).ownsRow base e 1 (.slice (some ⟨w.heap.size, 0, none⟩) xs.length xs.length) xs.length xs :=
  ⟨by simp, .inr ⟨_, _, _, rfl, hb, heap_alloc_new w _, Nat.le_refl _, hn, by simp, by simp⟩⟩
theorem own_at {w : World} {base e n : Nat} {v : Value} {xs : List Value} (h : w.ownsRow base e 1 v n xs) (i : Nat) (hi : i < n) : ∃ g cap x, v = .slice (some ⟨g, 0, none⟩) n cap ∧ xs[i]? = some x ∧ w.cell? ⟨g, i, none⟩ = some x ∧ base ≤ g := by
  obtain ⟨h1, ⟨rfl, h0⟩ | ⟨g, cap, cur, rfl, hb, hg, hn, hm, hs, ht⟩⟩ := h
  · omega
  · have hx : i < xs.length := by omega
    refine ⟨g, cap, xs[i], rfl, List.getElem?_eq_getElem hx, ?_, hb⟩
    have e1 : xs[i]? = (cur.toList.take (n * 1))[i]? := by rw [ht]
    rw [List.getElem?_take, if_pos (by omega), List.getElem?_eq_getElem hx] at e1
    unfold World.cell?; simp only; rw [hg]
    simpa using e1.symm
end Go.Proofs.Ytdabcnjjbfmkaaa

/-
  A row that has grown, in a frame by types.
-/
namespace Go.Proofs.Ytdabcnjjbfmkaaa
open Go.RowKit
set_option linter.unusedVariables false

theorem own_sl2 {w : World} {base e size n : Nat} {v : Value} {xs : List Value} (h : w.ownsRow base e size v n xs) : ∃ a cap, v = .slice a n cap := by
  obtain ⟨-, ⟨rfl, rfl⟩ | ⟨g, cap, cur, rfl, -⟩⟩ := h
  · exact ⟨none, 0, rfl⟩
  · exact ⟨_, cap, rfl⟩
theorem grown_ty {w w' : World} {base e size n : Nat} {v : Value} {xs : List Value} (h : w.ownsRow base e size v n xs) (hg : w.grownBy w' v.ownBlock) : Fr (fun T => T == e) false w w' := by
  obtain ⟨-, ⟨rfl, -⟩ | ⟨g, cap, cur, rfl, -, hb, -⟩⟩ := h
  · exact ⟨hg.size, fun k cs T fr hk _ => (hg.block k (Array.getElem?_eq_some_iff.1 hk).1 (fun c => by simp [Value.ownBlock] at c)).trans hk, fun _ k es cl hk => (hg.block k (Array.getElem?_eq_some_iff.1 hk).1 (fun c => by simp [Value.ownBlock] at c)).trans hk⟩
  · refine ⟨hg.size, fun k cs T fr hk hT => (hg.block k (Array.getElem?_eq_some_iff.1 hk).1 (fun c => ?_)).trans hk, fun _ k es cl hk => (hg.block k (Array.getElem?_eq_some_iff.1 hk).1 (fun c => ?_)).trans hk⟩
    · simp only [Value.ownBlock, Option.some.injEq] at c
      subst c
      have := hb.symm.trans hk; simp only [Option.some.injEq, Obj.cells.injEq] at this
      rw [this.2.1] at hT; simp at hT
    · simp only [Value.ownBlock, Option.some.injEq] at c
      subst c
      have := hb.symm.trans hk; cases this
theorem grown_below {w0 w w' : World} {B : Nat} {base e size n : Nat} {v : Value} {xs : List Value} (h : w.ownsRow base e size v n xs) (hg : w.grownBy w' v.ownBlock) (hB : Below B w0 w) (hs : B ≤ w.heap.size) (hb : B ≤ base) : Below B w0 w' :=
  hB.grown hg hs fun k hk => by
    obtain ⟨-, ⟨rfl, -⟩ | ⟨g, cap, cur, rfl, hb2, -⟩⟩ := h
    · simp [Value.ownBlock] at hk
    · simp only [Value.ownBlock, Option.some.injEq] at hk; omega
theorem set_ty {w : World} {q T : Nat} {cs : Array Value} (h : w.heap[q]? = some (.cells cs T (0, 0))) (o : Nat) (v : Value) : Fr (fun X => X == T) false w (w.setCell ⟨q, o, none⟩ v) :=
  keeps_fr (setCell_keeps w q o v) _ _ fun k e => ⟨_, _, _, e ▸ h, by simp⟩
theorem set_below {w0 w : World} {B q : Nat} (hB : Below B w0 w) (hs : B ≤ w.heap.size) (hq : B ≤ q) (o : Nat) (v : Value) : Below B w0 (w.setCell ⟨q, o, none⟩ v) :=
  keeps_below (setCell_keeps w q o v) hB hs fun k e => e ▸ hq
theorem ty_or {K1 K2 : TypeId → Bool} {w w' w'' : World} (h1 : Fr K1 false w w') (h2 : Fr K2 false w' w'') : Fr (fun T => K1 T || K2 T) false w w'' :=
  (h1.mono (fun T h => by simp only [Bool.or_eq_false_iff] at h; exact h.1) id).trans (h2.mono (fun T h => by simp only [Bool.or_eq_false_iff] at h; exact h.2) id)
end Go.Proofs.Ytdabcnjjbfmkaaa

/-
  The walks of package tagwords: each function computes what TagPure says.
-/
namespace Go.Proofs.Ytdabcnjjbfmkaaa
open Go.RowKit TagPure
set_option linter.unusedVariables false


theorem there_in (s : Int) (w : World) (h0 : 0 ≤ s) (h1 : s < 4) : Calls Try.prog 126 #[.int .i64 s] w fun e w' => e = .returned (.bool true) ∧ w = w' := by
  go_enter Try.func126, Try.ntmps126
  go_wp2
  go_ret
  exact ⟨rfl, rfl⟩
theorem there_out (s : Int) (w : World) (h : s < 0 ∨ 4 ≤ s) : Calls Try.prog 126 #[.int .i64 s] w fun e w' => e = .returned (.bool false) ∧ w = w' := by
  by_cases h0 : s < 0
  · go_enter Try.func126, Try.ntmps126
    go_wp2
    go_ret
    exact ⟨rfl, rfl⟩
  · have h1 : 0 ≤ s := by omega
    have hd : decide (s < 4) = false := by simp; omega
    go_enter Try.func126, Try.ntmps126
    go_wp2
    go_ret
    exact ⟨rfl, rfl⟩

/-- The four tags as an array. -/
def tags4 (x : Int) : List Value := [.int .i64 (tg x 0), .int .i64 (tg x 1), .int .i64 (tg x 2), .int .i64 (tg x 3)]

theorem part_eq (x : Int) (h0 : 0 ≤ x) (h1 : x < 18446744073709551616) (i : Nat) (d : Int) (hd : d = 256 ^ i) (hp : 1 ≤ d) : wrap64 (bits BinOp.and IntKind.u64 (x / d) 255) = tg x i := by
  subst hd
  have a : 0 ≤ x / 256 ^ i := Int.ediv_nonneg h0 (by omega)
  have b : x / 256 ^ i ≤ x := Int.ediv_le_self _ h0
  rw [and255 _ a (by omega), IntWalk.wrap64_in _ (by omega)]
  rfl

set_option maxHeartbeats 400000 in
theorem parts_any (x : Int) (w : World) (h0 : 0 ≤ x) (h1 : x < 18446744073709551616) :
    Calls Try.prog 125 #[.int .u64 x] w fun e w' => e = .returned (.agg (tags4 x).toArray) ∧ Below w.heap.size w w' := by
  go_enter Try.func125, Try.ntmps125
  go_wp2
  refine wp_loop_rounds 5 ?_
  rw [rounds_succ]; go_wp2
  rw [rounds_succ]; go_wp2
  rw [rounds_succ]; go_wp2
  rw [rounds_succ]; go_wp2
  rw [rounds_succ]; go_wp2
  have e0 : wrap64 (bits BinOp.and IntKind.u64 x 255) = tg x 0 := by have := part_eq x h0 h1 0 1 rfl (by omega); simpa using this
  have e1 := part_eq x h0 h1 1 256 rfl (by omega)
  have e2 := part_eq x h0 h1 2 65536 rfl (by omega)
  have e3 := part_eq x h0 h1 3 16777216 rfl (by omega)
  rw [e0, e1, e2, e3]
  refine bodyPost_ret (v := .agg (tags4 x).toArray) (by simp [results, Try.results125, go_sem, tags4]) rfl ⟨rfl, ?_⟩
  exact (Below.refl _ _).alloc (Nat.le_refl _) _

theorem tags_get (x : Int) (n : Nat) (hn : n < 4) (w : World) : (Instr.index 228 (.agg (tags4 x).toArray) (.int .i64 n)).run Try.prog w = .ok (.int .i64 (tg x n)) w := by
  rw [run_index_ints (P := Try.prog) Try.underlying228 Try.underlying3 (by kernel_rfl) (tags4 x) rfl .i64 n hn w]
  match n, hn with
  | 0, _ => rfl
  | 1, _ => rfl
  | 2, _ => rfl
  | 3, _ => rfl

theorem tag_in (x s : Int) (w : World) (h0 : 0 ≤ x) (h1 : x < 18446744073709551616) (hs : 0 ≤ s) (hs4 : s < 4) :
    Calls Try.prog 84 #[.int .u64 x, .int .i64 s] w fun e w' => e = .returned (.int .i64 (tg x s.toNat)) ∧ Below w.heap.size w w' := by
  obtain ⟨n, rfl⟩ := Int.eq_ofNat_of_zero_le hs
  have hn : n < 4 := by omega
  have hi := tags_get x n hn
  go_enter Try.func84, Try.ntmps84
  go_wp2_with (first | (go_at_call 126; refine (there_in _ _ (by omega) (by omega)).mono ?_; rintro e w' ⟨rfl, rfl⟩) | (go_at_call 125; refine (parts_any _ _ h0 h1).mono ?_; rintro e w' ⟨rfl, hb⟩))
  go_ret
  exact ⟨rfl, hb⟩
theorem tag_out (x s : Int) (w : World) (h : s < 0 ∨ 4 ≤ s) :
    Calls Try.prog 84 #[.int .u64 x, .int .i64 s] w fun e w' => e = .returned (.int .i64 0) ∧ w = w' := by
  go_enter Try.func84, Try.ntmps84
  go_wp2_with (first | (go_at_call 126; refine (there_out _ _ h).mono ?_; rintro e w' ⟨rfl, rfl⟩))
  go_ret
  exact ⟨rfl, rfl⟩

/-- The tag of a slot, whatever slot. -/
theorem tag_any (x s : Int) (w : World) (h0 : 0 ≤ x) (h1 : x < 18446744073709551616) :
    Calls Try.prog 84 #[.int .u64 x, .int .i64 s] w fun e w' => e = .returned (.int .i64 (tagOf x s)) ∧ Below w.heap.size w w' := by
  by_cases h : 0 ≤ s ∧ s < 4
  · unfold tagOf; rw [if_pos h]; exact tag_in x s w h0 h1 h.1 h.2
  · unfold tagOf; rw [if_neg h]; exact (tag_out x s w (by omega)).mono fun e w' ⟨a, b⟩ => ⟨a, b ▸ Below.refl _ _⟩

/-- How many of the first k slots are not free. -/
def cnt (x : Int) : Nat → Nat
  | 0 => 0
  | k + 1 => cnt x k + if tg x k = 0 then 0 else 1
theorem cnt_le (x : Int) (k : Nat) : cnt x k ≤ k := by
  induction k with
  | zero => exact Nat.le_refl _
  | succ k ih => simp only [cnt]; split <;> omega

/-- The lowest free slot from k on (n more), or -1. -/
def freeFrom (x : Int) : Nat → Nat → Int
  | _, 0 => -1
  | k, n + 1 => if tg x k = 0 then k else freeFrom x (k + 1) n

theorem free_any (x : Int) (w : World) (h0 : 0 ≤ x) (h1 : x < 18446744073709551616) :
    Calls Try.prog 82 #[.int .u64 x] w fun e w' => e = .returned (.int .i64 (freeFrom x 0 4)) ∧ Below w.heap.size w w' := by
  go_enter Try.func82, Try.ntmps82
  go_wp2_with (go_at_call 125; refine (parts_any _ _ h0 h1).mono ?_; rintro e w' ⟨rfl, hb⟩)
  go_loop [7] (fun i => ∃ k : Nat, k ≤ 4 ∧ i = .int .i64 k ∧ freeFrom x 0 4 = freeFrom x k (4 - k)) (fun i => 4 - (intOf i).toNat)
  case atStart => exact ⟨0, by omega, rfl, rfl⟩
  case round =>
    obtain ⟨k, hk, rfl, hf⟩ := hrel
    have HF := Lib.hid hf
    clear hf
    by_cases hlt : k < 4
    · have hi := tags_get x k hlt
      obtain ⟨m, hm⟩ : ∃ m, 4 - k = m + 1 := ⟨4 - k - 1, by omega⟩
      by_cases hz : tg x k = 0
      · have hz' : (tg x k == 0) = true := by simp [hz]
        have HC : Hid (freeFrom x 0 4 = k) := by show _ = _; rw [HF.out, hm]; simp [freeFrom, hz]
        clear hz hm
        go_wp2
        go_ret
        exact ⟨ret_i64 HC.out.symm, hb⟩
      · have hz' : (tg x k == 0) = false := by simp [hz]
        have HC : Hid (freeFrom x 0 4 = freeFrom x (k + 1) (4 - (k + 1))) := by show _ = _; rw [HF.out, hm, show 4 - (k + 1) = m from by omega]; simp [freeFrom, hz]
        clear hz hm
        go_wp2
        go_round
        case rel => exact ⟨k + 1, by omega, by go_num, HC.out⟩
        case measure => simp [intOf]; omega
    · obtain rfl : k = 4 := by omega
      go_wp2
      go_ret
      exact ⟨ret_i64 (by rw [HF.out]; rfl), hb⟩

/-- The slots among the first k that have a tag. -/
def has (x t : Int) : Nat → List Nat
  | 0 => []
  | k + 1 => has x t k ++ if tg x k = t then [k] else []
theorem has_le (x t : Int) (k : Nat) : (has x t k).length ≤ k := by
  induction k with
  | zero => exact Nat.le_refl _
  | succ k ih => simp only [has, List.length_append]; split <;> simp <;> omega
/-- Numbers as cells. -/
def cells (l : List Nat) : List Value := l.map fun (n : Nat) => Value.int .i64 n

theorem clip_ints (v : Value) (n base : Nat) (xs : List Value) (w : World) (h : Lst w base v n xs) :
    Calls Try.prog 179 #[v] w fun e w' => ∃ v', e = .returned v' ∧ w = w' ∧ Lst w base v' n xs := by
  rcases h with ⟨rfl, rfl, rfl⟩ | ⟨g, off, cap, cur, e, rfl, h2, h3, h4, h5, h6⟩
  · go_enter Try.func179, Try.ntmps179
    go_wp2
    go_ret
    exact ⟨_, rfl, rfl, .inl ⟨rfl, rfl, rfl⟩⟩
  · unfold maxLen at h5
    go_enter Try.func179, Try.ntmps179
    go_wp2
    go_ret
    exact ⟨_, rfl, rfl, .inr ⟨g, off, n, cur, e, rfl, h2, h3, Nat.le_refl _, by unfold maxLen; omega, h6⟩⟩
end Go.Proofs.Ytdabcnjjbfmkaaa

/-
  Hashes, tags, buckets of the program.
-/
namespace Go.Proofs.Ytdabcnjjbfmkaaa
open Go.RowKit
set_option linter.unusedVariables false

def hstep (s c : Int) : Int := IntKind.u64.wrap (bits .xor .u64 s c * 1099511628211)
theorem hstep_bd (s c : Int) : 0 ≤ hstep s c ∧ hstep s c < 18446744073709551616 := u64_bd _
def hbyte (key : ByteArray) (k : Nat) : Int := if h : k < key.size then (key[k].toNat : Int) else 0
def hfold (key : ByteArray) : Nat → Int
  | 0 => 14695981039346656037
  | k + 1 => hstep (hfold key k) (hbyte key k)
def hashOf (key : ByteArray) : Int := hfold key key.size
theorem hfold_bd (key : ByteArray) (k : Nat) : 0 ≤ hfold key k ∧ hfold key k < 18446744073709551616 := by
  cases k with
  | zero => exact ⟨by show (0 : Int) ≤ 14695981039346656037; decide, by show (14695981039346656037 : Int) < 18446744073709551616; decide⟩
  | succ k => exact hstep_bd _ _
theorem sumadd (p : Nat) (s c : Int) (hc : 0 ≤ c ∧ c < 256) (w : World) (h : w.heap[p]? = some (.cells #[.int .u64 s] 146 (0, 0))) : Calls Try.prog 68 #[.pointer (some ⟨p, 0, none⟩), .int .u8 c] w fun e w' => e = .returned (.tuple #[]) ∧ w'.heap[p]? = some (.cells #[.int .u64 (hstep s c)] 146 (0, 0)) ∧ Keeps (· = p) w w' := by
  have c0 := hcell h 0
  have f0 := hfrz h 0
  have k1 : IntKind.u64.wrap c = c := by rw [IntKind.wrap_u64]; omega
  have s1 := setCell_same h 0 (.int .u64 (hstep s c))
  have s2 := setCell_keeps w p 0 (.int .u64 (hstep s c))
  clear h hc
  go_enter Try.func68, Try.ntmps68
  go_wp2
  go_end0
  exact ⟨rfl, s1, s2⟩
theorem each_any (key : ByteArray) (hk : key.size ≤ 1000000) (p : Nat) (w : World) (h : w.heap[p]? = some (.cells #[.int .u64 14695981039346656037] 146 (0, 0))) : Calls Try.prog 67 #[.string key, .func (.func 68) #[.pointer (some ⟨p, 0, none⟩)] #[]] w fun e w' => e = .returned (.tuple #[]) ∧ w'.heap[p]? = some (.cells #[.int .u64 (hashOf key)] 146 (0, 0)) ∧ Keeps (· = p) w w' := by
  go_enter Try.func67, Try.ntmps67
  go_wp2
  go_loopw [7] (fun i wr => ∃ (k : Nat), k ≤ key.size ∧ i = .int .i64 k ∧ wr.heap[p]? = some (.cells #[.int .u64 (hfold key k)] 146 (0, 0)) ∧ Keeps (· = p) w wr) (fun i _ => key.size - (intOf i).toNat)
  case atStart => exact ⟨0, by omega, rfl, h, below_keeps (Below.refl _ _) _⟩
  case round =>
    obtain ⟨k, hk2, rfl, hz, hK⟩ := hrel
    by_cases hlt : k < key.size
    · have hlt' : (k : Int) < key.size := by omega
      have hby : hbyte key k = (key[k].toNat : Int) := by unfold hbyte; rw [dif_pos hlt]
      have hbb : 0 ≤ (key[k].toNat : Int) ∧ (key[k].toNat : Int) < 256 := by have := UInt8.toNat_lt key[k]; omega
      have hadd := sumadd p (hfold key k) (key[k].toNat : Int) hbb wr hz
      have HB := Lib.hid hby; have HK := Lib.hid hK
      clear hby hbb hz hK h
      go_wp2_with (go_at_call 68; refine hadd.mono ?_; intro e w2 hh; obtain ⟨hh1, h2, k2⟩ := hh; subst hh1; have H2 := Lib.hid h2; have K2 := Lib.hid k2; clear h2 k2 hadd)
      go_roundw
      case rel => exact ⟨k + 1, by omega, by go_num, by show _ = some (Obj.cells #[.int .u64 (hstep (hfold key k) (hbyte key k))] _ _); rw [HB.out]; exact H2.out, HK.out.again K2.out⟩
      case measure => simp [intOf]; omega
    · obtain rfl : k = key.size := by omega
      have HZ := Lib.hid hz; have HK := Lib.hid hK
      clear hz hK h
      go_wp2
      go_end0
      exact ⟨rfl, HZ.out, HK.out⟩
theorem hash_any (key : ByteArray) (hk : key.size ≤ 1000000) (w : World) : Calls Try.prog 26 #[.string key] w fun e w' => e = .returned (.int .u64 (hashOf key)) ∧ Below w.heap.size w w' := by
  have hz := heap_alloc_new w (.cells #[.int .u64 14695981039346656037] 146)
  have hb := below_alloc w (.cells #[.int .u64 14695981039346656037] 146)
  have he := each_any key hk w.heap.size _ hz
  have HB := Lib.hid hb
  clear hz hb
  go_enter Try.func26, Try.ntmps26
  go_wp2_with (go_at_call 67; refine he.mono ?_; intro e w2 hh; obtain ⟨hh1, h2, k2⟩ := hh; subst hh1; have c0 := hcell h2 0; have K2 := Lib.hid k2; clear h2 k2 he)
  go_ret
  exact ⟨rfl, keeps_below K2.out HB.out HB.out.size (fun k e => by omega)⟩
theorem tag_fn (x : Int) (h0 : 0 ≤ x) (h1 : x < 18446744073709551616) (w : World) : Calls Try.prog 116 #[.int .u64 x] w fun e w' => e = .returned (.int .i64 (tag01 x)) ∧ w' = w := by
  obtain ⟨q, hq⟩ : ∃ q, q = x / 72057594037927936 := ⟨_, rfl⟩
  have e3 : wrap64 (x / 72057594037927936) = x / 72057594037927936 := IntWalk.wrap64_in _ (by omega)
  by_cases hz : q < 1
  · have ht : Hid (tag01 x = 1) := by show tag01 x = 1; unfold tag01; rw [← hq, if_pos (by omega)]
    have e1 : x / 72057594037927936 < 1 := by omega
    have e2 : decide (x / 72057594037927936 < 1) = true := decide_eq_true e1
    clear hz hq
    go_enter Try.func116, Try.ntmps116
    go_wp2
    all_goals go_ret
    all_goals exact ⟨ret_i64 (by first | exact ht.out.symm | (rw [ht.out]; omega)), rfl⟩
  · have ht : Hid (tag01 x = x / 72057594037927936) := by show tag01 x = _; unfold tag01; rw [if_neg (by omega)]
    have e1 : ¬ x / 72057594037927936 < 1 := by omega
    have e2 : decide (x / 72057594037927936 < 1) = false := decide_eq_false e1
    clear hq hz
    go_enter Try.func116, Try.ntmps116
    go_wp2
    all_goals go_ret
    all_goals exact ⟨ret_i64 (by first | exact ht.out.symm | (rw [ht.out]; omega)), rfl⟩
/-- A hash's bucket. -/
def bk (h b : Int) : Int := h % tsize b
theorem tsize_pos {b : Int} (hb : 1 ≤ b ∧ b ≤ 12) : 2 ≤ tsize b ∧ tsize b ≤ 4096 := by
  rcases twelve hb with rfl | rfl | rfl | rfl | rfl | rfl | rfl | rfl | rfl | rfl | rfl | rfl <;> decide
theorem bk_bd (h b : Int) (hb : 1 ≤ b ∧ b ≤ 12) : 0 ≤ bk h b ∧ bk h b < tsize b := by
  have := tsize_pos hb
  unfold bk; exact ⟨Int.emod_nonneg _ (by omega), Int.emod_lt_of_pos _ (by omega)⟩
theorem bucket_fn (x b : Int) (h0 : 0 ≤ x) (h1 : x < 18446744073709551616) (hb : 1 ≤ b ∧ b ≤ 12) (w : World) : Calls Try.prog 115 #[.int .u64 x, .int .i64 b] w fun e w' => e = .returned (.int .i64 (bk x b)) ∧ w' = w := by
  have hs := fun w => size_any b w
  have hp := tsize_pos hb
  have hbd := bk_bd x b hb
  have hm : bits .and .u64 x (tsize b - 1) = bk x b := by
    unfold bk; rw [tsize_in hb]
    rcases twelve hb with rfl | rfl | rfl | rfl | rfl | rfl | rfl | rfl | rfl | rfl | rfl | rfl
    all_goals (first
      | exact mask_u64 x 1 1 rfl (by decide) h0 h1 | exact mask_u64 x 3 2 rfl (by decide) h0 h1 | exact mask_u64 x 7 3 rfl (by decide) h0 h1 | exact mask_u64 x 15 4 rfl (by decide) h0 h1 | exact mask_u64 x 31 5 rfl (by decide) h0 h1 | exact mask_u64 x 63 6 rfl (by decide) h0 h1 | exact mask_u64 x 127 7 rfl (by decide) h0 h1 | exact mask_u64 x 255 8 rfl (by decide) h0 h1 | exact mask_u64 x 511 9 rfl (by decide) h0 h1 | exact mask_u64 x 1023 10 rfl (by decide) h0 h1 | exact mask_u64 x 2047 11 rfl (by decide) h0 h1 | exact mask_u64 x 4095 12 rfl (by decide) h0 h1)
  generalize bk x b = B at *
  generalize tsize b = S at *
  have e0 : decide (0 < S) = true := decide_eq_true (by omega)
  obtain ⟨S1, hS1⟩ : ∃ S1, S1 = S - 1 := ⟨_, rfl⟩
  rw [← hS1] at hm
  have e1 : wrap64 (S - 1) = S1 := by rw [hS1]; exact IntWalk.wrap64_in _ (by omega)
  have e2 : IntKind.u64.wrap S1 = S1 := by rw [IntKind.wrap_u64]; omega
  have e3 : wrap64 B = B := IntWalk.wrap64_in _ (by omega)
  clear hS1 hbd hp hb
  go_enter Try.func115, Try.ntmps115
  go_wp2_with (go_at_call 72; refine (hs _).mono ?_; rintro e w1 ⟨rfl, rfl⟩)
  go_ret
  exact ⟨ret_i64 e3, rfl⟩
theorem bucket_no (x : Int) (w : World) : Calls Try.prog 115 #[.int .u64 x, .int .i64 0] w fun e w' => e = .returned (.int .i64 (-1)) ∧ w' = w := by
  have hs := fun w => size_any 0 w
  rw [show tsize 0 = 0 by decide] at hs
  go_enter Try.func115, Try.ntmps115
  go_wp2_with (go_at_call 72; refine (hs _).mono ?_; rintro e w1 ⟨rfl, rfl⟩)
  go_ret
  exact ⟨rfl, rfl⟩
/-- The other bucket of a tag. -/
def oth (k t b : Int) : Int := bits .xor .i64 k (bits .and .i64 (t * 1540483477) (tsize b - 1))
theorem tag01_bd (x : Int) (h0 : 0 ≤ x) (h1 : x < 18446744073709551616) : 1 ≤ tag01 x ∧ tag01 x ≤ 255 := by
  unfold tag01; split <;> omega
theorem other_fn (k t b : Int) (hb : 1 ≤ b ∧ b ≤ 12) (hk : 0 ≤ k ∧ k < tsize b) (ht : 1 ≤ t ∧ t ≤ 255) (w : World) : Calls Try.prog 83 #[.int .i64 k, .int .i64 t, .int .i64 b] w fun e w' => e = .returned (.int .i64 (oth k t b)) ∧ w' = w := by
  have hs := fun w => size_any b w
  have hp := tsize_pos hb
  unfold oth
  generalize tsize b = S at *
  have e0 : decide (k < 0) = false := decide_eq_false (by omega)
  have e1 : decide (S ≤ k) = false := decide_eq_false (by omega)
  have e2 : decide (t < 1) = false := decide_eq_false (by omega)
  have e3 : decide (255 < t) = false := decide_eq_false (by omega)
  obtain ⟨S1, hS1⟩ : ∃ S1, S1 = S - 1 := ⟨_, rfl⟩
  have e4 : wrap64 (S - 1) = S1 := by rw [hS1]; exact IntWalk.wrap64_in _ (by omega)
  obtain ⟨t1, ht1⟩ : ∃ t1, t1 = t * 1540483477 := ⟨_, rfl⟩
  have e5 : wrap64 (t * 1540483477) = t1 := by rw [ht1]; exact IntWalk.wrap64_in _ (by omega)
  rw [← hS1, ← ht1]
  clear hS1 ht1 hp hb hk ht
  go_enter Try.func83, Try.ntmps83
  go_wp2_with (go_at_call 72; refine (hs _).mono ?_; rintro e w1 ⟨rfl, rfl⟩)
  go_ret
  exact ⟨rfl, rfl⟩
end Go.Proofs.Ytdabcnjjbfmkaaa

/-
  Tickets: a Take, a Give, who waits.
-/
namespace Go.Proofs.Ytdabcnjjbfmkaaa
open Go.RowKit
set_option linter.unusedVariables false

/-- Of the old blocks only b, and such of some types, have turned. -/
structure Fx (K : TypeId → Bool) (mp : Bool) (b : Nat) (w w' : World) : Prop where
  size : w.heap.size ≤ w'.heap.size
  cells : ∀ (k : Nat) (cs : Array Value) (T : TypeId) (fr : Nat × Nat), w.heap[k]? = some (.cells cs T fr) → K T = false → k ≠ b → w'.heap[k]? = some (.cells cs T fr)
  map : mp = false → ∀ (k : Nat) (es : Array MapEntry) (cl : Nat), w.heap[k]? = some (.map es cl) → k ≠ b → w'.heap[k]? = some (.map es cl)
theorem Fr.fx {K : TypeId → Bool} {mp : Bool} {w w' : World} (h : Fr K mp w w') (b : Nat) : Fx K mp b w w' := ⟨h.size, fun k cs T fr h1 h2 _ => h.cells k cs T fr h1 h2, fun hm k es cl h1 _ => h.map hm k es cl h1⟩
theorem Fx.trans {K : TypeId → Bool} {mp : Bool} {b : Nat} {a c d : World} (h : Fx K mp b a c) (k : Fx K mp b c d) : Fx K mp b a d :=
  ⟨Nat.le_trans h.size k.size, fun i cs T fr hi hT hb => k.cells i cs T fr (h.cells i cs T fr hi hT hb) hT hb, fun hm i es cl hi hb => k.map hm i es cl (h.map hm i es cl hi hb) hb⟩
theorem set_fx (K : TypeId → Bool) (mp : Bool) (w : World) (b o : Nat) (v : Value) : Fx K mp b w (w.setCell ⟨b, o, none⟩ v) :=
  ⟨by simp [World.setCell], fun k cs T fr h _ hb => (Below.heap_setCell _ _ _ _ hb).trans h, fun _ k es cl h hb => (Below.heap_setCell _ _ _ _ hb).trans h⟩
theorem Fx.fr {K : TypeId → Bool} {mp : Bool} {b : Nat} {w w' : World} (h : Fx K mp b w w') {cs : Array Value} {T : TypeId} {fr : Nat × Nat} (hb : w.heap[b]? = some (.cells cs T fr)) : Fr (fun x => K x || x == T) mp w w' := by
  refine ⟨h.size, fun k cs2 T2 fr2 h2 hT => ?_, fun hm k es cl h2 => h.map hm k es cl h2 fun c => ?_⟩
  · simp only [Bool.or_eq_false_iff] at hT
    refine h.cells k cs2 T2 fr2 h2 hT.1 fun c => ?_
    subst c
    have := hb.symm.trans h2; simp only [Option.some.injEq, Obj.cells.injEq] at this
    have h3 := hT.2; rw [this.2.1] at h3; simp at h3
  · subst c; rw [hb] at h2; cases h2

theorem mkfunc (fn : Fn) (first cap : Array Value) (w : World) : (Instr.makeFunc fn first cap).run Try.prog w = .ok (.func fn first cap) w := rfl
/-- The worlds' types, and a Take's. -/
theorem WS.cellb {w0 w : World} {B : WB} {V : WV} {s : CS} (h : WS w0 w B V s) (t : Nat) (ht : t < 64) : w.cell? ⟨B.wb, 8 + t, none⟩ = some (.int .u64 (V.tk.getD t 0)) := (h.cell (8 + t)).trans (val_tkat B V h.tkl t ht)
theorem WS.hcell' {w0 w : World} {B : WB} {V : WV} {s : CS} (h : WS w0 w B V s) : w.cell? ⟨B.wb, 72, none⟩ = some (.int .i64 V.hd) := (h.cell 72).trans (val_at B V h.tkl).2.2.2.2.2
theorem WS.frz {w0 w : World} {B : WB} {V : WV} {s : CS} (h : WS w0 w B V s) (o : Nat) : w.frozen? ⟨B.wb, o, none⟩ = false := hfrz h.blk o
theorem WS.fx {w0 w w' : World} {B : WB} {V : WV} {s : CS} {K : TypeId → Bool} {b : Nat} (h : WS w0 w B V s) (hf : Fx K false b w w') (hK : ∀ T, wTy T = true → K T = false) {cs : Array Value} {T : TypeId} {fr : Nat × Nat} (hb : w.heap[b]? = some (.cells cs T fr)) (hT : wTy T = false) (hB : Below w0.heap.size w0 w') : WS w0 w' B V s :=
  h.fr (hf.fr hb) (fun x hx => by simp only [Bool.or_eq_false_iff]; exact ⟨hK x hx, by cases hxT : (x == T); rfl; rw [beq_iff_eq] at hxT; subst hxT; rw [hx] at hT; cases hT⟩) hB
theorem set_take {w0 w : World} {B : WB} {V : WV} {s : CS} {b o : Nat} {cs : Array Value} {T : TypeId} (h : WS w0 w B V s) (hb : w.heap[b]? = some (.cells cs T (0, 0))) (hT : wTy T = false) (hlo : w0.heap.size ≤ b) (v : Value) : WS w0 (w.setCell ⟨b, o, none⟩ v) B V s :=
  h.fx (set_fx (fun _ => false) false w b o v) (fun _ _ => rfl) hb hT (keeps_below (setCell_keeps w b o v) h.below h.below.size fun k e => e ▸ hlo)

section
variable {w0 w : World} {B : WB} {V : WV} {s : CS} {b t : Nat} {d : Bool} {k : Int} (h : WS w0 w B V s) (hr : s.room) (hlo : w0.heap.size ≤ b) (ht : t < 64)
include h hr hlo ht
end
end Go.Proofs.Ytdabcnjjbfmkaaa

/-
  notes.List.All: all notes, in new memory.
-/
namespace Go.Proofs.Ytdabcnjjbfmkaaa
open Go.RowKit
set_option linter.unusedVariables false

theorem lnotes_any {w : World} {base nb TN : Nat} {l : List Nte} (h : NL w base nb 198 TN .u8 l) : ∃ a cap, w.cell? ⟨nb, 0, none⟩ = some (.slice a l.length cap) ∧ w.ownsRow base TN 8 (.slice a l.length cap) l.length (l.flatMap (nteC .u8)) ∧ Calls Try.prog 49 #[.pointer (some ⟨nb, 0, none⟩)] w fun e w' => e = .returned (.slice a l.length cap) ∧ w' = w := by
  obtain ⟨v, h1, h2, h3⟩ := h
  obtain ⟨a, cap, rfl⟩ := own_sl2 h3
  have c0 : w.cell? ⟨nb, 0, none⟩ = some (.slice a l.length cap) := hcell h1 0
  refine ⟨a, cap, c0, h3, ?_⟩
  clear h1 h2 h3
  go_enter Try.func49, Try.ntmps49
  go_wp2
  go_ret
  exact ⟨rfl, rfl⟩
theorem since_ask {w : World} {cb : Nat} {i : Nat} (n : Nte) (hc : w.cell? ⟨cb, 0, none⟩ = some (.int .i64 0)) : Calls Try.prog 105 #[.int .i64 i, .agg (nteC .u8 n).toArray, .pointer (some ⟨cb, 0, none⟩)] w fun e w' => e = .returned (.bool true) ∧ Below w.heap.size w w' := by
  have hb := below_alloc w (.cells (nteC .u8 n).toArray 67)
  have hlt := World.block_lt_of_cell? _ _ hc
  have c0 : (w.alloc (.cells (nteC .u8 n).toArray 67)).cell? ⟨cb, 0, none⟩ = some (.int .i64 0) := by rw [World.cell?_alloc_past _ _ _ hlt]; exact hc
  have d0 : decide ((0 : Int) ≤ (i : Int)) = true := decide_eq_true (by omega)
  have HB := Lib.hid hb
  clear hb hc hlt
  go_enter Try.func105, Try.ntmps105
  go_upto_region 1 with (fail)
  change Code.wp _ _ _ _ (w.alloc (.cells (nteC .u8 n).toArray 67))
  generalize w.alloc (.cells (nteC .u8 n).toArray 67) = w1 at *
  go_wp2
  go_ret
  exact ⟨rfl, HB.out⟩
theorem info_note : (Try.prog.info? 67).map (fun i => (i.zero, i.size, i.bytes)) = some (some (.agg #[.int .i64 0, .int .i64 0, .int .u8 0, .int .i64 0, .int .i64 0, .int .i64 0, .int .i64 0, .int .i64 0]), 8, 64) := by kernel_rfl
/-- A row of notes that the call made, without room behind it. -/
def NRow (w : World) (base : Nat) (v : Value) (l : List Nte) : Prop :=
  (v = .slice none 0 0 ∧ l = []) ∨ ∃ g cur, v = .slice (some ⟨g, 0, none⟩) l.length l.length ∧ base ≤ g ∧ w.heap[g]? = some (.cells cur 67 (0, 0)) ∧ l.length ≤ maxLen ∧ cur.toList.take (l.length * 8) = l.flatMap (nteC .u8)
theorem nclip_any {w : World} {base : Nat} {v : Value} {l : List Nte} (h : w.ownsRow base 67 8 v l.length (l.flatMap (nteC .u8))) : Calls Try.prog 141 #[v] w fun e w' => ∃ v', e = .returned v' ∧ NRow w base v' l ∧ w' = w := by
  obtain ⟨h1, ⟨rfl, h0⟩ | ⟨g, cap, cur, rfl, hb, hg, hn, hm, hs, ht⟩⟩ := h
  · have : l = [] := List.length_eq_zero_iff.1 h0
    subst this
    clear h1 h0
    go_enter Try.func141, Try.ntmps141
    go_wp2
    go_ret
    exact ⟨_, rfl, .inl ⟨rfl, rfl⟩, rfl⟩
  · have hm2 := Nat.le_trans hn hm
    have H : Hid (NRow w base (.slice (some ⟨g, 0, none⟩) l.length l.length) l) := .inr ⟨g, cur, rfl, hb, hg, hm2, ht⟩
    unfold maxLen at hm hm2
    clear h1 hb hg hs ht
    go_enter Try.func141, Try.ntmps141
    go_wp2
    go_ret
    exact ⟨_, rfl, H.out, rfl⟩
theorem nte_at (l : List Nte) (k : Nat) (hk : k < l.length) (j : Nat) (hj : j < 8) : (l.flatMap (nteC .u8))[k * 8 + j]? = (nteC .u8 l[k])[j]? := by
  induction l generalizing k with
  | nil => simp at hk
  | cons x r ih =>
    rw [List.flatMap_cons]
    match k with
    | 0 =>
      rw [List.getElem?_append_left (by simp [nteC]; omega)]
      simp
    | k + 1 =>
      rw [List.getElem?_append_right (by simp [nteC]; omega)]
      have := ih k (by simp at hk; omega)
      simp only [List.getElem_cons_succ]
      rw [← this]
      congr 1
      simp [nteC]; omega
theorem row8_at {w : World} {base : Nat} {a : Option Addr} {cap : Nat} {l : List Nte} (h : w.ownsRow base 67 8 (.slice a l.length cap) l.length (l.flatMap (nteC .u8))) (k : Nat) (hk : k < l.length) :
    ∃ g, a = some ⟨g, 0, none⟩ ∧ ∀ j, j < 8 → w.cell? ⟨g, k * 8 + j, none⟩ = (nteC .u8 l[k])[j]? := by
  obtain ⟨h1, ⟨h2, h0⟩ | ⟨g, cap', cur, hv, hb, hg, hn, hm, hs, ht⟩⟩ := h
  · omega
  · simp only [Value.slice.injEq] at hv
    refine ⟨g, hv.1, fun j hj => ?_⟩
    rw [hcell hg, ← nte_at l k hk j hj, ← ht, List.getElem?_take, if_pos (by omega)]
    simp
set_option maxRecDepth 10000 in
set_option maxHeartbeats 2000000 in
theorem picked_any {w : World} {base nb cb : Nat} {l : List Nte} (h : NL w base nb 198 67 .u8 l) (hl : l.length ≤ 1048576) (hc : w.cell? ⟨cb, 0, none⟩ = some (.int .i64 0)) :
    Calls Try.prog 104 #[.pointer (some ⟨nb, 0, none⟩), .func (.func 105) #[] #[.pointer (some ⟨cb, 0, none⟩)]] w fun e w' => ∃ v, e = .returned v ∧ NRow w' w.heap.size v l ∧ Below w.heap.size w w' := by
  obtain ⟨a, cap, c0, hrow, hn⟩ := lnotes_any h
  obtain ⟨i0, hi0, hz0, hz1, hz2⟩ := info_parts info_note
  have HI := Lib.hid hi0; have HZ0 := Lib.hid hz0; have HZ1 := Lib.hid hz1; have HZ2 := Lib.hid hz2
  have HROW := Lib.hid hrow; have HC := Lib.hid hc; have HL := Lib.hid hl
  clear h hrow hc hl c0 hi0 hz0 hz1 hz2
  go_enter Try.func104, Try.ntmps104
  go_wp2_with (go_at_call 49; refine hn.mono ?_; rintro e w' ⟨rfl, hw⟩; obtain rfl := hw.symm; clear hn)
  go_loopw [5, 11] (fun v i wr => ∃ k : Nat, k ≤ l.length ∧ i = .int .i64 k ∧ wr.ownsRow w.heap.size 67 8 v k ((l.take k).flatMap (nteC .u8)) ∧ Below w.heap.size w wr) (fun _ i _ => l.length - (intOf i).toNat)
  case atStart => exact ⟨0, by omega, rfl, World.ownsRow_nil _ _ _ _, Below.refl _ _⟩
  case round =>
    obtain ⟨k, hk, rfl, hown, hbl⟩ := hrel
    have hl := HL.out
    by_cases hlt : k < l.length
    · have hlt' : (k : Int) < l.length := by omega
      obtain ⟨g, rfl, hcs⟩ := row8_at HROW.out k hlt
      obtain ⟨y, hy⟩ : ∃ y, y = l[k] := ⟨_, rfl⟩
      rw [← hy] at hcs
      have hgl : g < w.heap.size := World.block_lt_of_cell? _ _ ((hcs 0 (by omega)).trans rfl)
      have x : ∀ j, j < 8 → wr.cell? ⟨g, k * 8 + j, none⟩ = (nteC .u8 y)[j]? := fun j hj => (hbl.cell (p := ⟨g, k * 8 + j, none⟩) hgl).trans (hcs j hj)
      have x0 : wr.cell? ⟨g, k * 8, none⟩ = some (.int .i64 y.step) := x 0 (by omega)
      have x1 : wr.cell? ⟨g, k * 8 + 1, none⟩ = some (.int .i64 y.thread) := x 1 (by omega)
      have x2 : wr.cell? ⟨g, k * 8 + 2, none⟩ = some (.int .u8 y.kind) := x 2 (by omega)
      have x3 : wr.cell? ⟨g, k * 8 + 3, none⟩ = some (.int .i64 y.ref) := x 3 (by omega)
      have x4 : wr.cell? ⟨g, k * 8 + 4, none⟩ = some (.int .i64 y.bits) := x 4 (by omega)
      have x5 : wr.cell? ⟨g, k * 8 + 5, none⟩ = some (.int .i64 y.bucket) := x 5 (by omega)
      have x6 : wr.cell? ⟨g, k * 8 + 6, none⟩ = some (.int .i64 y.slot) := x 6 (by omega)
      have x7 : wr.cell? ⟨g, k * 8 + 7, none⟩ = some (.int .i64 y.value) := x 7 (by omega)
      have HOWN := Lib.hid hown; have HBL := Lib.hid hbl; have HY := Lib.hid hy
      clear hown hbl hcs x hy
      go_upto_region 5 with (fail)
      clear x0 x1 x2 x3 x4 x5 x6 x7
      have hb1 := below_alloc wr (.cells #[.int .i64 y.step, .int .i64 y.thread, .int .u8 y.kind, .int .i64 y.ref, .int .i64 y.bits, .int .i64 y.bucket, .int .i64 y.slot, .int .i64 y.value] 67)
      have hz1 := heap_alloc_new wr (.cells #[.int .i64 y.step, .int .i64 y.thread, .int .u8 y.kind, .int .i64 y.ref, .int .i64 y.bits, .int .i64 y.bucket, .int .i64 y.slot, .int .i64 y.value] 67)
      change Code.wp _ _ _ _ (wr.alloc (.cells #[.int .i64 y.step, .int .i64 y.thread, .int .u8 y.kind, .int .i64 y.ref, .int .i64 y.bits, .int .i64 y.bucket, .int .i64 y.slot, .int .i64 y.value] 67))
      generalize wr.alloc (.cells #[.int .i64 y.step, .int .i64 y.thread, .int .u8 y.kind, .int .i64 y.ref, .int .i64 y.bits, .int .i64 y.bucket, .int .i64 y.slot, .int .i64 y.value] 67) = w7 at *
      have hle := HBL.out.size
      have HR0 := Lib.hid (own_fr HOWN.out (below_fr hb1 (fun _ => false) false) rfl)
      generalize wr.heap.size = nq at *
      have x0 := hcell hz1 0; have x1 := hcell hz1 1; have x2 := hcell hz1 2; have x3 := hcell hz1 3
      have x4 := hcell hz1 4; have x5 := hcell hz1 5; have x6 := hcell hz1 6; have x7 := hcell hz1 7
      have hc7 : w7.cell? ⟨cb, 0, none⟩ = some (.int .i64 0) := by
        have hB : Below w.heap.size w w7 := HBL.out.trans (hb1.mono hle)
        exact (hB.cell (p := ⟨cb, 0, none⟩) (World.block_lt_of_cell? _ _ HC.out)).trans HC.out
      have hask := since_ask (i := k) y hc7
      have HB1 : Hid (Below w.heap.size w w7) := HBL.out.trans (hb1.mono hle)
      have HZ := Lib.hid hz1
      clear hb1 hz1 hc7
      go_upto_region 6 with (go_at_call 105; refine hask.mono ?_; intro e w8 hh; obtain ⟨hh1, b8⟩ := hh; subst hh1; have HB8 : Hid (Below w.heap.size w w8) := HB1.out.trans (b8.mono HB1.out.size); have hr8 := own_fr HR0.out (below_fr b8 (fun _ => false) false) rfl; have hz8 := (b8.block _ (Array.getElem?_eq_some_iff.1 HZ.out).1).trans HZ.out; clear b8 hask)
      clear x0 x1 x2 x3 x4 x5 x6 x7
      have x0 := hcell hz8 0; have x1 := hcell hz8 1; have x2 := hcell hz8 2; have x3 := hcell hz8 3
      have x4 := hcell hz8 4; have x5 := hcell hz8 5; have x6 := hcell hz8 6; have x7 := hcell hz8 7
      have HR8 := Lib.hid hr8
      clear hz8 hr8
      go_wp2_with (at_builtin; refine wpList_append_own _ rfl _ _ 64 rfl w.heap.size 67 i0 (.agg #[.int .i64 0, .int .i64 0, .int .u8 0, .int .i64 0, .int .i64 0, .int .i64 0, .int .i64 0, .int .i64 0]) 8 64 Try.underlying64 HI.out HZ0.out HZ1.out HZ2.out rfl (by decide) _ _ _ rfl (HR8.out.alloc _) ⟨w8.heap.size, 0, none⟩ 1 1 (nteC .u8 y) rfl rfl ?c1 ?c2 ?c3 ?c4 ?c5 ?_)
      case c1 => exact World.news_of_block (heap_alloc_new w8 _)
      case c2 => simp [Value.oneCell', nteC]
      case c3 => unfold maxLen; omega
      case c4 => omega
      case c5 => have := HB8.out.size; simp; omega
      intro v' w11 hown' hgrow _
      have hb10 := below_alloc w8 (.cells #[.int .i64 y.step, .int .i64 y.thread, .int .u8 y.kind, .int .i64 y.ref, .int .i64 y.bits, .int .i64 y.bucket, .int .i64 y.slot, .int .i64 y.value] 67)
      have hB11 : Below w.heap.size w w11 := grown_below (HR8.out.alloc _) hgrow (HB8.out.trans (hb10.mono HB8.out.size)) (Nat.le_trans HB8.out.size hb10.size) (Nat.le_refl _)
      have e1 : (l.take (k + 1)).flatMap (nteC .u8) = (l.take k).flatMap (nteC .u8) ++ nteC .u8 y := by
        rw [List.take_add_one, List.getElem?_eq_getElem hlt, List.flatMap_append, ← show y = l[k] from HY.out]; simp
      rw [← e1] at hown'
      have HOW := Lib.hid hown'; have HBW := Lib.hid hB11
      clear hown' hB11 hgrow hb10 e1 x0 x1 x2 x3 x4 x5 x6 x7
      go_wp2_with fail
      go_roundw
      case rel => exact ⟨k + 1, by omega, by go_num, HOW.out, HBW.out⟩
      case measure => simp [intOf]; omega
    · obtain rfl : k = l.length := by omega
      rw [List.take_length] at hown
      have hcl := nclip_any hown
      have HBL := Lib.hid hbl
      clear hown hbl
      go_wp2_with (go_at_call 141; refine hcl.mono ?_; intro e w9 hh; obtain ⟨v', hh1, hr, hw⟩ := hh; subst hh1; obtain rfl := hw.symm; have HR := Lib.hid hr; clear hr hcl)
      go_ret
      exact ⟨_, rfl, HR.out, HBL.out⟩
theorem lsince_any {w : World} {base nb : Nat} {l : List Nte} (h : NL w base nb 198 67 .u8 l) (hl : l.length ≤ 1048576) :
    Calls Try.prog 56 #[.pointer (some ⟨nb, 0, none⟩), .int .i64 0] w fun e w' => ∃ v, e = .returned v ∧ NRow w' w.heap.size v l ∧ Below w.heap.size w w' := by
  have hb := below_alloc w (.cells #[.int .i64 0] 3)
  have hz := heap_alloc_new w (.cells #[.int .i64 0] 3)
  have hp := picked_any (cb := w.heap.size) (h.fr (below_fr hb (fun _ => false) false) rfl rfl) hl (hcell hz 0)
  have HB := Lib.hid hb
  clear h hz hb
  go_enter Try.func56, Try.ntmps56
  go_wp2_with (go_at_call 104; refine hp.mono ?_; intro e w2 hh; obtain ⟨v, hh1, hr, b2⟩ := hh; subst hh1; have HR := Lib.hid hr; have B2 := Lib.hid b2; clear hr b2 hp)
  go_ret
  refine ⟨_, rfl, ?_, HB.out.trans (B2.out.mono HB.out.size)⟩
  rcases HR.out with h | ⟨g, cur, h1, h2, h3⟩
  · exact .inl h
  · exact .inr ⟨g, cur, h1, Nat.le_trans HB.out.size h2, h3⟩
theorem lall_any {w : World} {base nb : Nat} {l : List Nte} (h : NL w base nb 198 67 .u8 l) (hl : l.length ≤ 1048576) :
    Calls Try.prog 16 #[.pointer (some ⟨nb, 0, none⟩)] w fun e w' => ∃ v, e = .returned v ∧ NRow w' w.heap.size v l ∧ Below w.heap.size w w' := by
  have hp := lsince_any h hl
  clear h
  go_enter Try.func16, Try.ntmps16
  go_wp2_with (go_at_call 56; refine hp.mono ?_; intro e w2 hh; obtain ⟨v, hh1, hr, b2⟩ := hh; subst hh1; have HR := Lib.hid hr; have B2 := Lib.hid b2; clear hr b2 hp)
  go_ret
  exact ⟨_, rfl, HR.out, B2.out⟩
theorem NRow.at {w : World} {base : Nat} {v : Value} {l : List Nte} (h : NRow w base v l) (k : Nat) (hk : k < l.length) : ∃ g, v = .slice (some ⟨g, 0, none⟩) l.length l.length ∧ ∀ j, j < 8 → w.cell? ⟨g, k * 8 + j, none⟩ = (nteC .u8 l[k])[j]? := by
  rcases h with ⟨-, h0⟩ | ⟨g, cur, hv, hb, hg, hm, ht⟩
  · subst h0; simp at hk
  · refine ⟨g, hv, fun j hj => ?_⟩
    rw [hcell hg, ← nte_at l k hk j hj, ← ht, List.getElem?_take, if_pos (by omega)]
    simp
end Go.Proofs.Ytdabcnjjbfmkaaa

/-
  notes.List.Add, and a world's note.
-/
namespace Go.Proofs.Ytdabcnjjbfmkaaa
open Go.RowKit
set_option linter.unusedVariables false

theorem lcount_any {w : World} {base nb TN : Nat} {l : List Nte} (h : NL w base nb 198 TN .u8 l) : Calls Try.prog 11 #[.pointer (some ⟨nb, 0, none⟩)] w fun e w' => e = .returned (.int .i64 l.length) ∧ w' = w := by
  obtain ⟨a, cap, -, -, hn⟩ := lnotes_any h
  clear h
  go_enter Try.func11, Try.ntmps11
  go_wp2_with (go_at_call 49; refine hn.mono ?_; rintro e w' ⟨rfl, rfl⟩)
  go_ret
  exact ⟨rfl, rfl⟩
/-- Behind an Add: a note of a kind that is one. -/
def nadd (l : List Nte) (n : Nte) : List Nte := if 1 ≤ n.kind ∧ n.kind ≤ 9 then l ++ [n] else l
def nTy (T : TypeId) : Bool := T == 198 || T == 67
theorem nTy_l (T : TypeId) (h : nTy T = false) : (T == 198) = false := by unfold nTy at h; simp only [Bool.or_eq_false_iff] at h; exact h.1
theorem nTy_n (T : TypeId) (h : nTy T = false) : (T == 67) = false := by unfold nTy at h; simp only [Bool.or_eq_false_iff] at h; exact h.2
set_option maxRecDepth 10000 in
set_option maxHeartbeats 2000000 in
theorem ladd_no {w : World} {base nb : Nat} {l : List Nte} {n : Nte} (h : NL w base nb 198 67 .u8 l) (hk : n.kind = 0 ∨ 9 < n.kind) :
    Calls Try.prog 55 #[.pointer (some ⟨nb, 0, none⟩), .agg (nteC .u8 n).toArray] w fun e w' => (∃ k, e = .returned (.int .i64 k)) ∧ Below w.heap.size w w' := by
  have hb := below_alloc w (.cells (nteC .u8 n).toArray 67)
  have hz := heap_alloc_new w (.cells (nteC .u8 n).toArray 67)
  have h1 := h.fr (below_fr hb (fun _ => false) false) rfl rfl
  have hcn := lcount_any h1
  have HB := Lib.hid hb; have HZ := Lib.hid hz; have HK := Lib.hid hk
  clear h hb hz h1 hk
  go_enter Try.func55, Try.ntmps55
  go_upto_region 1 with (fail)
  change Code.wp _ _ _ _ (w.alloc (.cells (nteC .u8 n).toArray 67))
  generalize w.alloc (.cells (nteC .u8 n).toArray 67) = w1 at *
  go_upto_region 4 with (go_at_call 11; refine hcn.mono ?_; rintro e w2 ⟨rfl, hw⟩; obtain rfl := hw.symm; clear hcn)
  have x2 : ∀ st : ExtW w1, st.val.cell? ⟨w.heap.size, 2, none⟩ = some (.int .u8 n.kind) := fun st => st.cell (hcell HZ.out 2)
  rcases HK.out with hk | hk
  · have d1 : (n.kind == 0) = true := beq_iff_eq.2 hk
    refine wp_region_ext (by kernel_rfl) (by kernel_rfl) ?_
    repeat (go_big_quiet_step (fail))
    refine wpQuiet_nil ?_
    rintro W ⟨⟨W2, hW⟩, rfl⟩
    have HW := Lib.hid hW
    clear x2 hW
    go_wp2
    go_ret
    exact ⟨⟨_, rfl⟩, HB.out.trans (HW.out.mono HB.out.size)⟩
  · have d1 : (n.kind == 0) = false := beq_eq_false_iff_ne.2 (by omega)
    have d2 : decide (9 < n.kind) = true := decide_eq_true hk
    refine wp_region_ext (by kernel_rfl) (by kernel_rfl) ?_
    repeat (go_big_quiet_step (fail))
    refine wpQuiet_nil ?_
    rintro W ⟨⟨W2, hW⟩, rfl⟩
    have HW := Lib.hid hW
    clear x2 hW
    go_wp2
    go_ret
    exact ⟨⟨_, rfl⟩, HB.out.trans (HW.out.mono HB.out.size)⟩
set_option maxRecDepth 10000 in
set_option maxHeartbeats 4000000 in
theorem ladd_ok {w0 w : World} {base nb : Nat} {l : List Nte} {n : Nte} (h : NL w base nb 198 67 .u8 l) (hB : Below base w0 w) (hsz : base ≤ w.heap.size) (hl : l.length < 1048576) (hk : 1 ≤ n.kind ∧ n.kind ≤ 9) (hs : ∀ y, l.getLast? = some y → y.step ≤ n.step) :
    Calls Try.prog 55 #[.pointer (some ⟨nb, 0, none⟩), .agg (nteC .u8 n).toArray] w fun e w' => (∃ k, e = .returned (.int .i64 k)) ∧ NL w' base nb 198 67 .u8 (l ++ [n]) ∧ Fr nTy false w w' ∧ Below base w0 w' := by
  obtain ⟨i0, hi0, hz0, hz1, hz2⟩ := info_parts info_note
  have HI := Lib.hid hi0; have HZ0 := Lib.hid hz0; have HZ1 := Lib.hid hz1; have HZ2 := Lib.hid hz2
  have hb := below_alloc w (.cells (nteC .u8 n).toArray 67)
  have hz := heap_alloc_new w (.cells (nteC .u8 n).toArray 67)
  have h1 := h.fr (below_fr hb (fun _ => false) false) rfl rfl
  have hcn := lcount_any h1
  have HBB : Hid (Below base w0 (w.alloc (.cells (nteC .u8 n).toArray 67))) := hB.trans (hb.mono hsz)
  have HSZ : Hid (base ≤ (w.alloc (.cells (nteC .u8 n).toArray 67)).heap.size) := Nat.le_trans hsz hb.size
  have HB := Lib.hid hb; have H1 := Lib.hid h1; have HZ := Lib.hid hz; have HL := Lib.hid hl; have HK := Lib.hid hk; have HS := Lib.hid hs
  clear h hb hz h1 hl hk hs hi0 hz0 hz1 hz2 hB hsz
  go_enter Try.func55, Try.ntmps55
  go_upto_region 1 with (fail)
  change Code.wp _ _ _ _ (w.alloc (.cells (nteC .u8 n).toArray 67))
  generalize w.alloc (.cells (nteC .u8 n).toArray 67) = w1 at *
  go_upto_region 4 with (go_at_call 11; refine hcn.mono ?_; rintro e w2 ⟨rfl, hw⟩; obtain rfl := hw.symm; clear hcn)
  have HFC0 : Hid (Fr nTy false w w1) := below_fr HB.out _ _
  clear HB
  generalize w.heap.size = nq at *
  go_cut [11] (fun v wx => v = .bool false ∧ Below w1.heap.size w1 wx)
  case first =>
    obtain ⟨a, cap, c0, hrow, -⟩ := lnotes_any H1.out
    have hk := HK.out
    have d1 : (n.kind == 0) = false := beq_eq_false_iff_ne.2 (by omega)
    have d2 : decide (9 < n.kind) = false := decide_eq_false (by omega)
    have hl := HL.out
    have x0 : ∀ st : ExtW w1, st.val.cell? ⟨nq, 0, none⟩ = some (.int .i64 n.step) := fun st => st.cell (hcell HZ.out 0)
    have x2 : ∀ st : ExtW w1, st.val.cell? ⟨nq, 2, none⟩ = some (.int .u8 n.kind) := fun st => st.cell (hcell HZ.out 2)
    have y0 : ∀ st : ExtW w1, st.val.cell? ⟨nb, 0, none⟩ = some (.slice a l.length cap) := fun st => st.cell c0
    by_cases h0 : l.length = 0
    · have e0 : decide ((0 : Int) < l.length) = false := decide_eq_false (by omega)
      have e0n : decide (0 < l.length) = false := decide_eq_false (by omega)
      clear hrow c0 hk hl h0
      refine wp_region_ext (by kernel_rfl) (by kernel_rfl) ?_
      repeat (go_big_quiet_step (fail))
      refine wpQuiet_nil ?_
      rintro W ⟨⟨W2, hW⟩, rfl⟩
      clear x0 x2 y0
      have HW := Lib.hid hW
      go_wp2_with fail
      go_meet
      case rel => exact ⟨rfl, HW.out⟩
    · obtain ⟨k, hk1⟩ : ∃ k, l.length = k + 1 := ⟨l.length - 1, by omega⟩
      have hkl : k < l.length := by omega
      obtain ⟨g, rfl, hcs⟩ := row8_at hrow k hkl
      have hst : (l[k]).step ≤ n.step := HS.out _ (by rw [List.getLast?_eq_getElem?, show l.length - 1 = k by omega]; exact List.getElem?_eq_getElem hkl)
      have y1 : ∀ st : ExtW w1, st.val.cell? ⟨g, k * 8, none⟩ = some (.int .i64 (l[k]).step) := fun st => st.cell (hcs 0 (by omega))
      generalize (l[k]).step = ys at *
      clear hrow c0 hk hcs hkl h0
      generalize l.length = L at *
      subst hk1
      have e0 : decide ((0 : Int) < ((k + 1 : Nat) : Int)) = true := decide_eq_true (by omega)
      have e0n : decide (0 < k + 1) = true := decide_eq_true (by omega)
      have d3 : decide (n.step < ys) = false := decide_eq_false (by omega)
      clear hst
      refine wp_region_ext (by kernel_rfl) (by kernel_rfl) ?_
      repeat (go_big_quiet_step (fail))
      refine wpQuiet_nil ?_
      rintro W ⟨⟨W2, hW⟩, rfl⟩
      clear x0 x2 y0 y1
      have HW := Lib.hid hW
      go_wp2_with fail
      go_meet
      case rel => exact ⟨rfl, HW.out⟩
  case rest =>
  obtain ⟨hcv, hbx⟩ := hcut
  subst hcv
  have hnl := H1.out.fr (below_fr hbx (fun _ => false) false) rfl rfl
  have hnq := (hbx.block _ (Array.getElem?_eq_some_iff.1 HZ.out).1).trans HZ.out
  obtain ⟨v, hl1, hl2, hl3⟩ := hnl
  obtain ⟨ao, cap, rfl⟩ := own_sl2 hl3
  have hqlt := (Array.getElem?_eq_some_iff.1 hl1).1
  have hnlt := (Array.getElem?_eq_some_iff.1 hnq).1
  have l0 := hcell hl1 0
  have lf := hfrz hl1 0
  have l0' : ∀ o, (wc.alloc o).cell? ⟨nb, 0, none⟩ = some (.slice ao l.length cap) := fun o => by rw [World.cell?_alloc_past _ _ _ hqlt]; exact l0
  have lf' : ∀ o, (wc.alloc o).frozen? ⟨nb, 0, none⟩ = false := fun o => by rw [World.frozen?_alloc_past _ _ _ hqlt]; exact lf
  have hl := HL.out
  have dm : decide ((1048576 : Int) ≤ l.length) = false := decide_eq_false (by omega)
  have k0 : wc.cell? ⟨nq, 0, none⟩ = some (.int .i64 n.step) := hcell hnq 0
  have k1 : wc.cell? ⟨nq, 1, none⟩ = some (.int .i64 n.thread) := hcell hnq 1
  have k2 : wc.cell? ⟨nq, 2, none⟩ = some (.int .u8 n.kind) := hcell hnq 2
  have k3 : wc.cell? ⟨nq, 3, none⟩ = some (.int .i64 n.ref) := hcell hnq 3
  have k4 : wc.cell? ⟨nq, 4, none⟩ = some (.int .i64 n.bits) := hcell hnq 4
  have k5 : wc.cell? ⟨nq, 5, none⟩ = some (.int .i64 n.bucket) := hcell hnq 5
  have k6 : wc.cell? ⟨nq, 6, none⟩ = some (.int .i64 n.slot) := hcell hnq 6
  have k7 : wc.cell? ⟨nq, 7, none⟩ = some (.int .i64 n.value) := hcell hnq 7
  have E2 : Hid (l.length + 1 ≤ maxLen) := by unfold maxLen; show l.length + 1 ≤ _; omega
  have E3 : Hid ((l.length + 1) * 64 ≤ 140737488355328) := by show (l.length + 1) * 64 ≤ 140737488355328; omega
  have E4 : Hid (base ≤ wc.heap.size) := Nat.le_trans HSZ.out hbx.size
  have HNW : Hid (((wc.drew).alloc (.cells #[.int .i64 n.step, .int .i64 n.thread, .int .u8 n.kind, .int .i64 n.ref, .int .i64 n.bits, .int .i64 n.bucket, .int .i64 n.slot, .int .i64 n.value] 67)).heap[wc.heap.size]? = some (.cells #[.int .i64 n.step, .int .i64 n.thread, .int .u8 n.kind, .int .i64 n.ref, .int .i64 n.bits, .int .i64 n.bucket, .int .i64 n.slot, .int .i64 n.value] 67 (0, 0))) := heap_alloc_new (wc.drew) _
  have HW0 : Hid (Below wc.heap.size wc ((wc.drew).alloc (.cells #[.int .i64 n.step, .int .i64 n.thread, .int .u8 n.kind, .int .i64 n.ref, .int .i64 n.bits, .int .i64 n.bucket, .int .i64 n.slot, .int .i64 n.value] 67))) := ((Below.refl _ _).drew).alloc (Nat.le_refl _) _
  have HBC : Hid (Below base w0 wc) := HBB.out.trans (hbx.mono HSZ.out)
  have HFC : Hid (Fr nTy false w wc) := HFC0.out.trans (below_fr hbx _ _)
  have HL1 := Lib.hid hl1; have HL3 := Lib.hid hl3; have HLO := Lib.hid hl2
  clear hl1 hl3 hl2 hnq hbx H1 HS HK
  go_upto_region 8 with (fail)
  clear dm hl
  go_region_law ((refine step_append_lies _ (by rfl) _ _ _ (by rfl) base 67 i0 _ 8 64 Try.underlying64 HI.out HZ0.out HZ1.out HZ2.out rfl (by decide) (.slice ao l.length cap) l.length (l.flatMap (nteC .u8)) (by rfl) ((HL3.out.drew).alloc _) ⟨wc.heap.size, 0, none⟩ 1 1 (nteC .u8 n) (by rfl) (by rfl) (World.news_of_block (cs := #[.int .i64 n.step, .int .i64 n.thread, .int .u8 n.kind, .int .i64 n.ref, .int .i64 n.bits, .int .i64 n.bucket, .int .i64 n.slot, .int .i64 n.value]) (t := 67) (fr := (0, 0)) HNW.out) (by simp [Value.oneCell', nteC]) (by omega) E2.out E3.out (by have := E4.out; simp; omega) (wc.heap.size + 1) (by simp) ?_; intro g cap1 w4 hown1 hgrow hat hlt; have HOW := Lib.hid hown1; have HGR := Lib.hid hgrow; have hq4 : w4.heap[nb]? = some (.cells #[.slice ao l.length cap] 198 (0, 0)) := (grown_ty ((HL3.out.drew).alloc _) hgrow).cells _ _ _ _ ((HW0.out.block _ (Array.getElem?_eq_some_iff.1 HL1.out).1).trans HL1.out) rfl; have t0 := hcell hq4 0; have t1 := hfrz hq4 0; have HQ4 := Lib.hid hq4; clear hown1 hgrow hat hlt hq4))
  all_goals
    have hB4 : Below base w0 w4 := grown_below ((HL3.out.drew).alloc _) HGR.out (HBC.out.trans (HW0.out.mono E4.out)) (Nat.le_trans E4.out HW0.out.size) (Nat.le_refl _)
    have f4 : Fr nTy false wc w4 := (below_fr HW0.out _ _).trans ((grown_ty ((HL3.out.drew).alloc _) HGR.out).mono nTy_n id)
    have f5 := set_ty HQ4.out 0 (.slice (some ⟨g, 0, none⟩) (l.length + 1) cap1)
    have hB5 := set_below hB4 (Nat.le_trans E4.out f4.size) HLO.out 0 (.slice (some ⟨g, 0, none⟩) (l.length + 1) cap1)
    have hq5 := setCell_same HQ4.out 0 (.slice (some ⟨g, 0, none⟩) (l.length + 1) cap1)
    have h1 := own_fr HOW.out f5 rfl
    have FIN : Hid (NL (w4.setCell ⟨nb, 0, none⟩ (.slice (some ⟨g, 0, none⟩) (l.length + 1) cap1)) base nb 198 67 .u8 (l ++ [n]) ∧ Fr nTy false w (w4.setCell ⟨nb, 0, none⟩ (.slice (some ⟨g, 0, none⟩) (l.length + 1) cap1)) ∧ Below base w0 (w4.setCell ⟨nb, 0, none⟩ (.slice (some ⟨g, 0, none⟩) (l.length + 1) cap1))) := by
      refine ⟨⟨_, hq5, HLO.out, ?_⟩, (HFC.out.trans f4).trans (f5.mono nTy_l id), hB5⟩
      rw [List.length_append, List.flatMap_append]
      simpa using h1
    clear hB4 f4 f5 hB5 hq5 h1 HQ4 HGR HOW t0 t1 l0 l0' lf lf' k0 k1 k2 k3 k4 k5 k6 k7
    generalize w4.setCell ⟨nb, 0, none⟩ (.slice (some ⟨g, 0, none⟩) (l.length + 1) cap1) = w5 at *
    go_wp2_with fail
    go_ret
    exact ⟨⟨_, rfl⟩, FIN.out⟩
end Go.Proofs.Ytdabcnjjbfmkaaa

/-
  A world's note.
-/
namespace Go.Proofs.Ytdabcnjjbfmkaaa
open Go.RowKit Go.Maps
set_option linter.unusedVariables false

theorem u8_nn {k : Int} (h : (Lit.int .u8 k).wf = true) : 0 ≤ k ∧ k < 256 := by
  have hmin : IntKind.u8.min = 0 := rfl
  have hmax : IntKind.u8.max = 255 := rfl
  simp only [Lit.wf, Bool.and_eq_true, decide_eq_true_eq] at h; omega
theorem nTy_w (T : TypeId) (h : wTy T = false) : nTy T = false := by
  unfold wTy at h
  simp only [Bool.or_eq_false_iff] at h
  unfold nTy
  rw [h.1.2, h.2]; rfl
section
variable {w0 w w' : World} {B : WB} {V : WV} {s : CS}
theorem WS.noted (h : WS w0 w B V s) {l : List Nte} (hn : NL w' w0.heap.size B.nb 198 67 .u8 l) (hf : Fr nTy false w w') (hB : Below w0.heap.size w0 w') : WS w0 w' B { V with nts := l } s := by
  obtain ⟨S, ha⟩ := h.ar
  exact ⟨h.own.fr hf hB rfl rfl, hf.cells _ _ _ _ h.blk rfl, h.lo, ⟨S, ha.fr hf rfl rfl rfl⟩, hn, h.tkl, h.fmk.fr h.own hf rfl⟩
theorem WS.hd5 (h : WS w0 w B V s) : w.cell? ⟨B.wb, 0, none⟩ = some (.pointer (some ⟨B.cb, 0, none⟩)) ∧ w.cell? ⟨B.wb, 1, none⟩ = some (.pointer (some ⟨B.ib, 0, none⟩)) ∧ w.cell? ⟨B.wb, 2, none⟩ = some (.pointer (some ⟨B.nb, 0, none⟩)) ∧ w.cell? ⟨B.wb, 72, none⟩ = some (.int .i64 V.hd) :=
  ⟨h.c0, (h.cell 1).trans (val_at B V h.tkl).2.1, (h.cell 2).trans (val_at B V h.tkl).2.2.1, (h.cell 72).trans (val_at B V h.tkl).2.2.2.2.2⟩
theorem WS.last5 (h : WS w0 w B V s) : Calls Try.prog 22 #[.pointer (some ⟨B.cb, 0, none⟩)] w fun e w' => e = .returned (.agg #[.int .u8 s.kind, .int .u64 s.addr, .int .u64 s.was, .int .u64 s.is]) ∧ Below w.heap.size w w' := by
  obtain ⟨⟨S, hS⟩, hB⟩ := h.own
  exact last_any w _ B.cb s S hS
theorem WS.iat5 (h : WS w0 w B V s) (hl : V.its.length ≤ 1048576) (r : Int) : Calls Try.prog 14 #[.pointer (some ⟨B.ib, 0, none⟩), .int .i64 r] w fun e w' => e = .returned (.tuple #[.agg #[.string ((atOf V.its r).1).key, .string ((atOf V.its r).1).val, .int .u32 ((atOf V.its r).1).flags, .int .u64 ((atOf V.its r).1).id, .int .i64 ((atOf V.its r).1).dies, .int .i64 ((atOf V.its r).1).gen], .bool (atOf V.its r).2]) ∧ Below w.heap.size w w' := by
  obtain ⟨S, hS⟩ := h.ar
  exact iat_any _ _ _ S r w hS hl
theorem WS.steps5 (h : WS w0 w B V s) : Calls Try.prog 10 #[.pointer (some ⟨B.wb, 0, none⟩)] w fun e w' => e = .returned (.int .i64 s.cnt) ∧ w' = w := steps_any h.wld
/-- Do the notes' steps rise up to what was done? -/
def Nsteps (l : List Nte) (c : Int) : Prop := ∀ y ∈ l, y.step ≤ c
theorem Nsteps.le {l : List Nte} {c d : Int} (h : Nsteps l c) (hc : c ≤ d) : Nsteps l d := fun y hy => Int.le_trans (h y hy) hc
theorem Nsteps.add {l : List Nte} {c : Int} {n : Nte} (h : Nsteps l c) (hn : n.step = c) : Nsteps (nadd l n) c := by
  unfold nadd
  split
  · intro y hy
    rcases List.mem_append.1 hy with h1 | h1
    · exact h y h1
    · simp only [List.mem_singleton] at h1; subst h1; rw [hn]; exact Int.le_refl _
  · exact h
theorem nadd_len (l : List Nte) (n : Nte) : (nadd l n).length ≤ l.length + 1 := by unfold nadd; split <;> simp
theorem wladd (h : WS w0 w B V s) (n : Nte) (hl : V.nts.length < 1048576) (hkb : 0 ≤ n.kind) (hs : Nsteps V.nts n.step) :
    Calls Try.prog 55 #[.pointer (some ⟨B.nb, 0, none⟩), .agg (nteC .u8 n).toArray] w fun e w' => (∃ k, e = .returned (.int .i64 k)) ∧ WS w0 w' B { V with nts := nadd V.nts n } s ∧ Fr nTy false w w' := by
  by_cases hk : 1 ≤ n.kind ∧ n.kind ≤ 9
  · refine (ladd_ok h.nt h.below h.below.size hl hk (fun y hy => hs y (List.mem_of_getLast? hy))).mono fun e w' ⟨h1, h2, h3, h4⟩ => ⟨h1, ?_, h3⟩
    have : nadd V.nts n = V.nts ++ [n] := by unfold nadd; rw [if_pos hk]
    rw [this]
    exact h.noted h2 h3 h4
  · refine (ladd_no h.nt (by omega)).mono fun e w' ⟨h1, h2⟩ => ⟨h1, ?_, below_fr h2 _ _⟩
    have : nadd V.nts n = V.nts := by unfold nadd; rw [if_neg hk]
    rw [this]
    exact h.keep h2
set_option maxRecDepth 10000 in
set_option maxHeartbeats 2000000 in
theorem wnote_any (h : WS w0 w B V s) (k r b u sl v : Int) (hl : V.nts.length < 1048576) (hkb : (Lit.int .u8 k).wf = true) (hs : Nsteps V.nts s.cnt) :
    Calls Try.prog 15 #[.pointer (some ⟨B.wb, 0, none⟩), .int .u8 k, .int .i64 r, .agg #[.int .i64 b, .int .i64 u, .int .i64 sl], .int .i64 v] w fun e w' => e = .returned (.tuple #[]) ∧ WS w0 w' B { V with nts := nadd V.nts ⟨s.cnt, V.hd, k, r, b, u, sl, v⟩ } s ∧ Fr wTy true w w' := by
  have hb := below_alloc w (.cells #[.int .i64 b, .int .i64 u, .int .i64 sl] 46)
  have hz := heap_alloc_new w (.cells #[.int .i64 b, .int .i64 u, .int .i64 sl] 46)
  have h1 := h.keep hb
  have hk0 := (u8_nn hkb).1
  have HB := Lib.hid hb; have HZ := Lib.hid hz; have H1 := Lib.hid h1; have HL := Lib.hid hl; have HS := Lib.hid hs; have HK0 := Lib.hid hk0
  clear h hb hz h1 hl hkb hs hk0
  go_enter Try.func15, Try.ntmps15
  go_upto_region 2 with (fail)
  change Code.wp _ _ _ _ (w.alloc (.cells #[.int .i64 b, .int .i64 u, .int .i64 sl] 46))
  generalize w.alloc (.cells #[.int .i64 b, .int .i64 u, .int .i64 sl] 46) = w1 at *
  have HB0 : Hid (Fr wTy true w w1) := below_fr HB.out _ _
  clear HB
  generalize w.heap.size = nq at *
  have x2 : ∀ st : ExtW w1, st.val.cell? ⟨B.wb, 2, none⟩ = some (.pointer (some ⟨B.nb, 0, none⟩)) := fun st => st.cell H1.out.hd5.2.2.1
  have x72 : ∀ st : ExtW w1, st.val.cell? ⟨B.wb, 72, none⟩ = some (.int .i64 V.hd) := fun st => st.cell H1.out.hd5.2.2.2
  have z0 : ∀ st : ExtW w1, st.val.cell? ⟨nq, 0, none⟩ = some (.int .i64 b) := fun st => st.cell (hcell HZ.out 0)
  have z1 : ∀ st : ExtW w1, st.val.cell? ⟨nq, 1, none⟩ = some (.int .i64 u) := fun st => st.cell (hcell HZ.out 1)
  have z2 : ∀ st : ExtW w1, st.val.cell? ⟨nq, 2, none⟩ = some (.int .i64 sl) := fun st => st.cell (hcell HZ.out 2)
  have m1 : ∀ st : ExtW w1, Calls Try.prog 10 #[.pointer (some ⟨B.wb, 0, none⟩)] st.val fun e w' => e = .returned (.int .i64 s.cnt) ∧ st.val = w' := fun st => (H1.out.keep st.below).steps5.mono fun e w' ⟨h1, h2⟩ => ⟨h1, h2.symm⟩
  refine wp_region_ext_tail 15 (by kernel_rfl) (by kernel_rfl) ?_
  simp only [List.take_succ_cons, List.take_zero, List.drop_succ_cons, List.drop_zero]
  repeat (go_big_quiet_step ((go_at_call 10; with_reducible refine calls_ext_same (m1 _))))
  refine wpQuiet_nil ?_
  rintro W ⟨⟨W2, hW⟩, rfl⟩
  clear x2 x72 z0 z1 z2 m1
  have hadd := wladd (H1.out.keep hW) ⟨s.cnt, V.hd, k, r, b, u, sl, v⟩ HL.out HK0.out HS.out
  have HW := Lib.hid hW
  clear hW
  go_wp2_with (go_at_call 55; refine hadd.mono ?_; intro e w3 hh; obtain ⟨⟨kk, hh1⟩, h3, f3⟩ := hh; subst hh1; have H3 := Lib.hid h3; have F3 := Lib.hid f3; clear h3 f3 hadd)
  go_end0
  exact ⟨rfl, H3.out, (HB0.out.trans (below_fr HW.out _ _)).trans (F3.out.mono nTy_w (fun h => by cases h))⟩
end
end Go.Proofs.Ytdabcnjjbfmkaaa
