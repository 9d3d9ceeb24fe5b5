import Derived.Test.YtmakjfeepmiggaaGreatZ15
import Derived.Test.YtmakjfeepmiggaaGreatZ17
import Derived.OwnWalk
import Derived.WalkMore
namespace Go.Proofs.YtmakjfeepmiggaaGreat
open Go.RowKit Go.Maps TagPure
set_option linter.unusedVariables false
structure HP where
  way : List (Int × Int × Int)
  left : Nat
  tag : Int
  load : Bool
  l : List Dg
def HP.on (x : HP) : HP := match x.l.dropWhile Dg.over with
  | [] => { x with l := [], left := x.left - 1, load := false }
  | d :: r => { x with l := d :: r }
def enc3 (p : Int × Int × Int) : List Value := [.int .i64 p.1, .int .i64 p.2.1, .int .i64 p.2.2]
def flat3 (l : List (Int × Int × Int)) : List Value := l.flatMap enc3
theorem flat3_len (l : List (Int × Int × Int)) : (flat3 l).length = l.length * 3 := by
  induction l with
  | nil => rfl
  | cons x r ih => show (enc3 x ++ flat3 r).length = _; rw [List.length_append, ih]; simp [enc3]; omega
theorem flat3_one (l : List (Int × Int × Int)) : ∀ u ∈ flat3 l, u.oneCell' = true := by
  intro u hu
  obtain ⟨p, _, hp⟩ := List.mem_flatMap.1 hu
  simp [enc3] at hp
  rcases hp with rfl | rfl | rfl <;> rfl
theorem flat3_at (l : List (Int × Int × Int)) (k : Nat) (hk : k < l.length) (j : Nat) (hj : j < 3) : (flat3 l)[k * 3 + j]? = (enc3 l[k])[j]? := by
  induction l generalizing k with
  | nil => simp at hk
  | cons x r ih =>
    have e : flat3 (x :: r) = enc3 x ++ flat3 r := rfl
    rw [e]
    match k with
    | 0 =>
      rw [List.getElem?_append_left (by simp [enc3]; omega)]
      simp
    | k + 1 =>
      rw [List.getElem?_append_right (by simp [enc3]; omega)]
      have := ih k (by simp at hk; omega)
      simp only [List.getElem_cons_succ]
      rw [← this]
      congr 1
      simp [enc3]; omega
theorem own_cell3 {w : World} {base T g cap n : Nat} {L : List (Int × Int × Int)} (h : w.ownsRow base T 3 (.slice (some ⟨g, 0, none⟩) n cap) n (flat3 L)) (i : Nat) (x : Int × Int × Int) (hx : L[i]? = some x) : w.cell? ⟨g, i * 3, none⟩ = some (.int .i64 x.1) ∧ w.cell? ⟨g, i * 3 + 1, none⟩ = some (.int .i64 x.2.1) ∧ w.cell? ⟨g, i * 3 + 2, none⟩ = some (.int .i64 x.2.2) ∧ n ≤ cap := by
  obtain ⟨h1, ⟨e, h0⟩ | ⟨g', cap', cur, e, hb, hg, hn, hm, hs, ht⟩⟩ := h
  · simp at e
  · simp only [Value.slice.injEq, Option.some.injEq, Addr.mk.injEq, and_true, true_and] at e
    obtain ⟨rfl, rfl⟩ := e
    obtain ⟨hi, rfl⟩ := List.getElem?_eq_some_iff.1 hx
    have hln : L.length = n := by rw [flat3_len] at h1; omega
    have hc : ∀ j, j < 3 → w.cell? ⟨g, i * 3 + j, none⟩ = (enc3 L[i])[j]? := fun j hj => by
      rw [hcell hg, ← flat3_at L i hi j hj, ← ht, List.getElem?_take, if_pos (by omega)]
      simp
    exact ⟨hc 0 (by omega), hc 1 (by omega), hc 2 (by omega), hn⟩
def dgv (q : Nat × Dg) : Value := .iface q.2.ty (.pointer (some ⟨q.1, 0, none⟩))
def DoRow (w : World) (v : Value) (l : List (Nat × Dg)) : Prop :=
  ∃ a c, v = .slice a l.length c ∧ l.length ≤ c ∧ c ≤ maxLen ∧ (l = [] ∨ ∃ g o cur, a = some ⟨g, o, none⟩ ∧ w.heap[g]? = some (.cells cur 344 (0, 0)) ∧ ∀ i, (hi : i < l.length) → cur[o + i]? = some (dgv l[i]))
def HP.cells (x : HP) (vw vd : Value) : Array Value := #[vw, .int .i64 x.left, .int .i64 x.tag, .bool x.load, vd]
structure HopsAt (w : World) (lo hb : Nat) (x : HP) (qs : List (Nat × Dg)) : Prop where
  low : lo ≤ hb
  eq : x.l = qs.map Prod.snd
  few : x.way.length ≤ 100000
  lt : x.left < x.way.length ∨ x.left = 0
  ex : ∃ vw vd, w.heap[hb]? = some (.cells (x.cells vw vd) 334 (0, 0)) ∧ w.ownsRow lo 71 3 vw x.way.length (flat3 x.way) ∧ DoRow w vd qs
  dos : ∀ q ∈ qs, lo ≤ q.1 ∧ DgAt w q.1 q.2 ∧ q.2.ok
  nd : (qs.map Prod.fst).Nodup
structure FS (S : List Nat) (w w' : World) : Prop where
  size : w.heap.size ≤ w'.heap.size
  cells : ∀ (k : Nat) (cs : Array Value) (T : TypeId) (fr : Nat × Nat), w.heap[k]? = some (.cells cs T fr) → wTy T = false → k ∉ S → w'.heap[k]? = some (.cells cs T fr)
section
variable {w w' w2 : World} {lo lo' hb : Nat} {x y : HP} {qs : List (Nat × Dg)}
theorem FS.refl (S : List Nat) (w : World) : FS S w w := ⟨Nat.le_refl _, fun _ _ _ _ h _ _ => h⟩
theorem below_fs (S : List Nat) (hb : Below w.heap.size w w') : FS S w w' := ⟨hb.size, fun k cs T fr h _ _ => (hb.block k (Array.getElem?_eq_some_iff.1 h).1).trans h⟩
theorem Fx.fs {mp : Bool} {b : Nat} {S : List Nat} (h : Fx wTy mp b w w') (hb : b ∈ S) : FS S w w' := ⟨h.size, fun k cs T fr g1 g2 g3 => h.cells k cs T fr g1 g2 (fun c => g3 (c ▸ hb))⟩
theorem Fx.fs2 {mp : Bool} {b : Nat} {S : List Nat} {w0 : World} (h0 : FS S w0 w) (h : Fx wTy mp b w w') (hb : b ∈ S ∨ w0.heap.size ≤ b) : FS S w0 w' := ⟨Nat.le_trans h0.size h.size, fun k cs T fr g1 g2 g3 => h.cells k cs T fr (h0.cells k cs T fr g1 g2 g3) g2 (fun c => by
  subst c
  rcases hb with hb | hb
  · exact g3 hb
  · have := (Array.getElem?_eq_some_iff.1 g1).1; omega)⟩
theorem FS.trans {S : List Nat} (h : FS S w w') (k : FS S w' w2) : FS S w w2 := ⟨Nat.le_trans h.size k.size, fun i cs T fr h1 h2 h3 => k.cells i cs T fr (h.cells i cs T fr h1 h2 h3) h2 h3⟩
theorem DoRow.of {v : Value} (hv : DoRow w v qs) (hf : ∀ (g : Nat) (cur : Array Value), w.heap[g]? = some (.cells cur 344 (0, 0)) → w'.heap[g]? = some (.cells cur 344 (0, 0))) : DoRow w' v qs := by
  obtain ⟨a, c, h1, h2, h3, h4⟩ := hv
  exact ⟨a, c, h1, h2, h3, h4.imp id fun ⟨g, o, cur, h5, h6, h7⟩ => ⟨g, o, cur, h5, hf g cur h6, h7⟩⟩
theorem own_of {base e size n : Nat} {v : Value} {xs : List Value} (h : w.ownsRow base e size v n xs) (hf : ∀ (g : Nat) (cur : Array Value), w.heap[g]? = some (.cells cur e (0, 0)) → w'.heap[g]? = some (.cells cur e (0, 0))) : w'.ownsRow base e size v n xs :=
  ⟨h.1, h.2.imp id fun ⟨g, cap, cur, h1, h2, h3, h4⟩ => ⟨g, cap, cur, h1, h2, hf g cur h3, h4⟩⟩
theorem HopsAt.below (h : HopsAt w lo hb x qs) (b : Below w.heap.size w w') : HopsAt w' lo hb x qs := by
  obtain ⟨h1, h2, h3, h4, ⟨vw, vd, g1, g2, g3⟩, h6, h7⟩ := h
  have k : ∀ {i : Nat} {o : Obj}, w.heap[i]? = some o → w'.heap[i]? = some o := fun hi => (b.block _ (Array.getElem?_eq_some_iff.1 hi).1).trans hi
  exact ⟨h1, h2, h3, h4, ⟨vw, vd, k g1, own_of g2 (fun _ _ hi => k hi), g3.of (fun _ _ hi => k hi)⟩, fun q hq => ⟨(h6 q hq).1, (h6 q hq).2.1.below b, (h6 q hq).2.2⟩, h7⟩
theorem HopsAt.lower (h : HopsAt w lo hb x qs) (hl : lo' ≤ lo) : HopsAt w lo' hb x qs := by
  obtain ⟨h1, h2, h3, h4, ⟨vw, vd, g1, ⟨g2a, g2⟩, g3⟩, h6, h7⟩ := h
  exact ⟨Nat.le_trans hl h1, h2, h3, h4, ⟨vw, vd, g1, ⟨g2a, g2.imp id fun ⟨g, cap, cur, e1, e2, e3⟩ => ⟨g, cap, cur, e1, Nat.le_trans hl e2, e3⟩⟩, g3⟩, fun q hq => ⟨Nat.le_trans hl (h6 q hq).1, (h6 q hq).2⟩, h7⟩
theorem HopsAt.fs {S : List Nat} (h : HopsAt w lo hb x qs) (hf : FS S w w') (hS : ∀ k ∈ S, ∃ cs T fr, w.heap[k]? = some (.cells cs T fr) ∧ T ≠ 71 ∧ T ≠ 344 ∧ T ≠ 39) (hn : hb ∉ S) (hq : ∀ q ∈ qs, q.1 ∉ S) : HopsAt w' lo hb x qs := by
  obtain ⟨h1, h2, h3, h4, ⟨vw, vd, g1, g2, g3⟩, h6, h7⟩ := h
  have k : ∀ (T : TypeId), wTy T = false → (T = 71 ∨ T = 344 ∨ T = 39) → ∀ (g : Nat) (cur : Array Value), w.heap[g]? = some (.cells cur T (0, 0)) → w'.heap[g]? = some (.cells cur T (0, 0)) := fun T hT hT2 g cur hg => by
    refine hf.cells _ _ _ _ hg hT fun hm => ?_
    obtain ⟨cs, T2, fr, e, n1, n2, n3⟩ := hS g hm
    rw [hg] at e
    simp only [Option.some.injEq, Obj.cells.injEq] at e
    rcases hT2 with rfl | rfl | rfl
    · exact n1 e.2.1.symm
    · exact n2 e.2.1.symm
    · exact n3 e.2.1.symm
  refine ⟨h1, h2, h3, h4, ⟨vw, vd, hf.cells _ _ _ _ g1 rfl hn, own_of g2 (k _ rfl (.inl rfl)), g3.of (k _ rfl (.inr (.inl rfl)))⟩, fun q hq2 => ⟨(h6 q hq2).1, ?_, (h6 q hq2).2.2⟩, h7⟩
  have hd := (h6 q hq2).2.1
  have hnq := hq q hq2
  obtain ⟨b, d⟩ := q
  cases d with
  | mark xs =>
    obtain ⟨v, e1, e2⟩ := hd
    refine ⟨v, hf.cells _ _ _ _ e1 rfl hnq, ?_⟩
    rcases e2 with e2 | ⟨g, off, cur, rfl, e3, e4⟩
    · exact .inl e2
    · exact .inr ⟨g, off, cur, rfl, k _ rfl (.inr (.inr rfl)) _ _ e3, e4⟩
  | out σ => exact hf.cells _ _ _ _ hd rfl hnq
  | put σ g r => exact hf.cells _ _ _ _ hd rfl hnq
theorem HopsAt.blk (h : HopsAt w lo hb x qs) : ∃ cs, w.heap[hb]? = some (.cells cs 334 (0, 0)) := by obtain ⟨_, _, g1, _⟩ := h.ex; exact ⟨_, g1⟩
theorem HopsAt.ltb (h : HopsAt w lo hb x qs) : hb < w.heap.size := by obtain ⟨cs, b1⟩ := h.blk; exact (Array.getElem?_eq_some_iff.1 b1).1
theorem HopsAt.c (h : HopsAt w lo hb x qs) : w.cell? ⟨hb, 1, none⟩ = some (.int .i64 x.left) ∧ w.cell? ⟨hb, 2, none⟩ = some (.int .i64 x.tag) ∧ w.cell? ⟨hb, 3, none⟩ = some (.bool x.load) := by
  obtain ⟨_, _, g1, _⟩ := h.ex
  exact ⟨hcell g1 1, hcell g1 2, hcell g1 3⟩
theorem HopsAt.f (h : HopsAt w lo hb x qs) (o : Nat) : w.frozen? ⟨hb, o, none⟩ = false := by obtain ⟨cs, b1⟩ := h.blk; exact hfrz b1 o
theorem HopsAt.ne (h : HopsAt w lo hb x qs) : ∀ q ∈ qs, q.1 ≠ hb := fun q hq c => by
  obtain ⟨cs, b1⟩ := h.blk
  obtain ⟨cs2, T, b2, hT⟩ := (h.dos q hq).2.1.blk
  rw [c, b1] at b2
  simp only [Option.some.injEq, Obj.cells.injEq] at b2
  rw [← b2.2.1] at hT
  revert hT
  decide
theorem HopsAt.set (h : HopsAt w lo hb x qs) (o : Nat) (u : Value) (h1 : y.way = x.way) (h2 : y.l = x.l) (h3 : y.left < y.way.length ∨ y.left = 0) (hc : ∀ vw vd, (x.cells vw vd).setIfInBounds o u = y.cells vw vd) : HopsAt (w.setCell ⟨hb, o, none⟩ u) lo hb y qs := by
  have hne := h.ne
  obtain ⟨k1, k2, k3, k4, ⟨vw, vd, g1, g2, g3⟩, k6, k7⟩ := h
  have k : ∀ {i : Nat} {ob : Obj}, w.heap[i]? = some ob → i ≠ hb → (w.setCell ⟨hb, o, none⟩ u).heap[i]? = some ob := fun hi hn => (Below.heap_setCell _ _ _ _ hn).trans hi
  have kt : ∀ (T : TypeId), T ≠ 334 → ∀ (g : Nat) (cur : Array Value), w.heap[g]? = some (.cells cur T (0, 0)) → (w.setCell ⟨hb, o, none⟩ u).heap[g]? = some (.cells cur T (0, 0)) := fun T hT g cur hg => k hg fun c => by
    subst c
    rw [hg] at g1
    simp only [Option.some.injEq, Obj.cells.injEq] at g1
    exact hT g1.2.1
  have g := setCell_same g1 o u
  rw [hc] at g
  refine ⟨k1, by rw [h2, k2], by rw [h1]; exact k3, h3, ⟨vw, vd, g, ?_, g3.of (kt _ (by decide))⟩, fun q hq => ⟨(k6 q hq).1, (k6 q hq).2.1.fx (set_fx (fun _ => false) false w hb o u) rfl rfl rfl rfl ⟨_, _, _, g1, by decide⟩ (hne q hq), (k6 q hq).2.2⟩, k7⟩
  rw [h1]
  exact own_of g2 (kt _ (by decide))
theorem HopsAt.setl (h : HopsAt w lo hb x qs) {v : Value} {qs' : List (Nat × Dg)} (hv : DoRow w v qs') (hd : ∀ q ∈ qs', lo ≤ q.1 ∧ DgAt w q.1 q.2 ∧ q.2.ok) (hn : (qs'.map Prod.fst).Nodup) : HopsAt (w.setCell ⟨hb, 4, none⟩ v) lo hb { x with l := qs'.map Prod.snd } qs' := by
  obtain ⟨k1, k2, k3, k4, ⟨vw, vd, g1, g2, g3⟩, k6, k7⟩ := h
  have k : ∀ {i : Nat} {ob : Obj}, w.heap[i]? = some ob → i ≠ hb → (w.setCell ⟨hb, 4, none⟩ v).heap[i]? = some ob := fun hi hn => (Below.heap_setCell _ _ _ _ hn).trans hi
  have kt : ∀ (T : TypeId), T ≠ 334 → ∀ (g : Nat) (cur : Array Value), w.heap[g]? = some (.cells cur T (0, 0)) → (w.setCell ⟨hb, 4, none⟩ v).heap[g]? = some (.cells cur T (0, 0)) := fun T hT g cur hg => k hg fun c => by
    subst c
    rw [hg] at g1
    simp only [Option.some.injEq, Obj.cells.injEq] at g1
    exact hT g1.2.1
  refine ⟨k1, rfl, k3, k4, ⟨vw, v, setCell_same g1 4 v, own_of g2 (kt _ (by decide)), hv.of (kt _ (by decide))⟩, fun q hq => ⟨(hd q hq).1, (hd q hq).2.1.fx (set_fx (fun _ => false) false w hb 4 v) rfl rfl rfl rfl ⟨_, _, _, g1, by decide⟩ (fun c => ?_), (hd q hq).2.2⟩, hn⟩
  obtain ⟨cs2, T, b2, hT⟩ := (hd q hq).2.1.blk
  rw [c, g1] at b2
  simp only [Option.some.injEq, Obj.cells.injEq] at b2
  rw [← b2.2.1] at hT
  revert hT
  decide
theorem do_pop {v : Value} {q : Nat × Dg} {r : List (Nat × Dg)} (h : DoRow w v (q :: r)) : ∃ g o k, v = .slice (some ⟨g, o, none⟩) (r.length + 1) (k + 1) ∧ w.cell? ⟨g, o, none⟩ = some (dgv q) ∧ r.length ≤ k ∧ k + 1 ≤ maxLen ∧ DoRow w (.slice (some ⟨g, if k = 0 then o else o + 1, none⟩) r.length k) r := by
  obtain ⟨a, c, rfl, h1, h2, h3 | ⟨g, o, cur, rfl, hg, hi⟩⟩ := h
  · cases h3
  · have h0 := hi 0 (by simp)
    rw [Nat.add_zero] at h0
    rw [List.length_cons] at h1
    obtain ⟨k, rfl⟩ : ∃ k, c = k + 1 := ⟨c - 1, by omega⟩
    refine ⟨g, o, k, rfl, by rw [hcell hg]; exact h0, by omega, h2, _, k, rfl, by omega, by omega, ?_⟩
    by_cases hk : k = 0
    · exact .inl (List.eq_nil_of_length_eq_zero (by omega))
    · rw [if_neg hk]
      refine .inr ⟨g, o + 1, cur, rfl, hg, fun i hir => ?_⟩
      have := hi (i + 1) (by simp; exact hir)
      rw [show o + 1 + i = o + (i + 1) by omega, this]
      simp
theorem do_nil {v : Value} (h : DoRow w v []) : ∃ a c, v = .slice a 0 c := by obtain ⟨a, c, h1, -⟩ := h; exact ⟨a, c, h1⟩
end
structure HMB (w0 w W : World) (B : WB) (V : WV) (s : CS) (S : List Nat) (hb : Nat) (x : HP) (qs : List (Nat × Dg)) : Prop where
  ws : WS w0 W B V s
  hp : HopsAt W w0.heap.size hb x qs
  fs : FS S w W
  own : hb ∈ S ∨ w.heap.size ≤ hb
  owns : ∀ q ∈ qs, q.1 ∈ S ∨ w.heap.size ≤ q.1
section
variable {w0 w W W' : World} {B : WB} {V : WV} {s s' : CS} {S : List Nat} {hb : Nat} {x y : HP} {qs : List (Nat × Dg)}
theorem HMB.below (h : HMB w0 w W B V s S hb x qs) (b : Below W.heap.size W W') : HMB w0 w W' B V s S hb x qs := ⟨h.ws.keep b, h.hp.below b, h.fs.trans (below_fs S b), h.own, h.owns⟩
theorem HMB.set (h : HMB w0 w W B V s S hb x qs) (o : Nat) (u : Value) (h1 : y.way = x.way) (h2 : y.l = x.l) (h3 : y.left < y.way.length ∨ y.left = 0) (hc : ∀ vw vd, (x.cells vw vd).setIfInBounds o u = y.cells vw vd) : HMB w0 w (W.setCell ⟨hb, o, none⟩ u) B V s S hb y qs := by
  obtain ⟨cs, b1⟩ := h.hp.blk
  exact ⟨set_take h.ws b1 rfl h.hp.low u, h.hp.set o u h1 h2 h3 hc, (set_fx wTy true W hb o u).fs2 h.fs h.own, h.own, h.owns⟩
theorem HMB.setl (h : HMB w0 w W B V s S hb x qs) {v : Value} {qs' : List (Nat × Dg)} (hv : DoRow W v qs') (hd : ∀ q ∈ qs', w0.heap.size ≤ q.1 ∧ DgAt W q.1 q.2 ∧ q.2.ok) (hn : (qs'.map Prod.fst).Nodup) (ho : ∀ q ∈ qs', q.1 ∈ S ∨ w.heap.size ≤ q.1) : HMB w0 w (W.setCell ⟨hb, 4, none⟩ v) B V s S hb { x with l := qs'.map Prod.snd } qs' := by
  obtain ⟨cs, b1⟩ := h.hp.blk
  exact ⟨set_take h.ws b1 rfl h.hp.low v, h.hp.setl hv hd hn, (set_fx wTy true W hb 4 v).fs2 h.fs h.own, h.own, ho⟩
theorem HMB.move (h : HMB w0 w W B V s S hb x qs) (h2 : WS w0 W' B V s') (hf : Fr wTy true W W') : HMB w0 w W' B V s' S hb x qs := by
  have hf2 : FS [] W W' := ⟨hf.size, fun k cs T fr g1 g2 _ => hf.cells k cs T fr g1 g2⟩
  exact ⟨h2, h.hp.fs hf2 (fun k hk => by cases hk) (by simp) (fun q _ => by simp), ⟨Nat.le_trans h.fs.size hf.size, fun k cs T fr g1 g2 g3 => hf.cells k cs T fr (h.fs.cells k cs T fr g1 g2 g3) g2⟩, h.own, h.owns⟩
theorem HMB.step {b : Nat} {d : Dg} {r : List (Nat × Dg)} (h : HMB w0 w W B V s S hb x ((b, d) :: r)) (h2 : WS w0 W' B V (d.step s).1) (h3 : DgAt W' b (d.step s).2) (hf : Fx wTy true b W W') : HMB w0 w W' B V (d.step s).1 S hb { x with l := (d.step s).2 :: r.map Prod.snd } ((b, (d.step s).2) :: r) := by
  have hne := h.hp.ne (b, d) (List.mem_cons_self)
  have hbk := (h.hp.dos (b, d) (List.mem_cons_self)).2.1.blk
  have hown := h.owns (b, d) (List.mem_cons_self)
  have hbd : ∀ a, 0 ≤ s.val a ∧ s.val a < 18446744073709551616 := fun a => wf_bd (h.ws.own.wf a)
  obtain ⟨k1, k2, k3, k4, ⟨vw, vd, g1, g2, g3⟩, k6, k7⟩ := h.hp
  obtain ⟨cs, T, hb1, hT⟩ := hbk
  have kt : ∀ (T2 : TypeId), wTy T2 = false → (T2 ≠ 358 ∧ T2 ≠ 360 ∧ T2 ≠ 261) → ∀ (g : Nat) (cur : Array Value), W.heap[g]? = some (.cells cur T2 (0, 0)) → W'.heap[g]? = some (.cells cur T2 (0, 0)) := fun T2 hT2 hn g cur hg => hf.cells _ _ _ _ hg hT2 fun c => by
    subst c
    rw [hg] at hb1
    simp only [Option.some.injEq, Obj.cells.injEq] at hb1
    rw [← hb1.2.1] at hT
    rcases hT with c | c | c
    · exact hn.1 c
    · exact hn.2.1 c
    · exact hn.2.2 c
  have hnd : b ∉ r.map Prod.fst := by simp only [List.map_cons, List.nodup_cons] at k7; exact k7.1
  refine ⟨h2, ⟨k1, rfl, k3, k4, ⟨vw, vd, hf.cells _ _ _ _ g1 rfl (fun c => hne c.symm), own_of g2 (kt _ rfl (by decide)), ?_⟩, ?_, ?_⟩, hf.fs2 h.fs hown, h.own, ?_⟩
  · have g4 := g3.of (kt _ rfl (by decide))
    obtain ⟨a, c, e1, e2, e3, e4⟩ := g4
    refine ⟨a, c, e1, e2, e3, .inr ?_⟩
    rcases e4 with e4 | ⟨g, o, cur, e5, e6, e7⟩
    · cases e4
    · refine ⟨g, o, cur, e5, e6, fun i hi => ?_⟩
      have := e7 i hi
      rw [this]
      match i with
      | 0 =>
        have hty : (d.step s).2.ty = d.ty := by
          cases d with
          | mark xs => cases xs <;> rfl
          | out σ => unfold Dg.step; dsimp only; split; rfl; split <;> rfl
          | put σ g r => unfold Dg.step; dsimp only; split; rfl; split <;> rfl
        simp only [List.getElem_cons_zero, dgv, hty]
      | i + 1 => rfl
  · intro q hq
    rcases List.mem_cons.1 hq with rfl | hq
    · exact ⟨(k6 (b, d) (List.mem_cons_self)).1, h3, Dg.ok_step (d := d) (k6 (b, d) (List.mem_cons_self)).2.2 hbd⟩
    · have hq2 := k6 q (List.mem_cons_of_mem _ hq)
      refine ⟨hq2.1, hq2.2.1.fx hf rfl rfl rfl rfl ⟨cs, T, _, hb1, ?_⟩ (fun c => hnd (List.mem_map.2 ⟨q, hq, c⟩)), hq2.2.2⟩
      rcases hT with rfl | rfl | rfl <;> decide
  · simp only [List.map_cons] at k7 ⊢
    exact k7
  · intro q hq
    rcases List.mem_cons.1 hq with rfl | hq
    · exact hown
    · exact h.owns q (List.mem_cons_of_mem _ hq)
end
end Go.Proofs.YtmakjfeepmiggaaGreat
namespace Go.Proofs.YtmakjfeepmiggaaGreat
open Go.RowKit Go.Maps TagPure
set_option linter.unusedVariables false
theorem hpover {w : World} {lo hb : Nat} {x : HP} {qs : List (Nat × Dg)} (h : HopsAt w lo hb x qs) : Calls Tryz.prog 215 #[.pointer (some ⟨hb, 0, none⟩)] w fun e w' => e = .returned (.bool ((x.left : Int) == 0)) ∧ w' = w := by
  obtain ⟨c1, -⟩ := h.c
  clear h
  go_enter Tryz.func215, Tryz.ntmps215
  go_wp2
  go_ret
  exact ⟨rfl, rfl⟩
def hpnew (l : List (Int × Int × Int)) : HP := ⟨l, l.length - 1, 0, false, []⟩
def dolen (hb : Nat) (w : World) : Nat := match w.cell? ⟨hb, 4, none⟩ with
  | some (.slice _ n _) => n
  | _ => 0
set_option maxRecDepth 10000 in
set_option maxHeartbeats 2000000 in
theorem hpon {w0 w W : World} {B : WB} {V : WV} {s : CS} {S : List Nat} {hb : Nat} {x : HP} {qs : List (Nat × Dg)} (h : HMB w0 w W B V s S hb x qs) (hl : x.left ≠ 0) : Calls Tryz.prog 242 #[.pointer (some ⟨hb, 0, none⟩)] W fun e w' => e = .returned (.tuple #[]) ∧ ∃ qs', HMB w0 w w' B V s S hb x.on qs' := by
  have hx := h.hp.eq
  have hlt := h.hp.lt
  have hfew := h.hp.few
  have hx0 : HMB w0 w W B V s S hb { x with l := qs.map Prod.snd } qs := by rw [← hx]; exact h
  have hd0 : (qs.map Prod.snd).dropWhile Dg.over = x.l.dropWhile Dg.over := by rw [hx]
  have hw1 : wrap64 ((x.left : Int) - 1) = ((x.left - 1 : Nat) : Int) := by rw [IntWalk.wrap64_in _ (by omega)]; omega
  have HX0 := Lib.hid (And.intro hx0 hd0); have HLT := Lib.hid hlt
  clear h hx hlt hfew hx0 hd0 hl
  go_enter Tryz.func242, Tryz.ntmps242
  go_step3
  apply wp_seq
  go_step3
  change Code.wp _ _ _ _ _
  go_wp2
  go_loopw [7] (fun _ wr => ∃ rest, HMB w0 w wr B V s S hb { x with l := rest.map Prod.snd } rest ∧ (rest.map Prod.snd).dropWhile Dg.over = x.l.dropWhile Dg.over) (fun _ wr => dolen hb wr)
  case atStart => exact ⟨qs, HX0.out⟩
  case round =>
    clear HX0
    obtain ⟨rest, hm, hd⟩ := hrel
    have HM := Lib.hid hm; have HD := Lib.hid hd
    obtain ⟨vw, vd, g1, -, g3⟩ := hm.hp.ex
    have c1 : wr.cell? ⟨hb, 1, none⟩ = some (.int .i64 x.left) := hcell g1 1
    have c4 : wr.cell? ⟨hb, 4, none⟩ = some vd := hcell g1 4
    have c3 : wr.cell? ⟨hb, 3, none⟩ = some (.bool x.load) := hcell g1 3
    have ff := hm.hp.f
    clear hm hd g1
    rcases rest with _ | ⟨⟨b, d⟩, r⟩
    · obtain ⟨a, c, rfl⟩ := do_nil g3
      clear g3
      go_wp2
      rw [Exit.noGoto_normal]
      go_end0
      refine ⟨rfl, [], ?_⟩
      have h1 := HM.out.set (y := { x with l := [], left := x.left - 1 }) 1 (.int .i64 ((x.left - 1 : Nat) : Int)) rfl rfl (by have := HLT.out; show x.left - 1 < x.way.length ∨ x.left - 1 = 0; omega) (fun _ _ => rfl)
      have h2 := h1.set (y := { x with l := [], left := x.left - 1, load := false }) 3 (.bool false) rfl rfl h1.hp.lt (fun _ _ => rfl)
      have e : x.on = { x with l := [], left := x.left - 1, load := false } := by unfold HP.on; rw [← HD.out]; rfl
      rw [e]
      first | exact h2 | (rw [hw1]; exact h2)
    · obtain ⟨g, o, k, rfl, hc, hrk, hkm, hpop⟩ := do_pop g3
      have hdl : dolen hb wr = r.length + 1 := by unfold dolen; rw [c4]
      have hda := (HM.out.hp.dos (b, d) (List.mem_cons_self)).2.1
      have HPOP := Lib.hid hpop; have HDL := Lib.hid hdl; have HRK := Lib.hid hrk
      have hkm2 : (k : Int) + 1 ≤ 9223372036854775807 := by unfold maxLen at hkm; omega
      clear hkm
      have hz0 : (0 : Int) < (r.length : Int) + 1 := by omega
      clear g3 hpop hdl hrk
      obtain ⟨ov, hov⟩ : ∃ ov, ov = d.over := ⟨_, rfl⟩
      have hfin : ∀ (W2 : World), Below wr.heap.size wr W2 → d.over = false → ∃ qs', HMB w0 w W2 B V s S hb x.on qs' := fun W2 hb2 ho => by
        have e : x.on = { x with l := d :: r.map Prod.snd } := by
          unfold HP.on
          rw [← HD.out, List.map_cons, List.dropWhile_cons_of_neg (by rw [ho]; simp)]
        rw [e]
        exact ⟨(b, d) :: r, HM.out.below hb2⟩
      have HFIN := Lib.hid hfin
      have hrel2 : ∀ (W2 : World), Below wr.heap.size wr W2 → d.over = true → HMB w0 w (W2.setCell ⟨hb, 4, none⟩ (.slice (some ⟨g, if k = 0 then o else o + 1, none⟩) r.length k)) B V s S hb { x with l := r.map Prod.snd } r ∧ (r.map Prod.snd).dropWhile Dg.over = x.l.dropWhile Dg.over ∧ dolen hb (W2.setCell ⟨hb, 4, none⟩ (.slice (some ⟨g, if k = 0 then o else o + 1, none⟩) r.length k)) < dolen hb wr := fun W2 hb2 ho => by
        have hm2 := HM.out.below hb2
        have hnd := hm2.hp.nd
        simp only [List.map_cons, List.nodup_cons] at hnd
        have h3 := hm2.setl (HPOP.out.of (fun gg cur hg => (hb2.block _ (Array.getElem?_eq_some_iff.1 hg).1).trans hg)) (fun q hq => hm2.hp.dos q (List.mem_cons_of_mem _ hq)) hnd.2 (fun q hq => hm2.owns q (List.mem_cons_of_mem _ hq))
        refine ⟨h3, ?_, ?_⟩
        · rw [← HD.out, List.map_cons, List.dropWhile_cons_of_pos ho]
        · obtain ⟨cs, bk⟩ := hm2.hp.blk
          obtain ⟨vw2, vd2, g12, -, -⟩ := hm2.hp.ex
          have := hcell (setCell_same g12 4 (.slice (some ⟨g, if k = 0 then o else o + 1, none⟩) r.length k)) 4
          have e2 : (W2.setCell ⟨hb, 4, none⟩ (.slice (some ⟨g, if k = 0 then o else o + 1, none⟩) r.length k)).cell? ⟨hb, 4, none⟩ = some (.slice (some ⟨g, if k = 0 then o else o + 1, none⟩) r.length k) := this
          have e3 : dolen hb (W2.setCell ⟨hb, 4, none⟩ (.slice (some ⟨g, if k = 0 then o else o + 1, none⟩) r.length k)) = r.length := by unfold dolen; rw [e2]
          rw [e3, HDL.out]; omega
      have HREL := Lib.hid hrel2
      have hal : ∀ (W2 : World), Below wr.heap.size wr W2 → W2.cell? ⟨hb, 4, none⟩ = some (.slice (some ⟨g, o, none⟩) (r.length + 1) (k + 1)) ∧ ∀ o, W2.frozen? ⟨hb, o, none⟩ = false := fun W2 hb2 => by
        have hm2 := HM.out.below hb2
        exact ⟨(hb2.cell (World.block_lt_of_cell? _ _ c4)).trans c4, hm2.hp.f⟩
      have HAL := Lib.hid hal
      clear hfin hrel2 hal
      cases d with
      | mark xs =>
        have ho2 := dgover_mark hda
        rw [← hov] at ho2
        have HOV := Lib.hid hov
        have hc2 : wr.cell? ⟨g, o, none⟩ = some (.iface 350 (.pointer (some ⟨b, 0, none⟩))) := hc
        clear hda hov hc HM HPOP HD
        go_upto_if 15 with (go_at_call 280; refine ho2.mono ?_; intro e w2 hh; obtain ⟨hh1, b2⟩ := hh; subst hh1; have B2 := Lib.hid b2; clear b2 ho2 c4 ff)
        obtain ⟨c4, ff⟩ := HAL.out _ B2.out
        cases ov
        · obtain ⟨n, hn⟩ : ∃ n, n = r.length + 1 := ⟨_, rfl⟩
          have hn0 : ((n : Int) == 0) = false := beq_eq_false_iff_ne.2 (by omega)
          have hn1 : (n == 0) = false := beq_eq_false_iff_ne.2 (by omega)
          rw [← hn] at c4
          clear hz0 hn hkm2 HREL HAL
          go_wp2
          rw [Exit.noGoto_normal]
          go_end0
          exact ⟨rfl, HFIN.out _ B2.out HOV.out.symm⟩
        · have hr := HREL.out _ B2.out HOV.out.symm
          have HR := Lib.hid hr
          clear hr HREL HFIN HAL hz0 HOV HRK HDL
          rcases Nat.eq_zero_or_pos k with hk0 | hk0
          · subst hk0
            go_wp2
            go_roundw
            case rel => exact ⟨r, HR.out.1, HR.out.2.1⟩
            case measure => exact HR.out.2.2
          · have hk1 : ¬ k = 0 := by omega
            rw [if_neg hk1] at HR
            clear hkm2
            go_wp2
            go_roundw
            case rel => exact ⟨r, HR.out.1, HR.out.2.1⟩
            case measure => exact HR.out.2.2
      | out σ =>
        have ho2 := dgover_out hda
        rw [← hov] at ho2
        have HOV := Lib.hid hov
        have hc2 : wr.cell? ⟨g, o, none⟩ = some (.iface 353 (.pointer (some ⟨b, 0, none⟩))) := hc
        clear hda hov hc HM HPOP HD
        go_upto_if 15 with (go_at_call 287; refine ho2.mono ?_; intro e w2 hh; obtain ⟨hh1, b2⟩ := hh; subst hh1; have B2 := Lib.hid b2; clear b2 ho2 c4 ff)
        obtain ⟨c4, ff⟩ := HAL.out _ B2.out
        cases ov
        · obtain ⟨n, hn⟩ : ∃ n, n = r.length + 1 := ⟨_, rfl⟩
          have hn0 : ((n : Int) == 0) = false := beq_eq_false_iff_ne.2 (by omega)
          have hn1 : (n == 0) = false := beq_eq_false_iff_ne.2 (by omega)
          rw [← hn] at c4
          clear hz0 hn hkm2 HREL HAL
          go_wp2
          rw [Exit.noGoto_normal]
          go_end0
          exact ⟨rfl, HFIN.out _ B2.out HOV.out.symm⟩
        · have hr := HREL.out _ B2.out HOV.out.symm
          have HR := Lib.hid hr
          clear hr HREL HFIN HAL hz0 HOV HRK HDL
          rcases Nat.eq_zero_or_pos k with hk0 | hk0
          · subst hk0
            go_wp2
            go_roundw
            case rel => exact ⟨r, HR.out.1, HR.out.2.1⟩
            case measure => exact HR.out.2.2
          · have hk1 : ¬ k = 0 := by omega
            rw [if_neg hk1] at HR
            clear hkm2
            go_wp2
            go_roundw
            case rel => exact ⟨r, HR.out.1, HR.out.2.1⟩
            case measure => exact HR.out.2.2
      | put σ gg rr =>
        have ho2 := dgover_put hda
        rw [← hov] at ho2
        have HOV := Lib.hid hov
        have hc2 : wr.cell? ⟨g, o, none⟩ = some (.iface 181 (.pointer (some ⟨b, 0, none⟩))) := hc
        clear hda hov hc HM HPOP HD
        go_upto_if 15 with (go_at_call 271; refine ho2.mono ?_; intro e w2 hh; obtain ⟨hh1, b2⟩ := hh; subst hh1; have B2 := Lib.hid b2; clear b2 ho2 c4 ff)
        obtain ⟨c4, ff⟩ := HAL.out _ B2.out
        cases ov
        · obtain ⟨n, hn⟩ : ∃ n, n = r.length + 1 := ⟨_, rfl⟩
          have hn0 : ((n : Int) == 0) = false := beq_eq_false_iff_ne.2 (by omega)
          have hn1 : (n == 0) = false := beq_eq_false_iff_ne.2 (by omega)
          rw [← hn] at c4
          clear hz0 hn hkm2 HREL HAL
          go_wp2
          rw [Exit.noGoto_normal]
          go_end0
          exact ⟨rfl, HFIN.out _ B2.out HOV.out.symm⟩
        · have hr := HREL.out _ B2.out HOV.out.symm
          have HR := Lib.hid hr
          clear hr HREL HFIN HAL hz0 HOV HRK HDL
          rcases Nat.eq_zero_or_pos k with hk0 | hk0
          · subst hk0
            go_wp2
            go_roundw
            case rel => exact ⟨r, HR.out.1, HR.out.2.1⟩
            case measure => exact HR.out.2.2
          · have hk1 : ¬ k = 0 := by omega
            rw [if_neg hk1] at HR
            clear hkm2
            go_wp2
            go_roundw
            case rel => exact ⟨r, HR.out.1, HR.out.2.1⟩
            case measure => exact HR.out.2.2
end Go.Proofs.YtmakjfeepmiggaaGreat