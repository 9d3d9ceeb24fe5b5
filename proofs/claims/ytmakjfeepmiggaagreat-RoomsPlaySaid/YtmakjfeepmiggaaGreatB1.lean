/-
  Texts of this prover, merged: Lib, MapPtr, RefPure, Keeps, Ref05, Region, Atomic, Ref05Acc, Cells, CellsAcc, CellsOps, CellsNew, CellsWords0, CellsOwn, Fnv, Places, PlacesMay, Conf, Items, WorldNew, World, Epoch, WorldDo, WorldLives, Ver, Stripes.
-/
import Derived.Test.YtmakjfeepmiggaaGreatRows
import Derived.WalkKit
import Derived.WalkSpells
import Derived.WalkLawsBesides
import Derived.Handy
import Derived.Lib.Hide
import Derived.Deep.QuietTactic
import Derived.BigQuiet
import Derived.Maps.OwnSet
import Derived.Maps.Views
import Derived.StillTail
import Derived.Deep.RegionWith
import Derived.Maps.RangeWalk
import Derived.Deep.AppendLies
namespace Go.Proofs.YtmakjfeepmiggaaGreat
open Go.RowKit
set_option linter.unusedVariables false
theorem ret_u64 {a b : Int} (h : a = b) : Ending.returned (.int .u64 a) = .returned (.int .u64 b) := by rw [h]
theorem ret_i64 {a b : Int} (h : a = b) : Ending.returned (.int .i64 a) = .returned (.int .i64 b) := by rw [h]
theorem below_drewN (w : World) (n : Nat) : Below w.heap.size w (w.drewN n) := ⟨rfl, rfl, rfl, Nat.le_refl _, fun _ _ => rfl⟩
def Lst (w : World) (base : Nat) (v : Value) (n : Nat) (xs : List Value) : Prop :=
  (v = .slice none 0 0 ∧ n = 0 ∧ xs = []) ∨
  ∃ g off cap cur e, v = .slice (some ⟨g, off, none⟩) n cap ∧ base ≤ g ∧ w.heap[g]? = some (.cells cur e (0, 0)) ∧ n ≤ cap ∧ cap ≤ maxLen ∧ (cur.toList.drop off).take xs.length = xs
theorem Lst.of_own {w : World} {base e size : Nat} {v : Value} {n : Nat} {xs : List Value} (h : w.ownsRow base e size v n xs) : Lst w base v n xs := by
  obtain ⟨h1, ⟨rfl, rfl⟩ | ⟨g, cap, cur, rfl, hb, hg, hn, hm, hs, ht⟩⟩ := h
  · exact .inl ⟨rfl, rfl, by simpa using h1⟩
  · exact .inr ⟨g, 0, cap, cur, e, rfl, hb, hg, hn, hm, by rw [h1]; simpa using ht⟩
theorem Lst.mono {w : World} {base base' : Nat} {v : Value} {n : Nat} {xs : List Value} (h : Lst w base v n xs) (hb : base' ≤ base) : Lst w base' v n xs := by
  rcases h with h | ⟨g, off, cap, cur, e, h1, h2, h3⟩
  · exact .inl h
  · exact .inr ⟨g, off, cap, cur, e, h1, by omega, h3⟩
theorem Lst.keep {w w' : World} {base : Nat} {v : Value} {n : Nat} {xs : List Value} (h : Lst w base v n xs) (hk : ∀ k, v.ownBlock = some k → w'.heap[k]? = w.heap[k]?) : Lst w' base v n xs := by
  rcases h with h | ⟨g, off, cap, cur, e, rfl, h2, h3, h4⟩
  · exact .inl h
  · exact .inr ⟨g, off, cap, cur, e, rfl, h2, by rw [hk g (by simp [Value.ownBlock])]; exact h3, h4⟩
theorem Lst.lt {w : World} {base : Nat} {v : Value} {n : Nat} {xs : List Value} (h : Lst w base v n xs) : ∀ k, v.ownBlock = some k → base ≤ k ∧ k < w.heap.size := by
  intro k hk
  rcases h with ⟨rfl, _⟩ | ⟨g, off, cap, cur, e, rfl, h2, h3, h4⟩
  · simp [Value.ownBlock] at hk
  · simp [Value.ownBlock] at hk
    subst hk
    exact ⟨h2, (Array.getElem?_eq_some_iff.1 h3).1⟩
theorem Lst.below {w w' : World} {B base : Nat} {v : Value} {n : Nat} {xs : List Value} (h : Lst w base v n xs) (hb : Below B w w') (hB : w.heap.size ≤ B) : Lst w' base v n xs :=
  h.keep fun k hk => hb.block k (by have := (h.lt k hk).2; omega)
theorem Lst.drop {w : World} {base : Nat} {v : Value} {n : Nat} {xs : List Value} (h : Lst w base v n xs) : n ≤ maxLen := by
  rcases h with ⟨_, rfl, _⟩ | ⟨g, off, cap, cur, e, h1, h2, h3, h4, h5, h6⟩
  · exact Nat.zero_le _
  · omega
def Rd (w : World) (v : Value) (n : Nat) (xs : List Value) : Prop :=
  ∃ a cap, v = .slice a n cap ∧ n ≤ cap ∧ cap ≤ maxLen ∧ (a = none → cap = 0) ∧ (xs = [] ∨ ∃ b off, a = some ⟨b, off, none⟩ ∧ ∀ i, i < xs.length → w.cell? ⟨b, off + i, none⟩ = xs[i]?)
theorem Lst.rd {w : World} {base : Nat} {v : Value} {n : Nat} {xs : List Value} (h : Lst w base v n xs) : Rd w v n xs := by
  rcases h with ⟨rfl, rfl, rfl⟩ | ⟨g, off, cap, cur, e, rfl, h2, h3, h4, h5, h6⟩
  · exact ⟨none, 0, rfl, Nat.le_refl _, Nat.zero_le _, fun _ => rfl, .inl rfl⟩
  · refine ⟨_, cap, rfl, h4, h5, fun h => by simp at h, .inr ⟨g, off, rfl, fun i hi => ?_⟩⟩
    have : xs[i]? = ((cur.toList.drop off).take xs.length)[i]? := by rw [h6]
    rw [this, List.getElem?_take, if_pos hi, List.getElem?_drop]
    simp [World.cell?, h3]
structure ExtW (w : World) where
  val : World
  below : Below w.heap.size w val
instance instExtW (w : World) : Nonempty (ExtW w) := ⟨⟨w, Below.refl _ _⟩⟩
theorem wp_region_ext {P : Program} {id : Nat} {Q : Exit → Act → World → Prop} {a : Act} {w : World} {l : List Oper} (hm : P.follows .mixedOrders = true) (hB : Region.lexB .any l.toArray = true)
    (h : wpQuiet P l.toArray (fun W => ∃ s : ExtW w, W = s.val) (fun a' => ∀ W, (∃ s : ExtW w, W = s.val) → Q .normal a' W) l a) : (Code.region id l.toArray true).wp P Q a w :=
  wp_region_quiet (C := fun W => ∃ s : ExtW w, W = s.val) hm hB ⟨⟨_, (Below.refl _ _).drew⟩, rfl⟩ (by simpa using h)
theorem calls_ext {P : Program} {f : FuncId} {args : Array Value} {w : World} {s : ExtW w} {v : Value}
    (h : Calls P f args s.val fun e w' => e = .returned v ∧ Below s.val.heap.size s.val w') : Calls P f args s.val fun e W => e = .returned v ∧ ∃ s' : ExtW w, W = s'.val :=
  h.mono fun _ _ ⟨he, hb⟩ => ⟨he, ⟨_, s.below.trans (hb.mono s.below.size)⟩, rfl⟩
theorem calls_ext_same {P : Program} {f : FuncId} {args : Array Value} {w : World} {s : ExtW w} {v : Value}
    (h : Calls P f args s.val fun e w' => e = .returned v ∧ s.val = w') : Calls P f args s.val fun e W => e = .returned v ∧ ∃ s' : ExtW w, W = s'.val :=
  h.mono fun _ _ ⟨he, hb⟩ => ⟨he, s, hb.symm⟩
theorem ExtW.cell {w : World} (s : ExtW w) {b o : Nat} {v : Value} (h : w.cell? ⟨b, o, none⟩ = some v) : s.val.cell? ⟨b, o, none⟩ = some v :=
  (s.below.cell (World.block_lt_of_cell? _ _ h)).trans h
theorem run_index_ints {P : Program} {T E n : Nat} {ik : IntKind} (hT : P.underlying T = some (.array n E)) (hE : P.underlying E = some (.int ik)) (hs : (P.info? E).map (·.size) = some 1)
    (xs : List Value) (hx : xs.length = n) (k : IntKind) (i : Nat) (hi : i < n) (w : World) :
    (Instr.index T (.agg xs.toArray) (.int k i)).run P w = .ok (xs.getD i undef) w := by
  obtain ⟨inf, h1, h2⟩ : ∃ inf, P.info? E = some inf ∧ inf.size = 1 := by
    cases h : P.info? E with
    | none => simp [h] at hs
    | some inf => exact ⟨inf, rfl, by simpa [h] using hs⟩
  have hi' : i < xs.length := by omega
  have e : xs[i]? = some xs[i] := List.getElem?_eq_getElem hi'
  rw [List.getD_eq_getElem?_getD, e]
  simp [Instr.index, run_underlying hT, run_underlying hE, isAgg, sizeOf, typeInfo, h1, h2, part, hi, asIntOf, e]
end Go.Proofs.YtmakjfeepmiggaaGreat
namespace Go.Proofs.YtmakjfeepmiggaaGreat
open Go.RowKit Go.Maps
set_option linter.unusedVariables false
def upd {α : Type} (f : Int → α) (a : Int) (v : α) : Int → α := fun x => if x = a then v else f x
theorem upd_same {α : Type} (f : Int → α) (a : Int) (v : α) : upd f a v a = v := by simp [upd]
theorem upd_other {α : Type} (f : Int → α) {a x : Int} (h : x ≠ a) (v : α) : upd f a v x = f x := by simp [upd, h]
def kA (a : Int) : Lit := .int .u64 a
def pD : Option Nat → DataW Unit
  | none => .lit (.int .i64 (-1))
  | some p => .lit (.int .i64 p)
def ptrV (o : Option Nat) : Value := .pointer (o.map fun p => ⟨p, 0, none⟩)
def ptrR (v : Value) : Option (DataW Unit × List MemPlace) :=
  match v with
  | .pointer none => some (pD none, [])
  | .pointer (some a) => if a.off = 0 ∧ a.spot = none then some (pD (some a.block), []) else none
  | _ => none
theorem ptrR_mk (o : Option Nat) : ptrR (ptrV o) = some (pD o, []) := by cases o <;> simp [ptrR, ptrV]
theorem ptrR_inv {v : Value} {z : DataW Unit × List MemPlace} (h : ptrR v = some z) : ∃ o, v = ptrV o ∧ z = (pD o, []) := by
  unfold ptrR at h
  split at h
  · cases h; exact ⟨none, rfl, rfl⟩
  · rename_i a
    split at h
    · rename_i hc
      cases h
      obtain ⟨b, o, s⟩ := a
      obtain ⟨h1, h2⟩ := hc
      simp only at h1 h2
      subst h1; subst h2
      exact ⟨some b, rfl, rfl⟩
    · cases h
  · cases h
theorem pD_inj {o o' : Option Nat} (h : pD o = pD o') : o = o' := by
  cases o <;> cases o' <;> simp [pD] at h ⊢ <;> omega
theorem kA_key (a : Int) : WideAt.IsKeyLit (kA a) := trivial
def MapP (w : World) (m n : Nat) (f : Int → Option Nat) : Prop :=
  ∃ D, w.ownsMap Tryz.prog 39 ptrR m n D ∧ (∀ a, D.atKey (kA a) (pD none) = pD (f a)) ∧ ∀ a, Maps.has D (kA a) = (f a).isSome
theorem addr_keyed : Keyed Tryz.prog 39 := int_keyed Tryz.underlying39
theorem addr_key {a : Int} (ha : (Lit.int .u64 a).wf = true) : keyOf Tryz.prog 39 (.int .u64 a) = some (kA a) := keyOf_int_mk Tryz.underlying39 ha
theorem zero_ptr (w : World) : (zeroValue 233).run Tryz.prog w = .ok (.pointer none) w := by kernel_rfl
theorem MapP.lt {w : World} {m n : Nat} {f : Int → Option Nat} (h : MapP w m n f) : m < w.heap.size := by obtain ⟨D, h, _⟩ := h; exact h.lt
theorem MapP.keep {w w' : World} {m n : Nat} {f : Int → Option Nat} (h : MapP w m n f) (hk : w'.heap[m]? = w.heap[m]?) : MapP w' m n f := by
  obtain ⟨D, ⟨es, clock, hb, r⟩, hf⟩ := h
  exact ⟨D, ⟨es, clock, hk.trans hb, r⟩, hf⟩
theorem MapP.mono {w : World} {m n n' : Nat} {f : Int → Option Nat} (h : MapP w m n f) (hn : n ≤ n') : MapP w m n' f := by
  obtain ⟨D, h, hf⟩ := h
  exact ⟨D, h.mono hn, hf⟩
theorem MapP.made (w : World) : MapP (w.alloc (.map #[] 0)) w.heap.size 0 fun _ => none :=
  ⟨.map [], World.ownsMap_made w _ _ _, fun a => rfl, fun a => rfl⟩
theorem MapP.look {w : World} {m n : Nat} {f : Int → Option Nat} (h : MapP w m n f) {a : Int} (ha : (Lit.int .u64 a).wf = true) :
    (Instr.lookup 237 (.map (some m)) (.int .u64 a) false).run Tryz.prog w = .ok (ptrV (f a)) w := by
  obtain ⟨D, h, hf, _⟩ := h
  obtain ⟨v, ps, hr, hv⟩ := h.lookup addr_keyed Tryz.underlying237 (zero_ptr w) (ptrR_mk none) (addr_key ha)
  obtain ⟨o, rfl, ho⟩ := ptrR_inv hv
  have : pD o = pD (f a) := by
    have h1 := congrArg Prod.fst ho
    simp only at h1
    rw [← h1]; exact hf a
  rw [pD_inj this] at hr
  exact hr
theorem look_none (w : World) {a : Int} (ha : (Lit.int .u64 a).wf = true) :
    (Instr.lookup 237 (.map none) (.int .u64 a) false).run Tryz.prog w = .ok (.pointer none) w := by
  have := Maps.look_nil (w := w) false addr_keyed Tryz.underlying237 (zero_ptr w) (addr_key ha)
  simpa using this
theorem MapP.put {w : World} {m n : Nat} {f : Int → Option Nat} (h : MapP w m n f) {a : Int} (ha : (Lit.int .u64 a).wf = true) (p : Nat) (hn : n < maxLen) :
    ∃ w', (Instr.mapUpdate 237 (.map (some m)) (.int .u64 a) (.pointer (some ⟨p, 0, none⟩))).run Tryz.prog w = .ok () w' ∧
      MapP w' m (n + 1) (upd f a (some p)) ∧ w.grownBy w' (some m) := by
  obtain ⟨D, h, hf, hh⟩ := h
  obtain ⟨w', hr, ho, hg⟩ := h.update addr_keyed Tryz.underlying237 hn (addr_key ha) (ptrR_mk (some p))
  refine ⟨w', hr, ⟨_, ho, fun x => ?_, fun x => ?_⟩, hg⟩
  · by_cases hx : x = a
    · subst hx
      simp [upd, atKey_put_same h.isMap (kA_key x)]
    · have hne : kA x ≠ kA a := fun c => hx (by simpa [kA] using c)
      rw [atKey_put_other hne]; simpa [upd, hx] using hf x
  · by_cases hx : x = a
    · subst hx
      simp [upd, has_put_same h.isMap (kA_key x)]
    · have hne : kA x ≠ kA a := fun c => hx (by simpa [kA] using c)
      rw [has_put_other hne]; simpa [upd, hx] using hh x
theorem wpList_put {w : World} {ops : Array Oper} {rest : List Oper} {o : Oper} {a : Act} {Q : Exit → Act → World → Prop} (hg : o.guard = none) (m x v : Operand) (hop : o.op = Op.mapUpdate 237 m x v)
    (b n : Nat) (f : Int → Option Nat) (hm : a.eval m = .map (some b)) (hM : MapP w b n f) (hn : n < maxLen) (k : Int) (p : Nat) (hx : a.eval x = .int .u64 k) (hv : a.eval v = .pointer (some ⟨p, 0, none⟩)) (hk : (Lit.int .u64 k).wf = true)
    (hK : ∀ w', MapP w' b (n + 1) (upd f k (some p)) → w.grownBy w' (some b) → wpList Tryz.prog ops Q rest (a.put o.dst undef) w') :
    wpList Tryz.prog ops Q (o :: rest) a w := by
  refine wpList_plain hg fun K' hK' => ?_
  obtain ⟨w', hrun, r1, r2⟩ := hM.put hk p hn
  unfold Oper.wp
  simp [execOp, hop, hm, hx, hv, hrun, Result.andThen]
  exact hK' _ _ (hK w' r1 r2)
end Go.Proofs.YtmakjfeepmiggaaGreat
namespace Go.Proofs.YtmakjfeepmiggaaGreat
open Go.RowKit
set_option linter.unusedVariables false
def rstep (a v : Int) (o : List (Int × Int) × Bool) (p : Int × Int) : List (Int × Int) × Bool :=
  let o1 := if (!o.2 && decide (a ≤ p.1)) = true then (o.1 ++ [(a, v)], true) else o
  if (p.1 != a) = true then (o1.1 ++ [p], o1.2) else o1
def rrun (l : List (Int × Int)) (a v : Int) : List (Int × Int) × Bool := l.foldl (rstep a v) ([], v == 0)
def rput (l : List (Int × Int)) (a v : Int) : List (Int × Int) := if (!(rrun l a v).2) = true then (rrun l a v).1 ++ [(a, v)] else (rrun l a v).1
def rlook (l : List (Int × Int)) (a : Int) : Int := match l with
  | [] => 0
  | p :: r => if p.1 = a then p.2 else rlook r a
theorem rrun_take {l : List (Int × Int)} {k : Nat} {p : Int × Int} (a v : Int) (h : l[k]? = some p) : rrun (l.take (k + 1)) a v = rstep a v (rrun (l.take k) a v) p := by
  unfold rrun; rw [List.take_add_one, h, List.foldl_append]; rfl
theorem rstep_len (a v : Int) (o : List (Int × Int) × Bool) (p : Int × Int) : (rstep a v o p).1.length ≤ o.1.length + 2 := by
  unfold rstep; simp only; split <;> split <;> simp
theorem rrun_len (l : List (Int × Int)) (a v : Int) : (rrun l a v).1.length ≤ 2 * l.length := by
  have key : ∀ (l : List (Int × Int)) (o : List (Int × Int) × Bool), (l.foldl (rstep a v) o).1.length ≤ o.1.length + 2 * l.length := by
    intro l
    induction l with
    | nil => intro o; simp
    | cons p l ih => intro o; have h1 := ih (rstep a v o p); have h2 := rstep_len a v o p; simp only [List.foldl_cons, List.length_cons]; omega
  have := key l ([], v == 0)
  simpa [rrun] using this
def Ris (l : List (Int × Int)) : Prop := l.Pairwise fun p q => p.1 < q.1
def rins (l : List (Int × Int)) (a v : Int) : List (Int × Int) := match l with
  | [] => if v = 0 then [] else [(a, v)]
  | p :: r => if p.1 < a then p :: rins r a v else if p.1 = a then (if v = 0 then r else (a, v) :: r) else (if v = 0 then p :: r else (a, v) :: p :: r)
theorem rdone {l : List (Int × Int)} {a v : Int} (h : ∀ q ∈ l, q.1 ≠ a) (o : List (Int × Int)) : l.foldl (rstep a v) (o, true) = (o ++ l, true) := by
  induction l generalizing o with
  | nil => simp
  | cons p r ih =>
    have hp : (p.1 != a) = true := bne_iff_ne.2 (h p (by simp))
    have : rstep a v (o, true) p = (o ++ [p], true) := by simp [rstep, hp]
    rw [List.foldl_cons, this, ih (fun q hq => h q (by simp [hq]))]
    simp
theorem rput_ins {l : List (Int × Int)} (hr : Ris l) (a v : Int) : rput l a v = rins l a v := by
  have key : ∀ (l : List (Int × Int)), Ris l → ∀ (o : List (Int × Int)), (∀ q ∈ o, q.1 < a) →
      (let s := l.foldl (rstep a v) (o, v == 0); if (!s.2) = true then s.1 ++ [(a, v)] else s.1) = o ++ rins l a v := by
    intro l
    induction l with
    | nil =>
      intro _ o _
      by_cases hv : v = 0
      · subst hv; simp [rins]
      · simp [rins, hv]
    | cons p r ih =>
      intro hr o ho
      have hr2 := List.pairwise_cons.1 hr
      by_cases h1 : p.1 < a
      · have e : rstep a v (o, v == 0) p = (o ++ [p], v == 0) := by
          have : ¬ a ≤ p.1 := by omega
          have h3 : p.1 ≠ a := by omega
          simp [rstep, this, h3]
        have := ih hr2.2 (o ++ [p]) (fun q hq => by
          rcases List.mem_append.1 hq with hq | hq
          · exact ho q hq
          · simp only [List.mem_singleton] at hq; subst hq; exact h1)
        simp only [List.foldl_cons, e]
        simp only [rins, if_pos h1]
        simpa using this
      · have h2 : a ≤ p.1 := by omega
        have hgt : ∀ q ∈ r, q.1 ≠ a := fun q hq => by have := hr2.1 q hq; omega
        by_cases hv : v = 0
        · subst hv
          by_cases h3 : p.1 = a
          · have e : rstep a 0 (o, (0 : Int) == 0) p = (o, true) := by simp [rstep, h3]
            simp only [List.foldl_cons, e, rdone hgt]
            simp [rins, h3]
          · have e : rstep a 0 (o, (0 : Int) == 0) p = (o ++ [p], true) := by simp [rstep, h3]
            simp only [List.foldl_cons, e, rdone hgt]
            simp [rins, h3, h1]
        · have hv2 : (v == 0) = false := beq_eq_false_iff_ne.2 hv
          by_cases h3 : p.1 = a
          · have e : rstep a v (o, v == 0) p = (o ++ [(a, v)], true) := by simp [rstep, h3, hv]
            simp only [List.foldl_cons, e, rdone hgt]
            simp [rins, h3, hv]
          · have e : rstep a v (o, v == 0) p = (o ++ [(a, v)] ++ [p], true) := by simp [rstep, h3, h2, hv]
            simp only [List.foldl_cons, e, rdone hgt]
            simp [rins, h3, h1, hv]
  have := key l hr [] (by simp)
  simpa [rput, rrun] using this
theorem rins_mem {l : List (Int × Int)} {a v : Int} {q : Int × Int} (h : q ∈ rins l a v) : q ∈ l ∨ (q = (a, v) ∧ v ≠ 0) := by
  induction l with
  | nil => unfold rins at h; split at h <;> simp_all
  | cons p r ih =>
    unfold rins at h
    split at h
    · rcases List.mem_cons.1 h with h | h
      · exact .inl (by simp [h])
      · exact (ih h).imp (fun h => by simp [h]) id
    · split at h
      · split at h
        · exact .inl (by simp [h])
        · rename_i hv
          rcases List.mem_cons.1 h with h | h
          · exact .inr ⟨h, hv⟩
          · exact .inl (by simp [h])
      · split at h
        · exact .inl h
        · rename_i hv
          rcases List.mem_cons.1 h with h | h
          · exact .inr ⟨h, hv⟩
          · exact .inl h
theorem rins_ris {l : List (Int × Int)} (hr : Ris l) (a v : Int) : Ris (rins l a v) := by
  induction l with
  | nil => unfold rins; split <;> simp [Ris]
  | cons p r ih =>
    have hr2 := List.pairwise_cons.1 hr
    unfold rins
    split
    · rename_i h1
      refine List.pairwise_cons.2 ⟨fun q hq => ?_, ih hr2.2⟩
      rcases rins_mem hq with hq | ⟨rfl, _⟩
      · exact hr2.1 q hq
      · exact h1
    · split
      · rename_i h1 h2
        split
        · exact hr2.2
        · refine List.pairwise_cons.2 ⟨fun q hq => ?_, hr2.2⟩
          have := hr2.1 q hq
          show a < q.1
          omega
      · rename_i h1 h2
        split
        · exact hr
        · refine List.pairwise_cons.2 ⟨fun q hq => ?_, hr⟩
          show a < q.1
          rcases List.mem_cons.1 hq with rfl | hq
          · omega
          · have := hr2.1 q hq; omega
theorem rlook_out {l : List (Int × Int)} {a : Int} (h : ∀ q ∈ l, q.1 ≠ a) : rlook l a = 0 := by
  induction l with
  | nil => rfl
  | cons p r ih => unfold rlook; rw [if_neg (h p (by simp))]; exact ih fun q hq => h q (by simp [hq])
theorem rlook_ins {l : List (Int × Int)} (hr : Ris l) (a v : Int) : rlook (rins l a v) = upd (rlook l) a v := by
  induction l with
  | nil =>
    funext x
    unfold rins upd
    by_cases hv : v = 0
    · subst hv; simp [rlook]
    · by_cases hx : x = a
      · subst hx; simp [hv, rlook]
      · simp [hv, rlook, hx, Ne.symm hx]
  | cons p r ih =>
    have hr2 := List.pairwise_cons.1 hr
    have hi := ih hr2.2
    funext x
    have hix := congrFun hi x
    unfold rins
    by_cases h1 : p.1 < a
    · rw [if_pos h1]
      unfold rlook
      rw [hix]
      unfold upd
      by_cases hx : x = a
      · subst hx; simp; intro h; omega
      · simp [hx]
        rw [show rlook (p :: r) x = if p.1 = x then p.2 else rlook r x from rfl]
    · rw [if_neg h1]
      have hgt : ∀ q ∈ r, q.1 ≠ a := fun q hq => by have := hr2.1 q hq; omega
      by_cases h2 : p.1 = a
      · rw [if_pos h2]
        unfold upd
        by_cases hv : v = 0
        · subst hv
          rw [if_pos rfl]
          by_cases hx : x = a
          · subst hx; rw [rlook_out hgt]; simp
          · rw [show rlook (p :: r) x = if p.1 = x then p.2 else rlook r x from rfl]
            simp [hx, h2, Ne.symm hx]
        · rw [if_neg hv]
          rw [show rlook ((a, v) :: r) x = if a = x then v else rlook r x from rfl, show rlook (p :: r) x = if p.1 = x then p.2 else rlook r x from rfl]
          by_cases hx : x = a
          · subst hx; simp
          · simp [hx, h2, Ne.symm hx]
      · rw [if_neg h2]
        unfold upd
        by_cases hv : v = 0
        · subst hv
          rw [if_pos rfl]
          by_cases hx : x = a
          · subst hx
            rw [rlook_out (l := p :: r) (fun q hq => by
              rcases List.mem_cons.1 hq with rfl | hq
              · exact h2
              · exact hgt q hq)]; simp
          · simp [hx]
        · rw [if_neg hv]
          rw [show rlook ((a, v) :: p :: r) x = if a = x then v else rlook (p :: r) x from rfl]
          by_cases hx : x = a
          · subst hx; simp
          · simp [hx, Ne.symm hx]
end Go.Proofs.YtmakjfeepmiggaaGreat
namespace Go.Proofs.YtmakjfeepmiggaaGreat
open Go.RowKit
set_option linter.unusedVariables false
structure Keeps (S : Nat → Prop) (w w' : World) : Prop where
  os : w'.os = w.os
  tape : w'.tape = w.tape
  output : w'.output = w.output
  size : w.heap.size ≤ w'.heap.size
  block : ∀ k, k < w.heap.size → ¬ S k → w'.heap[k]? = w.heap[k]?
theorem Keeps.trans {S T : Nat → Prop} {a b c : World} (h : Keeps S a b) (k : Keeps T b c) : Keeps (fun x => S x ∨ T x) a c :=
  ⟨k.os.trans h.os, k.tape.trans h.tape, k.output.trans h.output, Nat.le_trans h.size k.size, fun i hi hn => (k.block i (Nat.lt_of_lt_of_le hi h.size) (fun c => hn (.inr c))).trans (h.block i hi (fun c => hn (.inl c)))⟩
theorem Keeps.mono {S T : Nat → Prop} {a b : World} (h : Keeps S a b) (hs : ∀ k, k < a.heap.size → S k → T k) : Keeps T a b :=
  ⟨h.os, h.tape, h.output, h.size, fun k hk hn => h.block k hk (fun c => hn (hs k hk c))⟩
theorem below_keeps {w w' : World} (h : Below w.heap.size w w') (S : Nat → Prop) : Keeps S w w' := ⟨h.os, h.tape, h.output, h.size, fun k hk _ => h.block k hk⟩
theorem keeps_below {S : Nat → Prop} {B : Nat} {w0 w w' : World} (h : Keeps S w w') (hb : Below B w0 w) (hB : B ≤ w.heap.size) (hs : ∀ k, S k → B ≤ k) : Below B w0 w' :=
  hb.trans ⟨h.os, h.tape, h.output, h.size, fun k hk => h.block k (by omega) (fun c => by have := hs k c; omega)⟩
theorem setCell_same {w : World} {p T : Nat} {cs : Array Value} (h : w.heap[p]? = some (.cells cs T (0, 0))) (o : Nat) (v : Value) :
    (w.setCell ⟨p, o, none⟩ v).heap[p]? = some (.cells (cs.setIfInBounds o v) T (0, 0)) := by simp [World.setCell, Array.getElem?_modify, h]
theorem setCell_keeps (w : World) (p o : Nat) (v : Value) : Keeps (· = p) w (w.setCell ⟨p, o, none⟩ v) :=
  ⟨rfl, rfl, rfl, by simp [World.setCell], fun k hk hn => Below.heap_setCell _ _ _ _ hn⟩
theorem Keeps.again {S : Nat → Prop} {a b c : World} (h : Keeps S a b) (k : Keeps S b c) : Keeps S a c :=
  (h.trans k).mono fun x _ hx => hx.elim id id
end Go.Proofs.YtmakjfeepmiggaaGreat
namespace Go.Proofs.YtmakjfeepmiggaaGreat
open Go.RowKit
set_option linter.unusedVariables false
structure RS where
  l : List (Int × Int)
  cnt : Nat
  kind : Int
  addr : Int
  was : Int
  is : Int
def flat2 (l : List (Int × Int)) : List Value := l.flatMap fun p => [.int .u64 p.1, .int .u64 p.2]
theorem flat2_at (l : List (Int × Int)) (i : Nat) (hi : i < l.length) : (flat2 l)[i * 2]? = some (.int .u64 (l[i]).1) ∧ (flat2 l)[i * 2 + 1]? = some (.int .u64 (l[i]).2) := by
  induction l generalizing i with
  | nil => simp at hi
  | cons p l ih =>
    have e : flat2 (p :: l) = .int .u64 p.1 :: .int .u64 p.2 :: flat2 l := rfl
    rw [e]
    cases i with
    | zero => exact ⟨rfl, rfl⟩
    | succ i =>
      have := ih i (by simpa using hi)
      rw [show (i + 1) * 2 = i * 2 + 1 + 1 by omega]
      simpa using this
theorem flat2_snoc (l : List (Int × Int)) (a v : Int) : flat2 (l ++ [(a, v)]) = flat2 l ++ [.int .u64 a, .int .u64 v] := by simp [flat2]
def rhdr (lv : Value) (x : RS) : Array Value := #[lv, .int .i64 x.cnt, .int .u8 x.kind, .int .u64 x.addr, .int .u64 x.was, .int .u64 x.is]
structure RCells (w : World) (base r : Nat) (lv : Value) (x : RS) : Prop where
  hdr : w.heap[r]? = some (.cells (rhdr lv x) 155 (0, 0))
  lo : base ≤ r
  row : w.ownsRow base 221 2 lv x.l.length (flat2 x.l)
  wf : ∀ p ∈ x.l, (Lit.int .u64 p.1).wf = true ∧ (Lit.int .u64 p.2).wf = true
theorem RCells.form {w : World} {base r : Nat} {lv : Value} {x : RS} (h : RCells w base r lv x) : ∃ a cap, lv = .slice a x.l.length cap ∧ x.l.length ≤ maxLen ∧
    (0 < x.l.length → ∃ g, a = some ⟨g, 0, none⟩ ∧ ∀ (i : Nat) (hi : i < x.l.length), w.cell? ⟨g, i * 2, none⟩ = some (.int .u64 (x.l[i]).1) ∧ w.cell? ⟨g, i * 2 + 1, none⟩ = some (.int .u64 (x.l[i]).2)) := by
  obtain ⟨h1, ⟨rfl, h0⟩ | ⟨g, cap, cur, rfl, hb, hg, hn, hm, hs, ht⟩⟩ := h.row
  · exact ⟨none, 0, by rw [h0], by omega, fun h => by omega⟩
  · refine ⟨_, cap, rfl, by omega, fun _ => ⟨g, rfl, fun i hi => ?_⟩⟩
    obtain ⟨f0, f1⟩ := flat2_at x.l i hi
    rw [← ht, List.getElem?_take, if_pos (by omega)] at f0 f1
    simp only [Array.getElem?_toList] at f0 f1
    simp [World.cell?, hg, f0, f1]
theorem RCells.cell {w : World} {base r : Nat} {lv : Value} {x : RS} (h : RCells w base r lv x) (o : Nat) : w.cell? ⟨r, o, none⟩ = (rhdr lv x)[o]? := by
  have := h.hdr; unfold World.cell?; simp only; rw [this]; rfl
theorem rlook_drop {l : List (Int × Int)} {k : Nat} {p : Int × Int} (a : Int) (h : l[k]? = some p) : rlook (l.drop k) a = if p.1 = a then p.2 else rlook (l.drop (k + 1)) a := by
  have hk : k < l.length := (List.getElem?_eq_some_iff.1 h).1
  rw [List.drop_eq_getElem_cons hk]
  have : l[k] = p := (List.getElem?_eq_some_iff.1 h).2
  rw [this]; rfl
theorem rpeek_any (w : World) (base r : Nat) (lv : Value) (x : RS) (h : RCells w base r lv x) (a : Int) : Calls Tryz.prog 180 #[.pointer (some ⟨r, 0, none⟩), .int .u64 a] w fun e w' => e = .returned (.int .u64 (rlook x.l a)) ∧ w' = w := by
  obtain ⟨ad, cap, rfl, hm, hc⟩ := h.form
  have c0 : w.cell? ⟨r, 0, none⟩ = some (.slice ad x.l.length cap) := h.cell 0
  unfold maxLen at hm
  clear h
  go_enter Tryz.func180, Tryz.ntmps180
  go_wp2
  go_loop [5] (fun i => ∃ k : Nat, k ≤ x.l.length ∧ i = .int .i64 k ∧ rlook x.l a = rlook (x.l.drop k) a) (fun i => x.l.length - (intOf i).toNat)
  case atStart => exact ⟨0, by omega, rfl, rfl⟩
  case round =>
    obtain ⟨k, hk, rfl, hf⟩ := hrel
    by_cases hlt : k < x.l.length
    · obtain ⟨g, rfl, hcc⟩ := hc (by omega)
      obtain ⟨q0, q1⟩ := hcc k hlt
      rw [rlook_drop a (List.getElem?_eq_getElem hlt)] at hf
      generalize x.l[k] = p at *
      have hlt' : (k : Int) < x.l.length := by omega
      clear hcc hc
      by_cases hpa : p.1 = a
      · have hb : (p.1 == a) = true := beq_iff_eq.2 hpa
        rw [if_pos hpa] at hf
        have HF := Lib.hid hf
        clear hf hpa
        go_wp2
        go_ret
        exact ⟨ret_u64 HF.out.symm, rfl⟩
      · have hb : (p.1 == a) = false := beq_eq_false_iff_ne.2 hpa
        rw [if_neg hpa] at hf
        have HF := Lib.hid hf
        clear hf hpa
        go_wp2
        go_round
        case rel => exact ⟨k + 1, by omega, by go_num, HF.out⟩
        case measure => simp [intOf]; omega
    · obtain rfl : k = x.l.length := by omega
      have HF := Lib.hid hf
      clear hf hc
      go_wp2
      go_ret
      exact ⟨ret_u64 (by rw [HF.out, List.drop_length]; rfl), rfl⟩
theorem own_slice {w : World} {base e size n : Nat} {v : Value} {xs : List Value} (h : w.ownsRow base e size v n xs) : ∃ a m c, v = .slice a m c := by
  obtain ⟨h1, ⟨rfl, h0⟩ | ⟨g, cap, cur, rfl, r⟩⟩ := h
  · exact ⟨_, _, _, rfl⟩
  · exact ⟨_, _, _, rfl⟩
theorem rput_mem {l : List (Int × Int)} {a v : Int} {q : Int × Int} (h : q ∈ rput l a v) : q ∈ l ∨ q = (a, v) := by
  have key : ∀ (l : List (Int × Int)) (o : List (Int × Int) × Bool), ∀ q ∈ (l.foldl (rstep a v) o).1, q ∈ o.1 ∨ q ∈ l ∨ q = (a, v) := by
    intro l
    induction l with
    | nil => intro o q hq; exact .inl hq
    | cons p l ih =>
      intro o q hq
      rcases ih _ q hq with h | h | h
      · unfold rstep at h
        simp only at h
        split at h <;> split at h <;> (try simp only [List.mem_append, List.mem_singleton] at h) <;> grind
      · exact .inr (.inl (by simp [h]))
      · exact .inr (.inr h)
  have h2 := key l ([], v == 0)
  unfold rput rrun at h
  split at h
  · rcases List.mem_append.1 h with h | h
    · rcases h2 q h with h | h
      · simp at h
      · exact h
    · simp only [List.mem_singleton] at h; exact .inr h
  · rcases h2 q h with h | h
    · simp at h
    · exact h
theorem info_rword : (Tryz.prog.info? 221).map (fun i => (i.zero, i.size, i.bytes)) = some (some (.agg #[.int .u64 0, .int .u64 0]), 2, 16) := by kernel_rfl
theorem radd_plain (b off j : Nat) : (Addr.add ⟨b, off, none⟩ j) = ⟨b, off + j, none⟩ := by
  unfold Addr.add; split <;> simp_all
theorem rnews (w : World) (a v : Int) (T : TypeId) : ∀ j u, ([.int .u64 a, .int .u64 v] : List Value)[j]? = some u → (w.alloc (.cells #[.int .u64 a, .int .u64 v] T)).cell? ((⟨w.heap.size, 0, none⟩ : Addr).add j) = some u := by
  intro j u hj
  have hq := heap_alloc_new w (.cells #[.int .u64 a, .int .u64 v] T)
  rw [radd_plain, Nat.zero_add]
  unfold World.cell?; simp only; rw [hq]
  match j, hj with
  | 0, hj => exact hj
  | 1, hj => exact hj
theorem rown_below {w w' : World} {base e size n : Nat} {v : Value} {xs : List Value} (h : w.ownsRow base e size v n xs) (hb : Below w.heap.size w w') : w'.ownsRow base e size v n xs := by
  obtain ⟨h1, h2 | ⟨g, cap, cur, rfl, hb1, hg, r⟩⟩ := h
  · exact ⟨h1, .inl h2⟩
  · exact ⟨h1, .inr ⟨g, cap, cur, rfl, hb1, (hb.block g (Array.getElem?_eq_some_iff.1 hg).1).trans hg, r⟩⟩
set_option maxRecDepth 10000 in
set_option maxHeartbeats 2000000 in
theorem rput_any (w : World) (base r : Nat) (lv : Value) (x : RS) (h : RCells w base r lv x) (hn : x.l.length ≤ 100000) (hbase : base ≤ w.heap.size) (a v : Int) (ha : (Lit.int .u64 a).wf = true) (hv : (Lit.int .u64 v).wf = true) :
    Calls Tryz.prog 178 #[.pointer (some ⟨r, 0, none⟩), .int .u64 a, .int .u64 v] w fun e w' => e = .returned (.tuple #[]) ∧ (∃ lv', RCells w' base r lv' { x with l := rput x.l a v }) ∧ Keeps (· = r) w w' := by
  obtain ⟨ad, cap, rfl, hm, hc⟩ := h.form
  have HH := Lib.hid h; have HA := Lib.hid ha; have HV := Lib.hid hv; have HN := Lib.hid hn
  obtain ⟨i0, hi0, hz0, hz1, hz2⟩ := info_parts info_rword
  have HI := Lib.hid hi0; have HZ0 := Lib.hid hz0; have HZ1 := Lib.hid hz1; have HZ2 := Lib.hid hz2
  have hr : r < w.heap.size := (Array.getElem?_eq_some_iff.1 h.hdr).1
  have c0 : ∀ w', Below w.heap.size w w' → w'.cell? ⟨r, 0, none⟩ = some (.slice ad x.l.length cap) := fun w' hb => (hb.cell (p := ⟨r, 0, none⟩) hr).trans (h.cell 0)
  have HC0 := Lib.hid c0; have HCC := Lib.hid hc
  unfold maxLen at hm
  clear h ha hv hi0 hz0 hz1 hz2 c0 hc hn
  go_enter Tryz.func178, Tryz.ntmps178
  go_wp2
  go_loopw [6, 7, 8] (fun ov dv i wr => ∃ k : Nat, k ≤ x.l.length ∧ i = .int .i64 k ∧ dv = .bool (rrun (x.l.take k) a v).2 ∧ wr.ownsRow w.heap.size 221 2 ov (rrun (x.l.take k) a v).1.length (flat2 (rrun (x.l.take k) a v).1) ∧ Below w.heap.size w wr) (fun _ _ i _ => x.l.length - (intOf i).toNat)
  case atStart => exact ⟨0, by omega, rfl, rfl, World.ownsRow_nil _ _ _ _, Below.refl _ _⟩
  case round =>
    obtain ⟨k, hk, rfl, rfl, hown, hbl⟩ := hrel
    have c0 := HC0.out _ hbl
    have hlen := rrun_len (x.l.take k) a v
    rw [List.length_take] at hlen
    by_cases hlt : k < x.l.length
    · obtain ⟨g, rfl, hcc⟩ := HCC.out (by omega)
      obtain ⟨q0, q1⟩ := hcc k hlt
      have HG : Hid (g < w.heap.size) := World.block_lt_of_cell? _ _ q0
      have HQ0 := Lib.hid q0; have HQ1 := Lib.hid q1
      have q0 := (hbl.cell (p := ⟨g, k * 2, none⟩) (World.block_lt_of_cell? _ _ q0)).trans q0
      have q1 := (hbl.cell (p := ⟨g, k * 2 + 1, none⟩) (World.block_lt_of_cell? _ _ q1)).trans q1
      have hst := rrun_take a v (List.getElem?_eq_getElem hlt)
      generalize x.l[k] = p at *
      obtain ⟨pa, pv⟩ := p
      simp only at q0 q1
      generalize rrun (x.l.take k) a v = o at *
      obtain ⟨out, dn⟩ := o
      simp only at hown hlen
      have hlt' : (k : Int) < x.l.length := by omega
      have HS := Lib.hid hst; have HO := Lib.hid hown; have HB := Lib.hid hbl
      have hol : out.length + 2 ≤ 1000000 := by have := HN.out; omega
      clear hst hown hbl hcc hlen
      cases dn
      · cases h1 : decide (a ≤ pa)
        · have h1x := of_decide_eq_false h1
          cases h2 : (pa != a)
          · have HF : Hid (rstep a v (out, false) (pa, pv) = (out, false)) := by show _ = _; simp [rstep, h1x, h2]
            go_wp2
            go_roundw
            case rel => exact ⟨k + 1, by omega, by go_num, by rw [HS.out, HF.out], by rw [HS.out, HF.out]; exact HO.out, HB.out⟩
            case measure => simp [intOf]; omega
          · have HF : Hid (rstep a v (out, false) (pa, pv) = (out ++ [(pa, pv)], false)) := by show _ = _; simp [rstep, h1x, h2]
            go_wp2_with (at_builtin; refine wpList_append_own _ rfl _ _ 153 rfl w.heap.size 221 i0 (.agg #[.int .u64 0, .int .u64 0]) 2 16 Tryz.underlying153 HI.out HZ0.out HZ1.out HZ2.out rfl (by decide) _ _ _ rfl (HO.out.alloc _) ⟨_, 0, none⟩ 1 1 [.int .u64 pa, .int .u64 pv] rfl rfl (rnews _ pa pv _) ?c2 ?c3 ?c4 ?c5 ?_)
            case c2 => simp [Value.oneCell']
            case c3 => unfold maxLen; first | omega | (simp; omega)
            case c4 => first | omega | (simp; omega)
            case c5 => have := HB.out.size; first | omega | (simp; omega)
            intro v' w2 hown' hgrow _
            go_wp2
            go_roundw
            case rel =>
              refine ⟨k + 1, by omega, by go_num, by rw [HS.out, HF.out], ?_, (HB.out.alloc HB.out.size _).grown hgrow (by simp; have := HB.out.size; omega) (fun j hj => (HO.out.lt j hj).1)⟩
              rw [HS.out, HF.out]; rw [flat2_snoc, show (out ++ [(pa, pv)]).length = out.length + 1 by simp]; exact hown'
            case measure => simp [intOf]; omega
        · have h1x := of_decide_eq_true h1
          go_wp2_with (at_builtin; refine wpList_append_own _ rfl _ _ 153 rfl w.heap.size 221 i0 (.agg #[.int .u64 0, .int .u64 0]) 2 16 Tryz.underlying153 HI.out HZ0.out HZ1.out HZ2.out rfl (by decide) _ _ _ rfl (HO.out.alloc _) ⟨_, 0, none⟩ 1 1 [.int .u64 a, .int .u64 v] rfl rfl (rnews _ a v _) ?c2 ?c3 ?c4 ?c5 ?_)
          case c2 => simp [Value.oneCell']
          case c3 => unfold maxLen; omega
          case c4 => omega
          case c5 => have := HB.out.size; first | omega | (simp; omega)
          intro v1 w1 hown1 hgrow1 _
          have hb1 : Below w.heap.size w w1 := (HB.out.alloc HB.out.size _).grown hgrow1 (by simp; have := HB.out.size; omega) (fun j hj => (HO.out.lt j hj).1)
          have c0 := HC0.out _ hb1
          have HO1 : Hid (w1.ownsRow w.heap.size 221 2 v1 (out ++ [(a, v)]).length (flat2 (out ++ [(a, v)]))) := by show w1.ownsRow _ _ _ _ _ _; simpa [flat2_snoc] using hown1
          have q0 := (hb1.cell (p := ⟨g, k * 2, none⟩) HG.out).trans HQ0.out
          have q1 := (hb1.cell (p := ⟨g, k * 2 + 1, none⟩) HG.out).trans HQ1.out
          have HB1 := Lib.hid hb1
          clear hown1 hgrow1 hb1
          cases h2 : (pa != a)
          · have HF : Hid (rstep a v (out, false) (pa, pv) = (out ++ [(a, v)], true)) := by show _ = _; simp [rstep, h1x, h2]
            go_wp2
            go_roundw
            case rel => exact ⟨k + 1, by omega, by go_num, by rw [HS.out, HF.out], by rw [HS.out, HF.out]; exact HO1.out, HB1.out⟩
            case measure => simp [intOf]; omega
          · have HF : Hid (rstep a v (out, false) (pa, pv) = (out ++ [(a, v)] ++ [(pa, pv)], true)) := by show _ = _; simp [rstep, h1x, h2]
            go_wp2_with (at_builtin; refine wpList_append_own _ rfl _ _ 153 rfl w.heap.size 221 i0 (.agg #[.int .u64 0, .int .u64 0]) 2 16 Tryz.underlying153 HI.out HZ0.out HZ1.out HZ2.out rfl (by decide) _ _ _ rfl (HO1.out.alloc _) ⟨_, 0, none⟩ 1 1 [.int .u64 pa, .int .u64 pv] rfl rfl (rnews _ pa pv _) ?c2 ?c3 ?c4 ?c5 ?_)
            case c2 => simp [Value.oneCell']
            case c3 => unfold maxLen; first | omega | (simp; omega)
            case c4 => first | omega | (simp; omega)
            case c5 => have := HB1.out.size; first | omega | (simp; omega)
            intro v' w2 hown' hgrow _
            go_wp2
            go_roundw
            case rel =>
              refine ⟨k + 1, by omega, by go_num, by rw [HS.out, HF.out], ?_, (HB1.out.alloc HB1.out.size _).grown hgrow (by simp; have := HB1.out.size; omega) (fun j hj => (HO1.out.lt j hj).1)⟩
              rw [HS.out, HF.out]; rw [flat2_snoc, show (out ++ [(a, v)] ++ [(pa, pv)]).length = out.length + 1 + 1 by simp]; exact hown'
            case measure => simp [intOf]; omega
      · cases h2 : (pa != a)
        · have HF : Hid (rstep a v (out, true) (pa, pv) = (out, true)) := by show _ = _; simp [rstep, h2]
          go_wp2
          go_roundw
          case rel => exact ⟨k + 1, by omega, by go_num, by rw [HS.out, HF.out], by rw [HS.out, HF.out]; exact HO.out, HB.out⟩
          case measure => simp [intOf]; omega
        · have HF : Hid (rstep a v (out, true) (pa, pv) = (out ++ [(pa, pv)], true)) := by show _ = _; simp [rstep, h2]
          go_wp2_with (at_builtin; refine wpList_append_own _ rfl _ _ 153 rfl w.heap.size 221 i0 (.agg #[.int .u64 0, .int .u64 0]) 2 16 Tryz.underlying153 HI.out HZ0.out HZ1.out HZ2.out rfl (by decide) _ _ _ rfl (HO.out.alloc _) ⟨_, 0, none⟩ 1 1 [.int .u64 pa, .int .u64 pv] rfl rfl (rnews _ pa pv _) ?c2 ?c3 ?c4 ?c5 ?_)
          case c2 => simp [Value.oneCell']
          case c3 => unfold maxLen; first | omega | (simp; omega)
          case c4 => first | omega | (simp; omega)
          case c5 => have := HB.out.size; first | omega | (simp; omega)
          intro v' w2 hown' hgrow _
          go_wp2
          go_roundw
          case rel =>
            refine ⟨k + 1, by omega, by go_num, by rw [HS.out, HF.out], ?_, (HB.out.alloc HB.out.size _).grown hgrow (by simp; have := HB.out.size; omega) (fun j hj => (HO.out.lt j hj).1)⟩
            rw [HS.out, HF.out]; rw [flat2_snoc, show (out ++ [(pa, pv)]).length = out.length + 1 by simp]; exact hown'
          case measure => simp [intOf]; omega
    · obtain rfl : k = x.l.length := by omega
      rw [List.take_length] at hown ⊢
      have hR : RCells w base r (.slice ad x.l.length cap) x := HH.out
      have HO := Lib.hid hown; have HB := Lib.hid hbl
      have hrp : rput x.l a v = if (!(rrun x.l a v).2) = true then (rrun x.l a v).1 ++ [(a, v)] else (rrun x.l a v).1 := rfl
      have hlr := rrun_len x.l a v
      have HRP := Lib.hid hrp
      generalize rrun x.l a v = o at *
      obtain ⟨out, dn⟩ := o
      have hol : out.length + 2 ≤ 1000000 := by have := HN.out; simp only at hlr; omega
      clear hown hbl hR hrp hlen hlr
      have key : ∀ (W : World) (ov : Value), W.ownsRow w.heap.size 221 2 ov (rput x.l a v).length (flat2 (rput x.l a v)) → Below w.heap.size w W →
          (∃ lv', RCells (W.setCell ⟨r, 0, none⟩ ov) base r lv' { x with l := rput x.l a v }) ∧ Keeps (· = r) w (W.setCell ⟨r, 0, none⟩ ov) := fun W ov ho hb => by
        have hd : W.heap[r]? = some (.cells (rhdr (.slice ad x.l.length cap) x) 155 (0, 0)) := (hb.block r hr).trans HH.out.hdr
        refine ⟨⟨ov, setCell_same hd 0 ov, HH.out.lo, ?_, fun p hp => ?_⟩, ((below_keeps hb _).again (setCell_keeps _ _ _ _))⟩
        · obtain ⟨h1, h2 | ⟨g, cp, cur, rfl, h3, h4, h5⟩⟩ := ho
          · exact ⟨h1, .inl h2⟩
          · exact ⟨h1, .inr ⟨g, cp, cur, rfl, Nat.le_trans hbase h3, (Below.heap_setCell _ _ _ _ (by simp; omega)).trans h4, h5⟩⟩
        · rcases rput_mem hp with hp | hp
          · exact HH.out.wf p hp
          · rw [hp]; exact ⟨HA.out, HV.out⟩
      have HK := Lib.hid key
      clear key
      have f0 : ∀ W, Below w.heap.size w W → W.frozen? ⟨r, 0, none⟩ = false := fun W hb => by
        have hd : W.heap[r]? = some (.cells (rhdr (.slice ad x.l.length cap) x) 155 (0, 0)) := (hb.block r hr).trans HH.out.hdr
        simp [World.frozen?, hd]
      cases dn
      · have HF : Hid (rput x.l a v = out ++ [(a, v)]) := HRP.out
        have HFF := Lib.hid f0
        clear f0
        go_wp2_with (at_builtin; refine wpList_append_own _ rfl _ _ 153 rfl w.heap.size 221 i0 (.agg #[.int .u64 0, .int .u64 0]) 2 16 Tryz.underlying153 HI.out HZ0.out HZ1.out HZ2.out rfl (by decide) _ _ _ rfl (HO.out.alloc _) ⟨_, 0, none⟩ 1 1 [.int .u64 a, .int .u64 v] rfl rfl (rnews _ a v _) ?c2 ?c3 ?c4 ?c5 ?_)
        case c2 => simp [Value.oneCell']
        case c3 => unfold maxLen; omega
        case c4 => omega
        case c5 => have := HB.out.size; first | omega | (simp; omega)
        intro v1 w1 hown1 hgrow1 _
        have hb1 : Below w.heap.size w w1 := (HB.out.alloc HB.out.size _).grown hgrow1 (by simp; have := HB.out.size; omega) (fun j hj => (HO.out.lt j hj).1)
        obtain ⟨sa, sn, sc, rfl⟩ := own_slice hown1
        have hk := HK.out w1 _ (by rw [HF.out, flat2_snoc, List.length_append]; exact hown1) hb1
        have f1 := HFF.out _ hb1
        have c1 := HC0.out _ hb1
        have HKK := Lib.hid hk
        clear hk hown1 hgrow1 hb1
        go_wp2
        go_end0
        exact ⟨rfl, HKK.out⟩
      · have HF : Hid (rput x.l a v = out) := HRP.out
        obtain ⟨sa, sn, sc, hsl⟩ := own_slice HO.out
        subst hsl
        have hk := HK.out wr _ (by rw [HF.out]; exact HO.out) HB.out
        have f1 := f0 _ HB.out
        have HKK := Lib.hid hk
        clear hk f0
        go_wp2
        go_end0
        exact ⟨rfl, HKK.out⟩
def RS.acc (x : RS) (k a i : Int) : RS := ⟨rput x.l a i, x.cnt + 1, k, a, rlook x.l a, i⟩
theorem RCells.keep {w w' : World} {base r : Nat} {lv : Value} {x : RS} (h : RCells w base r lv x) (hb : Below w.heap.size w w') : RCells w' base r lv x :=
  ⟨(hb.block r (Array.getElem?_eq_some_iff.1 h.hdr).1).trans h.hdr, h.lo, rown_below h.row hb, h.wf⟩
theorem RCells.five {w : World} {base r : Nat} {lv : Value} {x : RS} (h : RCells w base r lv x) (n : Nat) (k a s i : Int) (h2 : ∀ g, lv.ownBlock = some g → g ≠ r) :
    RCells (((((w.setCell ⟨r, 1, none⟩ (.int .i64 (n : Int))).setCell ⟨r, 2, none⟩ (.int .u8 k)).setCell ⟨r, 3, none⟩ (.int .u64 a)).setCell ⟨r, 4, none⟩ (.int .u64 s)).setCell ⟨r, 5, none⟩ (.int .u64 i)) base r lv ⟨x.l, n, k, a, s, i⟩ := by
  refine ⟨setCell_same (setCell_same (setCell_same (setCell_same (setCell_same h.hdr 1 _) 2 _) 3 _) 4 _) 5 _, h.lo, ?_, h.wf⟩
  obtain ⟨h1, h3 | ⟨g, cap, cur, rfl, hb, hg, r3⟩⟩ := h.row
  · exact ⟨h1, .inl h3⟩
  · have hne := h2 g rfl
    refine ⟨h1, .inr ⟨g, cap, cur, rfl, hb, ?_, r3⟩⟩
    rw [Below.heap_setCell _ _ _ _ hne, Below.heap_setCell _ _ _ _ hne, Below.heap_setCell _ _ _ _ hne, Below.heap_setCell _ _ _ _ hne, Below.heap_setCell _ _ _ _ hne]; exact hg
theorem RCells.apart {w : World} {base r : Nat} {lv : Value} {x : RS} (h : RCells w base r lv x) : ∀ g, lv.ownBlock = some g → g ≠ r := by
  intro g hg c
  obtain ⟨h1, ⟨rfl, h3⟩ | ⟨g', cap, cur, rfl, hb, hgg, r3⟩⟩ := h.row
  · simp [Value.ownBlock] at hg
  · simp only [Value.ownBlock, Option.some.injEq] at hg
    subst hg; subst c
    have := hgg.symm.trans h.hdr; simp only [Option.some.injEq, Obj.cells.injEq] at this; exact absurd this.2.1 (by decide)
set_option maxRecDepth 10000 in
theorem racc_any (w : World) (base r : Nat) (lv : Value) (x : RS) (h : RCells w base r lv x) (hn : x.l.length ≤ 100000) (hc : x.cnt ≤ 1000000) (hbase : base ≤ w.heap.size) (k a i : Int) (ha : (Lit.int .u64 a).wf = true) (hi : (Lit.int .u64 i).wf = true) :
    Calls Tryz.prog 181 #[.pointer (some ⟨r, 0, none⟩), .int .u8 k, .int .u64 a, .int .u64 i] w fun e w' => e = .returned (.int .u64 (rlook x.l a)) ∧ (∃ lv', RCells w' base r lv' (x.acc k a i)) ∧ Keeps (· = r) w w' := by
  have hp := rpeek_any w base r lv x h a
  have hq := rput_any w base r lv x h hn hbase a i ha hi
  have e1 : wrap64 ((x.cnt : Int) + 1) = (x.cnt : Int) + 1 := IntWalk.wrap64_in _ (by omega)
  clear h ha hi
  go_enter Tryz.func181, Tryz.ntmps181
  go_wp2_with (first
    | (go_at_call 180; refine hp.mono ?_; rintro e w1 ⟨rfl, hw⟩; obtain rfl := hw.symm; clear hp)
    | (go_at_call 178; refine hq.mono ?_; rintro e w1 ⟨rfl, ⟨lv1, h1⟩, hk⟩; have c1 := h1.cell 1; have c2 := h1.cell 2; have c3 := h1.cell 3; have c4 := h1.cell 4; have c5 := h1.cell 5; have f1 : ∀ o, w1.frozen? ⟨r, o, none⟩ = false := (fun o => by have := h1.hdr; simp [World.frozen?, this]); simp only [rhdr] at c1 c2 c3 c4 c5; have H1 := Lib.hid h1; have HK := Lib.hid hk; clear h1 hk hq))
  go_ret
  exact ⟨rfl, ⟨lv1, H1.out.five (x.cnt + 1) k a _ i H1.out.apart⟩, ((((HK.out.again (setCell_keeps _ _ _ _)).again (setCell_keeps _ _ _ _)).again (setCell_keeps _ _ _ _)).again (setCell_keeps _ _ _ _)).again (setCell_keeps _ _ _ _)⟩
end Go.Proofs.YtmakjfeepmiggaaGreat
namespace Go.Proofs.YtmakjfeepmiggaaGreat
open Go.RowKit
set_option linter.unusedVariables false
section
variable {P : Program} {ops : Array Oper} {md : Region.Mode} {C : World → Prop}
def HeadQ (P : Program) (md : Region.Mode) (ops : Array Oper) (C : World → Prop) (n : Nat) (L : Array Bool → Act → Prop) : Nat → Array Bool → Act → Prop
  | 0, seen, a => L seen a
  | f + 1, seen, a => Region.ready md ops seen ≠ [] ∧ ∀ i, i ∈ Region.ready md ops seen → i < n ∧ qOp P ops C i (HeadQ P md ops C n L f (seen.setIfInBounds i true)) a
theorem any_of_headQ {n g : Nat} {L : Array Bool → Act → Prop} {Q : Exit → Act → World → Prop} (hL : ∀ seen a w, C w → L seen a → wpAny P md ops Q g seen a w) (f : Nat) :
    ∀ (seen : Array Bool) (a : Act) (w : World), C w → HeadQ P md ops C n L f seen a → wpAny P md ops Q (f + g) seen a w := by
  induction f with
  | zero => intro seen a w hw h; rw [Nat.zero_add]; exact hL _ _ _ hw h
  | succ f ih =>
    intro seen a w hw h
    have e : f + 1 + g = (f + g) + 1 := by omega
    rw [e]
    refine ⟨fun h0 => absurd h0 h.1, fun i hi => ?_⟩
    exact wpOp_of_qOp hw (fun a' w' hw' h' => ih _ a' w' hw' h') (h.2 i hi).2
theorem headQ_take {n i : Nat} {oi : Oper} {v : Value} {L : Array Bool → Act → Prop} (hi : ops[i]? = some oi) (hsel : ∀ (j : Nat) (o : Oper) cs b, ops[j]? = some o → o.op ≠ .select cs b)
    (hs : Region.sinkB md ops n = true) (hc : Region.chainB md ops n = true) (hn : n < ops.size) (hin : i < n) (hdone : ∀ seen a, L seen a → ∀ j, j ∈ Region.ready md ops seen → n ≤ j) (f : Nat) :
    ∀ (seen : Array Bool) (a : Act), HeadInv md ops n seen →
      (∀ j oj, ops[j]? = some oj → j ≠ i → seen.getD j true = false → (∀ e, e ∈ oj.after → Region.binds md e = true → e.on ≠ i) → oi.apart ops oj = true) →
      i ∈ Region.ready md ops seen → YieldsIn P ops C oi v a → HeadQ P md ops C n L f (seen.setIfInBounds i true) (a.put oi.dst v) → HeadQ P md ops C n L (f + 1) seen a := by
  induction f with
  | zero =>
    intro seen a inv _ hr hy H
    have hun : seen.getD i true = false := (mem_ready.1 hr).1
    refine ⟨fun h => by rw [h] at hr; exact absurd hr (by simp), fun j hj => ?_⟩
    by_cases hjn : n ≤ j
    · exact absurd hj (tail_waits hs hc hn inv _ i rfl hin hun j hjn)
    refine ⟨by omega, ?_⟩
    by_cases hji : j = i
    · rw [hji]; exact hy.qOp hi H
    · exact absurd (hdone _ _ H j (ready_mono hj hji)) hjn
  | succ f ih =>
    intro seen a inv hfree hr hy H
    have hun : seen.getD i true = false := (mem_ready.1 hr).1
    refine ⟨fun h => by rw [h] at hr; exact absurd hr (by simp), fun j hj => ?_⟩
    by_cases hjn : n ≤ j
    · exact absurd hj (tail_waits hs hc hn inv _ i rfl hin hun j hjn)
    refine ⟨by omega, ?_⟩
    by_cases hji : j = i
    · rw [hji]; exact hy.qOp hi H
    obtain ⟨hjun, oj, hoj, hall⟩ := mem_ready.1 hj
    have hno : ∀ e, e ∈ oj.after → Region.binds md e = true → e.on ≠ i := by
      intro e he hb heq
      have := hall e he hb
      rw [heq, getD_both hun] at this
      exact absurd this (by simp)
    have step := qOp_put hoj (hfree j oj hoj hji hjun hno) (fun cs b => hsel i oi cs b hi) (fun cs b => hsel j oj cs b hoj) hy (H.2 j (ready_mono hj hji)).2
    refine qOp_mono (fun a' h3 => ?_) step
    refine ih _ a' (inv.set hj (by omega)) ?_ (ready_mono hr (Ne.symm hji)) h3.1 ?_
    · intro k ok hk hki hunk hnok
      refine hfree k ok hk hki ?_ hnok
      by_cases hjk : j = k
      · rw [← hjk]; exact hjun
      · rwa [getD_set_ne true hjk] at hunk
    · rw [Array.setIfInBounds_comm _ _ hji]; exact h3.2
theorem headQ_lex {n g : Nat} {R : Act → Prop} (hsel : Region.noSelect ops = true) (hs : Region.sinkB md ops n = true) (hc : Region.chainB md ops n = true) (hn : n < ops.size) (l : List Oper) :
    ∀ (k : Nat) (seen : Array Bool) (a : Act), (∀ j, j < l.length → l[j]? = ops[k + j]?) → k + l.length = n → HeadInv md ops n seen →
      Region.lexHead md ops g l.length k seen = true → wpQuiet P ops C R l a → HeadQ P md ops C n (fun seen' a' => Region.seqB md ops g n seen' = true ∧ R a') l.length seen a := by
  induction l with
  | nil =>
    intro k seen a _ hk _ hB h
    simp only [List.length_nil, Nat.add_zero] at hk
    subst hk
    exact ⟨hB, h⟩
  | cons o l ih =>
    intro k seen a hl hk inv hB h
    have h0 : ops[k]? = some o := by simpa using (hl 0 (by simp)).symm
    simp only [List.length_cons, Region.lexHead, Bool.and_eq_true] at hB
    obtain ⟨⟨hr, hf⟩, hB'⟩ := hB
    have hkn : k < n := by simp only [List.length_cons] at hk; omega
    have hr' : k ∈ Region.ready md ops seen := by simpa using hr
    have hq : qOp P ops C k (wpQuiet P ops C R l) a := by unfold qOp; simp only [h0]; exact h
    obtain ⟨v, hy, hK⟩ := yieldsIn_of_qOp h0 hq
    refine headQ_take h0 (Region.noSelect_spec hsel) hs hc hn hkn (fun seen' a' hL => seqB_ready hL.1) l.length seen a inv (Region.free_spec h0 hf) hr' hy ?_
    refine ih (k + 1) _ _ (fun j hj => ?_) (by simp only [List.length_cons] at hk; omega) (inv.set hr' hkn) hB' hK
    have := hl (j + 1) (by simp; omega)
    simpa [Nat.add_assoc, Nat.add_comm 1 j] using this
theorem wp_region_ext_tail {id : Nat} {Q : Exit → Act → World → Prop} {a : Act} {w : World} {l : List Oper} (n : Nat) (hm : P.follows .mixedOrders = true) (hB : Region.lexTailB .any l.toArray n = true)
    (h : wpQuiet P l.toArray (fun W => ∃ s : ExtW w, W = s.val) (fun a' => ∀ W, (∃ s : ExtW w, W = s.val) → wpList P l.toArray Q (l.drop n) a' W) (l.take n) a) : (Code.region id l.toArray true).wp P Q a w := by
  simp only [Region.lexTailB, Bool.and_eq_true, decide_eq_true_eq] at hB
  obtain ⟨⟨⟨⟨hsel, hn⟩, hs⟩, hc⟩, hlex⟩ := hB
  have hn' : n < l.length := by simpa using hn
  have htl : (l.take n).length = n := by simp; omega
  have hdl : (l.drop n).length = l.toArray.size - n := by simp
  have inv0 : HeadInv .any l.toArray n (Array.replicate l.toArray.size false) :=
    ⟨by simp, fun j oj _ hl => by rw [getD_replicate_false] at hl; exact absurd hl (by simp), fun t _ ht => getD_in (by simpa using ht) (getD_replicate_false _ _)⟩
  refine wp_region_any hm ?_
  have hh := headQ_lex (P := P) (C := fun W => ∃ s : ExtW w, W = s.val) (g := l.toArray.size - n) (md := .any) hsel hs hc hn (l.take n) 0 (Array.replicate l.toArray.size false) a
    (fun j hj => by rw [htl] at hj; simp [hj]) (by rw [htl]; omega) inv0 (by rw [htl]; exact hlex) h
  have := any_of_headQ (Q := Q) (g := l.toArray.size - n) (fun seen a' W hW hL => ?_) _ _ _ _ ⟨⟨_, (Below.refl _ _).drew⟩, rfl⟩ hh
  · rw [htl] at this
    have e : n + (l.toArray.size - n) = l.toArray.size := by omega
    rw [e] at this
    exact this
  · have := wpAny_of_seq (P := P) (md := .any) (ops := l.toArray) (Q' := Q) (l.drop n) n seen a' W (fun j => by simp [List.getElem?_drop]) (by rw [hdl]; exact hL.1) (hL.2 W hW)
    rw [hdl] at this
    exact this
end
end Go.Proofs.YtmakjfeepmiggaaGreat
namespace Go.Proofs.YtmakjfeepmiggaaGreat
open Go.RowKit
set_option linter.unusedVariables false
def wu (x : Int) : Int := IntKind.u64.wrap x
theorem wu_eq (x : Int) : wu x = x % 18446744073709551616 := IntKind.wrap_u64 x
theorem wu_of {x : Int} (h : (Lit.int .u64 x).wf = true) : wu x = x := by
  have h1 : 0 ≤ x ∧ x ≤ 18446744073709551615 := by
    have hmin : IntKind.u64.min = 0 := rfl
    have hmax : IntKind.u64.max = 18446744073709551615 := rfl
    simp only [Lit.wf, Bool.and_eq_true, decide_eq_true_eq] at h; omega
  rw [wu_eq]; omega
theorem wf_wu (x : Int) : (Lit.int .u64 (wu x)).wf = true := by
  have hmin : IntKind.u64.min = 0 := rfl
  have hmax : IntKind.u64.max = 18446744073709551615 := rfl
  simp only [Lit.wf, Bool.and_eq_true, decide_eq_true_eq, wu_eq]; omega
theorem wu_back {x : Int} (y : Int) (h : (Lit.int .u64 x).wf = true) : IntKind.u64.wrap (wu (x + y) - y) = x := by
  have h2 := wu_of h
  have e : IntKind.u64.wrap (wu (x + y) - y) = wu x := by
    rw [IntKind.wrap_u64, wu_eq, wu_eq]; omega
  rw [e, h2]
theorem run_call_swap {P : Program} {f : FuncId} {fn : Func} (hf : P.funcs[f]? = some fn) (hname : (fn.name == "runtime.NumGoroutine") = false) (hb : fn.body.isNone = true) (hn : Extern.findNext fn = none) (k : IntKind)
    (he : Extern.find fn = some (Extern.Atomic.swapT (.int k))) {a : Addr} {x y : Int} {w : World} (hc : w.cell? a = some (.int k x)) (hz : w.frozen? a = false) :
    (callFunc f #[.pointer (some a), .int k y]).run P w = .ok (.value (.int k x)) (w.setCell a (.int k y)) := by
  rw [run_callFunc_extern hf hname hb hn he]
  change (Sem.run P (do
    let a' ← asAddr (.pointer (some a))
    let old ← Extern.Atomic.read (.int k) a'
    store a' (.int k y) .atomic
    pure old) w).andThen _ = _
  simp [Extern.Atomic.read, asAddr, hc, hz, run_store P w a (.int k y) .atomic rfl, Result.andThen]
theorem a_load (p : Nat) (v : Int) (w : World) (h : w.cell? ⟨p, 0, none⟩ = some (.int .u64 v)) :
    Calls Tryz.prog 135 #[.pointer (some ⟨p, 0, none⟩)] w fun e w' => e = .returned (.int .u64 v) ∧ w' = w := by
  have hl := run_call_load (P := Tryz.prog) Tryz.func182 (by kernel_rfl) (by kernel_rfl) (by kernel_rfl) .u64 (by kernel_rfl) h
  go_enter Tryz.func135, Tryz.ntmps135
  go_wp2
  go_ret
  exact ⟨rfl, rfl⟩
theorem a_store (p : Nat) (v y : Int) (w : World) (h : w.cell? ⟨p, 0, none⟩ = some (.int .u64 v)) (hz : w.frozen? ⟨p, 0, none⟩ = false) :
    Calls Tryz.prog 179 #[.pointer (some ⟨p, 0, none⟩), .int .u64 y] w fun e w' => e = .returned (.tuple #[]) ∧ w' = w.setCell ⟨p, 0, none⟩ (.int .u64 y) := by
  have hl := run_call_store (P := Tryz.prog) Tryz.func218 (by kernel_rfl) (by kernel_rfl) (by kernel_rfl) (by kernel_rfl) (k := .u64) (y := y) h hz
  go_enter Tryz.func179, Tryz.ntmps179
  go_wp2
  go_end0
  exact ⟨rfl, rfl⟩
theorem a_swap (p : Nat) (v y : Int) (w : World) (h : w.cell? ⟨p, 0, none⟩ = some (.int .u64 v)) (hz : w.frozen? ⟨p, 0, none⟩ = false) :
    Calls Tryz.prog 177 #[.pointer (some ⟨p, 0, none⟩), .int .u64 y] w fun e w' => e = .returned (.int .u64 v) ∧ w' = w.setCell ⟨p, 0, none⟩ (.int .u64 y) := by
  have hl := run_call_swap (P := Tryz.prog) Tryz.func217 (by kernel_rfl) (by kernel_rfl) (by kernel_rfl) .u64 (by kernel_rfl) (y := y) h hz
  go_enter Tryz.func177, Tryz.ntmps177
  go_wp2
  go_ret
  exact ⟨rfl, rfl⟩
theorem a_add (p : Nat) (v y : Int) (w : World) (h : w.cell? ⟨p, 0, none⟩ = some (.int .u64 v)) (hz : w.frozen? ⟨p, 0, none⟩ = false) :
    Calls Tryz.prog 284 #[.pointer (some ⟨p, 0, none⟩), .int .u64 y] w fun e w' => e = .returned (.int .u64 (wu (v + y))) ∧ w' = w.setCell ⟨p, 0, none⟩ (.int .u64 (wu (v + y))) := by
  have hl := run_call_add (P := Tryz.prog) Tryz.func285 (by kernel_rfl) (by kernel_rfl) (by kernel_rfl) .u64 (by kernel_rfl) (y := y) (s := wu (v + y)) h hz (by rfl)
  go_enter Tryz.func284, Tryz.ntmps284
  go_wp2
  go_ret
  exact ⟨rfl, rfl⟩
theorem a_cas_hit (p : Nat) (v y : Int) (w : World) (h : w.cell? ⟨p, 0, none⟩ = some (.int .u64 v)) (hz : w.frozen? ⟨p, 0, none⟩ = false) :
    Calls Tryz.prog 202 #[.pointer (some ⟨p, 0, none⟩), .int .u64 v, .int .u64 y] w fun e w' => e = .returned (.bool true) ∧ w' = w.setCell ⟨p, 0, none⟩ (.int .u64 y) := by
  have hl := run_call_cas_hit (P := Tryz.prog) Tryz.func226 (by kernel_rfl) (by kernel_rfl) (by kernel_rfl) .u64 (by kernel_rfl) (y := y) h hz
  go_enter Tryz.func202, Tryz.ntmps202
  go_wp2
  go_ret
  exact ⟨rfl, rfl⟩
theorem a_cas_miss (p : Nat) (v o y : Int) (w : World) (h : w.cell? ⟨p, 0, none⟩ = some (.int .u64 v)) (hz : w.frozen? ⟨p, 0, none⟩ = false) (hne : ¬ v = o) :
    Calls Tryz.prog 202 #[.pointer (some ⟨p, 0, none⟩), .int .u64 o, .int .u64 y] w fun e w' => e = .returned (.bool false) ∧ w' = w := by
  have hl := run_call_cas_miss (P := Tryz.prog) Tryz.func226 (by kernel_rfl) (by kernel_rfl) (by kernel_rfl) .u64 (by kernel_rfl) (o := o) (y := y) h hz hne
  go_enter Tryz.func202, Tryz.ntmps202
  go_wp2
  go_ret
  exact ⟨rfl, rfl⟩
end Go.Proofs.YtmakjfeepmiggaaGreat
namespace Go.Proofs.YtmakjfeepmiggaaGreat
open Go.RowKit
set_option linter.unusedVariables false
theorem below_alloc' (w : World) (o : Obj) : Below w.heap.size w (w.alloc o) := (Below.refl _ _).alloc (Nat.le_refl _) _
theorem rlook_wf {w : World} {base r : Nat} {lv : Value} {x : RS} (h : RCells w base r lv x) (a : Int) : (Lit.int .u64 (rlook x.l a)).wf = true := by
  have key : ∀ (l : List (Int × Int)), (∀ p ∈ l, (Lit.int .u64 p.1).wf = true ∧ (Lit.int .u64 p.2).wf = true) → (Lit.int .u64 (rlook l a)).wf = true := by
    intro l
    induction l with
    | nil => intro _; show (Lit.int .u64 0).wf = true; decide
    | cons p l ih =>
      intro h
      unfold rlook
      split
      · exact (h p (by simp)).2
      · exact ih fun q hq => h q (by simp [hq])
  exact key x.l h.wf
section
variable {w : World} {base r : Nat} {lv : Value} {x : RS} (h : RCells w base r lv x) (hn : x.l.length ≤ 100000) (hc : x.cnt ≤ 1000000) (hbase : base ≤ w.heap.size) (a : Int) (ha : (Lit.int .u64 a).wf = true)
include h hn hc hbase ha
theorem rload_any : Calls Tryz.prog 133 #[.pointer (some ⟨r, 0, none⟩), .int .u64 a] w fun e w' => e = .returned (.int .u64 (rlook x.l a)) ∧ (∃ lv', RCells w' base r lv' (x.acc 1 a (rlook x.l a))) ∧ Keeps (· = r) w w' := by
  have hp := rpeek_any w base r lv x h a
  have hq := racc_any w base r lv x h hn hc hbase 1 a (rlook x.l a) ha (rlook_wf h a)
  clear h ha
  go_enter Tryz.func133, Tryz.ntmps133
  go_wp2_with (first
    | (go_at_call 180; refine hp.mono ?_; rintro e w1 ⟨rfl, hw⟩; obtain rfl := hw.symm; clear hp)
    | (go_at_call 181; refine hq.mono ?_; rintro e w1 ⟨rfl, h1, hk⟩))
  go_ret
  exact ⟨rfl, h1, hk⟩
theorem rstore_any (v : Int) (hv : (Lit.int .u64 v).wf = true) : Calls Tryz.prog 132 #[.pointer (some ⟨r, 0, none⟩), .int .u64 a, .int .u64 v] w fun e w' => e = .returned (.int .u64 (rlook x.l a)) ∧ (∃ lv', RCells w' base r lv' (x.acc 2 a v)) ∧ Keeps (· = r) w w' := by
  have hq := racc_any w base r lv x h hn hc hbase 2 a v ha hv
  clear h ha hv
  go_enter Tryz.func132, Tryz.ntmps132
  go_wp2_with (go_at_call 181; refine hq.mono ?_; rintro e w1 ⟨rfl, h1, hk⟩)
  go_ret
  exact ⟨rfl, h1, hk⟩
theorem radd_any (v : Int) : Calls Tryz.prog 229 #[.pointer (some ⟨r, 0, none⟩), .int .u64 a, .int .u64 v] w fun e w' => e = .returned (.int .u64 (rlook x.l a)) ∧ (∃ lv', RCells w' base r lv' (x.acc 4 a (wu (rlook x.l a + v)))) ∧ Keeps (· = r) w w' := by
  have hp := rpeek_any w base r lv x h a
  have hq := racc_any w base r lv x h hn hc hbase 4 a (wu (rlook x.l a + v)) ha (wf_wu _)
  have e1 : IntKind.u64.wrap (rlook x.l a + v) = wu (rlook x.l a + v) := rfl
  have HQ := Lib.hid hq
  clear h ha hq
  generalize hg : rlook x.l a = s at *
  go_enter Tryz.func229, Tryz.ntmps229
  go_wp2_with (first
    | (go_at_call 180; refine hp.mono ?_; rintro e w1 ⟨rfl, hw⟩; obtain rfl := hw.symm; clear hp)
    | (go_at_call 181; refine HQ.out.mono ?_; rintro e w1 ⟨rfl, h1, hk⟩))
  go_ret
  exact ⟨rfl, h1, hk⟩
theorem rcas_any (u v : Int) (hv : (Lit.int .u64 v).wf = true) : Calls Tryz.prog 205 #[.pointer (some ⟨r, 0, none⟩), .int .u64 a, .int .u64 u, .int .u64 v] w fun e w' => e = .returned (.tuple #[.int .u64 (rlook x.l a), .bool (rlook x.l a == u)]) ∧ (∃ lv', RCells w' base r lv' (x.acc 3 a (if rlook x.l a = u then v else rlook x.l a))) ∧ Keeps (· = r) w w' := by
  have hp := rpeek_any w base r lv x h a
  have hl := rlook_wf h a
  by_cases he : rlook x.l a = u
  · have hq := racc_any w base r lv x h hn hc hbase 3 a v ha hv
    rw [if_pos he]
    have hb : (rlook x.l a == u) = true := beq_iff_eq.2 he
    have hb2 : (rlook x.l a != u) = false := by simp [bne, hb]
    have HQ := Lib.hid hq
    clear h ha hv hl he hq
    generalize rlook x.l a = s at *
    go_enter Tryz.func205, Tryz.ntmps205
    go_wp2_with (first
      | (go_at_call 180; refine hp.mono ?_; rintro e w1 ⟨rfl, hw⟩; obtain rfl := hw.symm; clear hp)
      | (go_at_call 181; refine HQ.out.mono ?_; rintro e w1 ⟨rfl, h1, hk⟩))
    go_ret2
    exact ⟨by rw [hb]; rfl, h1, hk⟩
  · have hq := racc_any w base r lv x h hn hc hbase 3 a (rlook x.l a) ha hl
    rw [if_neg he]
    have hb : (rlook x.l a == u) = false := beq_eq_false_iff_ne.2 he
    have hb2 : (rlook x.l a != u) = true := by simp [bne, hb]
    have HQ := Lib.hid hq
    clear h ha hv hl he hq
    generalize rlook x.l a = s at *
    go_enter Tryz.func205, Tryz.ntmps205
    go_wp2_with (first
      | (go_at_call 180; refine hp.mono ?_; rintro e w1 ⟨rfl, hw⟩; obtain rfl := hw.symm; clear hp)
      | (go_at_call 181; refine HQ.out.mono ?_; rintro e w1 ⟨rfl, h1, hk⟩))
    go_ret2
    exact ⟨by rw [hb]; rfl, h1, hk⟩
end
def RS.zero : RS := ⟨[], 0, 0, 0, 0, 0⟩
end Go.Proofs.YtmakjfeepmiggaaGreat
namespace Go.Proofs.YtmakjfeepmiggaaGreat
open Go.RowKit Go.Maps
set_option linter.unusedVariables false
structure CS where
  val : Int → Int
  cnt : Nat
  n : Nat
  kind : Int
  addr : Int
  was : Int
  is : Int
def CS.acc (s : CS) (k a i : Int) : CS := ⟨upd s.val a i, s.cnt + 1, s.n + 1, k, a, s.val a, i⟩
def hdrC (mo : Option Nat) (s : CS) : Array Value := #[.map mo, .int .i64 s.cnt, .int .u8 s.kind, .int .u64 s.addr, .int .u64 s.was, .int .u64 s.is]
def wordC (v : Int) : Obj := .cells #[.int .u64 v] 294 (0, 0)
structure CellsAt (w : World) (base b : Nat) (mo : Option Nat) (f : Int → Option Nat) (s : CS) : Prop where
  hdr : w.heap[b]? = some (.cells (hdrC mo s) 239 (0, 0))
  lo : base ≤ b
  map : ∀ m, mo = some m → MapP w m s.n f ∧ base ≤ m ∧ m ≠ b
  nomap : mo = none → ∀ a, f a = none
  ptr : ∀ a p, f a = some p → w.heap[p]? = some (wordC (s.val a)) ∧ base ≤ p ∧ p ≠ b ∧ mo ≠ some p
  zero : ∀ a, f a = none → s.val a = 0
  inj : ∀ a a' p, f a = some p → f a' = some p → a = a'
  wf : ∀ a, (Lit.int .u64 (s.val a)).wf = true
def cellsFp (b : Nat) (mo : Option Nat) (f : Int → Option Nat) (k : Nat) : Prop := k = b ∨ mo = some k ∨ ∃ a, f a = some k
def Cells (w : World) (base b : Nat) (s : CS) (S : Nat → Prop) : Prop := ∃ mo f, CellsAt w base b mo f s ∧ S = cellsFp b mo f
theorem CellsAt.keep {w w' : World} {base b : Nat} {mo : Option Nat} {f : Int → Option Nat} {s : CS} (h : CellsAt w base b mo f s) (hk : ∀ k, cellsFp b mo f k → w'.heap[k]? = w.heap[k]?) : CellsAt w' base b mo f s := by
  refine ⟨by rw [hk b (.inl rfl)]; exact h.hdr, h.lo, fun m hm => ?_, h.nomap, fun a p hp => ?_, h.zero, h.inj, h.wf⟩
  · obtain ⟨h1, h2⟩ := h.map m hm
    exact ⟨h1.keep (hk m (.inr (.inl hm))), h2⟩
  · obtain ⟨h1, h2⟩ := h.ptr a p hp
    exact ⟨by rw [hk p (.inr (.inr ⟨a, hp⟩))]; exact h1, h2⟩
theorem CellsAt.fp {w : World} {base b : Nat} {mo : Option Nat} {f : Int → Option Nat} {s : CS} (h : CellsAt w base b mo f s) : ∀ k, cellsFp b mo f k → base ≤ k ∧ k < w.heap.size := by
  rintro k (rfl | hm | ⟨a, ha⟩)
  · exact ⟨h.lo, (Array.getElem?_eq_some_iff.1 h.hdr).1⟩
  · exact ⟨(h.map k hm).2.1, (h.map k hm).1.lt⟩
  · exact ⟨(h.ptr a k ha).2.1, (Array.getElem?_eq_some_iff.1 (h.ptr a k ha).1).1⟩
theorem Cells.keep {w w' : World} {base b : Nat} {s : CS} {S : Nat → Prop} (h : Cells w base b s S) (hk : ∀ k, S k → w'.heap[k]? = w.heap[k]?) : Cells w' base b s S := by
  obtain ⟨mo, f, h, rfl⟩ := h
  exact ⟨mo, f, h.keep hk, rfl⟩
theorem Cells.fp {w : World} {base b : Nat} {s : CS} {S : Nat → Prop} (h : Cells w base b s S) : ∀ k, S k → base ≤ k ∧ k < w.heap.size := by
  obtain ⟨mo, f, h, rfl⟩ := h
  exact h.fp
theorem Cells.keeps {w w' : World} {base b : Nat} {s : CS} {S T : Nat → Prop} (h : Cells w base b s S) (hb : Keeps T w w') (hd : ∀ k, S k → ¬ T k) : Cells w' base b s S :=
  h.keep fun k hk => hb.block k (h.fp k hk).2 (hd k hk)
theorem Cells.below {w w' : World} {base b : Nat} {s : CS} {S : Nat → Prop} (h : Cells w base b s S) (hb : Below w.heap.size w w') : Cells w' base b s S :=
  h.keep fun k hk => hb.block k (h.fp k hk).2
theorem CellsAt.mono {w : World} {base b : Nat} {mo : Option Nat} {f : Int → Option Nat} {s : CS} (h : CellsAt w base b mo f s) (n : Nat) (hn : s.n ≤ n) : CellsAt w base b mo f { s with n := n } :=
  ⟨h.hdr, h.lo, fun m hm => ⟨(h.map m hm).1.mono hn, (h.map m hm).2⟩, h.nomap, h.ptr, h.zero, h.inj, h.wf⟩
theorem CellsAt.put {w w2 : World} {base b : Nat} {mo : Option Nat} {f : Int → Option Nat} {s : CS} (hA : CellsAt w base b mo f s) {a : Int} (ha : f a = none) (m p : Nat)
    (hdr : w2.heap[b]? = some (.cells (hdrC (some m) s) 239 (0, 0))) (hM : MapP w2 m (s.n + 1) (upd f a (some p))) (hm : base ≤ m) (hmb : m ≠ b) (hp : w2.heap[p]? = some (wordC 0)) (hpl : w.heap.size ≤ p) (hbase : base ≤ w.heap.size)
    (hmp : m ≠ p) (hold : ∀ x k, f x = some k → w2.heap[k]? = w.heap[k]? ∧ m ≠ k) : CellsAt w2 base b (some m) (upd f a (some p)) { s with n := s.n + 1 } := by
  have hb : b < w.heap.size := (Array.getElem?_eq_some_iff.1 hA.hdr).1
  refine ⟨hdr, hA.lo, fun m' h => ?_, (fun h => by cases h), fun x k hx => ?_, fun x hx => ?_, fun x x' k h1 h2 => ?_, hA.wf⟩
  · cases h; exact ⟨hM, hm, hmb⟩
  · by_cases he : x = a
    · subst he
      rw [upd_same] at hx; cases hx
      simp only [hA.zero x ha]
      exact ⟨hp, by omega, by omega, fun c => hmp (by cases c; rfl)⟩
    · rw [upd_other _ he] at hx
      obtain ⟨h1, h2, h3, _⟩ := hA.ptr x k hx
      obtain ⟨h5, h6⟩ := hold x k hx
      exact ⟨h5.trans h1, h2, h3, fun c => h6 (by cases c; rfl)⟩
  · by_cases he : x = a
    · subst he; rw [upd_same] at hx; cases hx
    · rw [upd_other _ he] at hx; exact hA.zero x hx
  · have hlt : ∀ x k, f x = some k → k < w.heap.size := fun x k h => (Array.getElem?_eq_some_iff.1 (hA.ptr x k h).1).1
    by_cases he : x = a
    · by_cases he2 : x' = a
      · rw [he, he2]
      · subst he; rw [upd_same] at h1; rw [upd_other _ he2] at h2; cases h1
        have := hlt _ _ h2; omega
    · by_cases he2 : x' = a
      · subst he2; rw [upd_same] at h2; rw [upd_other _ he] at h1; cases h2
        have := hlt _ _ h1; omega
      · rw [upd_other _ he] at h1; rw [upd_other _ he2] at h2; exact hA.inj _ _ _ h1 h2
set_option maxRecDepth 10000 in
set_option maxHeartbeats 1000000 in
theorem at_any (w : World) (base b : Nat) (mo : Option Nat) (f : Int → Option Nat) (s : CS) (hA : CellsAt w base b mo f s) (a : Int) (ha : (Lit.int .u64 a).wf = true) (hn : s.n < maxLen) (hbase : base ≤ w.heap.size) :
    Calls Tryz.prog 175 #[.pointer (some ⟨b, 0, none⟩), .int .u64 a] w fun e w' => ∃ mo' f' p, e = .returned (.pointer (some ⟨p, 0, none⟩)) ∧ CellsAt w' base b mo' f' { s with n := s.n + 1 } ∧ f' a = some p ∧
      Keeps (cellsFp b mo f) w w' ∧ ∀ k, cellsFp b mo' f' k → cellsFp b mo f k ∨ w.heap.size ≤ k := by
  have hmm := @run_makeMap Tryz.prog
  have qM : ∀ (w : World) (r : Option Nat), (binOp .eql 237 (.map r) (.map none)).run Tryz.prog w = .ok (.bool r.isNone) w := fun w r => run_eql_map_nil w _ _ _ r Tryz.underlying237
  have hb : b < w.heap.size := (Array.getElem?_eq_some_iff.1 hA.hdr).1
  have c0 : w.cell? ⟨b, 0, none⟩ = some (.map mo) := by simp [World.cell?, hA.hdr, hdrC]
  have f0 : w.frozen? ⟨b, 0, none⟩ = false := by simp [World.frozen?, hA.hdr]
  cases hfa : f a with
  | some p =>
    cases mo with
    | none => exact absurd (hA.nomap rfl a) (by simp [hfa])
    | some m =>
      have hl := (hA.map m rfl).1.look ha
      rw [hfa] at hl
      simp only [ptrV, Option.map] at hl
      have HF := Lib.hid hfa
      clear hfa
      go_enter Tryz.func175, Tryz.ntmps175
      go_wp2
      go_ret
      exact ⟨some m, f, p, rfl, hA.mono _ (by omega), HF.out, below_keeps (Below.refl _ _) _, fun k hk => .inl hk⟩
  | none =>
    cases mo with
    | some m =>
      have hl := (hA.map m rfl).1.look ha
      rw [hfa] at hl
      simp only [ptrV, Option.map] at hl
      have HF := Lib.hid hfa
      clear hfa
      have HM := (hA.map m rfl).1
      go_enter Tryz.func175, Tryz.ntmps175
      go_wp2_with (at_mapUpdate; refine wpList_put rfl _ _ _ rfl m s.n f rfl (HM.keep (Below.heap_alloc _ _ _ HM.lt)) hn a w.heap.size rfl rfl ha ?_; intro w2 hM2 hG2)
      go_ret
      have hml : m < w.heap.size := HM.lt
      have hb2 : w2.heap[b]? = w.heap[b]? := (hG2.block b (by simp; omega) (fun c => (hA.map m rfl).2.2 (by cases c; rfl))).trans (Below.heap_alloc _ _ _ hb)
      have hk2 : ∀ k, k < w.heap.size → k ≠ m → w2.heap[k]? = w.heap[k]? := fun k hk hne => (hG2.block k (by simp; omega) (fun c => hne (by cases c; rfl))).trans (Below.heap_alloc _ _ _ hk)
      refine ⟨some m, _, w.heap.size, rfl, hA.put HF.out m _ (hb2.trans hA.hdr) hM2 (hA.map m rfl).2.1 (hA.map m rfl).2.2 ?_ (Nat.le_refl _) hbase (by omega) (fun x k hx => ?_), upd_same _ _ _, ?_, ?_⟩
      · rw [hG2.block _ (by simp) (fun c => by cases c; omega)]; exact heap_alloc_new w _
      · have h1 := hA.ptr x k hx
        have hne : k ≠ m := fun c => h1.2.2.2 (by rw [c])
        exact ⟨hk2 k (Array.getElem?_eq_some_iff.1 h1.1).1 hne, Ne.symm hne⟩
      · exact ⟨hG2.os, hG2.tape, hG2.output, Nat.le_trans (by simp) hG2.size, fun k hk hn => hk2 k hk (fun c => hn (.inr (.inl (by rw [c]))))⟩
      · rintro k (rfl | hm | ⟨x, hx⟩)
        · exact .inl (.inl rfl)
        · exact .inl (.inr (.inl hm))
        · by_cases he : x = a
          · subst he; rw [upd_same] at hx; cases hx; exact .inr (Nat.le_refl _)
          · rw [upd_other _ he] at hx; exact .inl (.inr (.inr ⟨x, hx⟩))
    | none =>
      have hl := look_none w ha
      have HF := Lib.hid hfa
      clear hfa
      have hNo := hA.nomap rfl
      have e1 : (w.setCell ⟨b, 0, none⟩ (.map (some w.heap.size))).heap.size = w.heap.size := by simp [World.setCell]
      have hM0 : MapP (((w.setCell ⟨b, 0, none⟩ (.map (some w.heap.size))).alloc (.map #[] 0)).alloc (.cells #[.int .u64 0] 294)) w.heap.size 0 f := by
        have h := MapP.made (w.setCell ⟨b, 0, none⟩ (.map (some w.heap.size)))
        rw [e1] at h
        rw [show f = fun _ => none from funext hNo]
        exact h.keep (Below.heap_alloc _ _ _ (by simp))
      go_enter Tryz.func175, Tryz.ntmps175
      go_wp2_with (at_mapUpdate; refine wpList_put rfl _ _ _ rfl w.heap.size 0 f rfl hM0 (by unfold maxLen; omega) a (w.heap.size + 1) rfl rfl ha ?_; intro w2 hM2 hG2)
      go_ret
      have hs0 := setCell_same hA.hdr 0 (.map (some w.heap.size))
      have hk0 : Keeps (cellsFp b none f) w (((w.setCell ⟨b, 0, none⟩ (.map (some w.heap.size))).alloc (.map #[] 0)).alloc (.cells #[.int .u64 0] 294)) :=
        ((setCell_keeps w b 0 _).mono (T := cellsFp b none f) fun k _ h => .inl h).again (below_keeps (((Below.refl _ _).alloc (Nat.le_refl _) _).alloc (by simp) _) _)
      have hk1 : Keeps (cellsFp b none f) w w2 := ⟨hG2.os.trans hk0.os, hG2.tape.trans hk0.tape, hG2.output.trans hk0.output, Nat.le_trans hk0.size hG2.size, fun k hk hn => (hG2.block k (by simp; omega) (fun c => by cases c; omega)).trans (hk0.block k hk hn)⟩
      refine ⟨some w.heap.size, _, w.heap.size + 1, rfl, hA.put HF.out w.heap.size _ ?_ (hM2.mono (by omega)) hbase (by omega) ?_ (by omega) hbase (by omega) (fun x k hx => by rw [hNo x] at hx; cases hx), upd_same _ _ _, hk1, ?_⟩
      · rw [hG2.block b (by simp; omega) (fun c => by cases c; omega), Below.heap_alloc _ _ _ (by simp; omega), Below.heap_alloc _ _ _ (by simp; omega), hs0]; rfl
      · rw [hG2.block _ (by simp) (fun c => by simp only [Option.some.injEq] at c; omega)]
        have e2 : ((w.setCell ⟨b, 0, none⟩ (.map (some w.heap.size))).alloc (.map #[] 0)).heap.size = w.heap.size + 1 := by simp
        have := heap_alloc_new ((w.setCell ⟨b, 0, none⟩ (.map (some w.heap.size))).alloc (.map #[] 0)) (.cells #[.int .u64 0] 294)
        rw [e2] at this
        exact this
      · rintro k (rfl | hm | ⟨x, hx⟩)
        · exact .inl (.inl rfl)
        · cases hm; exact .inr (Nat.le_refl _)
        · by_cases he : x = a
          · subst he; rw [upd_same] at hx; cases hx; exact .inr (by omega)
          · rw [upd_other _ he, hNo x] at hx; cases hx
end Go.Proofs.YtmakjfeepmiggaaGreat
namespace Go.Proofs.YtmakjfeepmiggaaGreat
open Go.RowKit Go.Maps
set_option linter.unusedVariables false
def lim : Nat := 4611686018427387904
theorem lim_le : lim ≤ maxLen := by unfold lim maxLen; omega
theorem CellsAt.hit {w w2 : World} {base b : Nat} {mo : Option Nat} {f : Int → Option Nat} {s : CS} (hA : CellsAt w base b mo f s) {a : Int} {p : Nat} (ha : f a = some p) (i : Int) (hi : (Lit.int .u64 i).wf = true)
    (hp : w2.heap[p]? = some (wordC i)) (hold : ∀ k, cellsFp b mo f k → k ≠ p → w2.heap[k]? = w.heap[k]?) : CellsAt w2 base b mo f { s with val := upd s.val a i } := by
  have hpp := hA.ptr a p ha
  refine ⟨(hold b (.inl rfl) (Ne.symm hpp.2.2.1)).trans hA.hdr, hA.lo, fun m hm => ?_, hA.nomap, fun x k hx => ?_, fun x hx => ?_, hA.inj, fun x => ?_⟩
  · obtain ⟨h1, h2⟩ := hA.map m hm
    exact ⟨h1.keep (hold m (.inr (.inl hm)) (fun c => hpp.2.2.2 (by rw [hm, c]))), h2⟩
  · obtain ⟨h1, h2⟩ := hA.ptr x k hx
    by_cases he : x = a
    · subst he; rw [ha] at hx; cases hx
      simp only [upd_same]; exact ⟨hp, h2⟩
    · simp only [upd_other _ he]
      exact ⟨(hold k (.inr (.inr ⟨x, hx⟩)) (fun c => he (hA.inj _ _ _ hx (by rw [ha, c])))).trans h1, h2⟩
  · by_cases he : x = a
    · subst he; rw [ha] at hx; cases hx
    · simp only [upd_other _ he]; exact hA.zero x hx
  · by_cases he : x = a
    · subst he; simp only [upd_same]; exact hi
    · simp only [upd_other _ he]; exact hA.wf x
theorem CellsAt.head {w w2 : World} {base b : Nat} {mo : Option Nat} {f : Int → Option Nat} {s s2 : CS} (hA : CellsAt w base b mo f s) (hv : s2.val = s.val) (hn : s2.n = s.n)
    (hp : w2.heap[b]? = some (.cells (hdrC mo s2) 239 (0, 0))) (hold : ∀ k, cellsFp b mo f k → k ≠ b → w2.heap[k]? = w.heap[k]?) : CellsAt w2 base b mo f s2 := by
  refine ⟨hp, hA.lo, fun m hm => ?_, hA.nomap, fun x k hx => ?_, fun x hx => ?_, hA.inj, fun x => ?_⟩
  · obtain ⟨h1, h2, h3⟩ := hA.map m hm
    rw [hn]; exact ⟨h1.keep (hold m (.inr (.inl hm)) h3), h2, h3⟩
  · obtain ⟨h1, h2, h3, h4⟩ := hA.ptr x k hx
    rw [hv]; exact ⟨(hold k (.inr (.inr ⟨x, hx⟩)) h3).trans h1, h2, h3, h4⟩
  · rw [hv]; exact hA.zero x hx
  · rw [hv]; exact hA.wf x
set_option maxRecDepth 10000 in
set_option maxHeartbeats 1000000 in
theorem access_gen (F : Nat) (cap : Array Value) (kd : Int) (w : World) (base b : Nat) (s : CS) (S : Nat → Prop) (hA : Cells w base b s S) (a : Int) (ha : (Lit.int .u64 a).wf = true) (hn : s.n < lim) (hc : s.cnt < lim) (hbase : base ≤ w.heap.size)
    (i st : Int) (hi : (Lit.int .u64 i).wf = true) (X : Nat → Prop) (O : Nat → Option Obj) (hX : ∀ k, X k → k < w.heap.size ∧ ¬ S k) (hst : st = s.val a)
    (hcf : ∀ (args : Array Value) (w : World), (callFunc F args).run Tryz.prog w = .ok (.enter F args) w)
    (hF : ∀ (w1 : World) (p : Nat), Keeps S w w1 → (S p ∨ w.heap.size ≤ p) → w1.heap[p]? = some (wordC (s.val a)) →
      Calls Tryz.prog F (#[.pointer (some ⟨p, 0, none⟩)] ++ cap) w1 fun e w2 => e = .returned (.int .u64 st) ∧ w2.heap[p]? = some (wordC i) ∧ Keeps (fun k => k = p ∨ X k) w1 w2 ∧ ∀ k, X k → w2.heap[k]? = O k) :
    Calls Tryz.prog 120 #[.pointer (some ⟨b, 0, none⟩), .int .u8 kd, .int .u64 a, .func (.func F) #[] cap] w fun e w' => ∃ S', e = .returned (.int .u64 st) ∧ Cells w' base b (s.acc kd a i) S' ∧
      Keeps (fun k => S k ∨ X k) w w' ∧ (∀ k, S' k → S k ∨ w.heap.size ≤ k) ∧ ∀ k, X k → w'.heap[k]? = O k := by
  obtain ⟨mo, f, hA, rfl⟩ := hA
  go_enter Tryz.func120, Tryz.ntmps120
  go_wp2_with (first
    | (go_at_call 175; refine (at_any _ base b mo f s hA a ha (Nat.lt_of_lt_of_le hn lim_le) hbase).mono ?_; rintro e w1 ⟨mo1, f1, p, rfl, h1, h2, h3, h4⟩)
    | (fail))
  have hlt1 := h1.fp
  have hpp := h1.ptr a p h2
  have hXS := hX
  have hXf : ∀ k, cellsFp b mo1 f1 k → ¬ X k := fun k hk hx => by
    obtain ⟨q1, q2⟩ := hX k hx
    rcases h4 k hk with q | q
    · exact q2 q
    · omega
  refine (hF w1 p h3 (h4 p (.inr (.inr ⟨a, h2⟩))) hpp.1).mono ?_
  rintro e w2 ⟨rfl, g1, g2, g3⟩
  have h5 := h1.hit h2 i hi g1 (fun k hk hne => g2.block k (hlt1 k hk).2 (fun c => c.elim hne (hXf k hk)))
  have hw2 : Keeps (fun k => cellsFp b mo f k ∨ X k) w w2 := by
    refine ((h3.mono (T := fun k => cellsFp b mo f k ∨ X k) fun k _ h => .inl h).trans g2).mono fun k hk h => ?_
    rcases h with h | rfl | h
    · exact h
    · rcases h4 _ (.inr (.inr ⟨a, h2⟩)) with q | q
      · exact .inl q
      · omega
    · exact .inr h
  have hpb : p ≠ b := hpp.2.2.1
  have hHB := Lib.hid h5.hdr
  have hb2 : w2.heap[b]? = some (.cells #[.map mo1, .int .i64 s.cnt, .int .u8 s.kind, .int .u64 s.addr, .int .u64 s.was, .int .u64 s.is] 239 (0, 0)) := h5.hdr
  have c1 : w2.cell? ⟨b, 1, none⟩ = some (.int .i64 s.cnt) := by simp [World.cell?, hb2]
  have c2 : w2.cell? ⟨b, 2, none⟩ = some (.int .u8 s.kind) := by simp [World.cell?, hb2]
  have c3 : w2.cell? ⟨b, 3, none⟩ = some (.int .u64 s.addr) := by simp [World.cell?, hb2]
  have c4 : w2.cell? ⟨b, 4, none⟩ = some (.int .u64 s.was) := by simp [World.cell?, hb2]
  have c5 : w2.cell? ⟨b, 5, none⟩ = some (.int .u64 s.is) := by simp [World.cell?, hb2]
  have f1' : w2.frozen? ⟨b, 1, none⟩ = false := by simp [World.frozen?, hb2]
  have f2' : w2.frozen? ⟨b, 2, none⟩ = false := by simp [World.frozen?, hb2]
  have f3' : w2.frozen? ⟨b, 3, none⟩ = false := by simp [World.frozen?, hb2]
  have f4' : w2.frozen? ⟨b, 4, none⟩ = false := by simp [World.frozen?, hb2]
  have f5' : w2.frozen? ⟨b, 5, none⟩ = false := by simp [World.frozen?, hb2]
  have cp : (w2.setCell ⟨b, 1, none⟩ (.int .i64 ((s.cnt : Int) + 1))).cell? ⟨p, 0, none⟩ = some (.int .u64 i) := by
    rw [World.cell?_setCell_other _ _ _ _ (by simp)]; simp [World.cell?, g1, wordC]
  have hcnt : (s.cnt : Int) < 4611686018427387904 := by unfold lim at hc; omega
  have HH1 := Lib.hid h1; have HH2 := Lib.hid h2; have HH5 := Lib.hid h5; have HP := Lib.hid hpp; have HB2 := Lib.hid hb2; have HG1 := Lib.hid g1; have HG3 := Lib.hid g3; have HST := Lib.hid hst
  clear h1 h2 h3 h5 hpp hb2 g1 g2 g3 hlt1 hF hX hXf hst hA hn hc hi ha
  go_wp2_with (first
    | (go_at_call 135; refine (a_load p i _ cp).mono ?_; rintro e w' ⟨rfl, rfl⟩))
  go_ret
  have b2 := HB2.out
  have s1 := setCell_same b2 1 (.int .i64 ((s.cnt : Int) + 1))
  have s2 := setCell_same s1 2 (.int .u8 kd)
  have s3 := setCell_same s2 3 (.int .u64 a)
  have s4 := setCell_same s3 4 (.int .u64 st)
  have s5 := setCell_same s4 5 (.int .u64 i)
  have k5 := (((((setCell_keeps w2 b 1 (.int .i64 ((s.cnt : Int) + 1))).again (setCell_keeps _ b 2 (.int .u8 kd))).again (setCell_keeps _ b 3 (.int .u64 a))).again (setCell_keeps _ b 4 (.int .u64 st))).again (setCell_keeps _ b 5 (.int .u64 i)))
  have h5 := HH5.out
  have hbX : ∀ k, X k → k ≠ b := fun k hk c => by
    have := hXS k hk
    exact this.2 (.inl c)
  refine ⟨cellsFp b mo1 f1, rfl, ⟨mo1, f1, h5.head (s2 := s.acc kd a i) rfl rfl ?_ (fun k hk hne => k5.block k (h5.fp k hk).2 hne), rfl⟩, hw2.again (k5.mono fun k _ h => .inl (.inl h)), h4, fun k hk => ?_⟩
  · rw [s5]; simp only [hdrC, CS.acc, ← HST.out]; rfl
  · rw [k5.block k (Nat.lt_of_lt_of_le (hXS k hk).1 hw2.size) (hbX k hk)]; exact HG3.out k hk
end Go.Proofs.YtmakjfeepmiggaaGreat
namespace Go.Proofs.YtmakjfeepmiggaaGreat
open Go.RowKit Go.Maps
set_option linter.unusedVariables false
def Acc (w : World) (base b : Nat) (s' : CS) (S : Nat → Prop) (w' : World) : Prop :=
  ∃ S', Cells w' base b s' S' ∧ Keeps S w w' ∧ ∀ k, S' k → S k ∨ w.heap.size ≤ k
theorem cell_of_word {w : World} {p : Nat} {v : Int} (h : w.heap[p]? = some (wordC v)) : w.cell? ⟨p, 0, none⟩ = some (.int .u64 v) := by simp [World.cell?, h, wordC]
theorem free_of_word {w : World} {p : Nat} {v : Int} (h : w.heap[p]? = some (wordC v)) : w.frozen? ⟨p, 0, none⟩ = false := by simp [World.frozen?, h, wordC]
theorem word_set {w : World} {p : Nat} {v : Int} (h : w.heap[p]? = some (wordC v)) (y : Int) : (w.setCell ⟨p, 0, none⟩ (.int .u64 y)).heap[p]? = some (wordC y) := by
  have := setCell_same h 0 (.int .u64 y); simpa [wordC] using this
theorem load_any (w : World) (base b : Nat) (s : CS) (S : Nat → Prop) (hA : Cells w base b s S) (a : Int) (ha : (Lit.int .u64 a).wf = true) (hn : s.n < lim) (hc : s.cnt < lim) (hbase : base ≤ w.heap.size) :
    Calls Tryz.prog 62 #[.pointer (some ⟨b, 0, none⟩), .int .u64 a] w fun e w' => e = .returned (.int .u64 (s.val a)) ∧ Acc w base b (s.acc 1 a (s.val a)) S w' := by
  have hw : (Lit.int .u64 (s.val a)).wf = true := by obtain ⟨mo, f, h, rfl⟩ := hA; exact h.wf a
  have key := access_gen 135 #[] 1 w base b s S hA a ha hn hc hbase (s.val a) (s.val a) hw (fun _ => False) (fun _ => none) (fun k h => h.elim) rfl (fun args w => by kernel_rfl)
    (fun w1 p _ _ hp => (a_load p _ w1 (cell_of_word hp)).mono (by rintro e w2 ⟨rfl, rfl⟩; exact ⟨rfl, hp, below_keeps (Below.refl _ _) _, fun k h => h.elim⟩))
  clear hA ha hn hc
  go_enter Tryz.func62, Tryz.ntmps62
  go_wp2_with (go_at_call 120; refine key.mono ?_; rintro e w1 ⟨S', rfl, h1, h2, h3, -⟩)
  go_ret
  exact ⟨rfl, S', h1, h2.mono (fun k _ h => h.elim id False.elim), h3⟩
theorem cap_cell {w w1 : World} {S : Nat → Prop} {q : Nat} {v : Int} (h : w.heap[q]? = some (.cells #[.int .u64 v] 38 (0, 0))) (hk : Keeps S w w1) (hq : ¬ S q) : w1.cell? ⟨q, 0, none⟩ = some (.int .u64 v) := by
  have h2 : w1.heap[q]? = some (.cells #[.int .u64 v] 38 (0, 0)) := (hk.block q (Array.getElem?_eq_some_iff.1 h).1 hq).trans h
  simp [World.cell?, h2]
theorem swaps1 (w1 : World) (p q : Nat) (x v : Int) (hp : w1.heap[p]? = some (wordC x)) (hq : w1.cell? ⟨q, 0, none⟩ = some (.int .u64 v)) :
    Calls Tryz.prog 176 #[.pointer (some ⟨p, 0, none⟩), .pointer (some ⟨q, 0, none⟩)] w1 fun e w2 => e = .returned (.int .u64 x) ∧ w2 = w1.setCell ⟨p, 0, none⟩ (.int .u64 v) := by
  have h1 := cell_of_word hp
  have h2 := free_of_word hp
  clear hp
  go_enter Tryz.func176, Tryz.ntmps176
  go_wp2_with (go_at_call 177; refine (a_swap p x v _ h1 h2).mono ?_; rintro e w' ⟨rfl, rfl⟩)
  go_ret
  exact ⟨rfl, rfl⟩
theorem swaps_any (w : World) (v : Int) : Calls Tryz.prog 121 #[.int .u64 v] w fun e w2 => e = .returned (.func (.func 176) #[] #[.pointer (some ⟨w.heap.size, 0, none⟩)]) ∧ w2 = w.alloc (.cells #[.int .u64 v] 38) := by
  have hmf : ∀ (fn : Fn) (first cap : Array Value) (w : World), (Instr.makeFunc fn first cap).run Tryz.prog w = .ok (.func fn first cap) w := fun _ _ _ _ => rfl
  go_enter Tryz.func121, Tryz.ntmps121
  go_wp2
  go_ret
  exact ⟨rfl, rfl⟩
theorem acc_alloc {w w' : World} {base b : Nat} {s' : CS} {S : Nat → Prop} {o : Obj} (h : Acc (w.alloc o) base b s' S w') : Acc w base b s' S w' := by
  obtain ⟨S', h1, h2, h3⟩ := h
  exact ⟨S', h1, (below_keeps ((Below.refl _ _).alloc (Nat.le_refl _) _) S).again h2, fun k hk => (h3 k hk).imp id (fun h => by simp at h; omega)⟩
theorem swap_key (kd : Int) (w : World) (base b : Nat) (s : CS) (S : Nat → Prop) (hA : Cells w base b s S) (a v : Int) (ha : (Lit.int .u64 a).wf = true) (hv : (Lit.int .u64 v).wf = true) (hn : s.n < lim) (hc : s.cnt < lim) (hbase : base ≤ w.heap.size) :
    Calls Tryz.prog 120 #[.pointer (some ⟨b, 0, none⟩), .int .u8 kd, .int .u64 a, .func (.func 176) #[] #[.pointer (some ⟨w.heap.size, 0, none⟩)]] (w.alloc (.cells #[.int .u64 v] 38)) fun e w' =>
      e = .returned (.int .u64 (s.val a)) ∧ Acc w base b (s.acc kd a v) S w' := by
  have hS := hA.fp
  refine (access_gen 176 #[.pointer (some ⟨w.heap.size, 0, none⟩)] kd (w.alloc (.cells #[.int .u64 v] 38)) base b s S (hA.below ((Below.refl _ _).alloc (Nat.le_refl _) _)) a ha hn hc (by simp; omega) v (s.val a) hv (fun _ => False) (fun _ => none) (fun k h => h.elim) rfl (fun args w => by kernel_rfl)
    (fun w1 p hk hS2 hp => (swaps1 w1 p w.heap.size _ v hp (cap_cell (heap_alloc_new w _) hk (fun c => by have := (hS _ c).2; omega))).mono ?_)).mono ?_
  · rintro e w2 ⟨rfl, rfl⟩
    exact ⟨rfl, word_set hp v, (setCell_keeps w1 p 0 _).mono fun k _ h => .inl h, fun k h => h.elim⟩
  · rintro e w2 ⟨S', rfl, h1, h2, h3, -⟩
    exact ⟨rfl, acc_alloc ⟨S', h1, h2.mono (fun k _ h => h.elim id False.elim), h3⟩⟩
theorem store_any (w : World) (base b : Nat) (s : CS) (S : Nat → Prop) (hA : Cells w base b s S) (a v : Int) (ha : (Lit.int .u64 a).wf = true) (hv : (Lit.int .u64 v).wf = true) (hn : s.n < lim) (hc : s.cnt < lim) (hbase : base ≤ w.heap.size) :
    Calls Tryz.prog 41 #[.pointer (some ⟨b, 0, none⟩), .int .u64 a, .int .u64 v] w fun e w' => e = .returned (.int .u64 (s.val a)) ∧ Acc w base b (s.acc 2 a v) S w' := by
  have key := swap_key 2 w base b s S hA a v ha hv hn hc hbase
  clear hA ha hn hc hv
  go_enter Tryz.func41, Tryz.ntmps41
  go_wp2_with (first | (go_at_call 121; refine (swaps_any _ v).mono ?_; rintro e w1 ⟨rfl, rfl⟩) | (go_at_call 120; refine key.mono ?_; rintro e w1 ⟨rfl, h1⟩))
  go_ret
  exact ⟨rfl, h1⟩
theorem add1 (w1 : World) (p q : Nat) (x v : Int) (hx : (Lit.int .u64 x).wf = true) (hp : w1.heap[p]? = some (wordC x)) (hq : w1.cell? ⟨q, 0, none⟩ = some (.int .u64 v)) (hpq : q ≠ p) :
    Calls Tryz.prog 283 #[.pointer (some ⟨p, 0, none⟩), .pointer (some ⟨q, 0, none⟩)] w1 fun e w2 => e = .returned (.int .u64 x) ∧ w2 = w1.drew.setCell ⟨p, 0, none⟩ (.int .u64 (wu (x + v))) := by
  have h1 := cell_of_word hp
  have h2 := free_of_word hp
  have hq2 : (w1.drew.setCell ⟨p, 0, none⟩ (.int .u64 (wu (x + v)))).cell? ⟨q, 0, none⟩ = some (.int .u64 v) := by rw [World.cell?_setCell_other _ _ _ _ (by simp)]; exact hq
  have hb := wu_back v hx
  have HX := Lib.hid hx
  clear hp hx
  go_enter Tryz.func283, Tryz.ntmps283
  go_wp2
  go_region_with (go_at_call 284; refine (a_add p x v w1.drew h1 h2).mono ?_; rintro e w' ⟨rfl, rfl⟩)
  all_goals (try go_wp2)
  all_goals (go_ret; exact ⟨rfl, rfl⟩)
theorem add_any (w : World) (base b : Nat) (s : CS) (S : Nat → Prop) (hA : Cells w base b s S) (a v : Int) (ha : (Lit.int .u64 a).wf = true) (hn : s.n < lim) (hc : s.cnt < lim) (hbase : base ≤ w.heap.size) :
    Calls Tryz.prog 282 #[.pointer (some ⟨b, 0, none⟩), .int .u64 a, .int .u64 v] w fun e w' => e = .returned (.int .u64 (s.val a)) ∧ Acc w base b (s.acc 4 a (wu (s.val a + v))) S w' := by
  have hS := hA.fp
  have hwf : (Lit.int .u64 (s.val a)).wf = true := by obtain ⟨mo, f, h, rfl⟩ := hA; exact h.wf a
  have hmf : ∀ (fn : Fn) (first cap : Array Value) (w : World), (Instr.makeFunc fn first cap).run Tryz.prog w = .ok (.func fn first cap) w := fun _ _ _ _ => rfl
  have key := access_gen 283 #[.pointer (some ⟨w.heap.size, 0, none⟩)] 4 (w.alloc (.cells #[.int .u64 v] 38)) base b s S (hA.below ((Below.refl _ _).alloc (Nat.le_refl _) _)) a ha hn hc (by simp; omega) (wu (s.val a + v)) (s.val a) (wf_wu _) (fun _ => False) (fun _ => none) (fun k h => h.elim) rfl (fun args w => by kernel_rfl)
    (fun w1 p hk hS2 hp => (add1 w1 p w.heap.size _ v hwf hp (cap_cell (heap_alloc_new w _) hk (fun c => by have := (hS _ c).2; omega)) (fun c => by
      rcases hS2 with q | q
      · have := (hS _ q).2; omega
      · simp at q; omega)).mono (by
        rintro e w2 ⟨rfl, rfl⟩
        refine ⟨rfl, ?_, ?_, fun k h => h.elim⟩
        · exact word_set (w := w1.drew) hp _
        · have := (below_keeps (below_drewN w1 1) (fun k => k = p ∨ False)).again ((setCell_keeps w1.drew p 0 (.int .u64 (wu (s.val a + v)))).mono fun k _ h => .inl h)
          exact this))
  clear hA ha hn hc hwf hS
  go_enter Tryz.func282, Tryz.ntmps282
  go_wp2_with (go_at_call 120; refine key.mono ?_; rintro e w1 ⟨S', rfl, h1, h2, h3, -⟩)
  go_ret
  exact ⟨rfl, acc_alloc ⟨S', h1, h2.mono (fun k _ h => h.elim id False.elim), h3⟩⟩
def doneC (d : Bool) : Obj := .cells #[.bool d] 4 (0, 0)
theorem cas1 (w1 : World) (p q1 q2 d : Nat) (x a b : Int) (d0 : Bool) (hp : w1.heap[p]? = some (wordC x)) (ha : w1.cell? ⟨q1, 0, none⟩ = some (.int .u64 a)) (hb : w1.cell? ⟨q2, 0, none⟩ = some (.int .u64 b)) (hd : w1.heap[d]? = some (doneC d0))
    (hpd : p ≠ d) (hq1 : q1 ≠ p) (hq1d : q1 ≠ d) :
    Calls Tryz.prog 201 #[.pointer (some ⟨p, 0, none⟩), .pointer (some ⟨q1, 0, none⟩), .pointer (some ⟨q2, 0, none⟩), .pointer (some ⟨d, 0, none⟩)] w1 fun e w2 => e = .returned (.int .u64 x) ∧
      w2.heap[p]? = some (wordC (if x = a then b else x)) ∧ Keeps (fun k => k = p ∨ k = d) w1 w2 ∧ w2.heap[d]? = some (doneC (x == a)) := by
  have h1 := cell_of_word hp
  have h2 := free_of_word hp
  have hd1 : w1.cell? ⟨d, 0, none⟩ = some (.bool d0) := by simp [World.cell?, hd, doneC]
  have hd2 : w1.frozen? ⟨d, 0, none⟩ = false := by simp [World.frozen?, hd, doneC]
  by_cases hx : x = a
  · subst hx
    have k1 := setCell_keeps w1 p 0 (.int .u64 b)
    have hdw : (w1.setCell ⟨p, 0, none⟩ (.int .u64 b)).heap[d]? = some (doneC d0) := by rw [k1.block d (Array.getElem?_eq_some_iff.1 hd).1 (Ne.symm hpd)]; exact hd
    have k2 := setCell_keeps (w1.setCell ⟨p, 0, none⟩ (.int .u64 b)) d 0 (.bool true)
    have hpw := word_set hp b
    have HP := Lib.hid hp; have HD := Lib.hid hd; have HDW := Lib.hid hdw; have HPW := Lib.hid hpw; have K1 := Lib.hid k1; have K2 := Lib.hid k2
    have hd1' : (w1.setCell ⟨p, 0, none⟩ (.int .u64 b)).cell? ⟨d, 0, none⟩ = some (.bool d0) := by simp [World.cell?, hdw, doneC]
    have hd2' : (w1.setCell ⟨p, 0, none⟩ (.int .u64 b)).frozen? ⟨d, 0, none⟩ = false := by simp [World.frozen?, hdw, doneC]
    have e1 : ((w1.setCell ⟨p, 0, none⟩ (.int .u64 b)).setCell ⟨d, 0, none⟩ (.bool true)).cell? ⟨d, 0, none⟩ = some (.bool true) := by simp [World.cell?, setCell_same hdw]
    have e2 : ((w1.setCell ⟨p, 0, none⟩ (.int .u64 b)).setCell ⟨d, 0, none⟩ (.bool true)).cell? ⟨q1, 0, none⟩ = some (.int .u64 x) := by
      rw [World.cell?_setCell_other _ _ _ _ (by simp), World.cell?_setCell_other _ _ _ _ (by simp)]; exact ha
    clear hp hd hdw hpw k1 k2
    go_enter Tryz.func201, Tryz.ntmps201
    go_wp2_with (go_at_call 202; refine (a_cas_hit p x b _ h1 h2).mono ?_; rintro e w' ⟨rfl, rfl⟩)
    go_ret
    refine ⟨rfl, ?_, ?_, ?_⟩
    · rw [K2.out.block p (by simp [World.setCell]; exact (Array.getElem?_eq_some_iff.1 HP.out).1) hpd]; exact HPW.out
    · exact (K1.out.mono fun k _ h => .inl h).again (K2.out.mono fun k _ h => .inr h)
    · rw [setCell_same HDW.out]; rfl
  · have k2 := setCell_keeps w1 d 0 (.bool false)
    have e1 : (w1.setCell ⟨d, 0, none⟩ (.bool false)).cell? ⟨d, 0, none⟩ = some (.bool false) := by simp [World.cell?, setCell_same hd]
    have e2 : (w1.setCell ⟨d, 0, none⟩ (.bool false)).cell? ⟨p, 0, none⟩ = some (.int .u64 x) := by
      rw [World.cell?_setCell_other _ _ _ _ (by simp)]; exact h1
    have hxb : (x == a) = false := by simp [hx]
    have HP := Lib.hid hp; have HD := Lib.hid hd; have K2 := Lib.hid k2
    clear hp hd k2
    go_enter Tryz.func201, Tryz.ntmps201
    go_wp2_with (first | (go_at_call 202; refine (a_cas_miss p x a b _ h1 h2 hx).mono ?_; rintro e w' ⟨rfl, rfl⟩) | (go_at_call 135; refine (a_load p x _ e2).mono ?_; rintro e w' ⟨rfl, rfl⟩))
    go_ret
    refine ⟨rfl, ?_, K2.out.mono fun k _ h => .inr h, ?_⟩
    · rw [K2.out.block p (Array.getElem?_eq_some_iff.1 HP.out).1 hpd]; exact HP.out
    · rw [setCell_same HD.out]; rfl
theorem cas_any (w : World) (base b : Nat) (s : CS) (S : Nat → Prop) (hA : Cells w base b s S) (a x y : Int) (ha : (Lit.int .u64 a).wf = true) (hy : (Lit.int .u64 y).wf = true) (hn : s.n < lim) (hc : s.cnt < lim) (hbase : base ≤ w.heap.size) :
    Calls Tryz.prog 159 #[.pointer (some ⟨b, 0, none⟩), .int .u64 a, .int .u64 x, .int .u64 y] w fun e w' => e = .returned (.tuple #[.int .u64 (s.val a), .bool (s.val a == x)]) ∧
      Acc w base b (s.acc 3 a (if s.val a = x then y else s.val a)) S w' := by
  have hS := hA.fp
  have hwf : (Lit.int .u64 (s.val a)).wf = true := by obtain ⟨mo, f, h, rfl⟩ := hA; exact h.wf a
  have hmf : ∀ (fn : Fn) (first cap : Array Value) (w : World), (Instr.makeFunc fn first cap).run Tryz.prog w = .ok (.func fn first cap) w := fun _ _ _ _ => rfl
  obtain ⟨w0, hw0⟩ : ∃ w0, w0 = ((w.alloc (.cells #[.int .u64 x] 38)).alloc (.cells #[.int .u64 y] 38)).alloc (.cells #[.bool false] 4) := ⟨_, rfl⟩
  have hB : Below w.heap.size w w0 := by rw [hw0]; exact (((Below.refl _ _).alloc (Nat.le_refl _) _).alloc (by simp) _).alloc (by simp; omega) _
  have hsz : w0.heap.size = w.heap.size + 3 := by rw [hw0]; simp
  have q1 : w0.heap[w.heap.size]? = some (.cells #[.int .u64 x] 38 (0, 0)) := by
    rw [hw0, Below.heap_alloc _ _ _ (by simp; omega), Below.heap_alloc _ _ _ (by simp)]; exact heap_alloc_new w _
  have q2 : w0.heap[w.heap.size + 1]? = some (.cells #[.int .u64 y] 38 (0, 0)) := by
    rw [hw0, Below.heap_alloc _ _ _ (by simp)]
    have := heap_alloc_new (w.alloc (.cells #[.int .u64 x] 38)) (.cells #[.int .u64 y] 38)
    simpa using this
  have q3 : w0.heap[w.heap.size + 2]? = some (doneC false) := by
    rw [hw0]
    have := heap_alloc_new ((w.alloc (.cells #[.int .u64 x] 38)).alloc (.cells #[.int .u64 y] 38)) (.cells #[.bool false] 4)
    have e2 : ((w.alloc (.cells #[.int .u64 x] 38)).alloc (.cells #[.int .u64 y] 38)).heap.size = w.heap.size + 2 := by simp
    rw [e2] at this
    exact this
  have hA0 := hA.below hB
  have hi : (Lit.int .u64 (if s.val a = x then y else s.val a)).wf = true := by split <;> assumption
  have hSn : ∀ k, w.heap.size ≤ k → ¬ S k := fun k hk c => by have := (hS k c).2; omega
  have hpn : ∀ p k, (S p ∨ w0.heap.size ≤ p) → w.heap.size ≤ k → k < w0.heap.size → p ≠ k := fun p k h h1 h2 c => by
    rcases h with q | q
    · have := (hS _ q).2; omega
    · omega
  have key := access_gen 201 #[.pointer (some ⟨w.heap.size, 0, none⟩), .pointer (some ⟨w.heap.size + 1, 0, none⟩), .pointer (some ⟨w.heap.size + 2, 0, none⟩)] 3 w0 base b s S hA0 a ha hn hc (by omega)
    (if s.val a = x then y else s.val a) (s.val a) hi (fun k => k = w.heap.size + 2) (fun k => some (doneC (s.val a == x))) (fun k h => ⟨by omega, fun c => by have := (hS k c).2; omega⟩) rfl (fun args w => by kernel_rfl)
    (fun w1 p hk hS2 hp => (cas1 w1 p w.heap.size (w.heap.size + 1) (w.heap.size + 2) _ x y false hp (cap_cell q1 hk (hSn _ (by omega))) (cap_cell q2 hk (hSn _ (by omega)))
      ((hk.block _ (by omega) (hSn _ (by omega))).trans q3) (hpn p _ hS2 (by omega) (by omega)) (Ne.symm (hpn p _ hS2 (by omega) (by omega))) (by omega)).mono (by
        rintro e w2 ⟨rfl, g1, g2, g3⟩
        exact ⟨rfl, g1, g2, fun k hk => by rw [hk]; exact g3⟩))
  clear hA ha hn hc hwf hA0 q1 q2 q3 hi hy hSn hpn
  generalize (if s.val a = x then y else s.val a) = i at key ⊢
  generalize (s.val a == x) = dn at key ⊢
  go_enter Tryz.func159, Tryz.ntmps159
  go_wp2_with (go_at_call 120; rw [← hw0]; refine key.mono ?_; rintro e w1 ⟨S', rfl, h1, h2, h3, h4⟩; have h5 := h4 _ rfl; have d1 : w1.cell? ⟨w.heap.size + 2, 0, none⟩ = some (.bool dn) := by simp [World.cell?, h5, doneC])
  have d1' : w1.cell? ⟨w.heap.size + 1 + 1, 0, none⟩ = some (.bool dn) := d1
  have d2' : w1.frozen? ⟨w.heap.size + 1 + 1, 0, none⟩ = false := by
    have : w1.heap[w.heap.size + 1 + 1]? = some (doneC dn) := h5
    simp [World.frozen?, this, doneC]
  have H5 := Lib.hid h5; have H4 := Lib.hid h4; have HW := Lib.hid hw0
  clear h5 h4 hw0 key
  go_region
  have K2 := setCell_keeps w1 (w.heap.size + 1 + 1) 0 (.bool dn)
  have e1 : (w1.setCell ⟨w.heap.size + 1 + 1, 0, none⟩ (.bool dn)).drew.cell? ⟨w.heap.size + 1 + 1, 0, none⟩ = some (.bool dn) := by
    have := setCell_same (o := 0) (show w1.heap[w.heap.size + 1 + 1]? = some (.cells #[.bool dn] 4 (0, 0)) from H5.out) (.bool dn)
    have h2 : (w1.setCell ⟨w.heap.size + 1 + 1, 0, none⟩ (.bool dn)).cell? ⟨w.heap.size + 1 + 1, 0, none⟩ = some (.bool dn) := by simp [World.cell?, this]
    exact h2
  have HK := Lib.hid K2
  clear K2
  all_goals (try go_wp2)
  refine bodyPost_ret (v := .tuple #[.int .u64 (s.val a), .bool dn]) (by simp [results, Tryz.results159, go_sem, e1]) rfl ⟨rfl, S', ?_, ?_, ?_⟩
  · refine h1.keep fun k hk => HK.out.block k (h1.fp k hk).2 (fun c => ?_)
    rcases h3 k hk with q | q
    · have := (hS k q).2; omega
    · omega
  · have hk1 : Keeps (fun k => S k ∨ k = w.heap.size + 2) w w1 := (below_keeps hB _).again h2
    have hk2 := hk1.again (HK.out.mono (T := fun k => S k ∨ k = w.heap.size + 2) fun k _ h => .inr h)
    exact (hk2.again (below_keeps (below_drewN _ 1) _)).mono fun k hk h => h.elim id fun c => by omega
  · exact fun k hk => (h3 k hk).imp id fun h => by omega
theorem count_any (w : World) (base b : Nat) (s : CS) (S : Nat → Prop) (hA : Cells w base b s S) :
    Calls Tryz.prog 139 #[.pointer (some ⟨b, 0, none⟩)] w fun e w' => e = .returned (.int .i64 s.cnt) ∧ w' = w := by
  have c1 : w.cell? ⟨b, 1, none⟩ = some (.int .i64 s.cnt) := by obtain ⟨mo, f, h, rfl⟩ := hA; simp [World.cell?, h.hdr, hdrC]
  clear hA
  go_enter Tryz.func139, Tryz.ntmps139
  go_wp2
  go_ret
  exact ⟨rfl, rfl⟩
def accV (k a x i : Int) : Value := .agg #[.int .u8 k, .int .u64 a, .int .u64 x, .int .u64 i]
theorem last_any (w : World) (base b : Nat) (s : CS) (S : Nat → Prop) (hA : Cells w base b s S) :
    Calls Tryz.prog 69 #[.pointer (some ⟨b, 0, none⟩)] w fun e w' => e = .returned (accV s.kind s.addr s.was s.is) ∧ Below w.heap.size w w' := by
  have hb : b < w.heap.size := by obtain ⟨mo, f, h, rfl⟩ := hA; exact (Array.getElem?_eq_some_iff.1 h.hdr).1
  have c2 : w.cell? ⟨b, 2, none⟩ = some (.int .u8 s.kind) := by obtain ⟨mo, f, h, rfl⟩ := hA; simp [World.cell?, h.hdr, hdrC]
  have c3 : w.cell? ⟨b, 3, none⟩ = some (.int .u64 s.addr) := by obtain ⟨mo, f, h, rfl⟩ := hA; simp [World.cell?, h.hdr, hdrC]
  have c4 : w.cell? ⟨b, 4, none⟩ = some (.int .u64 s.was) := by obtain ⟨mo, f, h, rfl⟩ := hA; simp [World.cell?, h.hdr, hdrC]
  have c5 : w.cell? ⟨b, 5, none⟩ = some (.int .u64 s.is) := by obtain ⟨mo, f, h, rfl⟩ := hA; simp [World.cell?, h.hdr, hdrC]
  clear hA
  go_enter Tryz.func69, Tryz.ntmps69
  go_wp2
  refine bodyPost_ret (v := accV s.kind s.addr s.was s.is) (by simp [results, Tryz.results69, go_sem, accV]) rfl ⟨rfl, ?_⟩
  exact ((Below.refl _ _).alloc (Nat.le_refl _) _)
theorem peek_any (w : World) (base b : Nat) (s : CS) (S : Nat → Prop) (hA : Cells w base b s S) (a : Int) (ha : (Lit.int .u64 a).wf = true) :
    Calls Tryz.prog 142 #[.pointer (some ⟨b, 0, none⟩), .int .u64 a] w fun e w' => e = .returned (.int .u64 (s.val a)) ∧ w' = w := by
  obtain ⟨mo, f, hA, rfl⟩ := hA
  have c0 : w.cell? ⟨b, 0, none⟩ = some (.map mo) := by simp [World.cell?, hA.hdr, hdrC]
  cases hfa : f a with
  | some p =>
    cases mo with
    | none => exact absurd (hA.nomap rfl a) (by simp [hfa])
    | some m =>
      have hl := (hA.map m rfl).1.look ha
      rw [hfa] at hl
      simp only [ptrV, Option.map] at hl
      have hp := cell_of_word (hA.ptr a p hfa).1
      clear hfa hA
      go_enter Tryz.func142, Tryz.ntmps142
      go_wp2_with (go_at_call 135; refine (a_load p _ _ hp).mono ?_; rintro e w' ⟨rfl, rfl⟩)
      go_ret
      exact ⟨rfl, rfl⟩
  | none =>
    have hz := hA.zero a hfa
    have hl : (Instr.lookup 237 (.map mo) (.int .u64 a) false).run Tryz.prog w = .ok (.pointer none) w := by
      cases mo with
      | none => exact look_none w ha
      | some m =>
        have hl := (hA.map m rfl).1.look ha
        rw [hfa] at hl
        exact hl
    rw [hz]
    clear hfa hA hz
    go_enter Tryz.func142, Tryz.ntmps142
    go_wp2
    go_ret
    exact ⟨rfl, rfl⟩
end Go.Proofs.YtmakjfeepmiggaaGreat
namespace Go.Proofs.YtmakjfeepmiggaaGreat
open Go.RowKit Go.Maps
set_option linter.unusedVariables false
def CS.zero : CS := ⟨fun _ => 0, 0, 0, 0, 0, 0, 0⟩
def CS.set (s : CS) (a v : Int) : CS := { s with val := upd s.val a v, n := s.n + 1 }
def CS.init (l : List (Int × Int)) : CS := l.foldl (fun s p => s.set p.1 p.2) CS.zero
theorem CS.init_n (l : List (Int × Int)) : (CS.init l).n = l.length ∧ (CS.init l).cnt = 0 ∧ (CS.init l).kind = 0 ∧ (CS.init l).addr = 0 ∧ (CS.init l).was = 0 ∧ (CS.init l).is = 0 := by
  have h : ∀ (l : List (Int × Int)) (s : CS), (l.foldl (fun s p => s.set p.1 p.2) s).n = s.n + l.length ∧ (l.foldl (fun s p => s.set p.1 p.2) s).cnt = s.cnt ∧ (l.foldl (fun s p => s.set p.1 p.2) s).kind = s.kind ∧
      (l.foldl (fun s p => s.set p.1 p.2) s).addr = s.addr ∧ (l.foldl (fun s p => s.set p.1 p.2) s).was = s.was ∧ (l.foldl (fun s p => s.set p.1 p.2) s).is = s.is := by
    intro l
    induction l with
    | nil => intro s; simp
    | cons x l ih => intro s; simp only [List.foldl_cons, List.length_cons]; have := ih (s.set x.1 x.2); simp only [CS.set] at this ⊢; omega
  have := h l CS.zero
  simpa [CS.init, CS.zero] using this
theorem cells_new (w : World) : CellsAt (w.alloc (.cells (hdrC none CS.zero) 239)) w.heap.size w.heap.size none (fun _ => none) CS.zero :=
  ⟨heap_alloc_new w _, Nat.le_refl _, fun m h => (by cases h), fun _ _ => rfl, fun a p h => (by cases h), fun _ _ => rfl, fun a a' p h => (by cases h), fun _ => rfl⟩
theorem new_nil (w : World) : Calls Tryz.prog 126 #[.slice none 0 0] w fun e w' => ∃ b S, e = .returned (.pointer (some ⟨b, 0, none⟩)) ∧ Cells w' w.heap.size b CS.zero S ∧ Below w.heap.size w w' := by
  go_enter Tryz.func126, Tryz.ntmps126
  go_wp2
  refine wp_loop_rounds 1 ?_
  rw [rounds_succ]
  go_wp2
  go_ret
  exact ⟨w.heap.size, _, rfl, ⟨_, _, cells_new w, rfl⟩, (Below.refl _ _).alloc (Nat.le_refl _) _⟩
theorem CellsAt.lay {w1 w2 : World} {base b : Nat} {mo : Option Nat} {f : Int → Option Nat} {s : CS} (h1 : CellsAt w1 base b mo f { s with n := s.n + 1 }) {a : Int} {p : Nat} (h2 : f a = some p) (v : Int) (hv : (Lit.int .u64 v).wf = true)
    (hw : w2.heap[p]? = some (wordC v)) (hk : Keeps (· = p) w1 w2) : CellsAt w2 base b mo f (s.set a v) :=
  h1.hit h2 v hv hw fun k hk2 hne => hk.block k (h1.fp k hk2).2 hne
theorem by_word2 {w1 w2 : World} {q : Nat} {a v : Int} {S : Nat → Prop} (hq : w1.heap[q]? = some (.cells #[.int .u64 a, .int .u64 v] 226 (0, 0))) (h : Keeps S w1.drew w2) (hl : q < w1.drew.heap.size) (hn : ¬ S q) : w2.cell? ⟨q, 1, none⟩ = some (.int .u64 v) := by
  have h2 : w2.heap[q]? = some (.cells #[.int .u64 a, .int .u64 v] 226 (0, 0)) := (h.block q hl hn).trans hq
  simp [World.cell?, h2]
theorem new_step {w w1 w2 : World} {mo mo1 : Option Nat} {f f1 : Int → Option Nat} {s s' : CS} {a v : Int} {p : Nat} (hs : s' = s.set a v) (hv : (Lit.int .u64 v).wf = true) (hB : Below w.heap.size w w1) (hsz : w.heap.size ≤ w1.heap.size) (hA : CellsAt w1 w.heap.size w.heap.size mo f s)
    (h1 : CellsAt w2 w.heap.size w.heap.size mo1 f1 { s with n := s.n + 1 }) (h2 : f1 a = some p) (h3 : Keeps (cellsFp w.heap.size mo f) w1.drew w2) (h4 : ∀ k, cellsFp w.heap.size mo1 f1 k → cellsFp w.heap.size mo f k ∨ w1.drew.heap.size ≤ k) (hp : w2.heap[p]? = some (wordC (s.val a))) :
    (∃ S', Cells (w2.setCell ⟨p, 0, none⟩ (.int .u64 v)) w.heap.size w.heap.size s' S') ∧ Below w.heap.size w (w2.setCell ⟨p, 0, none⟩ (.int .u64 v)) := by
  refine ⟨⟨_, mo1, f1, ?_, rfl⟩, ?_⟩
  · rw [hs]; exact h1.lay h2 v hv (word_set hp v) (setCell_keeps _ _ _ _)
  · have k1 : Keeps (cellsFp w.heap.size mo f) w1 w2 := ⟨h3.os, h3.tape, h3.output, h3.size, h3.block⟩
    have k2 : Below w.heap.size w w2 := keeps_below k1 hB hsz (fun k hk => (hA.fp k hk).1)
    refine keeps_below (setCell_keeps w2 p 0 (.int .u64 v)) k2 k2.size (fun k hk => ?_)
    rw [hk]; exact (h1.ptr a p h2).2.1
set_option maxRecDepth 10000 in
set_option maxHeartbeats 2000000 in
theorem new_words (w : World) (g o cap : Nat) (l : List (Int × Int)) (hl : l.length ≤ cap) (hcap : cap ≤ maxLen) (hlim : l.length < lim)
    (hc : ∀ k (h : k < l.length), w.cell? ⟨g, o + k * 2, none⟩ = some (.int .u64 l[k].1) ∧ w.cell? ⟨g, o + k * 2 + 1, none⟩ = some (.int .u64 l[k].2))
    (hw : ∀ p ∈ l, (Lit.int .u64 p.1).wf = true ∧ (Lit.int .u64 p.2).wf = true) :
    Calls Tryz.prog 126 #[.slice (some ⟨g, o, none⟩) l.length cap] w fun e w' => ∃ b S, e = .returned (.pointer (some ⟨b, 0, none⟩)) ∧ Cells w' w.heap.size b (CS.init l) S ∧ Below w.heap.size w w' := by
  go_enter Tryz.func126, Tryz.ntmps126
  go_wp2
  go_loopw [10, 5] (fun x _ wr => ∃ k : Nat, x = .int .i64 k ∧ k ≤ l.length ∧ (∃ S, Cells wr w.heap.size w.heap.size (CS.init (l.take k)) S) ∧ Below w.heap.size w wr)
    (fun x _ _ => l.length - (intOf x).toNat)
  case atStart => exact ⟨0, rfl, Nat.zero_le _, ⟨_, _, _, cells_new w, rfl⟩, (Below.refl _ _).alloc (Nat.le_refl _) _⟩
  case round =>
    obtain ⟨k, hk, hkl, ⟨S, hS⟩, hB⟩ := hrel
    subst hk
    by_cases hk : k < l.length
    · have hkb : decide ((k : Int) < (l.length : Int)) = true := by simp; omega
      have hck := hc k hk
      have hwk := hw l[k] (List.getElem_mem hk)
      have hB2 : Below w.heap.size w (wr.alloc (.cells #[.int .u64 l[k].1, .int .u64 l[k].2] 226)) := hB.alloc hB.size _
      have hg : g < w.heap.size := World.block_lt_of_cell? _ _ hck.1
      have r1 := (hB.cell (p := ⟨g, o + k * 2, none⟩) hg).trans hck.1
      have r2 := (hB.cell (p := ⟨g, o + k * 2 + 1, none⟩) hg).trans hck.2
      have hg2 : g < wr.heap.size := Nat.lt_of_lt_of_le hg hB.size
      have hsz := hB.size
      have hS2 := hS.below ((Below.refl wr.heap.size wr).alloc (Nat.le_refl _) (.cells #[.int .u64 l[k].1, .int .u64 l[k].2] 226))
      have hnS : ¬ S wr.heap.size := fun c => by have := (hS.fp _ c).2; omega
      have hq := heap_alloc_new wr (.cells #[.int .u64 l[k].1, .int .u64 l[k].2] 226)
      have HT := Lib.hid (show (CS.init (l.take (k + 1))) = (CS.init (l.take k)).set l[k].1 l[k].2 by
        rw [List.take_succ_eq_append_getElem hk]; unfold CS.init; rw [List.foldl_append]; rfl)
      have hn := (CS.init_n (l.take k)).1
      simp only [List.length_take] at hn
      have hn2 : (CS.init (l.take k)).n < maxLen := by have := lim_le; omega
      generalize CS.init (l.take k) = s at *
      obtain ⟨s', HS0⟩ : ∃ s', s' = CS.init (l.take (k + 1)) := ⟨_, rfl⟩
      have HS2 := Lib.hid HS0
      rw [← HS0] at HT
      clear HS0
      generalize l[k].1 = a at *
      generalize l[k].2 = v at *
      have HK := Lib.hid hk; have HKL := Lib.hid hkl; have HHL := Lib.hid hl; have HCP := Lib.hid hcap
      clear hck hw hc hn hlim hS
      go_wp2_with fail
      generalize wr.alloc (.cells #[.int .u64 a, .int .u64 v] 226) = w1 at *
      obtain ⟨mo, f, hA, rfl⟩ := hS2
      have x0 : w1.cell? ⟨wr.heap.size, 0, none⟩ = some (.int .u64 a) := by simp [World.cell?, hq]
      have x1 : w1.cell? ⟨wr.heap.size, 1, none⟩ = some (.int .u64 v) := by simp [World.cell?, hq]
      have hA' : CellsAt w1.drew w.heap.size w.heap.size mo f s := hA.keep fun _ _ => rfl
      have hsz1 : w.heap.size ≤ w1.drew.heap.size := hB2.size
      have hqs : wr.heap.size < w1.drew.heap.size := (Array.getElem?_eq_some_iff.1 hq).1
      have HA := Lib.hid hA; have HB := Lib.hid hB; have HB2 := Lib.hid hB2; have HN2 := Lib.hid hn2; have HW := Lib.hid hwk; have HNS := Lib.hid hnS; have HQ := Lib.hid hq; have HSZ := Lib.hid hsz1; have HQS := Lib.hid hqs; have HA' := Lib.hid hA'
      clear hA hB hB2 hn2 hwk hnS hq r1 r2 hg hg2 hsz hsz1 hqs hA' hkb
      go_region_with (first
        | (go_at_call 175; refine (at_any w1.drew w.heap.size w.heap.size mo f s HA'.out a HW.out.1 HN2.out HSZ.out).mono ?_; rintro e w2 ⟨mo1, f1, p, rfl, h1, h2, h3, h4⟩; have y1 : w2.cell? ⟨wr.heap.size, 1, none⟩ = some (.int .u64 v) := by_word2 HQ.out h3 HQS.out HNS.out; have hp := (h1.ptr a p h2).1; have hpc := cell_of_word hp; have hpf := free_of_word hp; have H1 := Lib.hid h1; have H2 := Lib.hid h2; have H3 := Lib.hid h3; have H4 := Lib.hid h4; have HP := Lib.hid hp; clear h1 h2 h3 h4 hp)
        | (go_at_call 179; refine (a_store _ _ v _ hpc hpf).mono ?_; rintro e w4 ⟨rfl, rfl⟩))
      all_goals (have hfin := new_step HT.out HW.out.2 HB2.out HSZ.out HA.out H1.out H2.out H3.out H4.out HP.out)
      all_goals (clear hpc hpf y1 x0 x1)
      all_goals (generalize World.setCell w2 _ _ = w5 at hfin ⊢)
      all_goals (have hk := HK.out)
      all_goals (have hkw : wrap64 ((k : Int) + 1) = k + 1 := IntWalk.wrap64_in _ (by have := HHL.out; have := HCP.out; unfold maxLen at this; omega))
      all_goals (try go_wp2)
      all_goals go_roundw
      all_goals (first | (show (_ : Nat) < _; rw [hkw]; simp [intOf] <;> omega) | exact ⟨k + 1, by rw [hkw]; rfl, by omega, (by rw [← HS2.out]; exact hfin.1), hfin.2⟩)
    · have hkb : decide ((k : Int) < (l.length : Int)) = false := by simp; omega
      have hke : k = l.length := by omega
      go_wp2
      go_ret
      rw [hke, List.take_length] at hS
      exact ⟨_, S, rfl, hS, hB⟩
end Go.Proofs.YtmakjfeepmiggaaGreat
namespace Go.Proofs.YtmakjfeepmiggaaGreat
open Go.RowKit Go.Maps
set_option linter.unusedVariables false
set_option maxRecDepth 100000 in
set_option maxHeartbeats 1000000 in
theorem sort_nil (fv : Value) (w : World) : Calls Tryz.prog 183 #[.slice none 0 0, fv] w fun e w' => e = .returned (.tuple #[]) ∧ Below w.heap.size w w' := by
  go_enter Tryz.func183, Tryz.ntmps183
  go_wp2
  refine wp_loop_rounds 1 ?_
  rw [rounds_succ]
  go_wp2
  refine wp_loop_rounds 1 ?_
  rw [rounds_succ]
  go_wp2
  go_end0
  exact ⟨rfl, Below.refl _ _⟩
theorem clip_nil (w : World) : Calls Tryz.prog 186 #[.slice none 0 0] w fun e w' => e = .returned (.slice none 0 0) ∧ Below w.heap.size w w' := by
  go_enter Tryz.func186, Tryz.ntmps186
  go_wp2
  go_ret
  exact ⟨rfl, Below.refl _ _⟩
set_option maxRecDepth 10000 in
set_option maxHeartbeats 1000000 in
theorem words_zero (w : World) (base b : Nat) (s : CS) (S : Nat → Prop) (hA : Cells w base b s S) (hz : ∀ a, s.val a = 0) :
    Calls Tryz.prog 141 #[.pointer (some ⟨b, 0, none⟩)] w fun e w' => e = .returned (.slice none 0 0) ∧ Below w.heap.size w w' := by
  obtain ⟨mo, f, hA, rfl⟩ := hA
  have hb : b < w.heap.size := (Array.getElem?_eq_some_iff.1 hA.hdr).1
  have c0 : w.cell? ⟨b, 0, none⟩ = some (.map mo) := by simp [World.cell?, hA.hdr, hdrC]
  cases mo with
  | none =>
    have hrg := run_range_nilMap (P := Tryz.prog) w 237 39 233 Tryz.underlying237
    have hnx : ∀ ty, (Instr.next (.pointer (some ⟨w.heap.size, 0, none⟩)) false ty).run Tryz.prog (w.alloc (.mapIter none 0 #[] 0)) = _ := fun ty => run_next_nilMap w ty 0 0 #[]
    clear hA
    go_enter Tryz.func141, Tryz.ntmps141
    go_wp2
    refine wp_loop_rounds 1 ?_
    rw [rounds_succ]
    go_wp2_with (first
      | (go_at_call 183; refine (sort_nil _ _).mono ?_; rintro e w1 ⟨rfl, g1⟩)
      | (go_at_call 186; refine (clip_nil _).mono ?_; rintro e w2 ⟨rfl, g2⟩))
    go_ret
    exact ⟨rfl, (((Below.refl _ _).alloc (Nat.le_refl _) _).trans (g1.mono (by simp))).trans (g2.mono (Nat.le_trans (by simp) g1.size))⟩
  | some m =>
    obtain ⟨⟨D, hown, hf, hh⟩, hm1, hm2⟩ := hA.map m rfl
    go_enter Tryz.func141, Tryz.ntmps141
    go_wp2_with (first
      | (at_range; refine wpList_range_own _ rfl _ 237 rfl 39 233 addr_keyed Tryz.underlying237 _ m s.n _ rfl hown ?_; intro w0 hrg0 hg0 hs0)
      | fail)
    go_frame
    go_loopw [3] (fun v wr => v = .slice none 0 0 ∧ ∃ (left : Lit → Bool) (cnt : Nat), wr.ranges Tryz.prog 39 ptrR m w.heap.size s.n D left cnt ∧ Below w.heap.size w wr)
      (fun _ wr => wr.rangeLeft m w.heap.size)
    case atStart => exact ⟨rfl, _, _, hrg0, ⟨hg0.os, hg0.tape, hg0.output, hg0.size, fun k hk => hg0.block k hk (by simp)⟩⟩
    case round =>
      obtain ⟨hv, left, cnt, hrg, hgw⟩ := hrel
      go_wp2_with (first
        | (at_next; refine wpList_next_ranges _ rfl _ rfl 39 addr_keyed ptrR (Value.int .u64) ptrV (fun key kl hkey => by obtain ⟨x, rfl, _⟩ := Maps.keyOf_int_inv Tryz.underlying39 hkey; exact ⟨x, rfl⟩) (fun v y hv => by obtain ⟨c, rfl, _⟩ := ptrR_inv hv; exact ⟨c, rfl⟩) m w.heap.size s.n _ _ _ rfl hrg ?_ ?_)
        | fail)
      · intro _ hl0
        subst hv
        go_wp2_with (first
          | (go_at_call 183; refine (sort_nil _ _).mono ?_; rintro e w1 ⟨rfl, g1⟩)
          | (go_at_call 186; refine (clip_nil _).mono ?_; rintro e w2 ⟨rfl, g2⟩))
        go_ret
        exact ⟨rfl, (hgw.trans (g1.mono hgw.size)).trans (g2.mono (Nat.le_trans hgw.size g1.size))⟩
      · intro x c kl y yp w1 cnt1 hk hlk hR hat hrg1 hlt hg1 hs1 hen
        obtain ⟨x', ex, hkl, hwx⟩ := Maps.keyOf_int_inv Tryz.underlying39 hk
        cases ex
        subst hkl
        have e0 : y = pD c := by have := (ptrR_mk c).symm.trans hR; simp only [Option.some.injEq, Prod.mk.injEq] at this; exact this.1.symm
        have e1 : f x = c := pD_inj ((hf x).symm.trans ((hat _).trans e0))
        have e2 : (f x).isSome = true := (hh x).symm.trans (has_true_of_atKey hat)
        rw [e1] at e2
        cases c with
        | none => cases e2
        | some p =>
          have hp := hA.ptr x p e1
          rw [hz x] at hp
          have hpl : p < w.heap.size := (Array.getElem?_eq_some_iff.1 hp.1).1
          have hgw1 : Below w.heap.size w w1 := hgw.trans ⟨hg1.os, hg1.tape, hg1.output, hg1.size, fun k hk => hg1.block k (Nat.lt_of_lt_of_le hk hgw.size) (fun c => by cases c; omega)⟩
          have hpc := cell_of_word ((hgw1.block p hpl).trans hp.1)
          simp only [ptrV, Option.map] at hen ⊢
          have HR := Lib.hid hrg; have HR1 := Lib.hid hrg1
          clear hrg hrg1 hat hR e0 e1 e2 hp hf hh hk hlk hwx
          go_wp2_with (go_at_call 135; refine (a_load p _ _ hpc).mono ?_; rintro e w' ⟨rfl, rfl⟩)
          go_roundw
          case rel => exact ⟨rfl, _, _, HR1.out, hgw1⟩
          case measure => rw [HR1.out.left_eq, HR.out.left_eq]; exact hlt
end Go.Proofs.YtmakjfeepmiggaaGreat
namespace Go.Proofs.YtmakjfeepmiggaaGreat
open Go.RowKit Go.Maps
set_option linter.unusedVariables false
structure Own (w0 w : World) (b : Nat) (s : CS) : Prop where
  cells : ∃ S, Cells w w0.heap.size b s S
  below : Below w0.heap.size w0 w
theorem Own.new {w0 w w1 : World} {b : Nat} {s : CS} {S : Nat → Prop} (hB : Below w0.heap.size w0 w) (h : Cells w1 w.heap.size b s S) (h2 : Below w.heap.size w w1) : Own w0 w1 b s := by
  refine ⟨⟨S, ?_⟩, hB.trans (h2.mono hB.size)⟩
  obtain ⟨mo, f, h, rfl⟩ := h
  have hs := hB.size
  exact ⟨mo, f, ⟨h.hdr, Nat.le_trans hs h.lo, fun m hm => ⟨(h.map m hm).1, Nat.le_trans hs (h.map m hm).2.1, (h.map m hm).2.2⟩, h.nomap, fun a p hp => ⟨(h.ptr a p hp).1, Nat.le_trans hs (h.ptr a p hp).2.1, (h.ptr a p hp).2.2⟩, h.zero, h.inj, h.wf⟩, rfl⟩
theorem Own.keep {w0 w w1 : World} {b : Nat} {s : CS} (h : Own w0 w b s) (h2 : Below w.heap.size w w1) : Own w0 w1 b s := by
  obtain ⟨⟨S, hS⟩, hB⟩ := h
  exact ⟨⟨S, hS.below h2⟩, hB.trans (h2.mono hB.size)⟩
theorem Own.acc {w0 w w1 : World} {b : Nat} {s s' : CS} {S : Nat → Prop} (hS : Cells w w0.heap.size b s S) (hB : Below w0.heap.size w0 w) (h : Acc w w0.heap.size b s' S w1) : Own w0 w1 b s' := by
  obtain ⟨S', h1, h2, h3⟩ := h
  exact ⟨⟨S', h1⟩, keeps_below h2 hB hB.size fun k hk => (hS.fp k hk).1⟩
theorem Own.wf {w0 w : World} {b : Nat} {s : CS} (h : Own w0 w b s) (a : Int) : (Lit.int .u64 (s.val a)).wf = true := by
  obtain ⟨⟨S, mo, f, h, _⟩, _⟩ := h; exact h.wf a
def Rest (w w' : World) : Prop := ∀ (k : Nat) (cs : Array Value) (T : TypeId) (fr : Nat × Nat), w.heap[k]? = some (Obj.cells cs T fr) → (T == 239) = false → (T == 294) = false → w'.heap[k]? = some (Obj.cells cs T fr)
theorem Acc.rest {w w' : World} {base b : Nat} {s s' : CS} {S : Nat → Prop} (hS : Cells w base b s S) (h : Acc w base b s' S w') : Rest w w' := by
  intro k cs T fr hk h1 h2
  obtain ⟨S', _, hK, _⟩ := h
  rw [hK.block k (Array.getElem?_eq_some_iff.1 hk).1 (fun c => ?_)]; exact hk
  obtain ⟨mo, f, hA, rfl⟩ := hS
  rcases c with rfl | hm | ⟨a, ha⟩
  · have := hA.hdr.symm.trans hk; simp only [Option.some.injEq, Obj.cells.injEq] at this; rw [← this.2.1] at h1; simp at h1
  · obtain ⟨⟨D, ⟨es, cl, hb, _⟩, _⟩, _⟩ := hA.map k hm
    have := hb.symm.trans hk; cases this
  · have := (hA.ptr a k ha).1.symm.trans hk; simp only [wordC, Option.some.injEq, Obj.cells.injEq] at this; rw [← this.2.1] at h2; simp at h2
theorem below_rest {w w' : World} (h : Below w.heap.size w w') : Rest w w' := fun k cs T fr hk _ _ => (h.block k (Array.getElem?_eq_some_iff.1 hk).1).trans hk
def CS.room (s : CS) : Prop := s.n < lim ∧ s.cnt < lim
section
variable {w0 w : World} {b : Nat} {s : CS} (h : Own w0 w b s) (hr : s.room) (a : Int) (ha : (Lit.int .u64 a).wf = true)
include h hr ha
theorem load_own : Calls Tryz.prog 62 #[.pointer (some ⟨b, 0, none⟩), .int .u64 a] w fun e w' => e = .returned (.int .u64 (s.val a)) ∧ Own w0 w' b (s.acc 1 a (s.val a)) := by
  obtain ⟨⟨S, hS⟩, hB⟩ := h
  exact (load_any w _ b s S hS a ha hr.1 hr.2 hB.size).mono fun e w' ⟨he, hA⟩ => ⟨he, Own.acc hS hB hA⟩
theorem store_own (v : Int) (hv : (Lit.int .u64 v).wf = true) : Calls Tryz.prog 41 #[.pointer (some ⟨b, 0, none⟩), .int .u64 a, .int .u64 v] w fun e w' => e = .returned (.int .u64 (s.val a)) ∧ Own w0 w' b (s.acc 2 a v) := by
  obtain ⟨⟨S, hS⟩, hB⟩ := h
  exact (store_any w _ b s S hS a v ha hv hr.1 hr.2 hB.size).mono fun e w' ⟨he, hA⟩ => ⟨he, Own.acc hS hB hA⟩
theorem add_own (v : Int) : Calls Tryz.prog 282 #[.pointer (some ⟨b, 0, none⟩), .int .u64 a, .int .u64 v] w fun e w' => e = .returned (.int .u64 (s.val a)) ∧ Own w0 w' b (s.acc 4 a (wu (s.val a + v))) := by
  obtain ⟨⟨S, hS⟩, hB⟩ := h
  exact (add_any w _ b s S hS a v ha hr.1 hr.2 hB.size).mono fun e w' ⟨he, hA⟩ => ⟨he, Own.acc hS hB hA⟩
theorem cas_own (x y : Int) (hy : (Lit.int .u64 y).wf = true) : Calls Tryz.prog 159 #[.pointer (some ⟨b, 0, none⟩), .int .u64 a, .int .u64 x, .int .u64 y] w fun e w' => e = .returned (.tuple #[.int .u64 (s.val a), .bool (s.val a == x)]) ∧
    Own w0 w' b (s.acc 3 a (if s.val a = x then y else s.val a)) := by
  obtain ⟨⟨S, hS⟩, hB⟩ := h
  exact (cas_any w _ b s S hS a x y ha hy hr.1 hr.2 hB.size).mono fun e w' ⟨he, hA⟩ => ⟨he, Own.acc hS hB hA⟩
omit hr in
theorem peek_own : Calls Tryz.prog 142 #[.pointer (some ⟨b, 0, none⟩), .int .u64 a] w fun e w' => e = .returned (.int .u64 (s.val a)) ∧ w' = w := by
  obtain ⟨⟨S, hS⟩, hB⟩ := h
  exact peek_any w _ b s S hS a ha
omit hr ha in
theorem count_own : Calls Tryz.prog 139 #[.pointer (some ⟨b, 0, none⟩)] w fun e w' => e = .returned (.int .i64 s.cnt) ∧ w' = w := by
  obtain ⟨⟨S, hS⟩, hB⟩ := h
  exact count_any w _ b s S hS
end
theorem new_own {w0 w : World} (hB : Below w0.heap.size w0 w) : Calls Tryz.prog 126 #[.slice none 0 0] w fun e w' => ∃ b, e = .returned (.pointer (some ⟨b, 0, none⟩)) ∧ Own w0 w' b CS.zero :=
  (new_nil w).mono fun e w' ⟨b, S, he, h1, h2⟩ => ⟨b, he, Own.new hB h1 h2⟩
def One (w0 w : World) (b : Nat) (a v : Int) (c : Nat) : Prop := ∃ s, Own w0 w b s ∧ s.val a = v ∧ (∀ x, x ≠ a → s.val x = 0) ∧ s.cnt = c ∧ s.n = c
theorem One.new {w0 w : World} (a : Int) (hB : Below w0.heap.size w0 w) : Calls Tryz.prog 126 #[.slice none 0 0] w fun e w' => ∃ b, e = .returned (.pointer (some ⟨b, 0, none⟩)) ∧ One w0 w' b a 0 0 :=
  (new_own hB).mono fun e w' ⟨b, he, h⟩ => ⟨b, he, CS.zero, h, rfl, fun _ _ => rfl, rfl, rfl⟩
theorem One.of {w0 w' : World} {b : Nat} {s : CS} {a : Int} {c : Nat} (k i : Int) (h : Own w0 w' b (s.acc k a i)) (h1 : ∀ x, x ≠ a → s.val x = 0) (h2 : s.cnt = c) (h3 : s.n = c) : One w0 w' b a i (c + 1) :=
  ⟨_, h, upd_same _ _ _, fun x hx => (upd_other _ hx _).trans (h1 x hx), by simp [CS.acc, h2], by simp [CS.acc, h3]⟩
section
variable {w0 w : World} {b : Nat} {a v : Int} {c : Nat} (h : One w0 w b a v c) (ha : (Lit.int .u64 a).wf = true) (hc : c < 1000)
include h ha hc
theorem One.load : Calls Tryz.prog 62 #[.pointer (some ⟨b, 0, none⟩), .int .u64 a] w fun e w' => e = .returned (.int .u64 v) ∧ One w0 w' b a v (c + 1) := by
  obtain ⟨s, h, h1, h2, h3, h4⟩ := h
  subst h1
  exact (load_own h (by unfold CS.room lim; omega) a ha).mono fun e w' ⟨he, hA⟩ => ⟨he, One.of _ _ hA h2 h3 h4⟩
theorem One.store (x : Int) (hx : (Lit.int .u64 x).wf = true) : Calls Tryz.prog 41 #[.pointer (some ⟨b, 0, none⟩), .int .u64 a, .int .u64 x] w fun e w' => e = .returned (.int .u64 v) ∧ One w0 w' b a x (c + 1) := by
  obtain ⟨s, h, h1, h2, h3, h4⟩ := h
  subst h1
  exact (store_own h (by unfold CS.room lim; omega) a ha x hx).mono fun e w' ⟨he, hA⟩ => ⟨he, One.of _ _ hA h2 h3 h4⟩
theorem One.add (x : Int) : Calls Tryz.prog 282 #[.pointer (some ⟨b, 0, none⟩), .int .u64 a, .int .u64 x] w fun e w' => e = .returned (.int .u64 v) ∧ One w0 w' b a (wu (v + x)) (c + 1) := by
  obtain ⟨s, h, h1, h2, h3, h4⟩ := h
  subst h1
  exact (add_own h (by unfold CS.room lim; omega) a ha x).mono fun e w' ⟨he, hA⟩ => ⟨he, One.of _ _ hA h2 h3 h4⟩
theorem One.cas (y : Int) (hy : (Lit.int .u64 y).wf = true) : Calls Tryz.prog 159 #[.pointer (some ⟨b, 0, none⟩), .int .u64 a, .int .u64 v, .int .u64 y] w fun e w' => e = .returned (.tuple #[.int .u64 v, .bool true]) ∧ One w0 w' b a y (c + 1) := by
  obtain ⟨s, h, h1, h2, h3, h4⟩ := h
  subst h1
  refine (cas_own h (by unfold CS.room lim; omega) a ha (s.val a) y hy).mono fun e w' ⟨he, hA⟩ => ?_
  simp only [beq_self_eq_true, if_true] at he hA
  exact ⟨he, One.of _ _ hA h2 h3 h4⟩
omit hc ha in
theorem One.below : Below w0.heap.size w0 w := by obtain ⟨s, h, _⟩ := h; exact h.below
end
theorem One.keep {w0 w w1 : World} {b : Nat} {a v : Int} {c : Nat} (h : One w0 w b a v c) (h2 : Below w.heap.size w w1) : One w0 w1 b a v c := by
  obtain ⟨s, h, r⟩ := h
  exact ⟨s, h.keep h2, r⟩
end Go.Proofs.YtmakjfeepmiggaaGreat
namespace Go.Proofs.YtmakjfeepmiggaaGreat
open Go.RowKit
set_option linter.unusedVariables false
def tsize (b : Int) : Int := if b < 1 ∨ 12 < b then 0 else 2 ^ b.toNat
theorem tsize_out {b : Int} (h : b < 1 ∨ 12 < b) : tsize b = 0 := by simp [tsize, h]
theorem tsize_in {b : Int} (h : 1 ≤ b ∧ b ≤ 12) : tsize b = 2 ^ b.toNat := by unfold tsize; rw [if_neg (by omega)]
theorem twelve {b : Int} (h : 1 ≤ b ∧ b ≤ 12) : b = 1 ∨ b = 2 ∨ b = 3 ∨ b = 4 ∨ b = 5 ∨ b = 6 ∨ b = 7 ∨ b = 8 ∨ b = 9 ∨ b = 10 ∨ b = 11 ∨ b = 12 := by omega
theorem size_any (b : Int) (w : World) : Calls Tryz.prog 49 #[.int .i64 b] w fun e w' => e = .returned (.int .i64 (tsize b)) ∧ w' = w := by
  by_cases h1 : b < 1
  · rw [tsize_out (.inl h1)]
    go_enter Tryz.func49, Tryz.ntmps49
    go_wp2
    all_goals (go_ret; exact ⟨rfl, rfl⟩)
  by_cases h2 : 12 < b
  · rw [tsize_out (.inr h2)]
    go_enter Tryz.func49, Tryz.ntmps49
    go_wp2
    all_goals (go_ret; exact ⟨rfl, rfl⟩)
  · have h3 := twelve (b := b) ⟨by omega, by omega⟩
    clear h1 h2
    rcases h3 with rfl | rfl | rfl | rfl | rfl | rfl | rfl | rfl | rfl | rfl | rfl | rfl
    all_goals (go_enter Tryz.func49, Tryz.ntmps49; go_wp2; go_ret; exact ⟨rfl, rfl⟩)
end Go.Proofs.YtmakjfeepmiggaaGreat
namespace Go.Proofs.YtmakjfeepmiggaaGreat
open Go.RowKit
set_option linter.unusedVariables false
def tword (o n : Int) : Int := o % 256 + 256 * (n % 256)
def asOld (w : Int) : Int := if tsize (w % 256) = 0 then 1 else w % 256
def asNow (w : Int) : Int := if w / 256 % 256 ≠ asOld w + 1 ∨ tsize (w / 256 % 256) = 0 then 0 else w / 256 % 256
theorem word_any (o n : Int) (w : World) : Calls Tryz.prog 125 #[.int .i64 o, .int .i64 n] w fun e w' => e = .returned (.int .u64 (tword o n)) ∧ w' = w := by
  go_enter Tryz.func125, Tryz.ntmps125
  go_wp2
  go_ret
  refine ⟨ret_u64 ?_, rfl⟩
  simp only [tword]
end Go.Proofs.YtmakjfeepmiggaaGreat
namespace Go.Proofs.YtmakjfeepmiggaaGreat
open Go.RowKit
set_option linter.unusedVariables false
theorem as_range (v : Int) : 0 ≤ asOld v ∧ asOld v < 256 ∧ 0 ≤ asNow v ∧ asNow v < 256 := by
  unfold asNow asOld
  split <;> split <;> omega
end Go.Proofs.YtmakjfeepmiggaaGreat
namespace Go.Proofs.YtmakjfeepmiggaaGreat
open Go.RowKit
set_option linter.unusedVariables false
structure Conf where
  bits : Int
  budget : Int
  tries : Int
  quantum : Int
  way : Int
def Conf.cells (c : Conf) : List Value := [.int .i64 c.bits, .int .i64 c.budget, .int .i64 c.tries, .int .i64 c.quantum, .int .i64 c.way]
def Conf.ok (c : Conf) : Bool := decide (1 ≤ c.bits ∧ c.bits ≤ 12) && decide (1 ≤ c.budget ∧ c.budget ≤ 65536) && decide (0 ≤ c.tries ∧ c.tries ≤ 16) && decide (1 ≤ c.quantum ∧ c.quantum ≤ 8) && decide (2 ≤ c.way ∧ c.way ≤ 256)
def Conf.wf (c : Conf) : Prop := (Lit.int .i64 c.bits).wf = true ∧ (Lit.int .i64 c.budget).wf = true ∧ (Lit.int .i64 c.tries).wf = true ∧ (Lit.int .i64 c.quantum).wf = true ∧ (Lit.int .i64 c.way).wf = true
theorem conf_false {b : Bool} (h : b = false) : Ending.returned (.bool false) = .returned (.bool b) := by rw [h]
theorem conf_true {b : Bool} (h : b = true) : Ending.returned (.bool true) = .returned (.bool b) := by rw [h]
set_option maxRecDepth 10000 in
set_option maxHeartbeats 4000000 in
theorem wmay_any (c : Conf) (w : World) : Calls Tryz.prog 124 #[.agg #[.int .i64 c.bits, .int .i64 c.budget, .int .i64 c.tries, .int .i64 c.quantum, .int .i64 c.way]] w fun e w' => e = .returned (.bool c.ok) ∧ Below w.heap.size w w' := by
  have i0 : ∀ w, (Instr.index 283 (.agg #[.int .i64 c.bits, .int .i64 1, .int .i64 12, .int .i64 c.budget, .int .i64 1, .int .i64 65536, .int .i64 c.tries, .int .i64 0, .int .i64 16, .int .i64 c.quantum, .int .i64 1, .int .i64 8, .int .i64 c.way, .int .i64 2, .int .i64 256]) (.int .i64 0)).run Tryz.prog w = .ok (.agg #[.int .i64 c.bits, .int .i64 1, .int .i64 12]) w := fun _ => by kernel_rfl
  have i1 : ∀ w, (Instr.index 283 (.agg #[.int .i64 c.bits, .int .i64 1, .int .i64 12, .int .i64 c.budget, .int .i64 1, .int .i64 65536, .int .i64 c.tries, .int .i64 0, .int .i64 16, .int .i64 c.quantum, .int .i64 1, .int .i64 8, .int .i64 c.way, .int .i64 2, .int .i64 256]) (.int .i64 1)).run Tryz.prog w = .ok (.agg #[.int .i64 c.budget, .int .i64 1, .int .i64 65536]) w := fun _ => by kernel_rfl
  have i2 : ∀ w, (Instr.index 283 (.agg #[.int .i64 c.bits, .int .i64 1, .int .i64 12, .int .i64 c.budget, .int .i64 1, .int .i64 65536, .int .i64 c.tries, .int .i64 0, .int .i64 16, .int .i64 c.quantum, .int .i64 1, .int .i64 8, .int .i64 c.way, .int .i64 2, .int .i64 256]) (.int .i64 2)).run Tryz.prog w = .ok (.agg #[.int .i64 c.tries, .int .i64 0, .int .i64 16]) w := fun _ => by kernel_rfl
  have i3 : ∀ w, (Instr.index 283 (.agg #[.int .i64 c.bits, .int .i64 1, .int .i64 12, .int .i64 c.budget, .int .i64 1, .int .i64 65536, .int .i64 c.tries, .int .i64 0, .int .i64 16, .int .i64 c.quantum, .int .i64 1, .int .i64 8, .int .i64 c.way, .int .i64 2, .int .i64 256]) (.int .i64 3)).run Tryz.prog w = .ok (.agg #[.int .i64 c.quantum, .int .i64 1, .int .i64 8]) w := fun _ => by kernel_rfl
  have i4 : ∀ w, (Instr.index 283 (.agg #[.int .i64 c.bits, .int .i64 1, .int .i64 12, .int .i64 c.budget, .int .i64 1, .int .i64 65536, .int .i64 c.tries, .int .i64 0, .int .i64 16, .int .i64 c.quantum, .int .i64 1, .int .i64 8, .int .i64 c.way, .int .i64 2, .int .i64 256]) (.int .i64 4)).run Tryz.prog w = .ok (.agg #[.int .i64 c.way, .int .i64 2, .int .i64 256]) w := fun _ => by kernel_rfl
  go_enter Tryz.func124, Tryz.ntmps124
  go_wp2
  refine wp_loop_rounds 6 ?_
  iterate 6 (all_goals (first | (rw [rounds_succ]; go_wp2) | (go_ret; refine ⟨conf_false (by simp only [Conf.ok, Bool.and_eq_false_iff, decide_eq_false_iff_not]; omega), ?_⟩; repeat (first | exact Below.refl _ _ | refine Below.alloc ?_ (by simp <;> omega) _))))
  all_goals (first | (go_ret; refine ⟨conf_false (by simp only [Conf.ok, Bool.and_eq_false_iff, decide_eq_false_iff_not]; omega), ?_⟩; repeat (first | exact Below.refl _ _ | refine Below.alloc ?_ (by simp <;> omega) _)) | (go_ret; refine ⟨conf_true (by simp only [Conf.ok, Bool.and_eq_true, decide_eq_true_eq]; omega), ?_⟩; repeat (first | exact Below.refl _ _ | refine Below.alloc ?_ (by simp <;> omega) _)))
end Go.Proofs.YtmakjfeepmiggaaGreat
namespace Go.Proofs.YtmakjfeepmiggaaGreat
open Go.RowKit
set_option linter.unusedVariables false
structure Itm where
  key : ByteArray
  val : ByteArray
  flags : Int
  id : Int
  dies : Int
  gen : Int
def Itm.cells (x : Itm) : List Value := [.string x.key, .string x.val, .int .u32 x.flags, .int .u64 x.id, .int .i64 x.dies, .int .i64 x.gen]
def Itm.zero : Itm := ⟨ByteArray.empty, ByteArray.empty, 0, 0, 0, 0⟩
theorem place_any (b g nb cap p n o : Nat) (w : World) (ho : n % 64 * 6 = o) (hm : n ≤ 1048576)
    (h1 : w.cell? ⟨b, 0, none⟩ = some (.slice (some ⟨g, 0, none⟩) nb cap)) (hn : n / 64 < nb)
    (h2 : w.cell? ⟨g, n / 64, none⟩ = some (.pointer (some ⟨p, 0, none⟩))) :
    Calls Tryz.prog 144 #[.pointer (some ⟨b, 0, none⟩), .int .i64 n] w fun e w' => e = .returned (.pointer (some ⟨p, o, none⟩)) ∧ w = w' := by
  subst ho
  have hn' : (n : Int) / 64 < (nb : Int) := by omega
  go_enter Tryz.func144, Tryz.ntmps144
  go_wp2
  go_ret
  exact ⟨rfl, rfl⟩
theorem info_pblk : (Tryz.prog.info? 248).map (fun i => (i.zero, i.size, i.bytes)) = some (some (.pointer none), 1, 8) := by kernel_rfl
theorem zero_block : ∃ z : Array Value, z.size = 384 ∧ ∀ w, (zeroValue 250).run Tryz.prog w = .ok (.agg z) w :=
  ⟨(List.replicate 64 Itm.zero.cells).flatten.toArray, by decide +kernel, fun w => by kernel_rfl⟩
theorem news_one (W : World) (v : Value) (T n : Nat) (h : n = W.heap.size) : ∀ j u, [v][j]? = some u → (W.alloc (.cells #[v] T)).cell? ((⟨n, 0, none⟩ : Addr).add j) = some u := by
  subst h; exact cell_one_new _ _ _
structure ArenaAt (w : World) (base b : Nat) (ao : Option Addr) (cap : Nat) (ps : List Nat) (l : List Itm) : Prop where
  hdr : w.heap[b]? = some (.cells #[.slice ao ps.length cap, .int .i64 l.length] 242 (0, 0))
  own : w.ownsRow base 248 1 (.slice ao ps.length cap) ps.length (ps.map fun p => .pointer (some ⟨p, 0, none⟩))
  lo : base ≤ b
  los : ∀ p ∈ ps, base ≤ p
  most : l.length ≤ 64 * ps.length
  least : 64 * ps.length < l.length + 64
  blk : ∀ j, (hj : j < ps.length) → ∃ cs : Array Value, w.heap[ps[j]]? = some (.cells cs 250 (0, 0)) ∧ cs.size = 384 ∧ ∀ i, i < 64 → (hi : 64 * j + i < l.length) → ∀ f, f < 6 → cs[6 * i + f]? = (l[64 * j + i]).cells[f]?
  nodup : ps.Nodup
  nb : b ∉ ps
  no : (Value.slice ao ps.length cap).ownBlock ≠ some b
  nps : ∀ p ∈ ps, (Value.slice ao ps.length cap).ownBlock ≠ some p
def arenaFp (b : Nat) (ao : Option Addr) (ps : List Nat) (k : Nat) : Prop := k = b ∨ (∃ a, ao = some a ∧ a.block = k) ∨ k ∈ ps
def Arena (w : World) (base b : Nat) (l : List Itm) (S : Nat → Prop) : Prop := ∃ ao cap ps, ArenaAt w base b ao cap ps l ∧ S = arenaFp b ao ps
theorem ArenaAt.keep {w w' : World} {base b : Nat} {ao : Option Addr} {cap : Nat} {ps : List Nat} {l : List Itm} (h : ArenaAt w base b ao cap ps l) (hk : ∀ k, arenaFp b ao ps k → w'.heap[k]? = w.heap[k]?) : ArenaAt w' base b ao cap ps l := by
  refine ⟨by rw [hk b (.inl rfl)]; exact h.hdr, ?_, h.lo, h.los, h.most, h.least, fun j hj => ?_, h.nodup, h.nb, h.no, h.nps⟩
  · refine ⟨h.own.1, ?_⟩
    rcases h.own.2 with hn | ⟨g, c, cur, hv, hg, hh, r⟩
    · exact .inl hn
    · refine .inr ⟨g, c, cur, hv, hg, ?_, r⟩
      simp only [Value.slice.injEq] at hv
      rw [hk g (.inr (.inl ⟨_, hv.1, rfl⟩))]; exact hh
  · obtain ⟨cs, h1, h2⟩ := h.blk j hj
    exact ⟨cs, by rw [hk _ (.inr (.inr (List.getElem_mem hj)))]; exact h1, h2⟩
theorem Arena.keep {w w' : World} {base b : Nat} {l : List Itm} {S : Nat → Prop} (h : Arena w base b l S) (hk : ∀ k, S k → w'.heap[k]? = w.heap[k]?) : Arena w' base b l S := by
  obtain ⟨ao, cap, ps, h, rfl⟩ := h
  exact ⟨ao, cap, ps, h.keep hk, rfl⟩
theorem Arena.fp {w : World} {base b : Nat} {l : List Itm} {S : Nat → Prop} (h : Arena w base b l S) : ∀ k, S k → base ≤ k ∧ k < w.heap.size := by
  obtain ⟨ao, cap, ps, h, rfl⟩ := h
  rintro k (rfl | ⟨a, rfl, rfl⟩ | hk)
  · exact ⟨h.lo, (Array.getElem?_eq_some_iff.1 h.hdr).1⟩
  · exact h.own.lt _ rfl
  · obtain ⟨j, hj, rfl⟩ := List.mem_iff_getElem.1 hk
    obtain ⟨cs, h1, _⟩ := h.blk j hj
    exact ⟨h.los _ hk, (Array.getElem?_eq_some_iff.1 h1).1⟩
theorem Arena.below {w w' : World} {base b : Nat} {l : List Itm} {S : Nat → Prop} (h : Arena w base b l S) (hb : Below w.heap.size w w') : Arena w' base b l S :=
  h.keep fun k hk => hb.block k (h.fp k hk).2
theorem Arena.keeps {w w' : World} {base b : Nat} {l : List Itm} {S T : Nat → Prop} (h : Arena w base b l S) (hb : Keeps T w w') (hd : ∀ k, S k → ¬ T k) : Arena w' base b l S :=
  h.keep fun k hk => hb.block k (h.fp k hk).2 (hd k hk)
def put6 (cs : Array Value) (o : Nat) (x : Itm) : Array Value :=
  (((((cs.setIfInBounds o (.string x.key)).setIfInBounds (o + 1) (.string x.val)).setIfInBounds (o + 2) (.int .u32 x.flags)).setIfInBounds (o + 3) (.int .u64 x.id)).setIfInBounds (o + 4) (.int .i64 x.dies)).setIfInBounds (o + 5) (.int .i64 x.gen)
theorem put6_size (cs : Array Value) (o : Nat) (x : Itm) : (put6 cs o x).size = cs.size := by simp [put6]
theorem put6_in (cs : Array Value) (o : Nat) (x : Itm) (f : Nat) (hf : f < 6) (ho : o + 6 ≤ cs.size) : (put6 cs o x)[o + f]? = x.cells[f]? := by
  have h0 : o < cs.size := by omega
  have h1 : o + 1 < cs.size := by omega
  have h2 : o + 2 < cs.size := by omega
  have h3 : o + 3 < cs.size := by omega
  have h4 : o + 4 < cs.size := by omega
  have h5 : o + 5 < cs.size := by omega
  match f, hf with
  | 0, _ => simp [put6, Itm.cells, h0]
  | 1, _ => simp [put6, Itm.cells, h1]
  | 2, _ => simp [put6, Itm.cells, h2]
  | 3, _ => simp [put6, Itm.cells, h3]
  | 4, _ => simp [put6, Itm.cells, h4]
  | 5, _ => simp [put6, Itm.cells, h5]
theorem put6_out (cs : Array Value) (o : Nat) (x : Itm) (k : Nat) (hk : k < o ∨ o + 6 ≤ k) : (put6 cs o x)[k]? = cs[k]? := by
  have h0 : o ≠ k := by omega
  have h1 : o + 1 ≠ k := by omega
  have h2 : o + 2 ≠ k := by omega
  have h3 : o + 3 ≠ k := by omega
  have h4 : o + 4 ≠ k := by omega
  have h5 : o + 5 ≠ k := by omega
  simp [put6, h0, h1, h2, h3, h4, h5]
end Go.Proofs.YtmakjfeepmiggaaGreat
namespace Go.Proofs.YtmakjfeepmiggaaGreat
open Go.RowKit Go.Maps
set_option linter.unusedVariables false
theorem items_new (w : World) : Calls Tryz.prog 127 #[] w fun e w' => e = .returned (.pointer (some ⟨w.heap.size, 0, none⟩)) ∧ w' = w.alloc (.cells #[.slice none 0 0, .int .i64 0] 242) := by
  go_enter Tryz.func127, Tryz.ntmps127
  go_wp2
  go_ret
  exact ⟨rfl, rfl⟩
theorem notes_new (w : World) : Calls Tryz.prog 128 #[] w fun e w' => e = .returned (.pointer (some ⟨w.heap.size, 0, none⟩)) ∧ w' = w.alloc (.cells #[.slice none 0 0] 286) := by
  go_enter Tryz.func128, Tryz.ntmps128
  go_wp2
  go_ret
  exact ⟨rfl, rfl⟩
def worldV (cb ib nb : Nat) (c : Conf) (tk : List Value) (holder : Int) : List Value :=
  [.pointer (some ⟨cb, 0, none⟩), .pointer (some ⟨ib, 0, none⟩), .pointer (some ⟨nb, 0, none⟩)] ++ c.cells ++ tk ++ [.int .i64 holder]
def tk0 : List Value := List.replicate 64 (.int .u64 0)
theorem new_first {w0 : World} (w : World) (hB : Below w0.heap.size w0 w) (a v : Int) (ha : (Lit.int .u64 a).wf = true) (hv : (Lit.int .u64 v).wf = true) :
    Calls Tryz.prog 126 #[.slice (some ⟨w.heap.size, 0, none⟩) 1 1] (w.alloc (.cells #[.int .u64 a, .int .u64 v] 226)) fun e w' => ∃ b, e = .returned (.pointer (some ⟨b, 0, none⟩)) ∧ Own w0 w' b (CS.init [(a, v)]) ∧ Below w.heap.size w w' := by
  have hq := heap_alloc_new w (.cells #[.int .u64 a, .int .u64 v] 226)
  have hb1 : Below w.heap.size w (w.alloc (.cells #[.int .u64 a, .int .u64 v] 226)) := (Below.refl _ _).alloc (Nat.le_refl _) _
  refine (new_words (w.alloc (.cells #[.int .u64 a, .int .u64 v] 226)) w.heap.size 0 1 [(a, v)] (by simp) (by unfold maxLen; omega) (by unfold lim; simp) (fun k hk => ?_) (fun p hp => ?_)).mono fun e w' ⟨b, S, he, h1, h2⟩ => ⟨b, he, Own.new (hB.alloc hB.size _) h1 h2, hb1.trans (h2.mono hb1.size)⟩
  · have hk0 : k = 0 := by simpa using hk
    subst hk0
    have c : ∀ o, (w.alloc (.cells #[.int .u64 a, .int .u64 v] 226)).cell? ⟨w.heap.size, o, none⟩ = (#[.int .u64 a, .int .u64 v] : Array Value)[o]? := fun o => by
      unfold World.cell?
      simp only
      rw [hq]
      rfl
    exact ⟨c 0, c 1⟩
  · simp only [List.mem_singleton] at hp
    rw [hp]; exact ⟨ha, hv⟩
theorem box5 {w w' : World} {q T : Nat} {c0 c1 c2 c3 c4 : Value} (hq : w.heap[q]? = some (.cells #[c0, c1, c2, c3, c4] T (0, 0))) (h : Below w.heap.size w w') :
    w'.heap[q]? = some (.cells #[c0, c1, c2, c3, c4] T (0, 0)) ∧ w'.cell? ⟨q, 0, none⟩ = some c0 ∧ w'.cell? ⟨q, 1, none⟩ = some c1 ∧ w'.cell? ⟨q, 2, none⟩ = some c2 ∧ w'.cell? ⟨q, 3, none⟩ = some c3 ∧ w'.cell? ⟨q, 4, none⟩ = some c4 := by
  have h3 := (h.block q (Array.getElem?_eq_some_iff.1 hq).1).trans hq
  have c : ∀ o, w'.cell? ⟨q, o, none⟩ = (#[c0, c1, c2, c3, c4] : Array Value)[o]? := fun o => by
    unfold World.cell?; simp only; rw [h3]; rfl
  exact ⟨h3, c 0, c 1, c 2, c 3, c 4⟩
theorem tword_wf (o n : Int) : (Lit.int .u64 (tword o n)).wf = true := by
  have hmin : IntKind.u64.min = 0 := rfl
  have hmax : IntKind.u64.max = 18446744073709551615 := rfl
  have h : 0 ≤ tword o n ∧ tword o n ≤ 65535 := by unfold tword; omega
  generalize tword o n = t at *
  simp only [Lit.wf, Bool.and_eq_true, decide_eq_true_eq]; omega
noncomputable def newCells (cb ib nb : Nat) (c : Conf) : Array Value :=
  (((((((((Tryz.zeroCells117.setIfInBounds 0 (.pointer (some ⟨cb, 0, none⟩))).setIfInBounds 1 (.pointer (some ⟨ib, 0, none⟩))).setIfInBounds 2 (.pointer (some ⟨nb, 0, none⟩))).setIfInBounds 3 (.int .i64 c.bits)).setIfInBounds
    4 (.int .i64 c.budget)).setIfInBounds 5 (.int .i64 c.tries)).setIfInBounds 6 (.int .i64 c.quantum)).setIfInBounds 7 (.int .i64 c.way)).setIfInBounds 72 (.int .i64 (-1)))
theorem new_cells (cb ib nb : Nat) (c : Conf) : newCells cb ib nb c = (worldV cb ib nb c tk0 (-1)).toArray := by
  kernel_rfl
theorem new_fin {w w3 w4 : World} {cb : Nat} {v : Int} (hB : Below w.heap.size w w3) (g1 : Own w w4 cb (CS.init [(2, v)])) (g2 : Below w3.drew.heap.size w3.drew w4) (l1 : w.heap.size < w3.heap.size) (c : Conf) :
    let W := ((w4.alloc (.cells #[.slice none 0 0, .int .i64 0] 242)).alloc (.cells #[.slice none 0 0] 286)).alloc (.cells (newCells cb w4.heap.size (w4.heap.size + 1) c) 117)
    W.heap[w4.heap.size + 1 + 1]? = some (.cells (worldV cb w4.heap.size (w4.heap.size + 1) c tk0 (-1)).toArray 117 (0, 0)) ∧ w.heap.size ≤ w4.heap.size + 1 + 1 ∧ Own w W cb (CS.init [(2, v)]) ∧
    W.heap[w4.heap.size]? = some (.cells #[.slice none 0 0, .int .i64 0] 242 (0, 0)) ∧ w.heap.size ≤ w4.heap.size ∧ W.heap[w4.heap.size + 1]? = some (.cells #[.slice none 0 0] 286 (0, 0)) ∧ w.heap.size ≤ w4.heap.size + 1 := by
  have hs : w3.heap.size ≤ w4.heap.size := g2.size
  have e1 := heap_alloc_new w4 (.cells #[.slice none 0 0, .int .i64 0] 242)
  have e2 := heap_alloc_new (w4.alloc (.cells #[.slice none 0 0, .int .i64 0] 242)) (.cells #[.slice none 0 0] 286)
  have e3 := heap_alloc_new ((w4.alloc (.cells #[.slice none 0 0, .int .i64 0] 242)).alloc (.cells #[.slice none 0 0] 286)) (.cells (newCells cb w4.heap.size (w4.heap.size + 1) c) 117)
  have s1 : (w4.alloc (.cells #[.slice none 0 0, .int .i64 0] 242)).heap.size = w4.heap.size + 1 := by simp
  have s2 : ((w4.alloc (.cells #[.slice none 0 0, .int .i64 0] 242)).alloc (.cells #[.slice none 0 0] 286)).heap.size = w4.heap.size + 1 + 1 := by simp
  rw [s1] at e2
  rw [s2] at e3
  refine ⟨by rw [← new_cells]; exact e3, by omega, ?_, ?_, by omega, ?_, by omega⟩
  · exact g1.keep ((((Below.refl _ _).alloc (Nat.le_refl _) _).alloc (by simp) _).alloc (by simp; omega) _)
  · rw [Below.heap_alloc _ _ _ (by rw [s2]; omega), Below.heap_alloc _ _ _ (by rw [s1]; omega)]; exact e1
  · rw [Below.heap_alloc _ _ _ (by rw [s2]; omega)]; exact e2
set_option maxRecDepth 10000 in
set_option maxHeartbeats 2000000 in
theorem wnew_ok (c : Conf) (hc : c.ok = true) (w : World) : Calls Tryz.prog 47 #[.agg #[.int .i64 c.bits, .int .i64 c.budget, .int .i64 c.tries, .int .i64 c.quantum, .int .i64 c.way]] w fun e w' => ∃ wb cb ib nb, e = .returned (.tuple #[.pointer (some ⟨wb, 0, none⟩), .int .i64 0]) ∧
    w'.heap[wb]? = some (.cells (worldV cb ib nb c tk0 (-1)).toArray 117 (0, 0)) ∧ w.heap.size ≤ wb ∧ Own w w' cb (CS.init [(2, tword c.bits 0)]) ∧
    w'.heap[ib]? = some (.cells #[.slice none 0 0, .int .i64 0] 242 (0, 0)) ∧ w.heap.size ≤ ib ∧ w'.heap[nb]? = some (.cells #[.slice none 0 0] 286 (0, 0)) ∧ w.heap.size ≤ nb := by
  go_enter Tryz.func47, Tryz.ntmps47
  go_wp2_with (first
    | (go_at_call 124; refine (wmay_any c _).mono ?_; rw [hc]; rintro e w1 ⟨rfl, h1⟩; have b1 := h1.cell (p := ⟨w.heap.size, 0, none⟩) (by simp); have hbs := h1.size)
    | (go_at_call 125; refine (word_any _ _ _).mono ?_; rintro e w2 ⟨rfl, rfl⟩))
  have hq0 := heap_alloc_new w (.cells #[.int .i64 c.bits, .int .i64 c.budget, .int .i64 c.tries, .int .i64 c.quantum, .int .i64 c.way] 23)
  obtain ⟨hq2, -⟩ := box5 hq0 h1
  have hB2 : Below w.heap.size w w2 := ((Below.refl _ w).alloc (Nat.le_refl _) _).trans (h1.mono (by simp))
  have hB3 : Below w.heap.size w (w2.alloc (.cells #[.int .u64 2, .int .u64 (tword c.bits 0)] 226)) := hB2.alloc hB2.size _
  obtain ⟨hq3, x0, x1, x2, x3, x4⟩ := box5 hq2 ((Below.refl w2.heap.size w2).alloc (Nat.le_refl _) (.cells #[.int .u64 2, .int .u64 (tword c.bits 0)] 226))
  have hy := heap_alloc_new w2 (.cells #[.int .u64 2, .int .u64 (tword c.bits 0)] 226)
  clear h1 hq0 hq2 hB2 b1 hbs
  generalize w2.alloc (.cells #[.int .u64 2, .int .u64 (tword c.bits 0)] 226) = w3 at *
  have y0 : w3.cell? ⟨w2.heap.size, 0, none⟩ = some (.int .u64 2) := by simp [World.cell?, hy]
  have y1 : w3.cell? ⟨w2.heap.size, 1, none⟩ = some (.int .u64 (tword c.bits 0)) := by simp [World.cell?, hy]
  have l1 : w.heap.size < w3.heap.size := (Array.getElem?_eq_some_iff.1 hq3).1
  have hn := new_first w3.drew (w0 := w) (hB3.trans ⟨rfl, rfl, rfl, Nat.le_refl _, fun _ _ => rfl⟩) 2 (tword c.bits 0) (by decide) (tword_wf _ _)
  have HQ := Lib.hid hq3; have HB := Lib.hid hB3
  clear hq3 hy hB3
  go_region_with (first
    | (go_at_call 126; refine hn.mono ?_; rintro e w4 ⟨cb, rfl, g1, g2⟩; have g3 := g2.size; have l2 : w.heap.size < w4.heap.size := Nat.lt_of_lt_of_le l1 g3; obtain ⟨hq4, z0, z1, z2, z3, z4⟩ := box5 (w := w3.drew) HQ.out g2; clear x0 x1 x2 x3 x4; have HQ4 := Lib.hid hq4; have G1 := Lib.hid g1; have G2 := Lib.hid g2; clear hq4 g1 g2)
    | (go_at_call 127; refine (items_new _).mono ?_; rintro e w5 ⟨rfl, rfl⟩)
    | (go_at_call 128; refine (notes_new _).mono ?_; rintro e w6 ⟨rfl, rfl⟩))
  all_goals (try go_wp2)
  all_goals (go_ret2)
  all_goals (exact ⟨_, cb, _, _, rfl, new_fin HB.out G1.out G2.out l1 c⟩)
end Go.Proofs.YtmakjfeepmiggaaGreat
namespace Go.Proofs.YtmakjfeepmiggaaGreat
open Go.RowKit Go.Maps
set_option linter.unusedVariables false
structure Wld (w0 w : World) (wb cb : Nat) (c : Conf) (s : CS) : Prop where
  own : Own w0 w cb s
  blk : ∃ ib nb tk h, w.heap[wb]? = some (.cells (worldV cb ib nb c tk h).toArray 117 (0, 0))
theorem Wld.keep {w0 w w1 : World} {wb cb : Nat} {c : Conf} {s : CS} (h : Wld w0 w wb cb c s) (h2 : Below w.heap.size w w1) : Wld w0 w1 wb cb c s := by
  obtain ⟨ib, nb, tk, hh, hb⟩ := h.blk
  exact ⟨h.own.keep h2, ib, nb, tk, hh, below_rest h2 _ _ _ _ hb rfl rfl⟩
theorem Wld.acc {w0 w w1 : World} {wb cb : Nat} {c : Conf} {s s' : CS} (h : Wld w0 w wb cb c s) (h1 : Own w0 w1 cb s') (h2 : Rest w w1) : Wld w0 w1 wb cb c s' := by
  obtain ⟨ib, nb, tk, hh, hb⟩ := h.blk
  exact ⟨h1, ib, nb, tk, hh, h2 _ _ _ _ hb rfl rfl⟩
theorem Wld.cell {w0 w : World} {wb cb : Nat} {c : Conf} {s : CS} (h : Wld w0 w wb cb c s) : w.cell? ⟨wb, 0, none⟩ = some (.pointer (some ⟨cb, 0, none⟩)) ∧ w.cell? ⟨wb, 3, none⟩ = some (.int .i64 c.bits) ∧ w.cell? ⟨wb, 4, none⟩ = some (.int .i64 c.budget) := by
  obtain ⟨ib, nb, tk, hh, hb⟩ := h.blk
  have k : ∀ o, w.cell? ⟨wb, o, none⟩ = (worldV cb ib nb c tk hh).toArray[o]? := fun o => by unfold World.cell?; simp only; rw [hb]; rfl
  rw [k, k, k]
  simp [worldV, Conf.cells]
theorem steps_any {w0 w : World} {wb cb : Nat} {c : Conf} {s : CS} (h : Wld w0 w wb cb c s) : Calls Tryz.prog 67 #[.pointer (some ⟨wb, 0, none⟩)] w fun e w' => e = .returned (.int .i64 s.cnt) ∧ w' = w := by
  obtain ⟨c0, -, -⟩ := h.cell
  have hk := count_own h.own
  clear h
  go_enter Tryz.func67, Tryz.ntmps67
  go_wp2_with (go_at_call 139; refine hk.mono ?_; rintro e w' ⟨rfl, rfl⟩)
  go_ret
  exact ⟨rfl, rfl⟩
end Go.Proofs.YtmakjfeepmiggaaGreat
namespace Go.Proofs.YtmakjfeepmiggaaGreat
open Go.RowKit
set_option linter.unusedVariables false
theorem mask_u64 (x : Int) (m : Nat) (k : Nat) (hm : m = 2 ^ k - 1) (hk : k ≤ 63) (h0 : 0 ≤ x) (h1 : x < 18446744073709551616) : bits .and .u64 x (m : Int) = x % ((2 ^ k : Nat) : Int) := by
  obtain ⟨n, rfl⟩ := Int.eq_ofNat_of_zero_le h0
  have hp : (2 : Nat) ^ k ≤ 2 ^ 63 := Nat.pow_le_pow_right (by decide) hk
  have hp0 : 0 < (2 : Nat) ^ k := Nat.two_pow_pos k
  rw [u64_and _ _ (by omega) h1 (by omega) (by omega)]
  simp only [Int.toNat_natCast, hm, Nat.and_two_pow_sub_one_eq_mod]
  omega
theorem mask24 (x : Int) (h0 : 0 ≤ x) (h1 : x < 18446744073709551616) : bits .and .u64 x 16777215 = x % 16777216 := mask_u64 x 16777215 24 (by decide) (by decide) h0 h1
theorem mask16 (x : Int) (h0 : 0 ≤ x) (h1 : x < 18446744073709551616) : bits .and .u64 x 65535 = x % 65536 := mask_u64 x 65535 16 (by decide) (by decide) h0 h1
theorem or_up (a b : Int) (k : Nat) (hk : k ≤ 63) (a0 : 0 ≤ a) (a1 : a < ((2 ^ k : Nat) : Int)) (b0 : 0 ≤ b) (b1 : b * ((2 ^ k : Nat) : Int) < 18446744073709551616) : bits .or .u64 a (b * ((2 ^ k : Nat) : Int)) = a + b * ((2 ^ k : Nat) : Int) := by
  obtain ⟨n, rfl⟩ := Int.eq_ofNat_of_zero_le a0
  obtain ⟨m, rfl⟩ := Int.eq_ofNat_of_zero_le b0
  have hp : (2 : Nat) ^ k ≤ 2 ^ 63 := Nat.pow_le_pow_right (by decide) hk
  have e2 : ((m : Int) * ((2 ^ k : Nat) : Int)) = ((m * 2 ^ k : Nat) : Int) := by simp
  rw [e2] at b1 ⊢
  have hn : n < 2 ^ k := by omega
  rw [u64_or_nat _ _ (by omega) (by omega), Nat.or_comm, Nat.mul_comm, ← Nat.two_pow_add_eq_or_of_lt hn]
  omega
def eNow (x : Int) : Int := x % 16777216
def eAt (x : Int) : Int := x / 16777216 % 16777216
def eGen (x : Int) : Int := x / 281474976710656 % 65536
def eWord (n a g : Int) : Int := n + a * 16777216 + g * 281474976710656
theorem said_any (x : Int) (hx : (Lit.int .u64 x).wf = true) (w : World) : Calls Tryz.prog 203 #[.int .u64 x] w fun e w' => e = .returned (.agg #[.int .i64 (eNow x), .int .i64 (eAt x), .int .i64 (eGen x)]) ∧ Below w.heap.size w w' := by
  have h : 0 ≤ x ∧ x < 18446744073709551616 := by
    have hmin : IntKind.u64.min = 0 := rfl
    have hmax : IntKind.u64.max = 18446744073709551615 := rfl
    simp only [Lit.wf, Bool.and_eq_true, decide_eq_true_eq] at hx; omega
  have m0 := mask24 x h.1 h.2
  have m1 := mask24 (x / 16777216) (by omega) (by omega)
  have m2 := mask16 (x / 281474976710656) (by omega) (by omega)
  have r0 : eNow x = x % 16777216 := rfl
  have r1 : eAt x = x / 16777216 % 16777216 := rfl
  have r2 : eGen x = x / 281474976710656 % 65536 := rfl
  rw [← r0] at m0
  rw [← r1] at m1
  rw [← r2] at m2
  have b0 : 0 ≤ eNow x ∧ eNow x < 16777216 := by omega
  have b1 : 0 ≤ eAt x ∧ eAt x < 16777216 := by omega
  have b2 : 0 ≤ eGen x ∧ eGen x < 65536 := by omega
  have w0 : wrap64 (eNow x) = eNow x := IntWalk.wrap64_in _ (by omega)
  have w1 : wrap64 (eAt x) = eAt x := IntWalk.wrap64_in _ (by omega)
  have w2 : wrap64 (eGen x) = eGen x := IntWalk.wrap64_in _ (by omega)
  clear r0 r1 r2 hx h b0 b1 b2
  generalize eNow x = n at *
  generalize eAt x = a at *
  generalize eGen x = g at *
  go_enter Tryz.func203, Tryz.ntmps203
  go_wp2
  refine bodyPost_ret (v := .agg #[.int .i64 n, .int .i64 a, .int .i64 g]) (by simp [results, Tryz.results203, go_sem]) rfl ⟨rfl, (Below.refl _ _).alloc (Nat.le_refl _) _⟩
theorem eword_any (n a g : Int) (hn : 0 ≤ n ∧ n < 16777216) (ha : 0 ≤ a ∧ a < 16777216) (hg : 0 ≤ g ∧ g < 65536) (w : World) : Calls Tryz.prog 204 #[.agg #[.int .i64 n, .int .i64 a, .int .i64 g]] w fun e w' => e = .returned (.int .u64 (eWord n a g)) ∧ Below w.heap.size w w' := by
  have m0 : bits .and .u64 n 16777215 = n := by rw [mask24 n (by omega) (by omega)]; omega
  have m1 : bits .and .u64 a 16777215 = a := by rw [mask24 a (by omega) (by omega)]; omega
  have m2 : bits .and .u64 g 65535 = g := by rw [mask16 g (by omega) (by omega)]; omega
  have o1 : bits .or .u64 n (a * 16777216) = n + a * 16777216 := or_up n a 24 (by decide) hn.1 (by simpa using hn.2) ha.1 (by simp; omega)
  have o2 : bits .or .u64 (n + a * 16777216) (g * 281474976710656) = eWord n a g := or_up (n + a * 16777216) g 48 (by decide) (by omega) (by simp; omega) hg.1 (by simp; omega)
  go_enter Tryz.func204, Tryz.ntmps204
  go_wp2
  go_ret
  exact ⟨rfl, (Below.refl _ _).alloc (Nat.le_refl _) _⟩
def eNext (x : Int) : Int := if eNow x < 16777215 then eNow x + 1 else 16777215
def eTick (x : Int) : Int := if 0 < eAt x ∧ eAt x ≤ eNext x then eWord (eNext x) 0 (if eGen x < 65535 then eGen x + 1 else 65535) else eWord (eNext x) (eAt x) (eGen x)
set_option maxRecDepth 10000 in
theorem etick_any (x : Int) (hx : (Lit.int .u64 x).wf = true) (w : World) : Calls Tryz.prog 160 #[.int .u64 x] w fun e w' => e = .returned (.int .u64 (eTick x)) ∧ Below w.heap.size w w' := by
  have hs := said_any x hx w
  have b0 : 0 ≤ eNow x ∧ eNow x < 16777216 := by unfold eNow; omega
  have b1 : 0 ≤ eAt x ∧ eAt x < 16777216 := by unfold eAt; omega
  have b2 : 0 ≤ eGen x ∧ eGen x < 65536 := by unfold eGen; omega
  unfold eTick eNext
  clear hx
  generalize eNow x = n at *
  generalize eAt x = a at *
  generalize eGen x = g at *
  obtain ⟨n', hn'⟩ : ∃ n', n' = if n < 16777215 then n + 1 else 16777215 := ⟨_, rfl⟩
  rw [← hn']
  have c0 : 0 ≤ n' ∧ n' < 16777216 := by rw [hn']; split <;> omega
  have hmin : min (n + 1) 16777215 = n' := by rw [hn']; split <;> omega
  by_cases hd : 0 < a ∧ a ≤ n'
  · rw [if_pos hd]
    obtain ⟨g', hg'⟩ : ∃ g', g' = if g < 65535 then g + 1 else 65535 := ⟨_, rfl⟩
    rw [← hg']
    have c2 : 0 ≤ g' ∧ g' < 65536 := by rw [hg']; split <;> omega
    have hming : min (g + 1) 65535 = g' := by rw [hg']; split <;> omega
    go_enter Tryz.func160, Tryz.ntmps160
    go_wp2_with (first | (go_at_call 203; refine hs.mono ?_; rintro e w1 ⟨rfl, h1⟩) | (go_at_call 204; refine (eword_any _ _ _ (by omega) (by omega) (by omega) _).mono ?_; rintro e w2 ⟨rfl, h2⟩))
    all_goals (have hs1 := h1.size)
    all_goals go_ret
    all_goals refine ⟨rfl, Below.trans ?_ (h2.mono ?_)⟩
    all_goals first | (simp; done) | (simp; omega) | (repeat (first | exact h1 | (refine Below.setCell ?_ (by simpa using hs1) _) | (refine Below.alloc ?_ (by simpa using hs1) _)))
  · rw [if_neg hd]
    go_enter Tryz.func160, Tryz.ntmps160
    go_wp2_with (first | (go_at_call 203; refine hs.mono ?_; rintro e w1 ⟨rfl, h1⟩) | (go_at_call 204; refine (eword_any _ _ _ (by omega) (by omega) (by omega) _).mono ?_; rintro e w2 ⟨rfl, h2⟩))
    all_goals (have hs1 := h1.size)
    all_goals go_ret
    all_goals refine ⟨rfl, Below.trans ?_ (h2.mono ?_)⟩
    all_goals first | (simp; done) | (simp; omega) | (repeat (first | exact h1 | (refine Below.setCell ?_ (by simpa using hs1) _) | (refine Below.alloc ?_ (by simpa using hs1) _)))
end Go.Proofs.YtmakjfeepmiggaaGreat
namespace Go.Proofs.YtmakjfeepmiggaaGreat
open Go.RowKit Go.Maps
set_option linter.unusedVariables false
theorem etick_wf (x : Int) : (Lit.int .u64 (eTick x)).wf = true := by
  have hmin : IntKind.u64.min = 0 := rfl
  have hmax : IntKind.u64.max = 18446744073709551615 := rfl
  have b0 : 0 ≤ eNext x ∧ eNext x < 16777216 := by unfold eNext eNow; split <;> omega
  have b1 : 0 ≤ eAt x ∧ eAt x < 16777216 := by unfold eAt; omega
  have b2 : 0 ≤ eGen x ∧ eGen x < 65536 := by unfold eGen; omega
  have h : 0 ≤ eTick x ∧ eTick x < 18446744073709551616 := by
    unfold eTick eWord
    split
    · split <;> omega
    · omega
  generalize eTick x = t at *
  simp only [Lit.wf, Bool.and_eq_true, decide_eq_true_eq]; omega
theorem Rest.refl (w : World) : Rest w w := fun _ _ _ _ h _ _ => h
theorem Rest.trans {a b c : World} (h : Rest a b) (k : Rest b c) : Rest a c := fun i cs T fr hi h1 h2 => k i cs T fr (h i cs T fr hi h1 h2) h1 h2
theorem Wld.of {w0 w w' : World} {wb cb : Nat} {c : Conf} {s s' : CS} {S : Nat → Prop} (h : Wld w0 w wb cb c s) (hS : Cells w w0.heap.size cb s S) (hA : Acc w w0.heap.size cb s' S w') : Wld w0 w' wb cb c s' ∧ Rest w w' :=
  ⟨h.acc (Own.acc hS h.own.below hA) (hA.rest hS), hA.rest hS⟩
section
variable {w0 w : World} {wb cb : Nat} {c : Conf} {s : CS} (h : Wld w0 w wb cb c s) (hr : s.room) (a : Int) (ha : (Lit.int .u64 a).wf = true)
include h hr ha
theorem Wld.load : Calls Tryz.prog 62 #[.pointer (some ⟨cb, 0, none⟩), .int .u64 a] w fun e w' => e = .returned (.int .u64 (s.val a)) ∧ Wld w0 w' wb cb c (s.acc 1 a (s.val a)) ∧ Rest w w' := by
  obtain ⟨⟨S, hS⟩, hB⟩ := h.own
  exact (load_any w _ cb s S hS a ha hr.1 hr.2 hB.size).mono fun e w' ⟨he, hA⟩ => ⟨he, h.of hS hA⟩
theorem Wld.store (v : Int) (hv : (Lit.int .u64 v).wf = true) : Calls Tryz.prog 41 #[.pointer (some ⟨cb, 0, none⟩), .int .u64 a, .int .u64 v] w fun e w' => e = .returned (.int .u64 (s.val a)) ∧ Wld w0 w' wb cb c (s.acc 2 a v) ∧ Rest w w' := by
  obtain ⟨⟨S, hS⟩, hB⟩ := h.own
  exact (store_any w _ cb s S hS a v ha hv hr.1 hr.2 hB.size).mono fun e w' ⟨he, hA⟩ => ⟨he, h.of hS hA⟩
theorem Wld.add (v : Int) : Calls Tryz.prog 282 #[.pointer (some ⟨cb, 0, none⟩), .int .u64 a, .int .u64 v] w fun e w' => e = .returned (.int .u64 (s.val a)) ∧ Wld w0 w' wb cb c (s.acc 4 a (wu (s.val a + v))) ∧ Rest w w' := by
  obtain ⟨⟨S, hS⟩, hB⟩ := h.own
  exact (add_any w _ cb s S hS a v ha hr.1 hr.2 hB.size).mono fun e w' ⟨he, hA⟩ => ⟨he, h.of hS hA⟩
theorem Wld.cas (x y : Int) (hy : (Lit.int .u64 y).wf = true) : Calls Tryz.prog 159 #[.pointer (some ⟨cb, 0, none⟩), .int .u64 a, .int .u64 x, .int .u64 y] w fun e w' => e = .returned (.tuple #[.int .u64 (s.val a), .bool (s.val a == x)]) ∧
    Wld w0 w' wb cb c (s.acc 3 a (if s.val a = x then y else s.val a)) ∧ Rest w w' := by
  obtain ⟨⟨S, hS⟩, hB⟩ := h.own
  exact (cas_any w _ cb s S hS a x y ha hy hr.1 hr.2 hB.size).mono fun e w' ⟨he, hA⟩ => ⟨he, h.of hS hA⟩
end
end Go.Proofs.YtmakjfeepmiggaaGreat
namespace Go.Proofs.YtmakjfeepmiggaaGreat
open Go.RowKit Go.Maps
set_option linter.unusedVariables false
theorem bnext {w a b : World} (h : Below w.heap.size w a) (k : Below a.heap.size a b) : Below w.heap.size w b := h.trans (k.mono h.size)
structure New1 (bits : Int) (s : CS) : Prop where
  v2 : s.val 2 = tword bits 0
  vo : ∀ a, a ≠ 2 → s.val a = 0
  cnt : s.cnt = 0
  n : s.n = 1
theorem New1.room {bits : Int} {s : CS} (h : New1 bits s) : s.room := by unfold CS.room lim; rw [h.cnt, h.n]; omega
theorem Own.base {w0 w w' : World} {b : Nat} {s : CS} (h : Own w w' b s) (hB : Below w0.heap.size w0 w) : Own w0 w' b s := by
  obtain ⟨⟨S, hS⟩, h2⟩ := h
  exact Own.new hB hS h2
def conf10 : Conf := ⟨2, 8, 3, 1, 16⟩
theorem CS.room_of {s : CS} (m : Nat) (hs : s.n ≤ m ∧ s.cnt ≤ m) (hm : m < lim) : s.room := ⟨by omega, by omega⟩
theorem New1.le {bits : Int} {s : CS} (h : New1 bits s) : s.n ≤ 1 ∧ s.cnt ≤ 1 := by rw [h.n, h.cnt]; omega
end Go.Proofs.YtmakjfeepmiggaaGreat
namespace Go.Proofs.YtmakjfeepmiggaaGreat
open Go.RowKit
set_option linter.unusedVariables false
def hasP (b u : Int) : Bool := decide (0 ≤ u) && decide (u < tsize b)
def stripe (b u : Int) : Int := (u + 31 * b) % 64
def ver (b u : Int) : Int := if hasP b u then 64 + stripe b u else 0
theorem hasP_bits {b u : Int} (h : hasP b u = true) : 1 ≤ b ∧ b ≤ 12 ∧ 0 ≤ u ∧ u < 4096 := by
  simp only [hasP, Bool.and_eq_true, decide_eq_true_eq] at h
  by_cases hb : b < 1 ∨ 12 < b
  · rw [tsize_out hb] at h; omega
  · have h1 := tsize_in (b := b) (by omega)
    rcases twelve (b := b) (by omega) with rfl | rfl | rfl | rfl | rfl | rfl | rfl | rfl | rfl | rfl | rfl | rfl <;> (rw [h1] at h; simp at h; omega)
theorem box2 (w : World) (b u : Int) (T : TypeId) : ∀ o, (w.alloc (.cells #[.int .i64 b, .int .i64 u] T)).cell? ⟨w.heap.size, o, none⟩ = (#[.int .i64 b, .int .i64 u] : Array Value)[o]? := fun o => by
  have := heap_alloc_new w (.cells #[.int .i64 b, .int .i64 u] T)
  unfold World.cell?; simp only; rw [this]; rfl
theorem below_alloc (w : World) (o : Obj) : Below w.heap.size w (w.alloc o) := (Below.refl _ _).alloc (Nat.le_refl _) _
theorem size_ext (b : Int) {w : World} (st : ExtW w) : Calls Tryz.prog 49 #[.int .i64 b] st.val fun e w' => e = .returned (.int .i64 (tsize b)) ∧ st.val = w' :=
  (size_any b st.val).mono fun e w' ⟨he, hw⟩ => ⟨he, hw.symm⟩
theorem there_any (b u : Int) (w : World) : Calls Tryz.prog 122 #[.agg #[.int .i64 b, .int .i64 u]] w fun e w' => e = .returned (.bool (hasP b u)) ∧ Below w.heap.size w w' := by
  have x0 := fun st : ExtW (w.alloc (.cells #[.int .i64 b, .int .i64 u] 69)) => st.cell (box2 w b u 69 0)
  have x1 := fun st : ExtW (w.alloc (.cells #[.int .i64 b, .int .i64 u] 69)) => st.cell (box2 w b u 69 1)
  have hB := below_alloc w (.cells #[.int .i64 b, .int .i64 u] 69)
  unfold hasP
  cases h0 : decide (0 ≤ u)
  all_goals
    go_enter Tryz.func122, Tryz.ntmps122
    go_wp2
    refine wp_region_ext (by kernel_rfl) (by kernel_rfl) ?_
    repeat (go_big_quiet_step ((go_at_call 49; with_reducible refine calls_ext_same (size_ext _ _))))
    refine wpQuiet_nil ?_
    rintro W ⟨⟨W2, hW⟩, rfl⟩
    clear x0 x1
    go_wp2
    go_ret
    exact ⟨rfl, hB.trans (hW.mono hB.size)⟩
theorem stripe_in (b u : Int) (h : hasP b u = true) (w : World) : Calls Tryz.prog 196 #[.agg #[.int .i64 b, .int .i64 u]] w fun e w' => e = .returned (.int .i64 (stripe b u)) ∧ Below w.heap.size w w' := by
  have hb := hasP_bits h
  have x0 := fun st : ExtW (w.alloc (.cells #[.int .i64 b, .int .i64 u] 69)) => st.cell (box2 w b u 69 0)
  have x1 := fun st : ExtW (w.alloc (.cells #[.int .i64 b, .int .i64 u] 69)) => st.cell (box2 w b u 69 1)
  have hB := below_alloc w (.cells #[.int .i64 b, .int .i64 u] 69)
  simp only [hasP, Bool.and_eq_true, decide_eq_true_eq] at h
  have h0 : decide (u < 0) = false := decide_eq_false (by omega)
  have h1 : decide (tsize b ≤ u) = false := decide_eq_false (by omega)
  have e1 : wrap64 (31 * b) = 31 * b := IntWalk.wrap64_in _ (by omega)
  have e2 : wrap64 (u + 31 * b) = u + 31 * b := IntWalk.wrap64_in _ (by omega)
  have e3 : (u + 31 * b).tmod 64 = stripe b u := by unfold stripe; rw [Int.tmod_eq_emod_of_nonneg (by omega)]
  have E3 := Lib.hid e3
  clear h e3
  go_enter Tryz.func196, Tryz.ntmps196
  go_wp2
  refine wp_region_ext (by kernel_rfl) (by kernel_rfl) ?_
  repeat (go_big_quiet_step ((go_at_call 49; with_reducible refine calls_ext_same (size_ext _ _))))
  refine wpQuiet_nil ?_
  rintro W ⟨⟨W2, hW⟩, rfl⟩
  clear x0 x1
  have y0 := (hW.cell (p := ⟨w.heap.size, 0, none⟩) (by simp)).trans (box2 w b u 69 0)
  have y1 := (hW.cell (p := ⟨w.heap.size, 1, none⟩) (by simp)).trans (box2 w b u 69 1)
  have HB := Lib.hid (hB.trans (hW.mono hB.size))
  clear hW hB
  go_wp2
  go_ret
  exact ⟨rfl, HB.out⟩
theorem ver_any (b u : Int) (w : World) : Calls Tryz.prog 155 #[.agg #[.int .i64 b, .int .i64 u]] w fun e w' => e = .returned (.int .u64 (ver b u)) ∧ Below w.heap.size w w' := by
  have z0 := box2 w b u 69 0
  have z1 := box2 w b u 69 1
  have hB := below_alloc w (.cells #[.int .i64 b, .int .i64 u] 69)
  cases h : hasP b u
  · have e : ver b u = 0 := by unfold ver; rw [h]; rfl
    rw [e]
    have ht := fun w => there_any b u w
    rw [h] at ht
    clear h e
    go_enter Tryz.func155, Tryz.ntmps155
    go_wp2_with (go_at_call 122; refine (ht _).mono ?_; rintro e w1 ⟨rfl, b1⟩)
    go_ret
    exact ⟨rfl, hB.trans (b1.mono hB.size)⟩
  · have e : ver b u = 64 + stripe b u := by unfold ver; rw [h]; rfl
    rw [e]
    have ht := fun w => there_any b u w
    rw [h] at ht
    have hs := fun w => stripe_in b u h w
    have hb : 0 ≤ stripe b u ∧ stripe b u < 64 := by unfold stripe; omega
    generalize stripe b u = s at *
    have e1 : IntKind.u64.wrap s = s := by rw [IntKind.wrap_u64]; omega
    have e2 : IntKind.u64.wrap (64 + s) = 64 + s := by rw [IntKind.wrap_u64]; omega
    have e3 : wrap64 (64 + s) = 64 + s := IntWalk.wrap64_in _ (by omega)
    clear h e
    go_enter Tryz.func155, Tryz.ntmps155
    go_wp2_with (first
      | (go_at_call 122; refine (ht _).mono ?_; rintro e w1 ⟨rfl, b1⟩; have y0 := (b1.cell (p := ⟨w.heap.size, 0, none⟩) (by simp)).trans z0; have y1 := (b1.cell (p := ⟨w.heap.size, 1, none⟩) (by simp)).trans z1; have B1 := hB.trans (b1.mono hB.size); clear z0 z1 b1)
      | (go_at_call 196; refine (hs _).mono ?_; rintro e w2 ⟨rfl, b2⟩))
    go_ret
    exact ⟨rfl, B1.trans (b2.mono B1.size)⟩
theorem two_pow_le (k : Nat) (h : k ≤ 12) : (2 : Int) ^ k ≤ 4096 ∧ 1 ≤ (2 : Int) ^ k := by
  have : k = 0 ∨ k = 1 ∨ k = 2 ∨ k = 3 ∨ k = 4 ∨ k = 5 ∨ k = 6 ∨ k = 7 ∨ k = 8 ∨ k = 9 ∨ k = 10 ∨ k = 11 ∨ k = 12 := by omega
  rcases this with rfl | rfl | rfl | rfl | rfl | rfl | rfl | rfl | rfl | rfl | rfl | rfl | rfl <;> decide
theorem rsize_any (b : Int) (w : World) : Calls Tryz.prog 51 #[.int .i64 b] w fun e w' => e = .returned (.int .i64 (tsize b)) ∧ w' = w := by
  by_cases h1 : b < 1
  · rw [tsize_out (.inl h1)]
    go_enter Tryz.func51, Tryz.ntmps51
    go_wp2
    all_goals (go_ret; exact ⟨rfl, rfl⟩)
  by_cases h2 : 12 < b
  · rw [tsize_out (.inr h2)]
    go_enter Tryz.func51, Tryz.ntmps51
    go_wp2
    all_goals (go_ret; exact ⟨rfl, rfl⟩)
  · rw [tsize_in ⟨by omega, by omega⟩]
    obtain ⟨n, rfl⟩ := Int.eq_ofNat_of_zero_le (show 0 ≤ b by omega)
    simp only [Int.toNat_natCast]
    have g1 : 1 ≤ (n : Int) := by omega
    have g2 : (n : Int) ≤ 12 := by omega
    clear h1 h2
    go_enter Tryz.func51, Tryz.ntmps51
    go_wp2
    go_loop [3, 4] (fun y i => ∃ k : Nat, k ≤ n ∧ i = .int .i64 k ∧ y = .int .i64 ((2 : Int) ^ k)) (fun _ i => n - (intOf i).toNat)
    case atStart => exact ⟨0, by omega, rfl, rfl⟩
    case round =>
      obtain ⟨k, hk, rfl, rfl⟩ := hrel
      by_cases hlt : k < n
      · have hp := two_pow_le k (by omega)
        have h3 : (k : Int) < n := by omega
        have e1 : wrap64 (2 * (2 : Int) ^ k) = 2 * (2 : Int) ^ k := IntWalk.wrap64_in _ (by omega)
        go_wp2
        go_round
        case rel => exact ⟨k + 1, by omega, by go_num, by rw [Int.pow_succ, Int.mul_comm]⟩
        case measure => simp [intOf]; omega
      · obtain rfl : k = n := by omega
        go_wp2
        go_ret
        exact ⟨rfl, rfl⟩
theorem rsize_ext (b : Int) {w : World} (st : ExtW w) : Calls Tryz.prog 51 #[.int .i64 b] st.val fun e w' => e = .returned (.int .i64 (tsize b)) ∧ st.val = w' :=
  (rsize_any b st.val).mono fun e w' ⟨he, hw⟩ => ⟨he, hw.symm⟩
theorem rthere_any (b u : Int) (w : World) : Calls Tryz.prog 134 #[.agg #[.int .i64 b, .int .i64 u]] w fun e w' => e = .returned (.bool (hasP b u)) ∧ Below w.heap.size w w' := by
  have x0 := fun st : ExtW (w.alloc (.cells #[.int .i64 b, .int .i64 u] 69)) => st.cell (box2 w b u 69 0)
  have x1 := fun st : ExtW (w.alloc (.cells #[.int .i64 b, .int .i64 u] 69)) => st.cell (box2 w b u 69 1)
  have hB := below_alloc w (.cells #[.int .i64 b, .int .i64 u] 69)
  unfold hasP
  cases h0 : decide (0 ≤ u)
  all_goals
    go_enter Tryz.func134, Tryz.ntmps134
    go_wp2
    refine wp_region_ext (by kernel_rfl) (by kernel_rfl) ?_
    repeat (go_big_quiet_step ((go_at_call 51; with_reducible refine calls_ext_same (rsize_ext _ _))))
    refine wpQuiet_nil ?_
    rintro W ⟨⟨W2, hW⟩, rfl⟩
    clear x0 x1
    go_wp2
    go_ret
    exact ⟨rfl, hB.trans (hW.mono hB.size)⟩
theorem rstripe_in (b u : Int) (h : hasP b u = true) (w : World) : Calls Tryz.prog 210 #[.agg #[.int .i64 b, .int .i64 u]] w fun e w' => e = .returned (.int .i64 (stripe b u)) ∧ Below w.heap.size w w' := by
  have hb := hasP_bits h
  have x0 := fun st : ExtW (w.alloc (.cells #[.int .i64 b, .int .i64 u] 69)) => st.cell (box2 w b u 69 0)
  have x1 := fun st : ExtW (w.alloc (.cells #[.int .i64 b, .int .i64 u] 69)) => st.cell (box2 w b u 69 1)
  have hB := below_alloc w (.cells #[.int .i64 b, .int .i64 u] 69)
  simp only [hasP, Bool.and_eq_true, decide_eq_true_eq] at h
  have h0 : decide (u < 0) = false := decide_eq_false (by omega)
  have h1 : decide (tsize b ≤ u) = false := decide_eq_false (by omega)
  have e1 : wrap64 (31 * b) = 31 * b := IntWalk.wrap64_in _ (by omega)
  have e2 : wrap64 (u + 31 * b) = u + 31 * b := IntWalk.wrap64_in _ (by omega)
  have e3 : (u + 31 * b).tmod 64 = stripe b u := by unfold stripe; rw [Int.tmod_eq_emod_of_nonneg (by omega)]
  have E3 := Lib.hid e3
  clear h e3
  go_enter Tryz.func210, Tryz.ntmps210
  go_wp2
  refine wp_region_ext (by kernel_rfl) (by kernel_rfl) ?_
  repeat (go_big_quiet_step ((go_at_call 51; with_reducible refine calls_ext_same (rsize_ext _ _))))
  refine wpQuiet_nil ?_
  rintro W ⟨⟨W2, hW⟩, rfl⟩
  clear x0 x1
  have y0 := (hW.cell (p := ⟨w.heap.size, 0, none⟩) (by simp)).trans (box2 w b u 69 0)
  have y1 := (hW.cell (p := ⟨w.heap.size, 1, none⟩) (by simp)).trans (box2 w b u 69 1)
  have HB := Lib.hid (hB.trans (hW.mono hB.size))
  clear hW hB
  go_wp2
  go_ret
  exact ⟨rfl, HB.out⟩
theorem rver_any (b u : Int) (w : World) : Calls Tryz.prog 163 #[.agg #[.int .i64 b, .int .i64 u]] w fun e w' => e = .returned (.int .u64 (ver b u)) ∧ Below w.heap.size w w' := by
  have z0 := box2 w b u 69 0
  have z1 := box2 w b u 69 1
  have hB := below_alloc w (.cells #[.int .i64 b, .int .i64 u] 69)
  cases h : hasP b u
  · have e : ver b u = 0 := by unfold ver; rw [h]; rfl
    rw [e]
    have ht := fun w => rthere_any b u w
    rw [h] at ht
    clear h e
    go_enter Tryz.func163, Tryz.ntmps163
    go_wp2_with (go_at_call 134; refine (ht _).mono ?_; rintro e w1 ⟨rfl, b1⟩)
    go_ret
    exact ⟨rfl, hB.trans (b1.mono hB.size)⟩
  · have e : ver b u = 64 + stripe b u := by unfold ver; rw [h]; rfl
    rw [e]
    have ht := fun w => rthere_any b u w
    rw [h] at ht
    have hs := fun w => rstripe_in b u h w
    have hb : 0 ≤ stripe b u ∧ stripe b u < 64 := by unfold stripe; omega
    generalize stripe b u = s at *
    have e1 : IntKind.u64.wrap s = s := by rw [IntKind.wrap_u64]; omega
    have e2 : IntKind.u64.wrap (64 + s) = 64 + s := by rw [IntKind.wrap_u64]; omega
    have e3 : wrap64 (64 + s) = 64 + s := IntWalk.wrap64_in _ (by omega)
    clear h e
    go_enter Tryz.func163, Tryz.ntmps163
    go_wp2_with (first
      | (go_at_call 134; refine (ht _).mono ?_; rintro e w1 ⟨rfl, b1⟩; have y0 := (b1.cell (p := ⟨w.heap.size, 0, none⟩) (by simp)).trans z0; have y1 := (b1.cell (p := ⟨w.heap.size, 1, none⟩) (by simp)).trans z1; have B1 := hB.trans (b1.mono hB.size); clear z0 z1 b1)
      | (go_at_call 210; refine (hs _).mono ?_; rintro e w2 ⟨rfl, b2⟩))
    go_ret
    exact ⟨rfl, B1.trans (b2.mono B1.size)⟩
end Go.Proofs.YtmakjfeepmiggaaGreat
namespace Go.Proofs.YtmakjfeepmiggaaGreat
open Go.RowKit
set_option linter.unusedVariables false
theorem own_below {w w' : World} {base e size n : Nat} {v : Value} {xs : List Value} (h : w.ownsRow base e size v n xs) (hb : Below w.heap.size w w') : w'.ownsRow base e size v n xs := by
  obtain ⟨h1, h2 | ⟨g, cap, cur, rfl, hb1, hg, r⟩⟩ := h
  · exact ⟨h1, .inl h2⟩
  · exact ⟨h1, .inr ⟨g, cap, cur, rfl, hb1, (hb.block g (Array.getElem?_eq_some_iff.1 hg).1).trans hg, r⟩⟩
structure Plc (w : World) (a : Option Addr) (cap : Nat) (l : List (Int × Int)) : Prop where
  le : l.length ≤ cap
  most : cap ≤ maxLen
  nil : a = none → cap = 0
  cell : l = [] ∨ ∃ b off, a = some ⟨b, off, none⟩ ∧ ∀ i, (hi : i < l.length) → w.cell? ⟨b, off + i * 2, none⟩ = some (.int .i64 (l[i]).1) ∧ w.cell? ⟨b, off + i * 2 + 1, none⟩ = some (.int .i64 (l[i]).2)
theorem Plc.at {w : World} {a : Option Addr} {cap : Nat} {l : List (Int × Int)} (h : Plc w a cap l) (i : Nat) (hi : i < l.length) :
    ∃ b off x y, a = some ⟨b, off, none⟩ ∧ l[i]? = some (x, y) ∧ w.cell? ⟨b, off + i * 2, none⟩ = some (.int .i64 x) ∧ w.cell? ⟨b, off + i * 2 + 1, none⟩ = some (.int .i64 y) := by
  rcases h.cell with rfl | ⟨b, off, rfl, h5⟩
  · simp at hi
  · exact ⟨b, off, l[i].1, l[i].2, rfl, List.getElem?_eq_getElem hi, h5 i hi⟩
theorem Plc.below {w w' : World} {a : Option Addr} {cap : Nat} {l : List (Int × Int)} (h : Plc w a cap l) (hb : Below w.heap.size w w') : Plc w' a cap l := by
  refine ⟨h.le, h.most, h.nil, h.cell.imp id fun ⟨b, off, e, h5⟩ => ⟨b, off, e, fun i hi => ?_⟩⟩
  obtain ⟨h6, h7⟩ := h5 i hi
  exact ⟨(hb.cell (World.block_lt_of_cell? _ _ h6)).trans h6, (hb.cell (World.block_lt_of_cell? _ _ h7)).trans h7⟩
def vstep (out : List Int) (p : Int × Int) : List Int := if ver p.1 p.2 = 0 then out else if out.contains (ver p.1 p.2) then out else out ++ [ver p.1 p.2]
def vof (l : List (Int × Int)) : List Int := l.foldl vstep []
def cu (l : List Int) : List Value := l.map (Value.int .u64)
theorem vof_take {l : List (Int × Int)} {k : Nat} {x y : Int} (h : l[k]? = some (x, y)) : vof (l.take (k + 1)) = vstep (vof (l.take k)) (x, y) := by
  unfold vof
  rw [List.take_add_one, h, List.foldl_append]
  rfl
theorem vstep_len (out : List Int) (p : Int × Int) : (vstep out p).length ≤ out.length + 1 := by
  unfold vstep; split
  · omega
  · split
    · omega
    · simp
theorem vof_len (l : List (Int × Int)) : (vof l).length ≤ l.length := by
  have : ∀ (l : List (Int × Int)) (o : List Int), (l.foldl vstep o).length ≤ o.length + l.length := by
    intro l
    induction l with
    | nil => intro o; simp
    | cons x l ih => intro o; have := ih (vstep o x); have := vstep_len o x; simp only [List.foldl_cons, List.length_cons]; omega
  have := this l []
  unfold vof; simpa using this
def fidx (xs : List Int) (a : Int) (k : Nat) : Int := match xs with
  | [] => -1
  | x :: r => if a = x then k else fidx r a (k + 1)
theorem fidx_ge (xs : List Int) (a : Int) (k : Nat) : decide (0 ≤ fidx xs a k) = xs.contains a := by
  induction xs generalizing k with
  | nil => rfl
  | cons x r ih =>
    unfold fidx
    split
    · rename_i h; subst h; simp
    · rename_i h; rw [ih]; simp [h]
theorem fidx_drop {xs : List Int} {a y : Int} {k : Nat} (h : xs[k]? = some y) : fidx (xs.drop k) a k = if a = y then (k : Int) else fidx (xs.drop (k + 1)) a (k + 1) := by
  have hk : k < xs.length := (List.getElem?_eq_some_iff.1 h).1
  rw [List.drop_eq_getElem_cons hk]
  have : xs[k] = y := (List.getElem?_eq_some_iff.1 h).2
  rw [this]; rfl
theorem index_addrs (xs : List Int) (a : Int) (v : Value) (w : World) (h : Rd w v xs.length (cu xs)) : Calls Tryz.prog 197 #[v, .int .u64 a] w fun e w' => e = .returned (.int .i64 (fidx xs a 0)) ∧ w' = w := by
  obtain ⟨ad, cap, rfl, h1, h2, h3, h4⟩ := h
  have hml : xs.length ≤ maxLen := Nat.le_trans h1 h2
  unfold maxLen at hml
  go_enter Tryz.func197, Tryz.ntmps197
  go_wp2
  go_loop [8] (fun i => ∃ k : Nat, k ≤ xs.length ∧ i = .int .i64 k ∧ fidx xs a 0 = fidx (xs.drop k) a k) (fun i => xs.length - (intOf i).toNat)
  case atStart => exact ⟨0, by omega, rfl, rfl⟩
  case round =>
    obtain ⟨k, hk, rfl, hf⟩ := hrel
    by_cases hlt : k < xs.length
    · rcases h4 with h4 | ⟨b, off, rfl, h5⟩
      · exfalso; have : (cu xs).length = 0 := by rw [h4]; rfl
        simp [cu] at this; rw [this] at hlt; simp at hlt
      have hc := h5 k (by simpa [cu] using hlt)
      have hx : xs[k]? = some xs[k] := List.getElem?_eq_getElem hlt
      rw [show (cu xs)[k]? = some (.int .u64 xs[k]) by simp [cu, hlt]] at hc
      rw [fidx_drop hx] at hf
      generalize xs[k] = y at hc hf
      have hlt' : (k : Int) < xs.length := by omega
      clear hx
      by_cases hay : a = y
      · have hb : (a == y) = true := beq_iff_eq.2 hay
        rw [if_pos hay] at hf
        have HF := Lib.hid hf
        clear hf hay h5
        go_wp2
        go_ret
        exact ⟨ret_i64 HF.out.symm, rfl⟩
      · have hb : (a == y) = false := beq_eq_false_iff_ne.2 hay
        rw [if_neg hay] at hf
        have HF := Lib.hid hf
        clear hf hay h5
        go_wp2
        go_round
        case rel => exact ⟨k + 1, by omega, by go_num, HF.out⟩
        case measure => simp [intOf]; omega
    · obtain rfl : k = xs.length := by omega
      have HF := Lib.hid hf
      clear hf h4
      go_wp2
      go_ret
      exact ⟨by rw [HF.out]; simp [fidx], rfl⟩
theorem contains_addrs (xs : List Int) (a : Int) (v : Value) (w : World) (h : Rd w v xs.length (cu xs)) : Calls Tryz.prog 156 #[v, .int .u64 a] w fun e w' => e = .returned (.bool (xs.contains a)) ∧ w' = w := by
  have hi := index_addrs xs a v w h
  have hf := fidx_ge xs a 0
  obtain ⟨ad, cap, rfl, h1, h2, h3, h4⟩ := h
  generalize fidx xs a 0 = r at *
  generalize xs.contains a = c at *
  go_enter Tryz.func156, Tryz.ntmps156
  go_wp2_with (go_at_call 197; refine hi.mono ?_; rintro e w1 ⟨rfl, rfl⟩)
  go_ret
  exact ⟨rfl, rfl⟩
def Adr (w : World) (base : Nat) (v : Value) (xs : List Int) : Prop :=
  (v = .slice none 0 0 ∧ xs = []) ∨ ∃ g cur, v = .slice (some ⟨g, 0, none⟩) xs.length xs.length ∧ base ≤ g ∧ w.heap[g]? = some (.cells cur 39 (0, 0)) ∧ xs.length ≤ maxLen ∧ cur.toList.take xs.length = cu xs
theorem clip_addrs (v : Value) (base : Nat) (xs : List Int) (w : World) (h : w.ownsRow base 39 1 v xs.length (cu xs)) :
    Calls Tryz.prog 157 #[v] w fun e w' => ∃ v', e = .returned v' ∧ Adr w' base v' xs ∧ w' = w := by
  obtain ⟨h1, ⟨rfl, h0⟩ | ⟨g, cap, cur, rfl, hb, hg, hn, hm, hs, ht⟩⟩ := h
  · have : xs = [] := by cases xs with | nil => rfl | cons x r => simp at h0
    subst this
    clear h1 h0
    go_enter Tryz.func157, Tryz.ntmps157
    go_wp2
    go_ret
    exact ⟨_, rfl, .inl ⟨rfl, rfl⟩, rfl⟩
  · have hm2 := Nat.le_trans hn hm
    unfold maxLen at hm hm2
    simp only [Nat.mul_one] at ht
    have HT := Lib.hid ht; have HG := Lib.hid hg
    clear ht hg hs h1
    go_enter Tryz.func157, Tryz.ntmps157
    go_wp2
    go_ret
    exact ⟨_, rfl, .inr ⟨g, cur, rfl, hb, HG.out, by unfold maxLen; omega, HT.out⟩, rfl⟩
theorem Adr.keep {w w' : World} {base : Nat} {v : Value} {xs : List Int} (h : Adr w base v xs) (hb : Below w.heap.size w w') : Adr w' base v xs := by
  rcases h with h | ⟨g, cur, rfl, h1, h2, h3⟩
  · exact .inl h
  · exact .inr ⟨g, cur, rfl, h1, (hb.block g (Array.getElem?_eq_some_iff.1 h2).1).trans h2, h3⟩
theorem info_addr : (Tryz.prog.info? 39).map (fun i => (i.zero, i.size, i.bytes)) = some (some (.int .u64 0), 1, 8) := by kernel_rfl
set_option maxHeartbeats 1000000 in
theorem of_any (l : List (Int × Int)) (ao : Option Addr) (cap : Nat) (w : World) (h : Plc w ao cap l) (hsz : l.length ≤ 1000000) : Calls Tryz.prog 94 #[.slice ao l.length cap] w fun e w' => ∃ v, e = .returned v ∧ Adr w' w.heap.size v (vof l) ∧ Below w.heap.size w w' := by
  have hml : l.length ≤ maxLen := Nat.le_trans h.le h.most
  obtain ⟨i0, hi0, hz0, hz1, hz2⟩ := info_parts info_addr
  have HI := Lib.hid hi0; have HZ0 := Lib.hid hz0; have HZ1 := Lib.hid hz1; have HZ2 := Lib.hid hz2; have HP := Lib.hid h; have HM := Lib.hid hsz
  unfold maxLen at hml
  clear hi0 hz0 hz1 hz2 h hsz
  go_enter Tryz.func94, Tryz.ntmps94
  go_wp2
  go_loopw [2, 8] (fun v i wr => ∃ k : Nat, k ≤ l.length ∧ i = .int .i64 k ∧ wr.ownsRow w.heap.size 39 1 v (vof (l.take k)).length (cu (vof (l.take k))) ∧ Below w.heap.size w wr) (fun _ i _ => l.length - (intOf i).toNat)
  case atStart => exact ⟨0, by omega, rfl, World.ownsRow_nil _ _ _ _, Below.refl _ _⟩
  case round =>
    obtain ⟨k, hk, rfl, hown, hbl⟩ := hrel
    by_cases hlt : k < l.length
    · obtain ⟨b, off, x, y, rfl, hx, c0, c1⟩ := (HP.out.below hbl).at k hlt
      have hl := vof_len (l.take k)
      rw [List.length_take] at hl
      have hst := vof_take hx
      have hlt' : (k : Int) < l.length := by omega
      have HO := Lib.hid hown; have HL := Lib.hid hbl; have HS := Lib.hid hst
      clear hown hbl hst hx
      generalize vof (l.take k) = out at *
      have hb1 := below_alloc wr (.cells #[.int .i64 x, .int .i64 y] 69)
      have hv : vstep out (x, y) = if ver x y = 0 then out else if out.contains (ver x y) then out else out ++ [ver x y] := rfl
      have hver := fun w => ver_any x y w
      generalize ver x y = vv at *
      cases hz : (vv == 0)
      · have hz' : vv ≠ 0 := beq_eq_false_iff_ne.1 hz
        rw [if_neg hz'] at hv
        have hcn := fun w v h => contains_addrs out vv v w h
        cases hc : out.contains vv
        · rw [hc] at hcn hv
          have HV := Lib.hid hv
          have hz2 : (vv != 0) = true := bne_iff_ne.2 hz'
          have HC := Lib.hid hc
          clear hv hz' hz hc
          go_wp2_with (first
            | (go_at_call 155; refine (hver _).mono ?_; rintro e w1 ⟨rfl, b1⟩; have B1 := hb1.trans (b1.mono hb1.size); have O1 := own_below HO.out B1; have L1 := HL.out.trans (B1.mono HL.out.size); have OO := Lib.hid O1; have LL := Lib.hid L1; clear B1 O1 L1 b1 hb1)
            | (go_at_call 156; refine (hcn _ _ (Lst.rd (Lst.of_own OO.out))).mono ?_; rintro e w2 ⟨rfl, rfl⟩)
            | (at_builtin; refine wpList_append_own _ rfl _ _ 90 rfl w.heap.size 39 i0 (.int .u64 0) 1 8 Tryz.underlying90 HI.out HZ0.out HZ1.out HZ2.out rfl (by decide) _ _ _ rfl (OO.out.alloc _) ⟨_, 0, none⟩ 1 1 [.int .u64 vv] rfl rfl ?c1 ?c2 ?c3 ?c4 ?c5 ?_))
          case c1 => exact cell_one_new _ _ _
          case c2 => simp [Value.oneCell']
          case c3 => unfold maxLen; omega
          case c4 => have := HM.out; omega
          case c5 => simp; have := LL.out.size; omega
          intro v' w2 hown' hgrow _
          go_wp2
          go_roundw
          case rel =>
            refine ⟨k + 1, by omega, by go_num, ?_, (LL.out.alloc LL.out.size _).grown hgrow (by simp; have := LL.out.size; omega) (fun j hj => (OO.out.lt j hj).1)⟩
            rw [HS.out, HV.out]; simpa [cu] using hown'
          case measure => simp [intOf]; omega
        · rw [hc] at hcn hv
          have HV := Lib.hid hv
          have hz2 : (vv != 0) = true := bne_iff_ne.2 hz'
          have HC := Lib.hid hc
          clear hv hz' hz hc
          go_wp2_with (first
            | (go_at_call 155; refine (hver _).mono ?_; rintro e w1 ⟨rfl, b1⟩; have B1 := hb1.trans (b1.mono hb1.size); have O1 := own_below HO.out B1; have L1 := HL.out.trans (B1.mono HL.out.size); have OO := Lib.hid O1; have LL := Lib.hid L1; clear B1 O1 L1 b1 hb1)
            | (go_at_call 156; refine (hcn _ _ (Lst.rd (Lst.of_own OO.out))).mono ?_; rintro e w2 ⟨rfl, rfl⟩))
          go_roundw
          case rel => exact ⟨k + 1, by omega, by go_num, by rw [HS.out, HV.out]; exact OO.out, LL.out⟩
          case measure => simp [intOf]; omega
      · have hz' : vv = 0 := beq_iff_eq.1 hz
        rw [if_pos hz'] at hv
        have HV := Lib.hid hv
        have hz2 : (vv != 0) = false := by rw [hz']; rfl
        clear hv hz' hz
        go_wp2_with (go_at_call 155; refine (hver _).mono ?_; rintro e w1 ⟨rfl, b1⟩; have B1 := hb1.trans (b1.mono hb1.size); have O1 := own_below HO.out B1; have L1 := HL.out.trans (B1.mono HL.out.size); have OO := Lib.hid O1; have LL := Lib.hid L1; clear B1 O1 L1 b1 hb1)
        go_roundw
        case rel => exact ⟨k + 1, by omega, by go_num, by rw [HS.out, HV.out]; exact OO.out, LL.out⟩
        case measure => simp [intOf]; omega
    · obtain rfl : k = l.length := by omega
      rw [List.take_length] at hown
      have HL := Lib.hid hbl
      go_wp2_with (go_at_call 157; refine (clip_addrs _ _ _ _ hown).mono ?_; rintro e w2 ⟨v', rfl, hA, rfl⟩)
      go_ret
      exact ⟨_, rfl, hA, HL.out⟩
end Go.Proofs.YtmakjfeepmiggaaGreat