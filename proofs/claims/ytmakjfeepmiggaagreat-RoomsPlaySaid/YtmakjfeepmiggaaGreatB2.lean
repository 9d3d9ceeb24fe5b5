/-
  Texts of this prover, merged: Mark, Front, Same, ItemsAdd, ItemsAt, ItemsLaw, Open, ItemsOpen, ItemsVoid, ItemsNone, ItemsRef, ItemsRefAt, RefNew, Ref10, Frame.
-/
import Derived.Test.YtmakjfeepmiggaaGreatB1
import Derived.ProofKit
import Derived.Deep.RegionHeld3
import Derived.Deep.RegionLaw
import Derived.Deep.AppendLies
import Derived.Deep.DrawnRows
namespace Go.Proofs.YtmakjfeepmiggaaGreat
open Go.RowKit Go.Maps
set_option linter.unusedVariables false
theorem Own.other {w0 w w' : World} {b : Nat} {s : CS} {q : Nat} {cs : Array Value} {T : TypeId} {fr : Nat × Nat} (h : Own w0 w b s) (hk : Keeps (· = q) w w') (hq : w.heap[q]? = some (.cells cs T fr)) (hlo : w0.heap.size ≤ q)
    (h1 : (T == 239) = false) (h2 : (T == 294) = false) : Own w0 w' b s := by
  obtain ⟨⟨S, hS⟩, hB⟩ := h
  refine ⟨⟨S, hS.keeps hk fun k hk c => ?_⟩, keeps_below hk hB hB.size fun k e => e ▸ hlo⟩
  subst c
  obtain ⟨mo, f, hA, rfl⟩ := hS
  rcases hk with rfl | hm | ⟨a, ha⟩
  · have := hA.hdr.symm.trans hq; simp only [Option.some.injEq, Obj.cells.injEq] at this; rw [← this.2.1] at h1; simp at h1
  · obtain ⟨⟨D, ⟨es, cl, hb, _⟩, _⟩, _⟩ := hA.map k hm
    have := hb.symm.trans hq; cases this
  · have := (hA.ptr a k ha).1.symm.trans hq; simp only [wordC, Option.some.injEq, Obj.cells.injEq] at this; rw [← this.2.1] at h2; simp at h2
theorem Wld.other {w0 w w' : World} {wb cb : Nat} {c : Conf} {s : CS} {q : Nat} {cs : Array Value} {T : TypeId} {fr : Nat × Nat} (h : Wld w0 w wb cb c s) (hk : Keeps (· = q) w w') (hq : w.heap[q]? = some (.cells cs T fr)) (hlo : w0.heap.size ≤ q)
    (h1 : (T == 239) = false) (h2 : (T == 294) = false) (h3 : (T == 117) = false) : Wld w0 w' wb cb c s := by
  obtain ⟨ib, nb, tk, hh, hb⟩ := h.blk
  refine ⟨h.own.other hk hq hlo h1 h2, ib, nb, tk, hh, (hk.block wb (Array.getElem?_eq_some_iff.1 hb).1 fun c => ?_).trans hb⟩
  subst c
  have := hb.symm.trans hq; simp only [Option.some.injEq, Obj.cells.injEq] at this; rw [← this.2.1] at h3; simp at h3
def Sl (w : World) (v : Value) (xs : List Int) : Prop :=
  (v = .slice none 0 0 ∧ xs = []) ∨ ∃ g off cur, v = .slice (some ⟨g, off, none⟩) xs.length xs.length ∧ w.heap[g]? = some (.cells cur 39 (0, 0)) ∧ xs.length ≤ maxLen ∧ (cur.toList.drop off).take xs.length = cu xs
theorem Adr.sl {w : World} {base : Nat} {v : Value} {xs : List Int} (h : Adr w base v xs) : Sl w v xs := by
  rcases h with h | ⟨g, cur, rfl, h1, h2, h3, h4⟩
  · exact .inl h
  · exact .inr ⟨g, 0, cur, rfl, h2, h3, by simpa using h4⟩
theorem Sl.keep {w w' : World} {v : Value} {xs : List Int} (h : Sl w v xs) (hb : Below w.heap.size w w') : Sl w' v xs := by
  rcases h with h | ⟨g, off, cur, rfl, h1, h2⟩
  · exact .inl h
  · exact .inr ⟨g, off, cur, rfl, (hb.block g (Array.getElem?_eq_some_iff.1 h1).1).trans h1, h2⟩
theorem Sl.rest {w w' : World} {v : Value} {xs : List Int} (h : Sl w v xs) (hb : Rest w w') : Sl w' v xs := by
  rcases h with h | ⟨g, off, cur, rfl, h1, h2⟩
  · exact .inl h
  · exact .inr ⟨g, off, cur, rfl, hb _ _ _ _ h1 rfl rfl, h2⟩
theorem Sl.len {w : World} {v : Value} {xs : List Int} (h : Sl w v xs) : ∃ a, v = .slice a xs.length xs.length ∧ xs.length ≤ maxLen := by
  rcases h with ⟨rfl, rfl⟩ | ⟨g, off, cur, rfl, h1, h2, h3⟩
  · exact ⟨none, rfl, Nat.zero_le _⟩
  · exact ⟨_, rfl, h2⟩
theorem Sl.at0 {w : World} {v : Value} {a : Int} {r : List Int} (h : Sl w v (a :: r)) : ∃ g off, v = .slice (some ⟨g, off, none⟩) (r.length + 1) (r.length + 1) ∧ w.cell? ⟨g, off, none⟩ = some (.int .u64 a) ∧ r.length + 1 ≤ maxLen ∧
    (∃ cur, w.heap[g]? = some (.cells cur 39 (0, 0))) ∧ Sl w (.slice (some ⟨g, off + 1, none⟩) r.length r.length) r := by
  rcases h with ⟨rfl, h⟩ | ⟨g, off, cur, rfl, h1, h2, h3⟩
  · cases h
  · simp only [List.length_cons] at h2 h3
    have hd : ∃ t, cur.toList.drop off = Value.int .u64 a :: t ∧ t.take r.length = cu r := by
      cases hh : cur.toList.drop off with
      | nil => rw [hh] at h3; simp [cu] at h3
      | cons x t =>
        rw [hh] at h3
        simp only [List.take_succ_cons, cu, List.map_cons, List.cons.injEq] at h3
        exact ⟨t, by rw [h3.1], h3.2⟩
    obtain ⟨t, ht, h4⟩ := hd
    have hc : cur[off]? = some (.int .u64 a) := by
      have : (cur.toList.drop off)[0]? = some (.int .u64 a) := by rw [ht]; rfl
      rw [List.getElem?_drop] at this
      simpa using this
    refine ⟨g, off, rfl, by simp [World.cell?, h1, hc], h2, ⟨cur, h1⟩, .inr ⟨g, off + 1, cur, rfl, h1, by omega, ?_⟩⟩
    have : cur.toList.drop (off + 1) = t := by rw [← List.drop_drop, ht]; rfl
    rw [this]; exact h4
theorem Sl.tail {w : World} {g off : Nat} {r : List Int} (h : ∃ cur, w.heap[g]? = some (.cells cur 39 (0, 0))) (hs : Sl w (.slice (some ⟨g, off + 1, none⟩) r.length r.length) r) : Sl w (.slice (if r = [] then some ⟨g, off, none⟩ else some ⟨g, off + 1, none⟩) r.length r.length) r := by
  obtain ⟨cur, hc⟩ := h
  split
  · rename_i hr; subst hr
    exact .inr ⟨g, off, cur, rfl, hc, Nat.zero_le _, by simp [cu]⟩
  · exact hs
def MarkAt (w : World) (mb : Nat) (xs : List Int) : Prop := ∃ v, w.heap[mb]? = some (.cells #[v] 358 (0, 0)) ∧ Sl w v xs
theorem MarkAt.keep {w w' : World} {mb : Nat} {xs : List Int} (h : MarkAt w mb xs) (hb : Below w.heap.size w w') : MarkAt w' mb xs := by
  obtain ⟨v, h1, h2⟩ := h
  exact ⟨v, (hb.block mb (Array.getElem?_eq_some_iff.1 h1).1).trans h1, h2.keep hb⟩
theorem MarkAt.rest {w w' : World} {mb : Nat} {xs : List Int} (h : MarkAt w mb xs) (hb : Rest w w') : MarkAt w' mb xs := by
  obtain ⟨v, h1, h2⟩ := h
  exact ⟨v, hb _ _ _ _ h1 rfl rfl, h2.rest hb⟩
theorem conf_b' {a b : Bool} (h : a = b) : Ending.returned (.bool a) = .returned (.bool b) := by rw [h]
theorem newmark_any (l : List (Int × Int)) (ao : Option Addr) (cap : Nat) (w : World) (h : Plc w ao cap l) (hsz : l.length ≤ 1000000) : Calls Tryz.prog 251 #[.slice ao l.length cap] w
    fun e w' => ∃ mb, e = .returned (.pointer (some ⟨mb, 0, none⟩)) ∧ MarkAt w' mb (vof l) ∧ w.heap.size ≤ mb ∧ Below w.heap.size w w' := by
  have ho := of_any l ao cap w h hsz
  clear h hsz
  go_enter Tryz.func251, Tryz.ntmps251
  go_wp2_with (go_at_call 94; refine ho.mono ?_; rintro e w1 ⟨v, rfl, h1, h2⟩; obtain ⟨a1, hv, -⟩ := h1.sl.len; subst hv)
  go_ret
  exact ⟨_, rfl, ⟨_, heap_alloc_new w1 _, h1.sl.keep (below_alloc _ _)⟩, h2.size, h2.trans ((below_alloc _ _).mono h2.size)⟩
theorem over_any {w : World} {mb : Nat} {xs : List Int} (h : MarkAt w mb xs) : Calls Tryz.prog 280 #[.pointer (some ⟨mb, 0, none⟩)] w fun e w' => e = .returned (.bool (decide (xs = []))) ∧ w' = w := by
  obtain ⟨v, h1, h2⟩ := h
  obtain ⟨a, rfl, hm⟩ := h2.len
  have c0 : w.cell? ⟨mb, 0, none⟩ = some (.slice a xs.length xs.length) := by simp [World.cell?, h1]
  unfold maxLen at hm
  have hd : ((xs.length : Int) == 0) = decide (xs = []) := by cases xs <;> simp; omega
  generalize decide (xs = []) = d at *
  clear h1 h2
  go_enter Tryz.func280, Tryz.ntmps280
  go_wp2
  go_ret
  exact ⟨rfl, rfl⟩
end Go.Proofs.YtmakjfeepmiggaaGreat
namespace Go.Proofs.YtmakjfeepmiggaaGreat
open Go.RowKit
set_option linter.unusedVariables false
structure BoxW (w : World) (q : Nat) (cs : Array Value) (T : TypeId) where
  val : World
  box : val.heap[q]? = some (.cells cs T (0, 0))
instance instBoxW (w : World) (q : Nat) (cs : Array Value) (T : TypeId) : Nonempty (BoxW w q cs T) := ⟨⟨{ w with heap := Array.replicate (q + 1) (.cells cs T (0, 0)) }, by simp⟩⟩
theorem BoxW.cell {w : World} {q : Nat} {cs : Array Value} {T : TypeId} (s : BoxW w q cs T) (o : Nat) : s.val.cell? ⟨q, o, none⟩ = cs[o]? := by
  have := s.box; unfold World.cell?; simp only; rw [this]; rfl
section
variable {P : Program} {ops : Array Oper} {md : Region.Mode} {D : World → Prop}
def plainOp : Op → Bool
  | .move _ | .assign _ | .load .. | .fieldAddr .. | .indexAddr .. | .convert .. | .binOp .. | .unOp .. | .build .. | .field .. | .index .. => true
  | _ => false
theorem plain_value {ρ : Operand → Value} {o : Oper} (hp : plainOp o.op = true) {w w' : World} {n : Next} (h : (execOp ρ o).run P w = .ok n w') : ∃ v, n = .value v := by
  obtain ⟨dst, op, ty, ps, af, gd⟩ := o
  have key : ∀ (s : Sem Value), (do pure (Next.value (← s)) : Sem Next).run P w = .ok n w' → ∃ v, n = .value v := fun s hs => by
    simp only [Sem.run_bind] at hs
    generalize s.run P w = r at hs
    cases r with
    | ok v w2 => simp [Result.andThen] at hs; exact ⟨v, hs.1.symm⟩
    | halt x w2 => simp [Result.andThen] at hs
  cases op <;> simp only [plainOp, Bool.false_eq_true] at hp <;> first | (exact key _ h) | (simp [execOp] at h; exact ⟨_, h.1.symm⟩)
def PureY (P : Program) (ops : Array Oper) (D : World → Prop) (o : Oper) (v : Value) (a : Act) : Prop :=
  (Region.wanted o (yielded ops a.tmps) = true ∧ ∀ w, D w → (execOp a.eval o).run P w = .ok (.value v) w) ∨ (Region.wanted o (yielded ops a.tmps) = false ∧ v = undef)
theorem PureY.of {o : Oper} {v : Value} {a : Act} (hp : plainOp o.op = true) (hy : YieldsIn P ops D o v a) : PureY P ops D o v a := by
  rcases hy with ⟨hw, hv⟩ | h
  · refine .inl ⟨hw, fun w hD => ?_⟩
    have h2 := hv w hD
    unfold Oper.quietAt at h2
    cases hr : (execOp a.eval o).run P w with
    | ok n w' =>
      rw [hr] at h2
      obtain ⟨u, rfl⟩ := plain_value hp hr
      simp only [Oper.quietUpon] at h2
      rw [h2.1, h2.2]
    | halt x w' => rw [hr] at h2; simp only [Oper.quietUpon] at h2
  · exact .inr h
theorem PureY.of_same {o : Oper} {v : Value} {a a' : Act} (hy : PureY P ops D o v a) (he : execOp a'.eval o = execOp a.eval o) (hw : Region.wanted o (yielded ops a'.tmps) = Region.wanted o (yielded ops a.tmps)) : PureY P ops D o v a' := by
  unfold PureY at *
  rw [he, hw]
  exact hy
theorem PureY.wpOp {Q : Exit → Act → World → Prop} {i : Nat} {o : Oper} {v : Value} {a : Act} {w : World} (hi : ops[i]? = some o) (hy : PureY P ops D o v a) (hD : D w) {K : Act → World → Prop} (h : K (a.put o.dst v) w) : wpOp P ops Q i K a w := by
  unfold Go.wpOp
  simp only [hi]
  rcases hy with ⟨hw, hv⟩ | ⟨hw, rfl⟩
  · simp only [hw, if_true, Oper.wp, hv w hD, Oper.upon]; exact .inl h
  · simp only [hw, Bool.false_eq_true, if_false]; exact h
theorem wpOp_swap {Q : Exit → Act → World → Prop} {j : Nat} {oi oj : Oper} {v : Value} (hj : ops[j]? = some oj) (hap : oi.apart ops oj = true) (hsi : ∀ cs b, oi.op ≠ .select cs b) (hsj : ∀ cs b, oj.op ≠ .select cs b)
    (hQ : ∀ c a w, Q (.panic c) (a.put oi.dst v) w → Q (.panic c) a w) {K : Act → World → Prop} {a : Act} {w : World} (hy : PureY P ops D oi v a) (h : Go.wpOp P ops Q j K (a.put oi.dst v) w) :
    Go.wpOp P ops Q j (fun a' w' => PureY P ops D oi v a' ∧ K (a'.put oi.dst v) w') a w := by
  obtain ⟨h1, h2, h3⟩ := Oper.apart_spec hap
  have kp : ∀ u, PureY P ops D oi v (a.put oj.dst u) := fun u => hy.of_same (execOp_put oi hsi a oj.dst u h3) (wanted_put oi a oj.dst u h3)
  have kd : ∀ d, PureY P ops D oi v (({ a with defers := d :: a.defers } : Act).put oj.dst undef) := fun d =>
    (show PureY P ops D oi v { a with defers := d :: a.defers } from hy.of_same rfl rfl).of_same (execOp_put oi hsi _ oj.dst _ h3) (wanted_put oi _ oj.dst _ h3)
  unfold Go.wpOp at *
  simp only [hj] at *
  rw [wanted_put oj a oi.dst v h1] at h
  by_cases hw : Region.wanted oj (yielded ops a.tmps) = true
  · rw [if_pos hw] at h ⊢
    rcases h with h | ⟨hasks, hlets⟩
    · left
      unfold Oper.wp at *
      rw [execOp_put oj hsj a oi.dst v h1] at h
      cases hr : (execOp a.eval oj).run P w with
      | halt x w' =>
        rw [hr] at h
        cases x <;> simp only [Oper.upon] at h ⊢
        exact hQ _ _ _ h
      | ok n w' =>
        rw [hr] at h
        cases n <;> simp only [Oper.upon] at h ⊢
        case value u => exact ⟨kp u, by rw [← Act.put_comm a v u h2]; exact h⟩
        case skip => exact ⟨kp _, by rw [← Act.put_comm a v undef h2]; exact h⟩
        case defer d => exact ⟨kd d, by rw [← Act.put_comm _ v undef h2, ← Act.put_defers]; exact h⟩
        case enter f args =>
          refine Calls.mono h fun e w'' he => ?_
          cases e with
          | returned u => exact ⟨kp u, by rw [← Act.put_comm a v u h2]; exact he⟩
          | panicked c => exact hQ _ _ _ he
          | outgrown => exact he
        case row row args => exact Rows.mono h fun u w'' he => ⟨kp u, by rw [← Act.put_comm a v u h2]; exact he⟩
    · right
      exact ⟨by unfold Oper.asks at *; rw [execOp_put oj hsj a oi.dst v h1] at hasks; exact hasks, hlets⟩
  · rw [if_neg hw] at h ⊢
    exact ⟨kp _, by rw [← Act.put_comm a v undef h2]; exact h⟩
def soloB (md : Region.Mode) (ops : Array Oper) : List Nat → Array Bool → Bool
  | [], seen => (Region.ready md ops seen).isEmpty
  | i :: r, seen => decide (Region.ready md ops seen = [i]) && soloB md ops r (seen.setIfInBounds i true)
def pickL (l : List Oper) : List Nat → List Oper
  | [] => []
  | i :: r => (l.drop i).take 1 ++ pickL l r
theorem pickL_cons (l : List Oper) (i : Nat) (r : List Nat) : pickL l (i :: r) = (l.drop i).take 1 ++ pickL l r := rfl
theorem pickL_nil (l : List Oper) : pickL l [] = [] := rfl
theorem drop_one {l : List Oper} {i : Nat} {o : Oper} (h : l[i]? = some o) : (l.drop i).take 1 = [o] := by
  have hi : i < l.length := (List.getElem?_eq_some_iff.1 h).1
  rw [List.drop_eq_getElem_cons hi]
  simp [(List.getElem?_eq_some_iff.1 h).2]
end
end Go.Proofs.YtmakjfeepmiggaaGreat
namespace Go.Proofs.YtmakjfeepmiggaaGreat
open Go.RowKit Go.Maps
set_option linter.unusedVariables false
theorem RCells.rest {w w' : World} {base r : Nat} {lv : Value} {x : RS} (h : RCells w base r lv x) (hb : Rest w w') : RCells w' base r lv x := by
  refine ⟨hb _ _ _ _ h.hdr rfl rfl, h.lo, ?_, h.wf⟩
  obtain ⟨h1, h3 | ⟨g, cap, cur, rfl, hg, hgg, r3⟩⟩ := h.row
  · exact ⟨h1, .inl h3⟩
  · exact ⟨h1, .inr ⟨g, cap, cur, rfl, hg, hb _ _ _ _ hgg rfl rfl, r3⟩⟩
theorem Own.ref {w0 w w' : World} {b r : Nat} {s : CS} {base : Nat} {lv : Value} {x : RS} (h : Own w0 w b s) (hr : RCells w base r lv x) (hb : w0.heap.size ≤ base) (hk : Keeps (· = r) w w') : Own w0 w' b s :=
  h.other hk hr.hdr (Nat.le_trans hb hr.lo) rfl rfl
section
variable {w0 w : World} {b : Nat} {s : CS} (h : Own w0 w b s) (hr : s.room) (a : Int) (ha : (Lit.int .u64 a).wf = true)
include h hr ha
end
structure Alike (s : CS) (x : RS) : Prop where
  val : s.val = rlook x.l
  ris : Ris x.l
  nz : ∀ p ∈ x.l, p.2 ≠ 0
  cnt : s.cnt = x.cnt
  kind : s.kind = x.kind
  addr : s.addr = x.addr
  was : s.was = x.was
  is : s.is = x.is
theorem Alike.acc {s : CS} {x : RS} (h : Alike s x) (k a i : Int) : Alike (s.acc k a i) (x.acc k a i) := by
  have e := rput_ins h.ris a i
  refine ⟨?_, ?_, fun p hp => ?_, ?_, rfl, rfl, ?_, rfl⟩
  · show upd s.val a i = rlook (rput x.l a i)
    rw [e, rlook_ins h.ris, h.val]
  · show Ris (rput x.l a i)
    rw [e]; exact rins_ris h.ris a i
  · have hp : p ∈ rput x.l a i := hp
    rw [e] at hp
    rcases rins_mem hp with hp | ⟨rfl, hv⟩
    · exact h.nz p hp
    · exact hv
  · show s.cnt + 1 = x.cnt + 1
    rw [h.cnt]
  · show s.val a = rlook x.l a
    rw [h.val]
theorem rins_len (l : List (Int × Int)) (a v : Int) : (rins l a v).length ≤ l.length + 1 := by
  induction l with
  | nil => unfold rins; split <;> simp
  | cons p r ih =>
    unfold rins
    split
    · simp only [List.length_cons]; omega
    · split <;> split <;> simp only [List.length_cons] <;> omega
structure Both (w0 w : World) (cb r : Nat) (s : CS) (x : RS) : Prop where
  own : Own w0 w cb s
  ref : ∃ lv, RCells w w0.heap.size r lv x
  alike : Alike s x
theorem Both.keep {w0 w w' : World} {cb r : Nat} {s : CS} {x : RS} (h : Both w0 w cb r s x) (hb : Below w.heap.size w w') : Both w0 w' cb r s x := by
  obtain ⟨lv, hr⟩ := h.ref
  exact ⟨h.own.keep hb, ⟨lv, hr.keep hb⟩, h.alike⟩
def Far (s : CS) (x : RS) (m : Nat) : Prop := s.n ≤ m ∧ s.cnt ≤ m ∧ x.l.length ≤ m
theorem Far.acc {s : CS} {x : RS} {m : Nat} (h : Far s x m) (ha : Alike s x) (k a i : Int) : Far (s.acc k a i) (x.acc k a i) (m + 1) := by
  have := rins_len x.l a i
  rw [← rput_ins ha.ris] at this
  obtain ⟨h1, h2, h3⟩ := h
  exact ⟨by simp only [CS.acc]; omega, by simp only [CS.acc]; omega, by simp only [RS.acc]; omega⟩
end Go.Proofs.YtmakjfeepmiggaaGreat
namespace Go.Proofs.YtmakjfeepmiggaaGreat
open Go.RowKit
set_option linter.unusedVariables false
theorem ownsRow_same {w w' : World} {base e size n cap : Nat} {g : Nat} {xs : List Value} (h : w.ownsRow base e size (.slice (some ⟨g, 0, none⟩) n cap) n xs) (hk : w'.heap[g]? = w.heap[g]?) :
    w'.ownsRow base e size (.slice (some ⟨g, 0, none⟩) n cap) n xs := by
  refine ⟨h.1, ?_⟩
  rcases h.2 with hn | ⟨g', c, cur, hv, hg, hh, r⟩
  · exact .inl hn
  · refine .inr ⟨g', c, cur, hv, hg, ?_, r⟩
    simp only [Value.slice.injEq, Option.some.injEq, Addr.mk.injEq] at hv
    rw [← hv.1.1, hk, hv.1.1]; exact hh
theorem ownsRow_setCell_far {w : World} {base e size n cap : Nat} {g : Nat} {xs : List Value} {b o : Nat} (h : w.ownsRow base e size (.slice (some ⟨g, 0, none⟩) n cap) n xs) (hne : g ≠ b) (v : Value) :
    (w.setCell ⟨b, o, none⟩ v).ownsRow base e size (.slice (some ⟨g, 0, none⟩) n cap) n xs := by
  refine ⟨h.1, ?_⟩
  rcases h.2 with hn | ⟨g', c, cur, hv, hg, hh, r⟩
  · exact .inl hn
  · refine .inr ⟨g', c, cur, hv, hg, ?_, r⟩
    simp only [Value.slice.injEq, Option.some.injEq, Addr.mk.injEq] at hv
    rw [Below.heap_setCell _ _ _ _ (by rw [← hv.1.1]; exact hne)]; exact hh
structure AddIn (w2 : World) (b g nb cap p n X : Nat) (cs : Array Value) (x : Itm) : Prop where
  hdr : w2.heap[b]? = some (.cells #[.slice (some ⟨g, 0, none⟩) nb cap, .int .i64 n] 242 (0, 0))
  row : w2.cell? ⟨g, n / 64, none⟩ = some (.pointer (some ⟨p, 0, none⟩))
  blk : w2.heap[p]? = some (.cells cs 250 (0, 0))
  size : cs.size = 384
  box : w2.heap[X]? = some (.cells x.cells.toArray 80 (0, 0))
  bp : b ≠ p
  bX : b ≠ X
  pX : p ≠ X
  lt : n / 64 < nb
theorem AddIn.drew {w2 : World} {b g nb cap p n X : Nat} {cs : Array Value} {x : Itm} (h : AddIn w2 b g nb cap p n X cs x) : AddIn w2.drew b g nb cap p n X cs x :=
  ⟨h.hdr, h.row, h.blk, h.size, h.box, h.bp, h.bX, h.pX, h.lt⟩
def store6 (w : World) (p o : Nat) (x : Itm) : World :=
  (((((w.setCell ⟨p, o, none⟩ (.string x.key)).setCell ⟨p, o + 1, none⟩ (.string x.val)).setCell ⟨p, o + 2, none⟩ (.int .u32 x.flags)).setCell ⟨p, o + 3, none⟩ (.int .u64 x.id)).setCell ⟨p, o + 4, none⟩ (.int .i64 x.dies)).setCell ⟨p, o + 5, none⟩ (.int .i64 x.gen)
theorem store6_same {w : World} {p T : Nat} {cs : Array Value} (h : w.heap[p]? = some (.cells cs T (0, 0))) (o : Nat) (x : Itm) :
    (store6 w p o x).heap[p]? = some (.cells (put6 cs o x) T (0, 0)) := by
  unfold store6 put6
  exact setCell_same (setCell_same (setCell_same (setCell_same (setCell_same (setCell_same h _ _) _ _) _ _) _ _) _ _) _ _
theorem store6_keeps (w : World) (p o : Nat) (x : Itm) : Keeps (· = p) w (store6 w p o x) := by
  unfold store6
  exact (((((setCell_keeps _ _ _ _).again (setCell_keeps _ _ _ _)).again (setCell_keeps _ _ _ _)).again (setCell_keeps _ _ _ _)).again (setCell_keeps _ _ _ _)).again (setCell_keeps _ _ _ _)
set_option maxRecDepth 10000 in
set_option maxHeartbeats 1600000 in
theorem add_room (x : Itm) (b g nb cap p n o : Nat) (ho : n % 64 * 6 = o) (cs : Array Value) (w : World) (hA : AddIn (w.alloc (.cells x.cells.toArray 80)) b g nb cap p n w.heap.size cs x)
    (hn : n ≠ 64 * nb) (hn2 : n < 1048576) (hnb : nb ≤ 16384) :
    Calls Tryz.prog 79 #[.pointer (some ⟨b, 0, none⟩), .agg x.cells.toArray] w fun e w' => e = .returned (.tuple #[.int .i64 (n + 1 : Nat), .int .i64 0]) ∧
      Keeps (fun k => k = b ∨ k = p) w w' ∧ w'.heap[b]? = some (.cells #[.slice (some ⟨g, 0, none⟩) nb cap, .int .i64 (n + 1 : Nat)] 242 (0, 0)) ∧
      w'.heap[p]? = some (.cells (put6 cs o x) 250 (0, 0)) := by
  have e1 : ((n : Int) == 1048576) = false := by simp; omega
  have e2 : ((n : Int) == 64 * (nb : Int)) = false := by simp; omega
  have hc0 : (w.alloc (.cells x.cells.toArray 80)).cell? ⟨b, 0, none⟩ = some (.slice (some ⟨g, 0, none⟩) nb cap) := by simp [World.cell?, hA.hdr]
  have hc1 : (w.alloc (.cells x.cells.toArray 80)).cell? ⟨b, 1, none⟩ = some (.int .i64 n) := by simp [World.cell?, hA.hdr]
  have hcf : (w.alloc (.cells x.cells.toArray 80)).frozen? ⟨b, 1, none⟩ = false := by simp [World.frozen?, hA.hdr]
  go_enter Tryz.func79, Tryz.ntmps79
  go_wp2
  go_quiet (fail)
  go_wp2_with fail
  have hA2 : AddIn ((w.alloc (.cells x.cells.toArray 80)).drewN nq) b g nb cap p n w.heap.size cs x := ⟨hA.hdr, hA.row, hA.blk, hA.size, hA.box, hA.bp, hA.bX, hA.pX, hA.lt⟩
  have hK0 : Below w.heap.size w ((w.alloc (.cells x.cells.toArray 80)).drewN nq) := ((Below.refl _ _).alloc (Nat.le_refl _) _).trans ((below_drewN _ _).mono (by simp))
  have hbl : b < w.heap.size := by
    have := (Array.getElem?_eq_some_iff.1 hA.hdr).1
    have h2 := hA.bX
    simp at this; omega
  have hpl : p < w.heap.size := by
    have := (Array.getElem?_eq_some_iff.1 hA.blk).1
    have h2 := hA.pX
    simp at this; omega
  generalize hw2 : World.drewN _ nq = w2 at hA2 hK0 ⊢
  clear hw2 hA hc0 hc1 hcf
  have c0 : w2.cell? ⟨b, 0, none⟩ = some (.slice (some ⟨g, 0, none⟩) nb cap) := by simp [World.cell?, hA2.hdr]
  have c1 : w2.cell? ⟨b, 1, none⟩ = some (.int .i64 n) := by simp [World.cell?, hA2.hdr]
  have cr := hA2.row
  have hx : ∀ f, f < 6 → w2.cell? ⟨w.heap.size, f, none⟩ = x.cells[f]? := fun f hf => by simp [World.cell?, hA2.box]
  have x0 : w2.cell? ⟨w.heap.size, 0, none⟩ = some (.string x.key) := hx 0 (by omega)
  have x1 : w2.cell? ⟨w.heap.size, 1, none⟩ = some (.string x.val) := hx 1 (by omega)
  have x2 : w2.cell? ⟨w.heap.size, 2, none⟩ = some (.int .u32 x.flags) := hx 2 (by omega)
  have x3 : w2.cell? ⟨w.heap.size, 3, none⟩ = some (.int .u64 x.id) := hx 3 (by omega)
  have x4 : w2.cell? ⟨w.heap.size, 4, none⟩ = some (.int .i64 x.dies) := hx 4 (by omega)
  have x5 : w2.cell? ⟨w.heap.size, 5, none⟩ = some (.int .i64 x.gen) := hx 5 (by omega)
  clear hx
  have hlt := hA2.lt
  have y0 := fun s : ExtW w2 => s.cell c0
  have y1 := fun s : ExtW w2 => s.cell c1
  have z0 := fun s : ExtW w2 => s.cell x0
  have z1 := fun s : ExtW w2 => s.cell x1
  have z2 := fun s : ExtW w2 => s.cell x2
  have z3 := fun s : ExtW w2 => s.cell x3
  have z4 := fun s : ExtW w2 => s.cell x4
  have z5 := fun s : ExtW w2 => s.cell x5
  refine wp_region_ext_tail 8 (by kernel_rfl) (by kernel_rfl) ?_
  simp only [List.take_succ_cons, List.take_zero, List.drop_succ_cons, List.drop_zero]
  repeat (go_big_quiet_step ((go_at_call 144; refine calls_ext_same (place_any _ _ _ _ p _ o _ ho (by omega) (y0 _) hlt ((ExtW.cell _ cr))))))
  refine wpQuiet_nil ?_
  rintro W ⟨⟨W2, hW⟩, rfl⟩
  clear y0 y1 z0 z1 z2 z3 z4 z5 x0 x1 x2 x3 x4 x5
  have hos : o + 6 ≤ cs.size := by rw [hA2.size]; omega
  have hWb : W.heap[b]? = some (.cells #[.slice (some ⟨g, 0, none⟩) nb cap, .int .i64 n] 242 (0, 0)) := (hW.block b (Array.getElem?_eq_some_iff.1 hA2.hdr).1).trans hA2.hdr
  have hWp : W.heap[p]? = some (.cells cs 250 (0, 0)) := (hW.block p (Array.getElem?_eq_some_iff.1 hA2.blk).1).trans hA2.blk
  have hK1 : Below w.heap.size w W := hK0.trans (hW.mono hK0.size)
  have hbp := hA2.bp
  clear hA2 hW hK0 c0 c1 cr
  have hf : ∀ f, W.frozen? ⟨p, f, none⟩ = false := fun f => by simp [World.frozen?, hWp]
  have hp : ∀ f, f < 6 → ∃ v, W.cell? ⟨p, o + f, none⟩ = some v := fun f hf => ⟨cs[o + f]'(by omega), by simp [World.cell?, hWp]⟩
  obtain ⟨v0, p0⟩ := hp 0 (by omega)
  obtain ⟨v1, p1⟩ := hp 1 (by omega)
  obtain ⟨v2, p2⟩ := hp 2 (by omega)
  obtain ⟨v3, p3⟩ := hp 3 (by omega)
  obtain ⟨v4, p4⟩ := hp 4 (by omega)
  obtain ⟨v5, p5⟩ := hp 5 (by omega)
  simp only [Nat.add_zero] at p0
  have hbW : b < W.heap.size := (Array.getElem?_eq_some_iff.1 hWb).1
  have k0 : (store6 W p o x).cell? ⟨b, 1, none⟩ = some (.int .i64 n) := by
    have hs : (store6 W p o x).heap[b]? = W.heap[b]? := (store6_keeps W p o x).block b hbW hbp
    simp [World.cell?, hs, hWb]
  clear hp
  iterate 3 go_step
  have s0 := store6_same hWp o x
  have s1 := store6_keeps W p o x
  have s2 : (store6 W p o x).heap[b]? = some (.cells #[.slice (some ⟨g, 0, none⟩) nb cap, .int .i64 n] 242 (0, 0)) := (s1.block b hbW hbp).trans hWb
  change wpList _ _ _ [] _ (store6 W p o x)
  generalize store6 W p o x = w3 at *
  have k1 : w3.frozen? ⟨b, 1, none⟩ = false := by simp [World.frozen?, s2]
  clear p0 p1 p2 p3 p4 p5 hf
  have hKw : Below w.heap.size w W := hK1
  go_wp2
  go_ret2
  refine ⟨rfl, ?_, ?_, ?_⟩
  · have := (below_keeps hKw (fun k => k = b ∨ k = p)).again ((s1.mono (T := fun k => k = b ∨ k = p) fun k _ h => .inr h).again ((setCell_keeps w3 b 1 (.int .i64 ((n : Int) + 1))).mono fun k _ h => .inl h))
    exact this
  · rw [setCell_same s2]; rfl
  · rw [Below.heap_setCell _ _ _ _ (Ne.symm hbp)]; exact s0
set_option maxRecDepth 10000 in
set_option maxHeartbeats 1600000 in
theorem add_grow (x : Itm) (b base n : Nat) (ao : Option Addr) (cap0 : Nat) (ps : List Nat) (w : World) (hn : n = 64 * ps.length)
    (hdr0 : w.heap[b]? = some (.cells #[.slice ao ps.length cap0, .int .i64 n] 242 (0, 0))) (hnb : ps.length < 16384)
    (hown : w.ownsRow base 248 1 (.slice ao ps.length cap0) ps.length (ps.map fun p => .pointer (some ⟨p, 0, none⟩))) (hbase : base ≤ w.heap.size)
    (hno : (Value.slice ao ps.length cap0).ownBlock ≠ some b) :
    Calls Tryz.prog 79 #[.pointer (some ⟨b, 0, none⟩), .agg x.cells.toArray] w fun e w' => ∃ g cap p cs, e = .returned (.tuple #[.int .i64 (n + 1 : Nat), .int .i64 0]) ∧
      Keeps (fun k => k = b ∨ (Value.slice ao ps.length cap0).ownBlock = some k) w w' ∧ w'.heap[b]? = some (.cells #[.slice (some ⟨g, 0, none⟩) (ps.length + 1) cap, .int .i64 (n + 1 : Nat)] 242 (0, 0)) ∧
      w'.heap[p]? = some (.cells (put6 cs 0 x) 250 (0, 0)) ∧ cs.size = 384 ∧ p = w.heap.size + 1 ∧ ((Value.slice ao ps.length cap0).ownBlock = some g ∨ g = w.heap.size + 3) ∧
      w'.ownsRow base 248 1 (.slice (some ⟨g, 0, none⟩) (ps.length + 1) cap) (ps.length + 1) ((ps.map fun p => .pointer (some ⟨p, 0, none⟩)) ++ [.pointer (some ⟨p, 0, none⟩)]) := by
  have hb : b < w.heap.size := (Array.getElem?_eq_some_iff.1 hdr0).1
  have h1 : w.cell? ⟨b, 0, none⟩ = some (.slice ao ps.length cap0) := by simp [World.cell?, hdr0]
  have h2 : w.cell? ⟨b, 1, none⟩ = some (.int .i64 n) := by simp [World.cell?, hdr0]
  have hb1 : b < w.heap.size + 1 := by omega
  have hb2 : b < w.heap.size + 2 := by omega
  have e1 : ((n : Int) == 1048576) = false := by simp; omega
  have e2 : ((n : Int) == 64 * (ps.length : Int)) = true := by simp [hn]
  have ho : n % 64 * 6 = 0 := by omega
  have hnd : n / 64 = ps.length := by omega
  have hn2 : n < 1048576 := by omega
  have HN := Lib.hid hn
  have HND := Lib.hid hnd
  clear hn hnd
  obtain ⟨z, hz, hzr⟩ := zero_block
  obtain ⟨i0, hi0, hz0, hz1, hz2⟩ := info_parts info_pblk
  have HI := Lib.hid hi0; have HZ0 := Lib.hid hz0; have HZ1 := Lib.hid hz1; have HZ2 := Lib.hid hz2; have HZZ := Lib.hid hz; have HO := Lib.hid ho; have HDR := Lib.hid hdr0
  clear hi0 hz0 hz1 hz2 hz ho hdr0
  go_enter Tryz.func79, Tryz.ntmps79
  go_wp2
  go_quiet (fail)
  go_wp2_with (at_builtin; refine wpList_append_lies _ rfl _ _ 240 rfl base 248 i0 (.pointer none) 1 8 Tryz.underlying240 HI.out HZ0.out HZ1.out HZ2.out rfl (by omega) _ _ _ rfl (((hown.alloc _).alloc _).alloc _) ⟨w.heap.size + 2, 0, none⟩ 1 1 [.pointer (some ⟨w.heap.size + 1, 0, none⟩)] rfl rfl ?c1 ?c2 (by omega) ?c3 ?c4 ?c5 (w.heap.size + 3) ?c6 ?_)
  case c1 => exact news_one _ _ _ _ (by simp)
  case c2 => simp [Value.oneCell']
  case c3 => unfold maxLen; omega
  case c4 => omega
  case c5 => simp; omega
  case c6 => simp
  intro g cap w1 hown1 hgrow hat hlt1
  have hL := hown.lt
  have hW0 : Below w.heap.size w ((((w.alloc (.cells x.cells.toArray 80)).drewN nq).alloc (.cells z 250)).alloc (.cells #[.pointer (some ⟨w.heap.size + 1, 0, none⟩)] 248)) :=
    ((((Below.refl _ _).alloc (Nat.le_refl _) _).trans ((below_drewN _ _).mono (by simp))).alloc (by simp) _).alloc (by simp; omega) _
  have q0 : w1.heap[b]? = some (.cells #[.slice ao ps.length cap0, .int .i64 n] 242 (0, 0)) := by
    rw [hgrow.block b (by simp; omega) (Ne.symm hno), hW0.block b hb]; exact HDR.out
  have q1 : w1.heap[w.heap.size]? = some (.cells x.cells.toArray 80 (0, 0)) := by
    rw [hgrow.block _ (by simp; omega) (fun c => by have := (hL _ c.symm).2; omega), Below.heap_alloc _ _ _ (by simp; omega), Below.heap_alloc _ _ _ (by simp)]
    exact heap_alloc_new w _
  have q2 : w1.heap[w.heap.size + 1]? = some (.cells z 250 (0, 0)) := by
    rw [hgrow.block _ (by simp) (fun c => by have := (hL _ c.symm).2; omega), Below.heap_alloc _ _ _ (by simp)]
    have := heap_alloc_new ((w.alloc (.cells x.cells.toArray 80)).drewN nq) (.cells z 250)
    simpa using this
  have hK1 : Keeps (fun k => k = b ∨ (Value.slice ao ps.length cap0).ownBlock = some k) w w1 :=
    (below_keeps hW0 _).again ⟨hgrow.os, hgrow.tape, hgrow.output, hgrow.size, fun k hk hn => hgrow.block k hk (fun c => hn (.inr c.symm))⟩
  have hgb : g ≠ b := by rcases hat with h | h; exact (fun c => hno (c ▸ h)); omega
  have hgp0 : g ≠ w.heap.size + 1 := by rcases hat with h | h; exact (fun c => by have := (hL _ h).2; omega); omega
  have hcell : w1.cell? ⟨g, ps.length, none⟩ = some (.pointer (some ⟨w.heap.size + 1, 0, none⟩)) := by
    rw [hown1.cellAt _ (by omega)]; simp
  have t0 : w1.cell? ⟨b, 0, none⟩ = some (.slice ao ps.length cap0) := by simp [World.cell?, q0]
  have t1 : w1.frozen? ⟨b, 0, none⟩ = false := by simp [World.frozen?, q0]
  have hown2 := ownsRow_setCell_far (b := b) (o := 0) hown1 hgb (.slice (some ⟨g, 0, none⟩) (ps.length + 1) cap)
  have q3 := setCell_same q0 0 (.slice (some ⟨g, 0, none⟩) (ps.length + 1) cap)
  have q4 := setCell_keeps w1 b 0 (.slice (some ⟨g, 0, none⟩) (ps.length + 1) cap)
  have hsz1 : w.heap.size + 1 < w1.heap.size := (Array.getElem?_eq_some_iff.1 q2).1
  clear hgrow hW0 h1 h2 hL hown hown1
  have hK2 := hK1.again (q4.mono (T := fun k => k = b ∨ (Value.slice ao ps.length cap0).ownBlock = some k) fun k _ h => .inl h)
  obtain ⟨p, hp⟩ : ∃ p, p = w.heap.size + 1 := ⟨_, rfl⟩
  have hA2 : AddIn (w1.setCell ⟨b, 0, none⟩ (.slice (some ⟨g, 0, none⟩) (ps.length + 1) cap)) b g (ps.length + 1) cap p n w.heap.size z x := by
    refine ⟨by simpa using q3, ?_, ?_, HZZ.out, ?_, by omega, by omega, by omega, by rw [HND.out]; omega⟩
    · rw [World.cell?_setCell_other _ _ _ _ (by simp <;> (intro c; exact (hgb c).elim)), HND.out, hp]; exact hcell
    · rw [Below.heap_setCell _ _ _ _ (by show p ≠ b; omega), hp]; exact q2
    · rw [Below.heap_setCell _ _ _ _ (by show w.heap.size ≠ b; omega)]; exact q1
  have HP := Lib.hid hp
  have hpb : p ≠ b := by omega
  have hpg : w.heap.size < p := by omega
  have hgp : g ≠ p := by omega
  clear hcell q0 q1 q2 q3 q4 hK1 hp
  go_wp2
  generalize hw2 : World.setCell w1 _ _ = w2 at hA2 hK2 hown2 ⊢
  clear hw2 t0 t1
  generalize z = cs at *
  have c0 : w2.cell? ⟨b, 0, none⟩ = some (.slice (some ⟨g, 0, none⟩) (ps.length + 1) cap) := by simp [World.cell?, hA2.hdr]
  have c1 : w2.cell? ⟨b, 1, none⟩ = some (.int .i64 n) := by simp [World.cell?, hA2.hdr]
  have cr := hA2.row
  have hx : ∀ f, f < 6 → w2.cell? ⟨w.heap.size, f, none⟩ = x.cells[f]? := fun f hf => by simp [World.cell?, hA2.box]
  have x0 : w2.cell? ⟨w.heap.size, 0, none⟩ = some (.string x.key) := hx 0 (by omega)
  have x1 : w2.cell? ⟨w.heap.size, 1, none⟩ = some (.string x.val) := hx 1 (by omega)
  have x2 : w2.cell? ⟨w.heap.size, 2, none⟩ = some (.int .u32 x.flags) := hx 2 (by omega)
  have x3 : w2.cell? ⟨w.heap.size, 3, none⟩ = some (.int .u64 x.id) := hx 3 (by omega)
  have x4 : w2.cell? ⟨w.heap.size, 4, none⟩ = some (.int .i64 x.dies) := hx 4 (by omega)
  have x5 : w2.cell? ⟨w.heap.size, 5, none⟩ = some (.int .i64 x.gen) := hx 5 (by omega)
  clear hx
  have hlt := hA2.lt
  have y0 := fun s : ExtW w2 => s.cell c0
  have y1 := fun s : ExtW w2 => s.cell c1
  have z0 := fun s : ExtW w2 => s.cell x0
  have z1 := fun s : ExtW w2 => s.cell x1
  have z2 := fun s : ExtW w2 => s.cell x2
  have z3 := fun s : ExtW w2 => s.cell x3
  have z4 := fun s : ExtW w2 => s.cell x4
  have z5 := fun s : ExtW w2 => s.cell x5
  refine wp_region_ext_tail 8 (by kernel_rfl) (by kernel_rfl) ?_
  simp only [List.take_succ_cons, List.take_zero, List.drop_succ_cons, List.drop_zero]
  repeat (go_big_quiet_step ((go_at_call 144; refine calls_ext_same (place_any _ _ _ _ p _ 0 _ HO.out (by omega) (y0 _) hlt ((ExtW.cell _ cr))))))
  refine wpQuiet_nil ?_
  rintro W ⟨⟨W2, hW⟩, rfl⟩
  clear y0 y1 z0 z1 z2 z3 z4 z5 x0 x1 x2 x3 x4 x5
  have hos : 0 + 6 ≤ cs.size := by rw [hA2.size]; omega
  have hWb : W.heap[b]? = some (.cells #[.slice (some ⟨g, 0, none⟩) (ps.length + 1) cap, .int .i64 n] 242 (0, 0)) := (hW.block b (Array.getElem?_eq_some_iff.1 hA2.hdr).1).trans hA2.hdr
  have hWp : W.heap[p]? = some (.cells cs 250 (0, 0)) := (hW.block p (Array.getElem?_eq_some_iff.1 hA2.blk).1).trans hA2.blk
  have hK3 := hK2.again (below_keeps hW _)
  have hbp := hA2.bp
  have hWb2 := hW
  clear hA2 hW hK2 c0 c1 cr
  have hf : ∀ f, W.frozen? ⟨p, f, none⟩ = false := fun f => by simp [World.frozen?, hWp]
  have hp : ∀ f, f < 6 → ∃ v, W.cell? ⟨p, 0 + f, none⟩ = some v := fun f hf => ⟨cs[0 + f]'(by omega), by simp [World.cell?, hWp]⟩
  obtain ⟨v0, p0⟩ := hp 0 (by omega)
  obtain ⟨v1, p1⟩ := hp 1 (by omega)
  obtain ⟨v2, p2⟩ := hp 2 (by omega)
  obtain ⟨v3, p3⟩ := hp 3 (by omega)
  obtain ⟨v4, p4⟩ := hp 4 (by omega)
  obtain ⟨v5, p5⟩ := hp 5 (by omega)
  simp only [Nat.zero_add] at p0 p1 p2 p3 p4 p5
  have hbW : b < W.heap.size := (Array.getElem?_eq_some_iff.1 hWb).1
  have k0 : (store6 W p 0 x).cell? ⟨b, 1, none⟩ = some (.int .i64 n) := by
    have hs : (store6 W p 0 x).heap[b]? = W.heap[b]? := (store6_keeps W p 0 x).block b hbW hbp
    simp [World.cell?, hs, hWb]
  clear hp
  iterate 3 go_step
  have s0 := store6_same hWp 0 x
  have s1 := store6_keeps W p 0 x
  have s2 : (store6 W p 0 x).heap[b]? = some (.cells #[.slice (some ⟨g, 0, none⟩) (ps.length + 1) cap, .int .i64 n] 242 (0, 0)) := (s1.block b hbW hbp).trans hWb
  change wpList _ _ _ [] _ (store6 W p 0 x)
  generalize store6 W p 0 x = w3 at *
  have k1 : w3.frozen? ⟨b, 1, none⟩ = false := by simp [World.frozen?, s2]
  clear p0 p1 p2 p3 p4 p5 hf
  go_wp2
  go_ret2
  have s5 := setCell_same s2 1 (.int .i64 ((n : Int) + 1))
  have hgl : g < w2.heap.size := by
    rcases hown2.2 with ⟨h, _⟩ | ⟨g', c, cur, hv, hg, hh, r⟩
    · cases h
    · simp only [Value.slice.injEq, Option.some.injEq, Addr.mk.injEq] at hv
      rw [hv.1.1]; exact (Array.getElem?_eq_some_iff.1 hh).1
  refine ⟨g, cap, p, cs, rfl, ?_, by simpa using s5, ?_, HZZ.out, HP.out, hat, ?_⟩
  · have hk := (hK3.trans s1).mono (T := fun k => k = b ∨ (Value.slice ao ps.length cap0).ownBlock = some k) fun k hk hh => hh.elim id fun c => by omega
    exact hk.again ((setCell_keeps w3 b 1 (.int .i64 ((n : Int) + 1))).mono fun k _ h => .inl h)
  · rw [Below.heap_setCell _ _ _ _ (by show p ≠ b; omega)]; exact s0
  · refine ownsRow_setCell_far ?_ hgb _
    have hW2 : W.heap[g]? = w2.heap[g]? := hWb2.block g hgl
    have hgW : g < W.heap.size := Nat.lt_of_lt_of_le hgl hWb2.size
    have h32 := (s1.block g hgW hgp).trans hW2
    rw [HP.out]
    exact ownsRow_same hown2 h32
end Go.Proofs.YtmakjfeepmiggaaGreat
namespace Go.Proofs.YtmakjfeepmiggaaGreat
open Go.RowKit
set_option linter.unusedVariables false
theorem arena_row {w : World} {base b cap : Nat} {ao : Option Addr} {ps : List Nat} {l : List Itm} (h : ArenaAt w base b ao cap ps l) (j : Nat) (hj : j < ps.length) :
    ∃ g, ao = some ⟨g, 0, none⟩ ∧ w.cell? ⟨g, j, none⟩ = some (.pointer (some ⟨ps[j], 0, none⟩)) := by
  rcases h.own.2 with ⟨hn, h0⟩ | ⟨g, c, cur, hv, hg, hh, hnc, hcm, hcs, ht⟩
  · omega
  · simp only [Value.slice.injEq] at hv
    refine ⟨g, hv.1, ?_⟩
    have e1 : ((ps.map fun p => Value.pointer (some ⟨p, 0, none⟩)))[j]? = some (.pointer (some ⟨ps[j], 0, none⟩)) := by simp [hj]
    rw [← ht, List.getElem?_take, if_pos (by omega)] at e1
    simpa [World.cell?, hh] using e1
theorem iadd_any (x : Itm) (base b : Nat) (l : List Itm) (S : Nat → Prop) (w : World) (h : Arena w base b l S) (hbase : base ≤ w.heap.size) (hl : l.length < 1048576) :
    Calls Tryz.prog 79 #[.pointer (some ⟨b, 0, none⟩), .agg x.cells.toArray] w fun e w' => e = .returned (.tuple #[.int .i64 (l.length + 1 : Nat), .int .i64 0]) ∧
      ∃ S', Arena w' base b (l ++ [x]) S' ∧ Keeps S w w' ∧ ∀ k, S' k → S k ∨ w.heap.size ≤ k := by
  obtain ⟨ao, cap, ps, h, rfl⟩ := h
  by_cases hg : l.length = 64 * ps.length
  · refine (add_grow x b base l.length ao cap ps w hg h.hdr (by omega) h.own hbase h.no).mono ?_
    rintro e w' ⟨g, cap', p, cs, rfl, hk, hdr, hblk, hcs, hp, hat, hown⟩
    have hpn : ∀ q ∈ ps, q < w.heap.size := by
      intro q hq
      obtain ⟨j, hj, rfl⟩ := List.mem_iff_getElem.1 hq
      obtain ⟨c, h1, _⟩ := h.blk j hj
      exact (Array.getElem?_eq_some_iff.1 h1).1
    have hbn : b < w.heap.size := (Array.getElem?_eq_some_iff.1 h.hdr).1
    refine ⟨rfl, arenaFp b (some ⟨g, 0, none⟩) (ps ++ [p]), ⟨some ⟨g, 0, none⟩, cap', ps ++ [p], ⟨?_, ?_, h.lo, ?_, ?_, ?_, ?_, ?_, ?_, ?_, ?_⟩, rfl⟩, ?_, ?_⟩
    · simpa using hdr
    · simpa using hown
    · intro q hq
      simp only [List.mem_append, List.mem_singleton] at hq
      rcases hq with hq | rfl
      · exact h.los q hq
      · omega
    · simp; omega
    · simp; omega
    · intro j hj
      simp only [List.length_append, List.length_singleton] at hj
      by_cases hj2 : j < ps.length
      · obtain ⟨c, h1, h2, h3⟩ := h.blk j hj2
        refine ⟨c, ?_, h2, fun i hi hil f hf => ?_⟩
        · rw [List.getElem_append_left hj2, hk.block _ (hpn _ (List.getElem_mem hj2)) (fun c => ?_)]
          · exact h1
          · rcases c with c | c
            · exact h.nb (c ▸ List.getElem_mem hj2)
            · exact h.nps _ (List.getElem_mem hj2) c
        · rw [List.getElem_append_left (by omega)]; exact h3 i hi (by omega) f hf
      · obtain rfl : j = ps.length := by omega
        refine ⟨put6 cs 0 x, by simpa using hblk, by rw [put6_size]; exact hcs, fun i hi hil f hf => ?_⟩
        simp only [List.length_append, List.length_singleton] at hil
        obtain rfl : i = 0 := by omega
        rw [List.getElem_append_right (by omega)]
        have := put6_in cs 0 x f hf (by omega)
        simpa using this
    · rw [List.nodup_append]
      refine ⟨h.nodup, by simp, fun a ha q hq => ?_⟩
      simp only [List.mem_singleton] at hq
      have := hpn a ha
      omega
    · simp only [List.mem_append, List.mem_singleton]
      rintro (hq | hq)
      · exact h.nb hq
      · omega
    · simp only [Value.ownBlock, ne_eq, Option.some.injEq]
      rcases hat with hat | hat
      · intro c; exact h.no (c ▸ hat)
      · omega
    · intro q hq
      simp only [Value.ownBlock, ne_eq, Option.some.injEq]
      simp only [List.mem_append, List.mem_singleton] at hq
      rcases hat with hat | hat
      · have := (h.own.lt _ hat).2
        rcases hq with hq | hq
        · intro c; exact h.nps q hq (c ▸ hat)
        · omega
      · rcases hq with hq | hq
        · have := hpn q hq; omega
        · omega
    · refine hk.mono fun k hk1 hk2 => ?_
      rcases hk2 with hk2 | hk2
      · exact .inl hk2
      · cases ao with
        | none => simp [Value.ownBlock] at hk2
        | some a => simp [Value.ownBlock] at hk2; exact .inr (.inl ⟨a, rfl, hk2⟩)
    · rintro k (hk | ⟨a, ha, rfl⟩ | hk)
      · exact .inl (.inl hk)
      · simp only [Option.some.injEq] at ha
        subst ha
        rcases hat with hat | hat
        · cases ao with
          | none => simp [Value.ownBlock] at hat
          | some a => simp [Value.ownBlock] at hat; exact .inl (.inr (.inl ⟨a, rfl, hat⟩))
        · exact .inr (by show w.heap.size ≤ g; omega)
      · simp only [List.mem_append, List.mem_singleton] at hk
        rcases hk with hk | hk
        · exact .inl (.inr (.inr hk))
        · exact .inr (by omega)
  · have hmost := h.most
    have hj : l.length / 64 < ps.length := by omega
    obtain ⟨g, rfl, hrow⟩ := arena_row h _ hj
    obtain ⟨cs, hb1, hb2, hb3⟩ := h.blk _ hj
    have hbn : b < w.heap.size := (Array.getElem?_eq_some_iff.1 h.hdr).1
    have hpn := (Array.getElem?_eq_some_iff.1 hb1).1
    have hpm := List.getElem_mem hj
    generalize hpe : ps[l.length / 64] = p at *
    have hA : AddIn (w.alloc (.cells x.cells.toArray 80)) b g ps.length cap p l.length w.heap.size cs x :=
      ⟨by rw [Below.heap_alloc _ _ _ hbn]; exact h.hdr, by rw [World.cell?_alloc_past _ _ _ (World.block_lt_of_cell? _ _ hrow)]; exact hrow, by rw [Below.heap_alloc _ _ _ hpn]; exact hb1, hb2, heap_alloc_new w _,
        fun c => h.nb (c ▸ hpm), by omega, by omega, hj⟩
    have hleast := h.least
    refine (add_room x b g ps.length cap p l.length _ rfl cs w hA hg (by omega) (by omega)).mono ?_
    rintro e w' ⟨rfl, hk, hdr, hblk⟩
    have hgb : g ≠ b := fun c => h.no (by simp [Value.ownBlock, c])
    have hgp : g ≠ p := fun c => h.nps p hpm (by simp [Value.ownBlock, c])
    have hgn := h.own.lt g rfl
    refine ⟨rfl, arenaFp b (some ⟨g, 0, none⟩) ps, ⟨some ⟨g, 0, none⟩, cap, ps, ⟨by simpa using hdr, ?_, h.lo, h.los, by simp; omega, by simp; omega, ?_, h.nodup, h.nb, h.no, h.nps⟩, rfl⟩, ?_, fun k hk => .inl hk⟩
    · exact ownsRow_same h.own (hk.block g hgn.2 (by rintro (c | c); exact hgb c; exact hgp c))
    · intro j hj2
      by_cases hje : j = l.length / 64
      · subst hje
        rw [hpe]
        refine ⟨_, hblk, by rw [put6_size]; exact hb2, fun i hi hil f hf => ?_⟩
        simp only [List.length_append, List.length_singleton] at hil
        by_cases hie : i = l.length % 64
        · have e : 64 * (l.length / 64) + i = l.length := by omega
          have e2 : 6 * i + f = l.length % 64 * 6 + f := by omega
          rw [e2, put6_in _ _ _ _ hf (by omega)]
          simp only [e]
          simp
        · rw [put6_out _ _ _ _ (by omega), hb3 i hi (by omega) f hf, List.getElem_append_left (by omega)]
      · obtain ⟨c, h1, h2, h3⟩ := h.blk j hj2
        have hne : ps[j] ≠ p := by
          intro c2
          rw [← hpe] at c2
          exact hje ((List.getElem_inj h.nodup).1 c2)
        refine ⟨c, ?_, h2, fun i hi hil f hf => ?_⟩
        · rw [hk.block _ (Array.getElem?_eq_some_iff.1 h1).1 (by rintro (c | c); exact h.nb (c ▸ List.getElem_mem hj2); exact hne c)]; exact h1
        · simp only [List.length_append, List.length_singleton] at hil
          rw [List.getElem_append_left (by omega)]; exact h3 i hi (by omega) f hf
    · refine hk.mono fun k hk1 hk2 => ?_
      rcases hk2 with hk2 | hk2
      · exact .inl hk2
      · exact .inr (.inr (hk2 ▸ hpm))
theorem count_arena (base b : Nat) (l : List Itm) (S : Nat → Prop) (w : World) (h : Arena w base b l S) :
    Calls Tryz.prog 71 #[.pointer (some ⟨b, 0, none⟩)] w fun e w' => e = .returned (.int .i64 l.length) ∧ w = w' := by
  obtain ⟨ao, cap, ps, h, rfl⟩ := h
  have c1 : w.cell? ⟨b, 1, none⟩ = some (.int .i64 l.length) := by simp [World.cell?, h.hdr]
  go_enter Tryz.func71, Tryz.ntmps71
  go_wp2
  go_ret
  exact ⟨rfl, rfl⟩
def atOf (l : List Itm) (r : Int) : Itm × Bool := if 1 ≤ r ∧ r ≤ l.length then (l.getD (r.toNat - 1) Itm.zero, true) else (Itm.zero, false)
set_option maxHeartbeats 800000 in
theorem at_in (base b : Nat) (l : List Itm) (S : Nat → Prop) (r : Nat) (w : World) (h : Arena w base b l S) (hl : l.length ≤ 1048576) (h1 : 1 ≤ r) (h2 : r ≤ l.length) :
    Calls Tryz.prog 75 #[.pointer (some ⟨b, 0, none⟩), .int .i64 r] w fun e w' => e = .returned (.tuple #[.agg (l.getD (r - 1) Itm.zero).cells.toArray, .bool true]) ∧ Below w.heap.size w w' := by
  have hC := fun o => count_arena base b l S (w.alloc o) (h.below ((Below.refl _ _).alloc (Nat.le_refl _) _))
  obtain ⟨ao, cap, ps, h, rfl⟩ := h
  have hmost := h.most
  have hj : (r - 1) / 64 < ps.length := by omega
  obtain ⟨g, rfl, hrow⟩ := arena_row h _ hj
  obtain ⟨cs, hb1, hb2, hb3⟩ := h.blk _ hj
  have hb : b < w.heap.size := (Array.getElem?_eq_some_iff.1 h.hdr).1
  have hb' : b < w.heap.size + 1 := by omega
  have hpn := (Array.getElem?_eq_some_iff.1 hb1).1
  have c0 : w.cell? ⟨b, 0, none⟩ = some (.slice (some ⟨g, 0, none⟩) ps.length cap) := by simp [World.cell?, h.hdr]
  have hgl := World.block_lt_of_cell? _ _ hrow
  have e : 64 * ((r - 1) / 64) + (r - 1) % 64 = r - 1 := by omega
  obtain ⟨x, hxe⟩ : ∃ x, l[r - 1] = x := ⟨_, rfl⟩
  have hcell : ∀ f, f < 6 → cs[6 * ((r - 1) % 64) + f]? = x.cells[f]? := fun f hf => by
    have := hb3 ((r - 1) % 64) (by omega) (by omega) f hf
    simp only [e, hxe] at this
    exact this
  have hx : l.getD (r - 1) Itm.zero = x := by rw [List.getD_eq_getElem?_getD, List.getElem?_eq_getElem (by omega), hxe]; rfl
  rw [hx]
  clear hx hb3 hxe
  generalize ps[(r - 1) / 64] = p at *
  obtain ⟨o, ho⟩ : ∃ o, (r - 1) % 64 * 6 = o := ⟨_, rfl⟩
  have hc : ∀ f, f < 6 → w.cell? ⟨p, o + f, none⟩ = x.cells[f]? := fun f hf => by
    rw [← hcell f hf, ← ho, Nat.mul_comm]; simp [World.cell?, hb1]
  have HP := fun W h1 h2 => Lib.hid (place_any b g ps.length cap p (r - 1) o W ho (by omega) h1 hj h2)
  have HC := fun o => Lib.hid (hC o)
  have x0 : w.cell? ⟨p, o, none⟩ = some (.string x.key) := hc 0 (by omega)
  have x1 : w.cell? ⟨p, o + 1, none⟩ = some (.string x.val) := hc 1 (by omega)
  have x2 : w.cell? ⟨p, o + 2, none⟩ = some (.int .u32 x.flags) := hc 2 (by omega)
  have x3 : w.cell? ⟨p, o + 3, none⟩ = some (.int .u64 x.id) := hc 3 (by omega)
  have x4 : w.cell? ⟨p, o + 4, none⟩ = some (.int .i64 x.dies) := hc 4 (by omega)
  have x5 : w.cell? ⟨p, o + 5, none⟩ = some (.int .i64 x.gen) := hc 5 (by omega)
  have d1 : decide ((r : Int) < 1) = false := by simp; omega
  have d2 : decide ((l.length : Int) < (r : Int)) = false := by simp; omega
  have d3 : decide (l.length < r) = false := by simp; omega
  have hr1 : ((r : Int) - 1) = ((r - 1 : Nat) : Int) := by omega
  have HR := Lib.hid hr1
  clear hc hcell hC e hr1 hb1
  go_enter Tryz.func75, Tryz.ntmps75
  go_wp2_with (first | (go_at_call 71; refine ((HC _).out).mono ?_; rintro e w' ⟨rfl, rfl⟩))
  rw [HR.out]
  refine ((HP _ (by rw [World.cell?_alloc_past _ _ _ hb]; exact c0) (by rw [World.cell?_alloc_past _ _ _ hgl]; exact hrow)).out).mono ?_
  rintro e w' ⟨rfl, rfl⟩
  go_wp2
  refine bodyPost_ret (v := .tuple #[.agg x.cells.toArray, .bool true]) (by simp [results, Tryz.results75, go_sem, Itm.cells]) rfl ⟨rfl, ?_⟩
  exact (Below.refl _ _).alloc (Nat.le_refl _) _
theorem at_low (b : Option Addr) (r : Int) (w : World) (h1 : r < 1) :
    Calls Tryz.prog 75 #[.pointer b, .int .i64 r] w fun e w' => e = .returned (.tuple #[.agg Itm.zero.cells.toArray, .bool false]) ∧ Below w.heap.size w w' := by
  go_enter Tryz.func75, Tryz.ntmps75
  go_wp2
  refine bodyPost_ret (v := .tuple #[.agg Itm.zero.cells.toArray, .bool false]) (by simp [results, Tryz.results75, go_sem, Itm.cells, Itm.zero]; rfl) rfl ⟨rfl, ?_⟩
  exact (Below.refl _ _).alloc (Nat.le_refl _) _
theorem at_high (base b : Nat) (l : List Itm) (S : Nat → Prop) (r : Int) (w : World) (h : Arena w base b l S) (h2 : (l.length : Int) < r) :
    Calls Tryz.prog 75 #[.pointer (some ⟨b, 0, none⟩), .int .i64 r] w fun e w' => e = .returned (.tuple #[.agg Itm.zero.cells.toArray, .bool false]) ∧ Below w.heap.size w w' := by
  have hC := fun o => count_arena base b l S (w.alloc o) (h.below ((Below.refl _ _).alloc (Nat.le_refl _) _))
  have h1 : 1 ≤ r := by omega
  go_enter Tryz.func75, Tryz.ntmps75
  go_wp2_with (go_at_call 71; refine (hC _).mono ?_; rintro e w' ⟨rfl, rfl⟩)
  refine bodyPost_ret (v := .tuple #[.agg Itm.zero.cells.toArray, .bool false]) (by simp [results, Tryz.results75, go_sem, Itm.cells, Itm.zero]; rfl) rfl ⟨rfl, ?_⟩
  exact (Below.refl _ _).alloc (Nat.le_refl _) _
theorem iat_any (base b : Nat) (l : List Itm) (S : Nat → Prop) (r : Int) (w : World) (h : Arena w base b l S) (hl : l.length ≤ 1048576) :
    Calls Tryz.prog 75 #[.pointer (some ⟨b, 0, none⟩), .int .i64 r] w fun e w' => e = .returned (.tuple #[.agg (atOf l r).1.cells.toArray, .bool (atOf l r).2]) ∧ Below w.heap.size w w' := by
  unfold atOf
  by_cases h1 : 1 ≤ r ∧ r ≤ l.length
  · rw [if_pos h1]
    have := at_in base b l S r.toNat w h hl (by omega) (by omega)
    rwa [Int.toNat_of_nonneg (by omega)] at this
  · rw [if_neg h1]
    by_cases h2 : r < 1
    · exact at_low _ r w h2
    · exact at_high base b l S r w h (by omega)
end Go.Proofs.YtmakjfeepmiggaaGreat
namespace Go.Proofs.YtmakjfeepmiggaaGreat
open Go.RowKit
set_option linter.unusedVariables false
theorem add_lit (x : Itm) (base b : Nat) (l : List Itm) (S : Nat → Prop) (w : World) (h : Arena w base b l S) (hbase : base ≤ w.heap.size) (hl : l.length < 1048576) :
    Calls Tryz.prog 79 #[.pointer (some ⟨b, 0, none⟩), .agg #[.string (x).key, .string (x).val, .int .u32 (x).flags, .int .u64 (x).id, .int .i64 (x).dies, .int .i64 (x).gen]] w fun e w' => e = .returned (.tuple #[.int .i64 (l.length + 1 : Nat), .int .i64 0]) ∧
      ∃ S', Arena w' base b (l ++ [x]) S' ∧ Keeps S w w' ∧ ∀ k, S' k → S k ∨ w.heap.size ≤ k := iadd_any x base b l S w h hbase hl
end Go.Proofs.YtmakjfeepmiggaaGreat
namespace Go.Proofs.YtmakjfeepmiggaaGreat
open Go.RowKit
set_option linter.unusedVariables false
inductive Leaf where
  | int (k : IntKind)
  | bool
  | str
  | sl (e : List Leaf)
mutual
def Leaf.holds (w : World) : Leaf → Value → Prop
  | .int k, v => ∃ n, v = .int k n ∧ (Lit.int k n).wf = true
  | .bool, v => ∃ b, v = .bool b
  | .str, v => ∃ s : ByteArray, v = .string s ∧ s.size ≤ maxLen
  | .sl e, v => ∃ a len cap, v = .slice a len cap ∧ len ≤ cap ∧ cap ≤ maxLen ∧ (a = none → cap = 0) ∧
      (len = 0 ∨ ∃ b off, a = some ⟨b, off, none⟩ ∧ ∀ i, i < len → ∃ cs : List Value, cs.length = Leaf.many e ∧ (∀ j, j < cs.length → w.cell? ⟨b, off + (i * Leaf.many e + j), none⟩ = cs[j]?) ∧ Leaf.allHold w e cs)
def Leaf.allHold (w : World) : List Leaf → List Value → Prop
  | [], [] => True
  | s :: ss, v :: vs => Leaf.holds w s v ∧ Leaf.allHold w ss vs
  | _, _ => False
def Leaf.many : List Leaf → Nat
  | [] => 0
  | _ :: r => Leaf.many r + 1
end
theorem Leaf.many_len (e : List Leaf) : Leaf.many e = e.length := by
  induction e with
  | nil => rfl
  | cons s e ih => simp [Leaf.many, ih]
theorem allHold_append (w : World) : ∀ (ss ts : List Leaf) (cs ds : List Value), Leaf.allHold w ss cs → Leaf.allHold w ts ds → Leaf.allHold w (ss ++ ts) (cs ++ ds)
  | [], _, [], _, _, h => h
  | [], _, _ :: _, _, h, _ => h.elim
  | _ :: _, _, [], _, h, _ => h.elim
  | _ :: ss, ts, _ :: cs, ds, h, h' => ⟨h.1, allHold_append w ss ts cs ds h.2 h'⟩
def leavesF (P : Program) (rec : TypeId → Option (List Leaf)) : List Field → Nat → Option (List Leaf)
  | [], _ => some []
  | f :: fs, o => match rec f.type, leavesF P rec fs (o + P.cellsOf f.type) with
    | some a, some b => if f.offset = o ∧ P.cellsOf f.type = a.length then some (a ++ b) else none
    | _, _ => none
def leavesN (a : List Leaf) : Nat → List Leaf
  | 0 => []
  | n + 1 => a ++ leavesN a n
def leaves (P : Program) : Nat → TypeId → Option (List Leaf)
  | 0, _ => none
  | n + 1, t => match P.underlying t with
    | some .bool => some [.bool]
    | some (.int k) => some [.int k]
    | some .string => some [.str]
    | some (.slice e) => match leaves P n e with
      | some l => if P.cellsOf e = l.length ∧ l ≠ [] then some [.sl l] else none
      | none => none
    | some (.struct fs) => match leavesF P (leaves P n) fs.toList 0 with
      | some l => if P.cellsOf t = l.length then some l else none
      | none => none
    | some (.array m e) => match leaves P n e with
      | some l => if P.cellsOf e = l.length ∧ P.cellsOf t = m * l.length then some (leavesN l m) else none
      | none => none
    | _ => none
theorem mapM_get {β : Type} {f : Nat → Option β} {n : Nat} {r : List β} (h : (List.range n).mapM f = some r) (i : Nat) (hi : i < n) : ∃ y, f i = some y := by
  have h1 := mapM_some_get h i i (by simp [hi])
  have h2 := mapM_some_length h
  simp at h2
  rw [List.getElem?_eq_getElem (by omega)] at h1
  exact ⟨_, h1⟩
section
variable {H : Type} {enc : TypeId × Value → H} {P : Program} {w : World} {base : Nat} {spare : Nat → Bool} {held : Bool}
theorem holdF (n : Nat) (IH : ∀ (m : Nat) (t : TypeId) (cs : List Value) (x : DataW H × List MemPlace) (l : List Leaf), leaves P n t = some l → DataW.trod enc P w base spare held m t cs = some x → Leaf.allHold w l cs)
    (m : Nat) (cs : List Value) : ∀ (fs : List Field) (o : Nat) (l : List Leaf) (xs : List (DataW H × List MemPlace)), leavesF P (leaves P n) fs o = some l →
      fs.mapM (fun f => DataW.trod enc P w base spare held m f.type ((cs.drop f.offset).take (P.cellsOf f.type))) = some xs → cs.length = o + l.length → Leaf.allHold w l (cs.drop o)
  | [], o, l, xs, h1, _, hl => by
    simp only [leavesF, Option.some.injEq] at h1
    subst h1
    rw [List.drop_eq_nil_of_le (by simp at hl; omega)]
    exact trivial
  | f :: fs, o, l, xs, h1, h2, hl => by
    simp only [leavesF] at h1
    cases ha : leaves P n f.type with
    | none => simp [ha] at h1
    | some a =>
      cases hb : leavesF P (leaves P n) fs (o + P.cellsOf f.type) with
      | none => simp [ha, hb] at h1
      | some b =>
        simp only [ha, hb] at h1
        split at h1
        · rename_i hc
          simp only [Option.some.injEq] at h1
          subst h1
          simp only [List.length_append] at hl
          rw [List.mapM_cons] at h2
          simp only [Option.pure_def, Option.bind_eq_bind] at h2
          cases hx : DataW.trod enc P w base spare held m f.type ((cs.drop f.offset).take (P.cellsOf f.type)) with
          | none => simp [hx] at h2
          | some x =>
            simp only [hx, Option.bind_some] at h2
            cases hy : fs.mapM (fun f => DataW.trod enc P w base spare held m f.type ((cs.drop f.offset).take (P.cellsOf f.type))) with
            | none => simp [hy] at h2
            | some ys =>
              have i1 := IH m f.type _ x a ha hx
              have i2 := holdF n IH m cs fs (o + P.cellsOf f.type) b ys hb hy (by omega)
              rw [hc.1, hc.2] at i1
              rw [hc.2] at i2
              have e : cs.drop o = (cs.drop o).take a.length ++ cs.drop (o + a.length) := by
                rw [← List.drop_drop, List.take_append_drop]
              rw [e]
              exact allHold_append w _ _ _ _ i1 i2
        · cases h1
theorem holdN (n : Nat) (e : TypeId) (l : List Leaf) (IH : ∀ (m : Nat) (cs : List Value) (x : DataW H × List MemPlace), DataW.trod enc P w base spare held m e cs = some x → Leaf.allHold w l cs)
    (m : Nat) (cs : List Value) (hc : P.cellsOf e = l.length) (k : Nat) :
    (∀ i, i < k → ∃ x, DataW.trod enc P w base spare held m e ((cs.drop (i * P.cellsOf e)).take (P.cellsOf e)) = some x) → cs.length = k * l.length → Leaf.allHold w (leavesN l k) cs := by
  have key : ∀ (j : Nat), j ≤ k → (∀ i, i < k → ∃ x, DataW.trod enc P w base spare held m e ((cs.drop (i * P.cellsOf e)).take (P.cellsOf e)) = some x) → cs.length = k * l.length →
      Leaf.allHold w (leavesN l j) (cs.drop ((k - j) * l.length)) := by
    intro j
    induction j with
    | zero => intro _ _ hl; rw [Nat.sub_zero, List.drop_eq_nil_of_le (by omega)]; exact trivial
    | succ j ih =>
      intro hj h hl
      have i2 := ih (by omega) h hl
      obtain ⟨x, hx⟩ := h (k - (j + 1)) (by omega)
      have i1 := IH m _ x hx
      rw [hc] at i1
      have e1 : (k - j) * l.length = (k - (j + 1)) * l.length + l.length := by
        rw [show k - j = (k - (j + 1)) + 1 by omega, Nat.add_mul, Nat.one_mul]
      rw [e1] at i2
      have e : cs.drop ((k - (j + 1)) * l.length) = (cs.drop ((k - (j + 1)) * l.length)).take l.length ++ cs.drop ((k - (j + 1)) * l.length + l.length) := by
        rw [← List.drop_drop, List.take_append_drop]
      rw [e]
      exact allHold_append w _ _ _ _ i1 i2
  intro h hl
  have := key k (Nat.le_refl _) h hl
  simpa using this
theorem holds_of_trod : ∀ (n m : Nat) (t : TypeId) (cs : List Value) (x : DataW H × List MemPlace) (l : List Leaf), leaves P n t = some l → DataW.trod enc P w base spare held m t cs = some x → Leaf.allHold w l cs
  | 0, _, _, _, _, _, h, _ => by simp [leaves] at h
  | n + 1, 0, _, _, _, _, _, h => by simp [DataW.trod] at h
  | n + 1, m + 1, t, cs, x, l, h1, h2 => by
    have IH := holds_of_trod n
    unfold leaves at h1
    unfold DataW.trod at h2
    split at h1
    · rename_i hu
      simp only [Option.some.injEq] at h1; subst h1
      rw [hu] at h2
      split at h2 <;> simp_all [Leaf.allHold, Leaf.holds]
    · rename_i k hu
      simp only [Option.some.injEq] at h1; subst h1
      rw [hu] at h2
      split at h2 <;> simp_all [Leaf.allHold, Leaf.holds]
    · rename_i hu
      simp only [Option.some.injEq] at h1; subst h1
      rw [hu] at h2
      split at h2 <;> simp_all [Leaf.allHold, Leaf.holds]
    · rename_i e hu
      cases hl : leaves P n e with
      | none => simp [hl] at h1
      | some le =>
        simp only [hl] at h1
        split at h1
        · rename_i hc
          simp only [Option.some.injEq] at h1; subst h1
          rw [hu] at h2
          split at h2
          case h_7 =>
            simp only [Leaf.allHold, Leaf.holds, and_true]
            exact ⟨none, 0, 0, rfl, Nat.le_refl _, Nat.zero_le _, fun _ => rfl, .inl rfl⟩
          case h_8 =>
            rename_i e' a len cap h3
            cases h3
            simp only at h2
            split at h2
            · rename_i hb
              simp only [Leaf.allHold, Leaf.holds, and_true]
              refine ⟨some a, len, cap, rfl, hb.2.1, hb.2.2, (fun h => by cases h), ?_⟩
              by_cases h0 : len = 0
              · exact .inl h0
              · refine .inr ?_
                cases hm : (List.range len).mapM (fun i => (w.cells? base (a.add (i * P.cellsOf e)) (P.cellsOf e)).bind (DataW.trod enc P w base spare held m e)) with
                | none => rw [hm] at h2; simp at h2
                | some elems =>
                  have hget := fun i hi => mapM_get hm i hi
                  have each : ∀ i, i < len → ∃ cs, w.cells? base (a.add (i * P.cellsOf e)) (P.cellsOf e) = some cs ∧ Leaf.allHold w le cs := by
                    intro i hi
                    obtain ⟨y, hy⟩ := hget i hi
                    cases hcs : w.cells? base (a.add (i * P.cellsOf e)) (P.cellsOf e) with
                    | none => rw [hcs] at hy; simp at hy
                    | some cs => rw [hcs] at hy; exact ⟨cs, rfl, IH _ _ _ _ _ hl hy⟩
                  obtain ⟨c0, hc0, _⟩ := each 0 (by omega)
                  have hpos : 0 < P.cellsOf e := by rw [hc.1]; exact List.length_pos_iff.2 hc.2
                  have h00 := (World.cells?_some hc0).2.2 0 hpos
                  have hl0 := (World.cells?_some hc0).2.1
                  rw [List.getElem?_eq_getElem (by omega)] at h00
                  have hspot : a.spot = none := by
                    have := World.cell?_spot h00
                    simpa [Addr.add] using this
                  obtain ⟨b, off, spot⟩ := a
                  simp only at hspot
                  subst hspot
                  refine ⟨b, off, rfl, fun i hi => ?_⟩
                  obtain ⟨cs, h5, h6⟩ := each i hi
                  obtain ⟨_, h7, h8⟩ := World.cells?_some h5
                  refine ⟨cs, by rw [h7, hc.1, Leaf.many_len], fun j hj => ?_, h6⟩
                  have h9 := h8 j (by omega)
                  rw [Leaf.many_len, ← hc.1, ← h9]
                  congr 1
                  unfold Addr.add
                  split <;> split <;> simp_all <;> omega
            · cases h2
          all_goals (exfalso; simp_all; done)
        · cases h1
    · rename_i fs hu
      cases hl : leavesF P (leaves P n) fs.toList 0 with
      | none => simp [hl] at h1
      | some l' =>
        simp only [hl] at h1
        split at h1
        · rename_i hc
          simp only [Option.some.injEq] at h1; subst h1
          rw [hu] at h2
          simp only at h2
          split at h2
          · rename_i hcl
            cases hm : fs.toList.mapM (fun f => DataW.trod enc P w base spare held m f.type ((cs.drop f.offset).take (P.cellsOf f.type))) with
            | none => rw [hm] at h2; simp at h2
            | some ys => simpa using holdF n IH m cs fs.toList 0 l' ys hl hm (by omega)
          · cases h2
        · cases h1
    · rename_i k e hu
      cases hl : leaves P n e with
      | none => simp [hl] at h1
      | some le =>
        simp only [hl] at h1
        split at h1
        · rename_i hc
          simp only [Option.some.injEq] at h1; subst h1
          rw [hu] at h2
          simp only at h2
          split at h2
          · rename_i hcl
            cases hm : (List.range k).mapM (fun i => DataW.trod enc P w base spare held m e ((cs.drop (i * P.cellsOf e)).take (P.cellsOf e))) with
            | none => rw [hm] at h2; simp at h2
            | some ys => exact holdN n e le (fun m cs x h => IH m e cs x le hl h) m cs hc.1 k (fun i hi => mapM_get hm i hi) (by omega)
          · cases h2
        · cases h1
    · cases h1
end
theorem list_of {α : Type} (p : Nat → α → Prop) : ∀ (n : Nat), (∀ i, i < n → ∃ x, p i x) → ∃ l : List α, l.length = n ∧ ∀ i, (hi : i < l.length) → p i l[i]
  | 0, _ => ⟨[], rfl, fun i hi => by simp at hi⟩
  | n + 1, h => by
    obtain ⟨l, h1, h2⟩ := list_of p n (fun i hi => h i (by omega))
    obtain ⟨x, hx⟩ := h n (by omega)
    refine ⟨l ++ [x], by simp [h1], fun i hi => ?_⟩
    simp only [List.length_append, List.length_singleton] at hi
    by_cases hn : i < l.length
    · rw [List.getElem_append_left hn]; exact h2 i hn
    · have e : i = l.length := by omega
      subst e
      simpa [h1] using hx
theorem opened {H : Type} {enc : TypeId × Value → H} {w : World} {base n : Nat} {spare : Nat → Bool} {held : Bool} {t : TypeId} {v : Value} {d : DataW H} {p : List MemPlace} {l : List Leaf} (hl : leaves Tryz.prog n t = some l)
    (k : DataW.Trod enc Tryz.prog w base spare held t v d p) : Leaf.allHold w l v.cells.toList := by
  obtain ⟨m, hm⟩ := k
  exact holds_of_trod n m t _ _ l hl hm
theorem allHold_cons {w : World} {s : Leaf} {ss : List Leaf} {cs : List Value} (h : Leaf.allHold w (s :: ss) cs) : ∃ c r, cs = c :: r ∧ Leaf.holds w s c ∧ Leaf.allHold w ss r := by
  cases cs with
  | nil => exact h.elim
  | cons c r => exact ⟨c, r, rfl, h.1, h.2⟩
theorem allHold_nil {w : World} {cs : List Value} (h : Leaf.allHold w [] cs) : cs = [] := by
  cases cs with
  | nil => rfl
  | cons c r => exact h.elim
theorem holds_int {w : World} {k : IntKind} {v : Value} (h : Leaf.holds w (.int k) v) : ∃ n, v = .int k n ∧ (Lit.int k n).wf = true := by simpa only [Leaf.holds] using h
theorem holds_str {w : World} {v : Value} (h : Leaf.holds w .str v) : ∃ s : ByteArray, v = .string s ∧ s.size ≤ maxLen := by simpa only [Leaf.holds] using h
theorem holds_bool {w : World} {v : Value} (h : Leaf.holds w .bool v) : ∃ b, v = .bool b := by simpa only [Leaf.holds] using h
def Recs (w : World) (e : List Leaf) (v : Value) (l : List (List Value)) : Prop :=
  ∃ a cap, v = .slice a l.length cap ∧ l.length ≤ cap ∧ cap ≤ maxLen ∧ (a = none → cap = 0) ∧ (∀ x ∈ l, Leaf.allHold w e x) ∧
    (l = [] ∨ ∃ b off, a = some ⟨b, off, none⟩ ∧ ∀ i, (hi : i < l.length) → ∀ j, j < e.length → w.cell? ⟨b, off + (i * e.length + j), none⟩ = (l[i])[j]?)
theorem recs_of {w : World} {e : List Leaf} {v : Value} (h : Leaf.holds w (.sl e) v) : ∃ l, Recs w e v l := by
  simp only [Leaf.holds, Leaf.many_len] at h
  obtain ⟨a, len, cap, rfl, h1, h2, h3, h4⟩ := h
  rcases h4 with rfl | ⟨b, off, rfl, h5⟩
  · exact ⟨[], a, cap, rfl, h1, h2, h3, by simp, .inl rfl⟩
  · obtain ⟨l, hl, hp⟩ := list_of (fun i (x : List Value) => Leaf.allHold w e x ∧ ∀ j, j < e.length → w.cell? ⟨b, off + (i * e.length + j), none⟩ = x[j]?) len (fun i hi => by
      obtain ⟨cs, c1, c2, c3⟩ := h5 i hi
      exact ⟨cs, c3, fun j hj => c2 j (by omega)⟩)
    subst hl
    refine ⟨l, _, cap, rfl, h1, h2, h3, fun x hx => ?_, .inr ⟨b, off, rfl, fun i hi => (hp i hi).2⟩⟩
    obtain ⟨i, hi, rfl⟩ := List.mem_iff_getElem.1 hx
    exact (hp i hi).1
end Go.Proofs.YtmakjfeepmiggaaGreat
namespace Go.Proofs.YtmakjfeepmiggaaGreat
open Go.RowKit
set_option linter.unusedVariables false
def itmLeaves : List Leaf := [.str, .str, .int .u32, .int .u64, .int .i64, .int .i64]
theorem itm_of {w : World} {cs : List Value} (h : Leaf.allHold w itmLeaves cs) : ∃ x : Itm, cs = x.cells := by
  obtain ⟨c0, r, rfl, g0, h⟩ := allHold_cons h
  obtain ⟨c1, r, rfl, g1, h⟩ := allHold_cons h
  obtain ⟨c2, r, rfl, g2, h⟩ := allHold_cons h
  obtain ⟨c3, r, rfl, g3, h⟩ := allHold_cons h
  obtain ⟨c4, r, rfl, g4, h⟩ := allHold_cons h
  obtain ⟨c5, r, rfl, g5, h⟩ := allHold_cons h
  obtain rfl := allHold_nil h
  obtain ⟨s0, rfl, _⟩ := holds_str g0
  obtain ⟨s1, rfl, _⟩ := holds_str g1
  obtain ⟨n2, rfl, _⟩ := holds_int g2
  obtain ⟨n3, rfl, _⟩ := holds_int g3
  obtain ⟨n4, rfl, _⟩ := holds_int g4
  obtain ⟨n5, rfl, _⟩ := holds_int g5
  exact ⟨⟨s0, s1, n2, n3, n4, n5⟩, rfl⟩
def Itms (w : World) (v : Value) (l : List Itm) : Prop :=
  ∃ a cap, v = .slice a l.length cap ∧ l.length ≤ cap ∧ cap ≤ maxLen ∧ (a = none → cap = 0) ∧
    (l = [] ∨ ∃ b off, a = some ⟨b, off, none⟩ ∧ ∀ i, (hi : i < l.length) → ∀ f, f < 6 → w.cell? ⟨b, off + (i * 6 + f), none⟩ = (l[i]).cells[f]?)
def Ints (k : IntKind) (w : World) (v : Value) (l : List Int) : Prop :=
  ∃ a cap, v = .slice a l.length cap ∧ l.length ≤ cap ∧ cap ≤ maxLen ∧ (a = none → cap = 0) ∧ (∀ n ∈ l, (Lit.int k n).wf = true) ∧
    (l = [] ∨ ∃ b off, a = some ⟨b, off, none⟩ ∧ ∀ i, (hi : i < l.length) → w.cell? ⟨b, off + i, none⟩ = some (.int k (l[i])))
theorem itms_of {w : World} {v : Value} (h : Leaf.holds w (.sl itmLeaves) v) : ∃ l, Itms w v l := by
  simp only [Leaf.holds] at h
  obtain ⟨a, len, cap, rfl, h1, h2, h3, h4⟩ := h
  rcases h4 with rfl | ⟨b, off, rfl, h5⟩
  · exact ⟨[], a, cap, rfl, h1, h2, h3, .inl rfl⟩
  · obtain ⟨l, hl, hp⟩ := list_of (fun i (x : Itm) => ∀ f, f < 6 → w.cell? ⟨b, off + (i * 6 + f), none⟩ = x.cells[f]?) len (fun i hi => by
      obtain ⟨cs, c1, c2, c3⟩ := h5 i hi
      obtain ⟨x, rfl⟩ := itm_of c3
      exact ⟨x, fun f hf => c2 f (by simpa [Itm.cells] using hf)⟩)
    subst hl
    exact ⟨l, _, cap, rfl, h1, h2, h3, .inr ⟨b, off, rfl, hp⟩⟩
theorem Itms.below {w w' : World} {B : Nat} {v : Value} {l : List Itm} (h : Itms w v l) (hb : Below B w w') (hB : w.heap.size ≤ B) : Itms w' v l := by
  obtain ⟨a, cap, rfl, h1, h2, h3, h4⟩ := h
  refine ⟨a, cap, rfl, h1, h2, h3, h4.imp id ?_⟩
  rintro ⟨b, off, rfl, h5⟩
  refine ⟨b, off, rfl, fun i hi f hf => ?_⟩
  have h6 := h5 i hi f hf
  have h7 : f < (l[i]).cells.length := by simpa [Itm.cells] using hf
  rw [List.getElem?_eq_getElem h7] at h6 ⊢
  exact (hb.cell (Nat.lt_of_lt_of_le (World.block_lt_of_cell? _ _ h6) hB)).trans h6
theorem Ints.below {k : IntKind} {w w' : World} {B : Nat} {v : Value} {l : List Int} (h : Ints k w v l) (hb : Below B w w') (hB : w.heap.size ≤ B) : Ints k w' v l := by
  obtain ⟨a, cap, rfl, h1, h2, h3, hw, h4⟩ := h
  refine ⟨a, cap, rfl, h1, h2, h3, hw, h4.imp id ?_⟩
  rintro ⟨b, off, rfl, h5⟩
  refine ⟨b, off, rfl, fun i hi => ?_⟩
  have h6 := h5 i hi
  exact (hb.cell (Nat.lt_of_lt_of_le (World.block_lt_of_cell? _ _ h6) hB)).trans h6
end Go.Proofs.YtmakjfeepmiggaaGreat
namespace Go.Proofs.YtmakjfeepmiggaaGreat
open Go.RowKit
set_option linter.unusedVariables false
def Box (w : World) (k : Nat) (x : Itm) : Prop := w.heap[k]? = some (.cells x.cells.toArray 80 (0, 0))
theorem Box.new (w : World) (x : Itm) : Box (w.alloc (.cells x.cells.toArray 80)) w.heap.size x := heap_alloc_new w _
theorem Box.lt {w : World} {k : Nat} {x : Itm} (h : Box w k x) : k < w.heap.size := (Array.getElem?_eq_some_iff.1 h).1
theorem Box.below {w w' : World} {k : Nat} {x : Itm} (h : Box w k x) (hb : Below w.heap.size w w') : Box w' k x := (hb.block k h.lt).trans h
theorem Box.alloc {w : World} {k : Nat} {x : Itm} (h : Box w k x) (o : Obj) : Box (w.alloc o) k x := h.below ((Below.refl _ _).alloc (Nat.le_refl _) _)
theorem Box.keeps {S : Nat → Prop} {w w' : World} {k : Nat} {x : Itm} (h : Box w k x) (hb : Keeps S w w') (hs : ¬ S k) : Box w' k x := (hb.block k h.lt hs).trans h
theorem Box.cells {w : World} {k : Nat} {x : Itm} (h : Box w k x) :
    w.cell? ⟨k, 0, none⟩ = some (.string x.key) ∧ w.cell? ⟨k, 1, none⟩ = some (.string x.val) ∧ w.cell? ⟨k, 2, none⟩ = some (.int .u32 x.flags) ∧
    w.cell? ⟨k, 3, none⟩ = some (.int .u64 x.id) ∧ w.cell? ⟨k, 4, none⟩ = some (.int .i64 x.dies) ∧ w.cell? ⟨k, 5, none⟩ = some (.int .i64 x.gen) := by
  unfold Box at h
  refine ⟨?_, ?_, ?_, ?_, ?_, ?_⟩ <;> simp [World.cell?, h, Itm.cells]
theorem Box.frozen {w : World} {k : Nat} {x : Itm} (h : Box w k x) (f : Nat) : w.frozen? ⟨k, f, none⟩ = false := by
  unfold Box at h
  simp [World.frozen?, h]
theorem Box.store {w : World} {k : Nat} {x : Itm} (h : Box w k x) (y : Itm) : Box (store6 w k 0 y) k y := by
  have := store6_same h 0 y
  exact this
end Go.Proofs.YtmakjfeepmiggaaGreat
namespace Go.Proofs.YtmakjfeepmiggaaGreat
open Go.RowKit
set_option linter.unusedVariables false
theorem Itms.cell {w : World} {a : Option Addr} {cap : Nat} {l : List Itm} (h : Itms w (.slice a l.length cap) l) (i : Nat) (hi : i < l.length) :
    ∃ b off x, a = some ⟨b, off, none⟩ ∧ l[i]? = some x ∧ w.cell? ⟨b, off + i * 6, none⟩ = some (.string x.key) ∧ w.cell? ⟨b, off + i * 6 + 1, none⟩ = some (.string x.val) ∧ w.cell? ⟨b, off + i * 6 + 2, none⟩ = some (.int .u32 x.flags) ∧
    w.cell? ⟨b, off + i * 6 + 3, none⟩ = some (.int .u64 x.id) ∧ w.cell? ⟨b, off + i * 6 + 4, none⟩ = some (.int .i64 x.dies) ∧ w.cell? ⟨b, off + i * 6 + 5, none⟩ = some (.int .i64 x.gen) := by
  obtain ⟨a', cap', hv, h1, h2, h3, h4⟩ := h
  simp only [Value.slice.injEq, true_and] at hv
  obtain ⟨rfl, rfl⟩ := hv
  rcases h4 with rfl | ⟨b, off, rfl, h5⟩
  · simp at hi
  · have h6 := h5 i hi
    refine ⟨b, off, l[i], rfl, List.getElem?_eq_getElem hi, h6 0 (by omega), ?_, ?_, ?_, ?_, ?_⟩
    · rw [Nat.add_assoc]; exact h6 1 (by omega)
    · rw [Nat.add_assoc]; exact h6 2 (by omega)
    · rw [Nat.add_assoc]; exact h6 3 (by omega)
    · rw [Nat.add_assoc]; exact h6 4 (by omega)
    · rw [Nat.add_assoc]; exact h6 5 (by omega)
theorem Itms.slice {w : World} {v : Value} {l : List Itm} (h : Itms w v l) : ∃ a cap, v = .slice a l.length cap ∧ l.length ≤ cap ∧ cap ≤ maxLen := by
  obtain ⟨a, cap, rfl, h1, h2, h3, h4⟩ := h
  exact ⟨a, cap, rfl, h1, h2⟩
end Go.Proofs.YtmakjfeepmiggaaGreat
namespace Go.Proofs.YtmakjfeepmiggaaGreat
open Go.RowKit
set_option linter.unusedVariables false
attribute [local go_sem ↓] Go.wp_at_zero Go.wp_at_succ
theorem info_item : (Tryz.prog.info? 80).map (fun i => (i.zero, i.size, i.bytes)) = some (some (.agg #[.string ⟨#[]⟩, .string ⟨#[]⟩, .int .u32 0, .int .u64 0, .int .i64 0, .int .i64 0]), 6, 64) := by kernel_rfl
structure RArenaAt (w : World) (base b : Nat) (ao : Option Addr) (cap : Nat) (l : List Itm) : Prop where
  hdr : w.heap[b]? = some (.cells #[.slice ao l.length cap] 223 (0, 0))
  own : w.ownsRow base 80 6 (.slice ao l.length cap) l.length (l.flatMap Itm.cells)
  lo : base ≤ b
  no : (Value.slice ao l.length cap).ownBlock ≠ some b
def rarenaFp (b : Nat) (ao : Option Addr) (k : Nat) : Prop := k = b ∨ ∃ a, ao = some a ∧ a.block = k
def RArena (w : World) (base b : Nat) (l : List Itm) (S : Nat → Prop) : Prop := ∃ ao cap, RArenaAt w base b ao cap l ∧ S = rarenaFp b ao
theorem RArena.keep {w w' : World} {base b : Nat} {l : List Itm} {S : Nat → Prop} (h : RArena w base b l S) (hk : ∀ k, S k → w'.heap[k]? = w.heap[k]?) : RArena w' base b l S := by
  obtain ⟨ao, cap, h, rfl⟩ := h
  refine ⟨ao, cap, ⟨by rw [hk b (.inl rfl)]; exact h.hdr, ⟨h.own.1, ?_⟩, h.lo, h.no⟩, rfl⟩
  rcases h.own.2 with hn | ⟨g, c, cur, hv, hg, hh, r⟩
  · exact .inl hn
  · refine .inr ⟨g, c, cur, hv, hg, ?_, r⟩
    simp only [Value.slice.injEq] at hv
    rw [hk g (.inr ⟨_, hv.1, rfl⟩)]; exact hh
theorem RArena.fp {w : World} {base b : Nat} {l : List Itm} {S : Nat → Prop} (h : RArena w base b l S) : ∀ k, S k → base ≤ k ∧ k < w.heap.size := by
  obtain ⟨ao, cap, h, rfl⟩ := h
  rintro k (rfl | ⟨a, rfl, rfl⟩)
  · exact ⟨h.lo, (Array.getElem?_eq_some_iff.1 h.hdr).1⟩
  · exact h.own.lt _ rfl
theorem RArena.below {w w' : World} {base b : Nat} {l : List Itm} {S : Nat → Prop} (h : RArena w base b l S) (hb : Below w.heap.size w w') : RArena w' base b l S :=
  h.keep fun k hk => hb.block k (h.fp k hk).2
theorem RArena.keeps {w w' : World} {base b : Nat} {l : List Itm} {S T : Nat → Prop} (h : RArena w base b l S) (hb : Keeps T w w') (hd : ∀ k, S k → ¬ T k) : RArena w' base b l S :=
  h.keep fun k hk => hb.block k (h.fp k hk).2 (hd k hk)
theorem rcount_arena (base b : Nat) (l : List Itm) (S : Nat → Prop) (w : World) (h : RArena w base b l S) :
    Calls Tryz.prog 72 #[.pointer (some ⟨b, 0, none⟩)] w fun e w' => e = .returned (.int .i64 l.length) ∧ w = w' := by
  obtain ⟨ao, cap, h, rfl⟩ := h
  have c1 : w.cell? ⟨b, 0, none⟩ = some (.slice ao l.length cap) := by simp [World.cell?, h.hdr]
  go_enter Tryz.func72, Tryz.ntmps72
  go_wp2
  go_ret
  exact ⟨rfl, rfl⟩
set_option maxRecDepth 100000 in
set_option maxHeartbeats 3200000 in
theorem iradd_any (x : Itm) (base b n : Nat) (l : List Itm) (S : Nat → Prop) (w : World) (h : RArena w base b l S) (hbase : base ≤ w.heap.size) (hn : l.length = n) (hl : n < 1048576) :
    Calls Tryz.prog 100 #[.pointer (some ⟨b, 0, none⟩), .agg #[.string (x).key, .string (x).val, .int .u32 (x).flags, .int .u64 (x).id, .int .i64 (x).dies, .int .i64 (x).gen]] w fun e w' => e = .returned (.tuple #[.int .i64 (n + 1 : Nat), .int .i64 0]) ∧
      ∃ S', RArena w' base b (l ++ [x]) S' ∧ Keeps S w w' ∧ ∀ k, S' k → S k ∨ w.heap.size ≤ k := by
  obtain ⟨ao, cap, h, rfl⟩ := h
  subst hn
  have hb : b < w.heap.size := (Array.getElem?_eq_some_iff.1 h.hdr).1
  have hown := h.own
  have c1 : w.cell? ⟨b, 0, none⟩ = some (.slice ao l.length cap) := by simp [World.cell?, h.hdr]
  have c2 : (w.alloc (.cells x.cells.toArray 80)).cell? ⟨b, 0, none⟩ = some (.slice ao l.length cap) := by rw [World.cell?_alloc_past _ _ _ hb]; exact c1
  have f1 : w.frozen? ⟨b, 0, none⟩ = false := by simp [World.frozen?, h.hdr]
  have f2 : ∀ o, (w.alloc o).frozen? ⟨b, 0, none⟩ = false := fun o => by rw [World.frozen?_alloc_past _ _ _ hb]; exact f1
  have f3 : ∀ o o', ((w.alloc o).alloc o').frozen? ⟨b, 0, none⟩ = false := fun o o' => by rw [World.frozen?_alloc_past _ _ _ (by simp; omega)]; exact f2 o
  obtain ⟨x0, x1, x2, x3, x4, x5⟩ := (Box.new w x).cells
  obtain ⟨i0, hi0, hz0, hz1, hz2⟩ := info_parts info_item
  have HI := Lib.hid hi0; have HZ0 := Lib.hid hz0; have HZ1 := Lib.hid hz1; have HZ2 := Lib.hid hz2
  have e1 : decide ((1048576 : Int) ≤ (l.length : Int)) = false := by rw [decide_eq_false_iff_not]; omega
  have HLL := Lib.hid hl
  have e2 : l.length + 1 ≤ maxLen := by unfold maxLen; omega
  have e3 : (l.length + 1) * 64 ≤ 140737488355328 := by omega
  have E2 := Lib.hid e2
  have E3 := Lib.hid e3
  clear hl e2 e3
  have hno := h.no
  have hbne : w.heap.size ≠ b := by omega
  have hbne1 : w.heap.size + 1 ≠ b := by omega
  have hL := hown.lt
  clear hi0 hz0 hz1 hz2
  go_enter Tryz.func100, Tryz.ntmps100
  go_wp2_with fail
  have hnw : (((w.alloc (.cells x.cells.toArray 80)).drew).alloc (.cells x.cells.toArray 80)).heap[w.heap.size + 1]? = some (.cells x.cells.toArray 80 (0, 0)) := by
    have := heap_alloc_new ((w.alloc (.cells x.cells.toArray 80)).drew) (.cells x.cells.toArray 80)
    rw [show ((w.alloc (.cells x.cells.toArray 80)).drew).heap.size = w.heap.size + 1 by simp] at this
    exact this
  have HNW := Lib.hid hnw
  clear hnw
  have hW0 : Below w.heap.size w (((w.alloc (.cells x.cells.toArray 80)).drew).alloc (.cells x.cells.toArray 80)) :=
    (((Below.refl _ _).alloc (Nat.le_refl _) _).drew).alloc (by simp) _
  go_region_law ((refine step_append_lies _ (by rfl) _ _ _ (by rfl) base 80 i0 _ 6 64 Tryz.underlying24 HI.out HZ0.out HZ1.out HZ2.out rfl (by omega) (.slice ao l.length cap) l.length (l.flatMap Itm.cells) (by rfl) (((hown.alloc _).drew).alloc _) ⟨w.heap.size + 1, 0, none⟩ 1 1 x.cells (by rfl) (by rfl) (World.news_of_block (cs := x.cells.toArray) (t := 80) (fr := (0, 0)) HNW.out) (by simp [Itm.cells, Value.oneCell']) (by omega) E2.out E3.out (by simp; omega) (w.heap.size + 2) (by simp) ?_; intro g cap1 w1 hown1 hgrow hat hlt; have q0 : w1.heap[b]? = some (.cells #[.slice ao l.length cap] 223 (0, 0)) := (hgrow.block b (by simp; omega) (Ne.symm hno)).trans ((hW0.block b hb).trans h.hdr); have t0 : w1.cell? ⟨b, 0, none⟩ = some (.slice ao l.length cap) := (by simp [World.cell?, q0]); have t1 : w1.frozen? ⟨b, 0, none⟩ = false := (by simp [World.frozen?, q0])))
  all_goals
    have hK1 : Keeps (rarenaFp b ao) w w1 := (below_keeps hW0 _).again ⟨hgrow.os, hgrow.tape, hgrow.output, hgrow.size, fun k hk hn => hgrow.block k hk (fun c => hn (.inr (by
      cases ao with
      | none => simp [Value.ownBlock] at c
      | some a => simp [Value.ownBlock] at c; exact ⟨a, rfl, c.symm⟩)))⟩
    have hgb : g ≠ b := by rcases hat with h | h; exact (fun c => hno (c ▸ h)); omega
    have q3 := setCell_same q0 0 (.slice (some ⟨g, 0, none⟩) (l.length + 1) cap1)
    have hown2 := ownsRow_setCell_far (b := b) (o := 0) hown1 hgb (.slice (some ⟨g, 0, none⟩) (l.length + 1) cap1)
    have hK2 := hK1.again ((setCell_keeps w1 b 0 (.slice (some ⟨g, 0, none⟩) (l.length + 1) cap1)).mono (T := rarenaFp b ao) fun k _ h => .inl h)
    have hs : ∀ k, rarenaFp b (some ⟨g, 0, none⟩) k → rarenaFp b ao k ∨ w.heap.size ≤ k := by
      rintro k (hk | ⟨a, ha, hk⟩)
      · exact .inl (.inl hk)
      · simp only [Option.some.injEq] at ha
        subst ha
        rcases hat with hat | hat
        · cases ao with
          | none => simp [Value.ownBlock] at hat
          | some a => simp [Value.ownBlock] at hat; exact .inl (.inr ⟨a, rfl, hat.trans hk⟩)
        · exact .inr (by simp only at hk; omega)
    generalize World.setCell w1 _ _ = w2 at *
    have u0 : w2.cell? ⟨b, 0, none⟩ = some (.slice (some ⟨g, 0, none⟩) (l.length + 1) cap1) := by simp [World.cell?, q3]
    clear hgrow t0 t1 q0 hown1 hat hown HNW hW0 hK1
    go_wp2
    go_ret2
    exact ⟨rfl, _, ⟨some ⟨g, 0, none⟩, cap1, ⟨by simpa using q3, by simpa using hown2, h.lo, by simp [Value.ownBlock]; exact hgb⟩, rfl⟩, hK2, hs⟩
end Go.Proofs.YtmakjfeepmiggaaGreat
namespace Go.Proofs.YtmakjfeepmiggaaGreat
open Go.RowKit
set_option linter.unusedVariables false
theorem flat_get : ∀ (l : List Itm) (i f : Nat) (hi : i < l.length), f < 6 → (l.flatMap Itm.cells)[i * 6 + f]? = (l[i]).cells[f]?
  | x :: l, 0, f, _, hf => by
    rw [List.flatMap_cons, List.getElem?_append_left (by simp [Itm.cells]; omega)]
    simp
  | x :: l, i + 1, f, hi, hf => by
    have e : (i + 1) * 6 + f - (Itm.cells x).length = i * 6 + f := by simp [Itm.cells]; omega
    rw [List.flatMap_cons, List.getElem?_append_right (by simp [Itm.cells]; omega), e, flat_get l i f (by simpa using hi) hf]
    simp
set_option maxHeartbeats 800000 in
theorem rat_in (base b : Nat) (l : List Itm) (S : Nat → Prop) (r : Int) (x : Itm) (w : World) (h : RArena w base b l S) (hl : l.length ≤ 1048576) (h1 : 1 ≤ r) (h2 : l[(r - 1).toNat]? = some x) :
    Calls Tryz.prog 76 #[.pointer (some ⟨b, 0, none⟩), .int .i64 r] w fun e w' => e = .returned (.tuple #[.agg #[.string (x).key, .string (x).val, .int .u32 (x).flags, .int .u64 (x).id, .int .i64 (x).dies, .int .i64 (x).gen], .bool true]) ∧ Below w.heap.size w w' := by
  obtain ⟨ao, cap, h, rfl⟩ := h
  obtain ⟨h3, h4⟩ := List.getElem?_eq_some_iff.1 h2
  have hb : b < w.heap.size := (Array.getElem?_eq_some_iff.1 h.hdr).1
  have c0 : w.cell? ⟨b, 0, none⟩ = some (.slice ao l.length cap) := by simp [World.cell?, h.hdr]
  obtain ⟨n, hn⟩ : ∃ n : Nat, (r - 1).toNat = n := ⟨_, rfl⟩
  have hr : r - 1 = (n : Int) := by omega
  simp only [hn] at h3 h4
  rcases h.own.2 with ⟨_, hz⟩ | ⟨g, c, cur, hv, hg, hh, hnc, hcm, hcs, ht⟩
  · omega
  · simp only [Value.slice.injEq, true_and] at hv
    obtain ⟨rfl, rfl⟩ := hv
    have hgl : g < w.heap.size := (Array.getElem?_eq_some_iff.1 hh).1
    have hc : ∀ f, f < 6 → w.cell? ⟨g, n * 6 + f, none⟩ = x.cells[f]? := fun f hf => by
      rw [← h4, ← flat_get l n f h3 hf, ← ht, List.getElem?_take, if_pos (by omega)]
      simp [World.cell?, hh]
    have x0 : w.cell? ⟨g, n * 6, none⟩ = some (.string x.key) := hc 0 (by omega)
    have x1 : w.cell? ⟨g, n * 6 + 1, none⟩ = some (.string x.val) := hc 1 (by omega)
    have x2 : w.cell? ⟨g, n * 6 + 2, none⟩ = some (.int .u32 x.flags) := hc 2 (by omega)
    have x3 : w.cell? ⟨g, n * 6 + 3, none⟩ = some (.int .u64 x.id) := hc 3 (by omega)
    have x4 : w.cell? ⟨g, n * 6 + 4, none⟩ = some (.int .i64 x.dies) := hc 4 (by omega)
    have x5 : w.cell? ⟨g, n * 6 + 5, none⟩ = some (.int .i64 x.gen) := hc 5 (by omega)
    have d1 : decide (r < 1) = false := by simp; omega
    have d2 : decide ((l.length : Int) < r) = false := by simp; omega
    have HR := Lib.hid hr
    have d3 : (0 : Int) ≤ (n : Int) := by omega
    have d4 : (n : Int) < (l.length : Int) := by omega
    have d5 : r = (n : Int) + 1 := by omega
    clear hc hh ht hcs hcm h4 h2 hr hn
    subst d5
    go_enter Tryz.func76, Tryz.ntmps76
    go_wp2
    refine bodyPost_ret (v := .tuple #[.agg x.cells.toArray, .bool true]) (by simp [results, Tryz.results76, go_sem, Itm.cells]) rfl ⟨rfl, ?_⟩
    exact (Below.refl _ _).alloc (Nat.le_refl _) _
theorem rat_out (base b : Nat) (l : List Itm) (S : Nat → Prop) (r : Int) (w : World) (h : RArena w base b l S) (hr : ¬ (1 ≤ r ∧ r ≤ l.length)) :
    Calls Tryz.prog 76 #[.pointer (some ⟨b, 0, none⟩), .int .i64 r] w fun e w' => e = .returned (.tuple #[.agg #[.string ⟨#[]⟩, .string ⟨#[]⟩, .int .u32 0, .int .u64 0, .int .i64 0, .int .i64 0], .bool false]) ∧ Below w.heap.size w w' := by
  obtain ⟨ao, cap, h, rfl⟩ := h
  have hb : b < w.heap.size := (Array.getElem?_eq_some_iff.1 h.hdr).1
  have c0 : w.cell? ⟨b, 0, none⟩ = some (.slice ao l.length cap) := by simp [World.cell?, h.hdr]
  by_cases h1 : r < 1
  · go_enter Tryz.func76, Tryz.ntmps76
    go_wp2
    refine bodyPost_ret (v := .tuple #[.agg Itm.zero.cells.toArray, .bool false]) (by simp [results, Tryz.results76, go_sem, Itm.cells, Itm.zero]; rfl) rfl ⟨rfl, ?_⟩
    exact (Below.refl _ _).alloc (Nat.le_refl _) _
  · have h2 : 1 ≤ r := by omega
    have h3 : (l.length : Int) < r := by omega
    go_enter Tryz.func76, Tryz.ntmps76
    go_wp2
    refine bodyPost_ret (v := .tuple #[.agg Itm.zero.cells.toArray, .bool false]) (by simp [results, Tryz.results76, go_sem, Itm.cells, Itm.zero]; rfl) rfl ⟨rfl, ?_⟩
    exact (Below.refl _ _).alloc (Nat.le_refl _) _
end Go.Proofs.YtmakjfeepmiggaaGreat
namespace Go.Proofs.YtmakjfeepmiggaaGreat
open Go.RowKit
set_option linter.unusedVariables false
structure RWds (w : World) (a : Option Addr) (cap : Nat) (l : List (Int × Int)) : Prop where
  le : l.length ≤ cap
  most : cap ≤ maxLen
  wf : ∀ p ∈ l, (Lit.int .u64 p.1).wf = true ∧ (Lit.int .u64 p.2).wf = true
  cell : l = [] ∨ ∃ b off, a = some ⟨b, off, none⟩ ∧ ∀ i, (hi : i < l.length) → w.cell? ⟨b, off + i * 2, none⟩ = some (.int .u64 (l[i]).1) ∧ w.cell? ⟨b, off + i * 2 + 1, none⟩ = some (.int .u64 (l[i]).2)
theorem RWds.at {w : World} {a : Option Addr} {cap : Nat} {l : List (Int × Int)} (h : RWds w a cap l) (i : Nat) (hi : i < l.length) :
    ∃ b off x y, a = some ⟨b, off, none⟩ ∧ l[i]? = some (x, y) ∧ ((Lit.int .u64 x).wf = true ∧ (Lit.int .u64 y).wf = true) ∧ w.cell? ⟨b, off + i * 2, none⟩ = some (.int .u64 x) ∧ w.cell? ⟨b, off + i * 2 + 1, none⟩ = some (.int .u64 y) := by
  rcases h.cell with rfl | ⟨b, off, rfl, h5⟩
  · simp at hi
  · exact ⟨b, off, l[i].1, l[i].2, rfl, List.getElem?_eq_getElem hi, h.wf _ (List.getElem_mem hi), h5 i hi⟩
theorem RWds.below {w w' : World} {a : Option Addr} {cap : Nat} {l : List (Int × Int)} (h : RWds w a cap l) (hb : Below w.heap.size w w') : RWds w' a cap l := by
  refine ⟨h.le, h.most, h.wf, h.cell.imp id fun ⟨b, off, e, h5⟩ => ⟨b, off, e, fun i hi => ?_⟩⟩
  obtain ⟨h6, h7⟩ := h5 i hi
  exact ⟨(hb.cell (World.block_lt_of_cell? _ _ h6)).trans h6, (hb.cell (World.block_lt_of_cell? _ _ h7)).trans h7⟩
def rfold (l : List (Int × Int)) : List (Int × Int) := l.foldl (fun x p => rput x p.1 p.2) []
theorem rfold_take {l : List (Int × Int)} {k : Nat} {x y : Int} (h : l[k]? = some (x, y)) : rfold (l.take (k + 1)) = rput (rfold (l.take k)) x y := by
  unfold rfold; rw [List.take_add_one, h, List.foldl_append]; rfl
theorem rins_len' (l : List (Int × Int)) (a v : Int) : (rins l a v).length ≤ l.length + 1 := by
  induction l with
  | nil => unfold rins; split <;> simp
  | cons p r ih =>
    unfold rins
    split
    · simp only [List.length_cons]; omega
    · split <;> split <;> simp only [List.length_cons] <;> omega
theorem rfold_len (l : List (Int × Int)) : (rfold l).length ≤ l.length := by
  have key : ∀ (l o : List (Int × Int)), Ris o → (l.foldl (fun x p => rput x p.1 p.2) o).length ≤ o.length + l.length := by
    intro l
    induction l with
    | nil => intro o h; simp
    | cons p l ih =>
      intro o h
      have e := rput_ins h p.1 p.2
      have h1 := ih (rput o p.1 p.2) (by rw [e]; exact rins_ris h _ _)
      have h2 := rins_len' o p.1 p.2
      rw [← e] at h2
      simp only [List.foldl_cons, List.length_cons]; omega
  have := key l [] List.Pairwise.nil
  unfold rfold; simpa using this
theorem ris_eq : ∀ {l m : List (Int × Int)}, Ris l → Ris m → (∀ p ∈ l, p.2 ≠ 0) → (∀ p ∈ m, p.2 ≠ 0) → (∀ a, rlook l a = rlook m a) → l = m
  | [], [], _, _, _, _, _ => rfl
  | [], q :: m, _, _, _, hm, h => by
    have := h q.1
    rw [show rlook (q :: m) q.1 = q.2 by simp [rlook]] at this
    exact absurd this.symm (hm q (by simp))
  | p :: l, [], _, _, hl, _, h => by
    have := h p.1
    rw [show rlook (p :: l) p.1 = p.2 by simp [rlook]] at this
    exact absurd this (hl p (by simp))
  | p :: l, q :: m, rl, rm, hl, hm, h => by
    have rl2 := List.pairwise_cons.1 rl
    have rm2 := List.pairwise_cons.1 rm
    have e1 : p.1 = q.1 := by
      rcases Int.lt_trichotomy p.1 q.1 with hlt | heq | hgt
      · have h1 := h p.1
        rw [show rlook (p :: l) p.1 = p.2 by simp [rlook], rlook_out (l := q :: m) (fun x hx => by
          rcases List.mem_cons.1 hx with rfl | hx
          · omega
          · have := rm2.1 x hx; omega)] at h1
        exact absurd h1 (hl p (by simp))
      · exact heq
      · have h1 := h q.1
        rw [show rlook (q :: m) q.1 = q.2 by simp [rlook], rlook_out (l := p :: l) (fun x hx => by
          rcases List.mem_cons.1 hx with rfl | hx
          · omega
          · have := rl2.1 x hx; omega)] at h1
        exact absurd h1.symm (hm q (by simp))
    have e2 : p.2 = q.2 := by
      have h1 := h p.1
      rw [show rlook (p :: l) p.1 = p.2 by simp [rlook], show rlook (q :: m) p.1 = q.2 by rw [e1]; simp [rlook]] at h1
      exact h1
    have e3 : p = q := Prod.ext e1 e2
    subst e3
    rw [ris_eq rl2.2 rm2.2 (fun x hx => hl x (by simp [hx])) (fun x hx => hm x (by simp [hx])) (fun a => ?_)]
    by_cases ha : p.1 = a
    · rw [rlook_out (l := l) (fun x hx => by have := rl2.1 x hx; omega), rlook_out (l := m) (fun x hx => by have := rm2.1 x hx; omega)]
    · have h1 := h a
      rw [show rlook (p :: l) a = rlook l a by simp [rlook, ha], show rlook (p :: m) a = rlook m a by simp [rlook, ha]] at h1
      exact h1
set_option maxHeartbeats 1000000 in
theorem rnew_any (w : World) (ao : Option Addr) (cap : Nat) (l : List (Int × Int)) (h : RWds w ao cap l) (hsz : l.length ≤ 1000) : Calls Tryz.prog 123 #[.slice ao l.length cap] w
    fun e w' => e = .returned (.pointer (some ⟨w.heap.size, 0, none⟩)) ∧ (∃ lv, RCells w' w.heap.size w.heap.size lv ⟨rfold l, 0, 0, 0, 0, 0⟩) ∧ Below w.heap.size w w' := by
  have HP := Lib.hid h; have HM := Lib.hid hsz
  clear h hsz
  go_enter Tryz.func123, Tryz.ntmps123
  go_wp2
  go_loopw [4] (fun i wr => ∃ (k : Nat) (lv : Value), k ≤ l.length ∧ i = .int .i64 k ∧ RCells wr w.heap.size w.heap.size lv ⟨rfold (l.take k), 0, 0, 0, 0, 0⟩ ∧ Below w.heap.size w wr) (fun i _ => l.length - (intOf i).toNat)
  case atStart => exact ⟨0, .slice none 0 0, by omega, rfl, ⟨heap_alloc_new w _, Nat.le_refl _, World.ownsRow_nil _ _ _ _, fun p hp => by cases hp⟩, below_alloc' w _⟩
  case round =>
    obtain ⟨k, lv, hk, rfl, hR, hbl⟩ := hrel
    by_cases hlt : k < l.length
    · obtain ⟨b, off, x, y, rfl, hx, hw, c0, c1⟩ := (HP.out.below hbl).at k hlt
      have hlt' : (k : Int) < l.length := by have := HM.out; omega
      have hst := rfold_take hx
      have hml := HM.out
      have hfl := rfold_len (l.take k)
      rw [List.length_take] at hfl
      have hput := fun W (hb : Below wr.heap.size wr W) => rput_any W w.heap.size w.heap.size lv _ (hR.keep hb) (by have := HM.out; simp only; omega) (Nat.le_trans hbl.size hb.size) x y hw.1 hw.2
      have x0 := fun st : ExtW wr => st.cell c0
      have x1 := fun st : ExtW wr => st.cell c1
      have HPU := Lib.hid hput; have HS := Lib.hid hst; have HB := Lib.hid hbl
      clear hput hst hbl hR hx hw c0 c1 hfl
      go_wp2
      refine wp_region_ext_tail 11 (by kernel_rfl) (by kernel_rfl) ?_
      simp only [List.take_succ_cons, List.take_zero, List.drop_succ_cons, List.drop_zero]
      repeat (go_big_quiet_step (fail))
      refine wpQuiet_nil ?_
      rintro W ⟨⟨W2, hW⟩, rfl⟩
      clear x0 x1
      have hp := HPU.out W hW
      have HW := Lib.hid hW
      clear hW
      go_wp2_with (go_at_call 178; refine hp.mono ?_; rintro e w2 ⟨rfl, ⟨lv2, r2⟩, k2⟩)
      have hb2 : Below w.heap.size w w2 := keeps_below k2 (HB.out.trans (HW.out.mono HB.out.size)) (Nat.le_trans HB.out.size HW.out.size) (fun q hq => by rw [hq]; exact Nat.le_refl _)
      go_roundw
      case rel => exact ⟨k + 1, lv2, by omega, by go_num, by rw [HS.out]; exact r2, hb2⟩
      case measure => simp [intOf]; omega
    · obtain rfl : k = l.length := by omega
      rw [List.take_length] at hR
      have HR := Lib.hid hR; have HB := Lib.hid hbl
      clear hR hbl
      go_wp2
      go_ret
      exact ⟨rfl, ⟨lv, HR.out⟩, HB.out⟩
end Go.Proofs.YtmakjfeepmiggaaGreat
namespace Go.Proofs.YtmakjfeepmiggaaGreat
open Go.RowKit
set_option linter.unusedVariables false
set_option maxRecDepth 10000 in
set_option maxHeartbeats 2000000 in
theorem rmay_any (c : Conf) (w : World) : Calls Tryz.prog 44 #[.agg #[.int .i64 c.bits, .int .i64 c.budget, .int .i64 c.tries, .int .i64 c.quantum, .int .i64 c.way]] w fun e w' => e = .returned (.bool c.ok) ∧ Below w.heap.size w w' := by
  obtain ⟨b, g, t, q, y⟩ := c
  go_enter Tryz.func44, Tryz.ntmps44
  go_wp2
  all_goals go_ret
  all_goals (refine ⟨?_, below_alloc' _ _⟩)
  all_goals (first | (refine conf_false ?_; simp only [Conf.ok, Bool.and_eq_false_iff, decide_eq_false_iff_not] at *; omega) | (refine conf_true ?_; simp only [Conf.ok, Bool.and_eq_true, decide_eq_true_eq] at *; omega) | (refine congrArg (fun d => Ending.returned (.bool d)) (a₁ := decide (y ≤ 256)) ?_; rw [Bool.eq_iff_iff]; simp only [Conf.ok, Bool.and_eq_true, decide_eq_true_eq] at *; omega))
theorem rother_any (c : Conf) (w : World) : Calls Tryz.prog 45 #[.agg #[.int .i64 c.bits, .int .i64 c.budget, .int .i64 c.tries, .int .i64 c.quantum, .int .i64 c.way]] w fun e w' => e = .returned (.agg #[.int .i64 c.bits, .int .i64 c.budget, .int .i64 c.tries, .int .i64 c.quantum, .int .i64 c.way]) ∧ Below w.heap.size w w' := by
  go_enter Tryz.func45, Tryz.ntmps45
  go_wp2
  refine bodyPost_ret (v := .agg #[.int .i64 c.bits, .int .i64 c.budget, .int .i64 c.tries, .int .i64 c.quantum, .int .i64 c.way]) (by simp [results, Tryz.results45, go_sem]) rfl ⟨rfl, ?_⟩
  repeat (first | exact Below.refl _ _ | refine Below.setCell ?_ (by simp) _ | refine Below.alloc ?_ (by simp) _)
theorem heap_alloc_at (w : World) (o : Obj) {n : Nat} (h : n = w.heap.size) : (w.alloc o).heap[n]? = some o := by subst h; exact heap_alloc_new w o
theorem heap_alloc_old {w : World} {o x : Obj} {n : Nat} (h : w.heap[n]? = some x) : (w.alloc o).heap[n]? = some x := by
  have := (Array.getElem?_eq_some_iff.1 h).1
  rw [Below.heap_alloc _ _ _ this]; exact h
theorem heap_below {w w' : World} {x : Obj} {n : Nat} (hb : Below w.heap.size w w') (h : w.heap[n]? = some x) : w'.heap[n]? = some x := (hb.block n (Array.getElem?_eq_some_iff.1 h).1).trans h
theorem rwds_at {W : World} {b : Nat} {a v : Int} (ha : (Lit.int .u64 a).wf = true) (hv : (Lit.int .u64 v).wf = true) (h : W.heap[b]? = some (.cells #[.int .u64 a, .int .u64 v] 221 (0, 0))) : RWds W (some ⟨b, 0, none⟩) 1 [(a, v)] := by
  have k : ∀ o, W.cell? ⟨b, o, none⟩ = (#[.int .u64 a, .int .u64 v] : Array Value)[o]? := fun o => by unfold World.cell?; simp only; rw [h]; rfl
  refine ⟨by simp, by unfold maxLen; omega, fun p hp => ?_, .inr ⟨_, 0, rfl, fun i hi => ?_⟩⟩
  · simp only [List.mem_singleton] at hp; subst hp; exact ⟨ha, hv⟩
  · have : i = 0 := by simp at hi; omega
    subst this
    exact ⟨k 0, k 1⟩
theorem RCells.base {w : World} {base base' r : Nat} {lv : Value} {x : RS} (h : RCells w base r lv x) (hb : base' ≤ base) : RCells w base' r lv x := by
  refine ⟨h.hdr, Nat.le_trans hb h.lo, ⟨h.row.1, ?_⟩, h.wf⟩
  rcases h.row.2 with h2 | ⟨g, cap, cur, h3, h4, h5⟩
  · exact .inl h2
  · exact .inr ⟨g, cap, cur, h3, Nat.le_trans hb h4, h5⟩
structure FiveC (q : Nat) (c : Conf) (W : World) : Prop where
  hd : W.heap[q]? = some (.cells #[.int .i64 c.bits, .int .i64 c.budget, .int .i64 c.tries, .int .i64 c.quantum, .int .i64 c.way] 122 (0, 0))
theorem FiveC.cell {q : Nat} {c : Conf} {W : World} (h : FiveC q c W) : W.cell? ⟨q, 0, none⟩ = some (.int .i64 c.bits) ∧ W.cell? ⟨q, 1, none⟩ = some (.int .i64 c.budget) ∧ W.cell? ⟨q, 2, none⟩ = some (.int .i64 c.tries) ∧ W.cell? ⟨q, 3, none⟩ = some (.int .i64 c.quantum) ∧ W.cell? ⟨q, 4, none⟩ = some (.int .i64 c.way) := by
  have k : ∀ o, W.cell? ⟨q, o, none⟩ = (#[.int .i64 c.bits, .int .i64 c.budget, .int .i64 c.tries, .int .i64 c.quantum, .int .i64 c.way] : Array Value)[o]? := fun o => by unfold World.cell?; simp only; rw [h.hd]; rfl
  exact ⟨k 0, k 1, k 2, k 3, k 4⟩
abbrev Five (q : Nat) (c : Conf) (W : World) : Prop := W.cell? ⟨q, 0, none⟩ = some (.int .i64 c.bits) ∧ W.cell? ⟨q, 1, none⟩ = some (.int .i64 c.budget) ∧ W.cell? ⟨q, 2, none⟩ = some (.int .i64 c.tries) ∧ W.cell? ⟨q, 3, none⟩ = some (.int .i64 c.quantum) ∧ W.cell? ⟨q, 4, none⟩ = some (.int .i64 c.way)
theorem five_below {q : Nat} {c : Conf} {W W' : World} (hb : Below W.heap.size W W') (h : Five q c W) : Five q c W' := by
  obtain ⟨h0, h1, h2, h3, h4⟩ := h
  have k : ∀ o v, W.cell? ⟨q, o, none⟩ = some v → W'.cell? ⟨q, o, none⟩ = some v := fun o v hc => (hb.cell (World.block_lt_of_cell? _ _ hc)).trans hc
  exact ⟨k _ _ h0, k _ _ h1, k _ _ h2, k _ _ h3, k _ _ h4⟩
theorem five_alloc {q : Nat} {c : Conf} {W : World} {o : Obj} (h : Five q c W) : Five q c (W.alloc o) := five_below (below_alloc' W o) h
structure RWld (w0 w : World) (rb cr rib rnb : Nat) (c : Conf) (x : RS) : Prop where
  blk : w.heap[rb]? = some (.cells (worldV cr rib rnb c tk0 (-1)).toArray 160 (0, 0))
  lo : w0.heap.size ≤ rb
  ref : ∃ lv, RCells w w0.heap.size cr lv x
  items : w.heap[rib]? = some (.cells #[.slice none 0 0] 223 (0, 0))
  ilo : w0.heap.size ≤ rib
  notes : w.heap[rnb]? = some (.cells #[.slice none 0 0] 163 (0, 0))
  nlo : w0.heap.size ≤ rnb
noncomputable def rnewCells (cr rib rnb : Nat) (c : Conf) : Array Value :=
  (((((((((Tryz.zeroCells160.setIfInBounds 0 (.pointer (some ⟨cr, 0, none⟩))).setIfInBounds 1 (.pointer (some ⟨rib, 0, none⟩))).setIfInBounds 2 (.pointer (some ⟨rnb, 0, none⟩))).setIfInBounds 3 (.int .i64 c.bits)).setIfInBounds
    4 (.int .i64 c.budget)).setIfInBounds 5 (.int .i64 c.tries)).setIfInBounds 6 (.int .i64 c.quantum)).setIfInBounds 7 (.int .i64 c.way)).setIfInBounds 72 (.int .i64 (-1)))
theorem rnew_cells (cr rib rnb : Nat) (c : Conf) : rnewCells cr rib rnb c = (worldV cr rib rnb c tk0 (-1)).toArray := by
  kernel_rfl
theorem rwld_fin {w W4 : World} {cr rib rnb n : Nat} {lv : Value} (c : Conf) (x : RS) (e : n = W4.heap.size) (hr : RCells W4 w.heap.size cr lv x) (hi : W4.heap[rib]? = some (.cells #[.slice none 0 0] 223 (0, 0))) (hil : w.heap.size ≤ rib)
    (hn : W4.heap[rnb]? = some (.cells #[.slice none 0 0] 163 (0, 0))) (hnl : w.heap.size ≤ rnb) (hb : Below w.heap.size w W4) :
    RWld w (W4.alloc (.cells (rnewCells cr rib rnb c) 160)) n cr rib rnb c x ∧ Below w.heap.size w (W4.alloc (.cells (rnewCells cr rib rnb c) 160)) := by
  subst e
  refine ⟨⟨?_, hb.size, ⟨lv, hr.keep (below_alloc' _ _)⟩, heap_alloc_old hi, hil, heap_alloc_old hn, hnl⟩, hb.alloc hb.size _⟩
  rw [← rnew_cells]; exact heap_alloc_new _ _
set_option maxRecDepth 10000 in
set_option maxHeartbeats 1000000 in
theorem rnew10_any (c : Conf) (hc : c.ok = true) (w : World) : Calls Tryz.prog 46 #[.agg #[.int .i64 c.bits, .int .i64 c.budget, .int .i64 c.tries, .int .i64 c.quantum, .int .i64 c.way]] w fun e w' => ∃ rb cr rib rnb, e = .returned (.tuple #[.pointer (some ⟨rb, 0, none⟩), .int .i64 0]) ∧ RWld w w' rb cr rib rnb c ⟨rfold [(2, c.bits)], 0, 0, 0, 0, 0⟩ ∧ Below w.heap.size w w' := by
  have hbw : IntKind.u64.wrap c.bits = c.bits := by simp only [Conf.ok, Bool.and_eq_true, decide_eq_true_eq] at hc; rw [IntKind.wrap_u64]; omega
  have hwf : (Lit.int .u64 c.bits).wf = true := by
    have hmin : IntKind.u64.min = 0 := rfl
    have hmax : IntKind.u64.max = 18446744073709551615 := rfl
    simp only [Conf.ok, Bool.and_eq_true, decide_eq_true_eq] at hc
    simp only [Lit.wf, Bool.and_eq_true, decide_eq_true_eq]; omega
  have hm := rmay_any c
  rw [hc] at hm
  have HW := Lib.hid hwf
  clear hwf hc
  go_enter Tryz.func46, Tryz.ntmps46
  have hq := heap_alloc_new w (.cells #[.int .i64 c.bits, .int .i64 c.budget, .int .i64 c.tries, .int .i64 c.quantum, .int .i64 c.way] 122)
  have hB0 := below_alloc' w (.cells #[.int .i64 c.bits, .int .i64 c.budget, .int .i64 c.tries, .int .i64 c.quantum, .int .i64 c.way] 122)
  go_wp2_with (go_at_call 44; refine (hm _).mono ?_; rintro e w1 ⟨rfl, b1⟩)
  have hq1 := heap_below b1 hq
  have hB1 : Below w.heap.size w w1 := hB0.trans (b1.mono hB0.size)
  have h0 : w1.drew.cell? ⟨w.heap.size, 0, none⟩ = some (.int .i64 c.bits) ∧ w1.drew.cell? ⟨w.heap.size, 1, none⟩ = some (.int .i64 c.budget) ∧ w1.drew.cell? ⟨w.heap.size, 2, none⟩ = some (.int .i64 c.tries) ∧ w1.drew.cell? ⟨w.heap.size, 3, none⟩ = some (.int .i64 c.quantum) ∧ w1.drew.cell? ⟨w.heap.size, 4, none⟩ = some (.int .i64 c.way) := FiveC.cell (W := w1.drew) ⟨hq1⟩
  have hs1 : w.heap.size ≤ w1.heap.size := hB1.size
  have HB := Lib.hid hB1
  clear hq hB0 b1 hq1 hB1 hm
  go_region_held3 (fun W => W.cell? ⟨w.heap.size, 0, none⟩ = some (.int .i64 c.bits) ∧ W.cell? ⟨w.heap.size, 1, none⟩ = some (.int .i64 c.budget) ∧ W.cell? ⟨w.heap.size, 2, none⟩ = some (.int .i64 c.tries) ∧ W.cell? ⟨w.heap.size, 3, none⟩ = some (.int .i64 c.quantum) ∧ W.cell? ⟨w.heap.size, 4, none⟩ = some (.int .i64 c.way)) (first | exact h0 | assumption | exact five_alloc ‹_› | exact five_below ‹_› ‹_›) (first
    | (go_at_call 123; refine (rnew_any _ _ _ [(2, c.bits)] (rwds_at (by decide) HW.out (by repeat (first | exact heap_alloc_at _ _ (by simp) | refine heap_alloc_old ?_))) (by simp)).mono ?_; rintro e w5 ⟨rfl, ⟨lv5, r5⟩, b5⟩; have hs5 := b5.size; (try simp only [World.size_alloc, World.size_drew] at hs5 r5)))
  all_goals (try go_wp2)
  all_goals go_ret2
  all_goals (refine ⟨_, _, _, _, rfl, rwld_fin (lv := lv5) c _ ?_ ?_ ?_ ?_ ?_ ?_ ?_⟩)
  all_goals (first
    | rfl
    | (simp; done)
    | (exact RCells.base (r5.keep (by repeat (first | exact Below.refl _ _ | refine Below.alloc ?_ (by simp) _))) (by first | omega | (simp only [World.size_alloc, World.size_drew]; omega)))
    | ((repeat (first | exact heap_alloc_at _ _ (by simp) | refine heap_alloc_old ?_ | refine heap_below b5 ?_)); done)
    | ((repeat (first | exact HB.out | refine Below.drew ?_ | refine Below.alloc ?_ (by first | omega | (simp only [World.size_alloc]; omega)) _ | refine Below.trans ?_ (b5.mono (by first | omega | (simp only [World.size_alloc, World.size_drew]; omega))))); done)
    | omega | (simp only [World.size_alloc, World.size_drew]; omega))
end Go.Proofs.YtmakjfeepmiggaaGreat
namespace Go.Proofs.YtmakjfeepmiggaaGreat
open Go.RowKit Go.Maps
set_option linter.unusedVariables false
def wTy (T : TypeId) : Bool := T == 239 || T == 294 || T == 117 || T == 242 || T == 248 || T == 250 || T == 286 || T == 171
def rTy (T : TypeId) : Bool := T == 160 || T == 155 || T == 221 || T == 223 || T == 80 || T == 163 || T == 168
def wrTy (T : TypeId) : Bool := wTy T || rTy T
structure Fr (K : TypeId → Bool) (mp : Bool) (w w' : World) : Prop where
  size : w.heap.size ≤ w'.heap.size
  cells : ∀ (k : Nat) (cs : Array Value) (T : TypeId) (fr : Nat × Nat), w.heap[k]? = some (.cells cs T fr) → K T = false → w'.heap[k]? = some (.cells cs T fr)
  map : mp = false → ∀ (k : Nat) (es : Array MapEntry) (cl : Nat), w.heap[k]? = some (.map es cl) → w'.heap[k]? = some (.map es cl)
theorem Fr.refl (K : TypeId → Bool) (mp : Bool) (w : World) : Fr K mp w w := ⟨Nat.le_refl _, fun _ _ _ _ h _ => h, fun _ _ _ _ h => h⟩
theorem Fr.trans {K : TypeId → Bool} {mp : Bool} {a b c : World} (h : Fr K mp a b) (k : Fr K mp b c) : Fr K mp a c :=
  ⟨Nat.le_trans h.size k.size, fun i cs T fr hi hT => k.cells i cs T fr (h.cells i cs T fr hi hT) hT, fun hm i es cl hi => k.map hm i es cl (h.map hm i es cl hi)⟩
theorem Fr.mono {K K' : TypeId → Bool} {mp mp' : Bool} {a b : World} (h : Fr K mp a b) (hK : ∀ T, K' T = false → K T = false) (hm : mp' = false → mp = false) : Fr K' mp' a b :=
  ⟨h.size, fun i cs T fr hi hT => h.cells i cs T fr hi (hK T hT), fun h2 => h.map (hm h2)⟩
theorem below_fr {w w' : World} (h : Below w.heap.size w w') (K : TypeId → Bool) (mp : Bool) : Fr K mp w w' :=
  ⟨h.size, fun k cs T fr hk _ => (h.block k (Array.getElem?_eq_some_iff.1 hk).1).trans hk, fun _ k es cl hk => (h.block k (Array.getElem?_eq_some_iff.1 hk).1).trans hk⟩
theorem rest_fr {w w' : World} (h : Rest w w') (hs : w.heap.size ≤ w'.heap.size) : Fr wTy true w w' :=
  ⟨hs, fun k cs T fr hk hT => h k cs T fr hk (by unfold wTy at hT; simp only [Bool.or_eq_false_iff] at hT; exact hT.1.1.1.1.1.1.1) (by unfold wTy at hT; simp only [Bool.or_eq_false_iff] at hT; exact hT.1.1.1.1.1.1.2), fun h => by cases h⟩
theorem keeps_fr {S : Nat → Prop} {w w' : World} (h : Keeps S w w') (K : TypeId → Bool) (mp : Bool) (hs : ∀ k, S k → ∃ cs T fr, w.heap[k]? = some (.cells cs T fr) ∧ K T = true) : Fr K mp w w' := by
  refine ⟨h.size, fun k cs T fr hk hT => (h.block k (Array.getElem?_eq_some_iff.1 hk).1 fun c => ?_).trans hk, fun _ k es cl hk => (h.block k (Array.getElem?_eq_some_iff.1 hk).1 fun c => ?_).trans hk⟩
  · obtain ⟨cs2, T2, fr2, h2, h3⟩ := hs k c
    have := h2.symm.trans hk
    simp only [Option.some.injEq, Obj.cells.injEq] at this
    rw [this.2.1, hT] at h3; cases h3
  · obtain ⟨cs2, T2, fr2, h2, h3⟩ := hs k c
    have := h2.symm.trans hk
    cases this
theorem wr_of_w {w w' : World} (h : Fr wTy true w w') : Fr wrTy true w w' := h.mono (fun T hT => by unfold wrTy at hT; simp only [Bool.or_eq_false_iff] at hT; exact hT.1) (fun h => by cases h)
theorem wr_of_r {w w' : World} (h : Fr rTy false w w') : Fr wrTy true w w' := h.mono (fun T hT => by unfold wrTy at hT; simp only [Bool.or_eq_false_iff] at hT; exact hT.2) (fun h => by cases h)
theorem own_fr {K : TypeId → Bool} {mp : Bool} {w w' : World} {base e size n : Nat} {v : Value} {xs : List Value} (h : w.ownsRow base e size v n xs) (hf : Fr K mp w w') (he : K e = false) : w'.ownsRow base e size v n xs := by
  obtain ⟨h1, h2 | ⟨g, cap, cur, hv, hb1, hg, r⟩⟩ := h
  · exact ⟨h1, .inl h2⟩
  · exact ⟨h1, .inr ⟨g, cap, cur, hv, hb1, hf.cells _ _ _ _ hg he, r⟩⟩
theorem Arena.ty {w : World} {base b : Nat} {l : List Itm} {S : Nat → Prop} (h : Arena w base b l S) : ∀ k, S k → ∃ cs T, w.heap[k]? = some (.cells cs T (0, 0)) ∧ (T = 242 ∨ T = 248 ∨ T = 250) := by
  obtain ⟨ao, cap, ps, h, rfl⟩ := h
  rintro k (rfl | ⟨a, rfl, rfl⟩ | hk)
  · exact ⟨_, _, h.hdr, .inl rfl⟩
  · rcases h.own.2 with ⟨hn, _⟩ | ⟨g, c, cur, hv, hg, hh, r⟩
    · cases hn
    · simp only [Value.slice.injEq, Option.some.injEq] at hv
      rw [hv.1]
      exact ⟨_, _, hh, .inr (.inl rfl)⟩
  · obtain ⟨j, hj, rfl⟩ := List.mem_iff_getElem.1 hk
    obtain ⟨cs, h1, _⟩ := h.blk j hj
    exact ⟨_, _, h1, .inr (.inr rfl)⟩
theorem RArena.ty {w : World} {base b : Nat} {l : List Itm} {S : Nat → Prop} (h : RArena w base b l S) : ∀ k, S k → ∃ cs T, w.heap[k]? = some (.cells cs T (0, 0)) ∧ (T = 223 ∨ T = 80) := by
  obtain ⟨ao, cap, h, rfl⟩ := h
  rintro k (rfl | ⟨a, rfl, rfl⟩)
  · exact ⟨_, _, h.hdr, .inl rfl⟩
  · rcases h.own.2 with ⟨hn, _⟩ | ⟨g, c, cur, hv, hg, hh, r⟩
    · cases hn
    · simp only [Value.slice.injEq, Option.some.injEq] at hv
      rw [hv.1]
      exact ⟨_, _, hh, .inr rfl⟩
theorem Arena.fr {K : TypeId → Bool} {mp : Bool} {w w' : World} {base b : Nat} {l : List Itm} {S : Nat → Prop} (h : Arena w base b l S) (hf : Fr K mp w w') (h1 : K 242 = false) (h2 : K 248 = false) (h3 : K 250 = false) : Arena w' base b l S :=
  h.keep fun k hk => by
    obtain ⟨cs, T, he, hT⟩ := h.ty k hk
    rw [he]
    refine hf.cells _ _ _ _ he ?_
    rcases hT with rfl | rfl | rfl <;> assumption
theorem RArena.fr {K : TypeId → Bool} {mp : Bool} {w w' : World} {base b : Nat} {l : List Itm} {S : Nat → Prop} (h : RArena w base b l S) (hf : Fr K mp w w') (h1 : K 223 = false) (h2 : K 80 = false) : RArena w' base b l S :=
  h.keep fun k hk => by
    obtain ⟨cs, T, he, hT⟩ := h.ty k hk
    rw [he]
    refine hf.cells _ _ _ _ he ?_
    rcases hT with rfl | rfl <;> assumption
theorem Own.fr {K : TypeId → Bool} {w0 w w' : World} {b : Nat} {s : CS} (h : Own w0 w b s) (hf : Fr K false w w') (hB : Below w0.heap.size w0 w') (h1 : K 239 = false) (h2 : K 294 = false) : Own w0 w' b s := by
  obtain ⟨⟨S, hS⟩, _⟩ := h
  refine ⟨⟨S, hS.keep fun k hk => ?_⟩, hB⟩
  obtain ⟨mo, f, hA, rfl⟩ := hS
  rcases hk with rfl | hm | ⟨a, ha⟩
  · rw [hA.hdr]; exact hf.cells _ _ _ _ hA.hdr h1
  · obtain ⟨⟨D, ⟨es, cl, hb, _⟩, _⟩, _⟩ := hA.map k hm
    rw [hb]; exact hf.map rfl _ _ _ hb
  · have := (hA.ptr a k ha).1
    rw [this]; exact hf.cells _ _ _ _ this h2
structure Nte where
  step : Int
  thread : Int
  kind : Int
  ref : Int
  bits : Int
  bucket : Int
  slot : Int
  value : Int
def nteC (q : IntKind) (n : Nte) : List Value := [.int .i64 n.step, .int .i64 n.thread, .int q n.kind, .int .i64 n.ref, .int .i64 n.bits, .int .i64 n.bucket, .int .i64 n.slot, .int .i64 n.value]
def NL (w : World) (base nb TL TN : Nat) (q : IntKind) (l : List Nte) : Prop := ∃ v, w.heap[nb]? = some (.cells #[v] TL (0, 0)) ∧ base ≤ nb ∧ w.ownsRow base TN 8 v l.length (l.flatMap (nteC q))
theorem NL.fr {K : TypeId → Bool} {mp : Bool} {w w' : World} {base nb TL TN : Nat} {q : IntKind} {l : List Nte} (h : NL w base nb TL TN q l) (hf : Fr K mp w w') (h1 : K TL = false) (h2 : K TN = false) : NL w' base nb TL TN q l := by
  obtain ⟨v, h3, h4, h5⟩ := h
  exact ⟨v, hf.cells _ _ _ _ h3 h1, h4, own_fr h5 hf h2⟩
theorem NL.nil {w : World} {base nb TL : Nat} (TN : Nat) (q : IntKind) (h : w.heap[nb]? = some (.cells #[.slice none 0 0] TL (0, 0))) (hb : base ≤ nb) : NL w base nb TL TN q [] := ⟨_, h, hb, World.ownsRow_nil _ _ _ _⟩
structure WB where
  wb : Nat
  cb : Nat
  ib : Nat
  nb : Nat
structure WV where
  c : Conf
  its : List Itm
  nts : List Nte
  tk : List Int
  hd : Int
  fm : List (Nat × Array MapEntry × Nat)
def tkV (l : List Int) : List Value := l.map fun t => .int .u64 t
def WB.val (B : WB) (V : WV) : Array Value := (worldV B.cb B.ib B.nb V.c (tkV V.tk) V.hd).toArray
def FM (w : World) (cb : Nat) (l : List (Nat × Array MapEntry × Nat)) : Prop := ∀ q ∈ l, w.heap[q.1]? = some (.map q.2.1 q.2.2) ∧ w.cell? ⟨cb, 0, none⟩ ≠ some (.map (some q.1))
theorem own_hdr {w0 w : World} {b : Nat} {s : CS} (h : Own w0 w b s) : ∃ cs, w.heap[b]? = some (.cells cs 239 (0, 0)) := by
  obtain ⟨⟨S, mo, f, hA, rfl⟩, _⟩ := h
  exact ⟨_, hA.hdr⟩
theorem FM.fr {K : TypeId → Bool} {w0 w w' : World} {cb : Nat} {s : CS} {l : List (Nat × Array MapEntry × Nat)} (h : FM w cb l) (ho : Own w0 w cb s) (hf : Fr K false w w') (h1 : K 239 = false) : FM w' cb l := by
  obtain ⟨cs, hh⟩ := own_hdr ho
  have e : w'.cell? ⟨cb, 0, none⟩ = w.cell? ⟨cb, 0, none⟩ := by
    have := hf.cells _ _ _ _ hh h1
    unfold World.cell?; simp only; rw [this, hh]
  exact fun q hq => ⟨hf.map rfl _ _ _ (h q hq).1, by rw [e]; exact (h q hq).2⟩
theorem cells_out {w : World} {base b : Nat} {mo : Option Nat} {f : Int → Option Nat} {s : CS} (hC : CellsAt w base b mo f s) {k cl : Nat} {es : Array MapEntry} (h1 : w.heap[k]? = some (.map es cl)) (h2 : w.cell? ⟨b, 0, none⟩ ≠ some (.map (some k))) : ¬ cellsFp b mo f k := by
  rintro (e | e | ⟨a, e⟩)
  · rw [e, hC.hdr] at h1; cases h1
  · exact h2 (by simp [World.cell?, hC.hdr, hdrC, e])
  · have := (hC.ptr a _ e).1; rw [h1] at this; cases this
theorem FM.acc {w w' : World} {base b : Nat} {s s' : CS} {S : Nat → Prop} {l : List (Nat × Array MapEntry × Nat)} (h : FM w b l) (hS : Cells w base b s S) (hA : Acc w base b s' S w') : FM w' b l := by
  obtain ⟨mo, f, hC, rfl⟩ := hS
  obtain ⟨S', ⟨mo', f', hC', rfl⟩, hk, hs⟩ := hA
  intro q hq
  obtain ⟨h1, h2⟩ := h q hq
  have hns := cells_out hC h1 h2
  have hlt := (Array.getElem?_eq_some_iff.1 h1).1
  have e := hk.block q.1 hlt hns
  refine ⟨e.trans h1, fun c => ?_⟩
  have e2 : w'.cell? ⟨b, 0, none⟩ = some (.map mo') := by simp [World.cell?, hC'.hdr, hdrC]
  rw [e2] at c
  simp only [Option.some.injEq, Value.map.injEq] at c
  rcases hs q.1 (.inr (.inl c)) with x | x
  · exact hns x
  · omega
theorem FM.nil (w : World) (b : Nat) : FM w b [] := fun q hq => (by cases hq)
structure WS (w0 w : World) (B : WB) (V : WV) (s : CS) : Prop where
  own : Own w0 w B.cb s
  blk : w.heap[B.wb]? = some (.cells (B.val V) 117 (0, 0))
  lo : w0.heap.size ≤ B.wb
  ar : ∃ S, Arena w w0.heap.size B.ib V.its S
  nt : NL w w0.heap.size B.nb 286 171 .u8 V.nts
  tkl : V.tk.length = 64
  fmk : FM w B.cb V.fm
structure RD (w0 w : World) (B : WB) (V : WV) (x : RS) : Prop where
  below : Below w0.heap.size w0 w
  ref : ∃ lv, RCells w w0.heap.size B.cb lv x
  blk : w.heap[B.wb]? = some (.cells (B.val V) 160 (0, 0))
  lo : w0.heap.size ≤ B.wb
  ar : ∃ S, RArena w w0.heap.size B.ib V.its S
  nt : NL w w0.heap.size B.nb 163 168 .i64 V.nts
  tkl : V.tk.length = 64
section
variable {w0 w w' : World} {B : WB} {V : WV} {s s' : CS} {x x' : RS}
theorem WS.below (h : WS w0 w B V s) : Below w0.heap.size w0 w := h.own.below
theorem WS.wld (h : WS w0 w B V s) : Wld w0 w B.wb B.cb V.c s := ⟨h.own, B.ib, B.nb, tkV V.tk, V.hd, h.blk⟩
theorem WS.fr {K : TypeId → Bool} (h : WS w0 w B V s) (hf : Fr K false w w') (hK : ∀ T, wTy T = true → K T = false) (hB : Below w0.heap.size w0 w') : WS w0 w' B V s := by
  obtain ⟨S, ha⟩ := h.ar
  exact ⟨h.own.fr hf hB (hK _ rfl) (hK _ rfl), hf.cells _ _ _ _ h.blk (hK _ rfl), h.lo, ⟨S, ha.fr hf (hK _ rfl) (hK _ rfl) (hK _ rfl)⟩, h.nt.fr hf (hK _ rfl) (hK _ rfl), h.tkl, h.fmk.fr h.own hf (hK _ rfl)⟩
theorem WS.keep (h : WS w0 w B V s) (hb : Below w.heap.size w w') : WS w0 w' B V s :=
  h.fr (below_fr hb (fun _ => false) false) (fun _ _ => rfl) (h.below.trans (hb.mono h.below.size))
theorem w_not_r (T : TypeId) (h : wTy T = true) : rTy T = false := by
  unfold wTy at h
  simp only [Bool.or_eq_true, beq_iff_eq] at h
  rcases h with ((((((rfl | rfl) | rfl) | rfl) | rfl) | rfl) | rfl) | rfl <;> rfl
theorem r_not_w (T : TypeId) (h : rTy T = true) : wTy T = false := by
  cases hw : wTy T
  · rfl
  · rw [w_not_r T hw] at h; cases h
theorem WS.byr (h : WS w0 w B V s) (hf : Fr rTy false w w') (hB : Below w0.heap.size w0 w') : WS w0 w' B V s := h.fr hf w_not_r hB
theorem WS.acc (h : WS w0 w B V s) (ho : Own w0 w' B.cb s') (hr : Rest w w') (hs : w.heap.size ≤ w'.heap.size) (hfm : FM w' B.cb V.fm) : WS w0 w' B V s' ∧ Fr wTy true w w' := by
  obtain ⟨S, ha⟩ := h.ar
  have hf : Fr (fun T => T == 239 || T == 294) true w w' := ⟨hs, fun k cs T fr hk hT => by simp only [Bool.or_eq_false_iff] at hT; exact hr k cs T fr hk hT.1 hT.2, fun h => by cases h⟩
  exact ⟨⟨ho, hf.cells _ _ _ _ h.blk rfl, h.lo, ⟨S, ha.fr hf rfl rfl rfl⟩, h.nt.fr hf rfl rfl, h.tkl, hfm⟩, rest_fr hr hs⟩
theorem RD.fr {K : TypeId → Bool} {mp : Bool} (h : RD w0 w B V x) (hf : Fr K mp w w') (hK : ∀ T, rTy T = true → K T = false) (hB : Below w0.heap.size w0 w') : RD w0 w' B V x := by
  obtain ⟨S, ha⟩ := h.ar
  obtain ⟨lv, hr⟩ := h.ref
  exact ⟨hB, ⟨lv, hf.cells _ _ _ _ hr.hdr (hK _ rfl), hr.lo, own_fr hr.row hf (hK _ rfl), hr.wf⟩, hf.cells _ _ _ _ h.blk (hK _ rfl), h.lo, ⟨S, ha.fr hf (hK _ rfl) (hK _ rfl)⟩, h.nt.fr hf (hK _ rfl) (hK _ rfl), h.tkl⟩
theorem RD.keep (h : RD w0 w B V x) (hb : Below w.heap.size w w') : RD w0 w' B V x :=
  h.fr (below_fr hb (fun _ => false) false) (fun _ _ => rfl) (h.below.trans (hb.mono h.below.size))
theorem RD.byw (h : RD w0 w B V x) (hf : Fr wTy true w w') (hB : Below w0.heap.size w0 w') : RD w0 w' B V x := h.fr hf r_not_w hB
theorem RD.acc (h : RD w0 w B V x) (hr : ∃ lv, RCells w' w0.heap.size B.cb lv x') (hk : Keeps (· = B.cb) w w') : RD w0 w' B V x' ∧ Fr rTy false w w' := by
  obtain ⟨S, ha⟩ := h.ar
  obtain ⟨lv, hr0⟩ := h.ref
  have hf : Fr (fun T => T == 155) false w w' := keeps_fr hk _ _ fun k e => ⟨_, _, _, e ▸ hr0.hdr, rfl⟩
  refine ⟨⟨keeps_below hk h.below h.below.size fun k e => e ▸ hr0.lo, hr, hf.cells _ _ _ _ h.blk rfl, h.lo, ⟨S, ha.fr hf rfl rfl⟩, h.nt.fr hf rfl rfl, h.tkl⟩, hf.mono (fun T hT => ?_) id⟩
  unfold rTy at hT; simp only [Bool.or_eq_false_iff] at hT; exact hT.1.1.1.1.1.2
theorem WS.set (h : WS w0 w B V s) (o : Nat) (v : Value) (V' : WV) (hv : (B.val V).setIfInBounds o v = B.val V') (hi : V'.its = V.its) (hn : V'.nts = V.nts) (ht : V'.tk.length = 64) (hq : V'.fm = V.fm := by rfl) :
    WS w0 (w.setCell ⟨B.wb, o, none⟩ v) B V' s ∧ Fr wTy true w (w.setCell ⟨B.wb, o, none⟩ v) := by
  obtain ⟨S, ha⟩ := h.ar
  have hk := setCell_keeps w B.wb o v
  have hB : Below w0.heap.size w0 (w.setCell ⟨B.wb, o, none⟩ v) := keeps_below hk h.below h.below.size fun k e => e ▸ h.lo
  have hf : Fr (fun T => T == 117) false w (w.setCell ⟨B.wb, o, none⟩ v) := keeps_fr hk _ _ fun k e => ⟨_, _, _, e ▸ h.blk, rfl⟩
  refine ⟨⟨h.own.fr hf hB rfl rfl, by rw [← hv]; exact setCell_same h.blk o v, h.lo, ⟨S, hi ▸ ha.fr hf rfl rfl rfl⟩, hn ▸ h.nt.fr hf rfl rfl, ht, hq ▸ h.fmk.fr h.own hf rfl⟩, hf.mono (fun T hT => ?_) (fun h => by cases h)⟩
  unfold wTy at hT; simp only [Bool.or_eq_false_iff] at hT; exact hT.1.1.1.1.1.2
theorem RD.set (h : RD w0 w B V x) (o : Nat) (v : Value) (V' : WV) (hv : (B.val V).setIfInBounds o v = B.val V') (hi : V'.its = V.its) (hn : V'.nts = V.nts) (ht : V'.tk.length = 64) :
    RD w0 (w.setCell ⟨B.wb, o, none⟩ v) B V' x ∧ Fr rTy false w (w.setCell ⟨B.wb, o, none⟩ v) := by
  obtain ⟨S, ha⟩ := h.ar
  obtain ⟨lv, hr⟩ := h.ref
  have hk := setCell_keeps w B.wb o v
  have hB : Below w0.heap.size w0 (w.setCell ⟨B.wb, o, none⟩ v) := keeps_below hk h.below h.below.size fun k e => e ▸ h.lo
  have hf : Fr (fun T => T == 160) false w (w.setCell ⟨B.wb, o, none⟩ v) := keeps_fr hk _ _ fun k e => ⟨_, _, _, e ▸ h.blk, rfl⟩
  refine ⟨⟨hB, ⟨lv, hf.cells _ _ _ _ hr.hdr rfl, hr.lo, own_fr hr.row hf rfl, hr.wf⟩, by rw [← hv]; exact setCell_same h.blk o v, h.lo, ⟨S, hi ▸ ha.fr hf rfl rfl⟩, hn ▸ h.nt.fr hf rfl rfl, ht⟩, hf.mono (fun T hT => ?_) id⟩
  unfold rTy at hT; simp only [Bool.or_eq_false_iff] at hT; exact hT.1.1.1.1.1.1
theorem WS.cell (h : WS w0 w B V s) (o : Nat) : w.cell? ⟨B.wb, o, none⟩ = (B.val V)[o]? := by unfold World.cell?; simp only; rw [h.blk]; rfl
theorem RD.cell (h : RD w0 w B V x) (o : Nat) : w.cell? ⟨B.wb, o, none⟩ = (B.val V)[o]? := by unfold World.cell?; simp only; rw [h.blk]; rfl
theorem val_at (B : WB) (V : WV) (ht : V.tk.length = 64) : (B.val V)[0]? = some (.pointer (some ⟨B.cb, 0, none⟩)) ∧ (B.val V)[1]? = some (.pointer (some ⟨B.ib, 0, none⟩)) ∧ (B.val V)[2]? = some (.pointer (some ⟨B.nb, 0, none⟩)) ∧
    (B.val V)[3]? = some (.int .i64 V.c.bits) ∧ (B.val V)[4]? = some (.int .i64 V.c.budget) ∧ (B.val V)[72]? = some (.int .i64 V.hd) := by
  refine ⟨rfl, rfl, rfl, rfl, rfl, ?_⟩
  unfold WB.val worldV
  have e : ([Value.pointer (some ⟨B.cb, 0, none⟩), .pointer (some ⟨B.ib, 0, none⟩), .pointer (some ⟨B.nb, 0, none⟩)] ++ V.c.cells ++ tkV V.tk).length = 72 := by simp [Conf.cells, tkV, ht]
  rw [List.getElem?_toArray, List.getElem?_append_right (by omega), e]
  rfl
theorem val_tkat (B : WB) (V : WV) (ht : V.tk.length = 64) (t : Nat) (htt : t < 64) : (B.val V)[8 + t]? = some (.int .u64 (V.tk.getD t 0)) := by
  unfold WB.val worldV
  have e : ([Value.pointer (some ⟨B.cb, 0, none⟩), .pointer (some ⟨B.ib, 0, none⟩), .pointer (some ⟨B.nb, 0, none⟩)] ++ V.c.cells).length = 8 := by simp [Conf.cells]
  rw [List.getElem?_toArray, List.append_assoc, List.getElem?_append_right (by omega), e, show 8 + t - 8 = t by omega, List.getElem?_append_left (by simp [tkV, ht, htt])]
  simp [tkV, show t < V.tk.length by omega]
end
theorem WS.more {w0 w : World} {B : WB} {V : WV} {s : CS} (h : WS w0 w B V s) {m cl : Nat} {es : Array MapEntry} (hm : w.heap[m]? = some (.map es cl)) (hne : w.cell? ⟨B.cb, 0, none⟩ ≠ some (.map (some m))) : WS w0 w B { V with fm := (m, es, cl) :: V.fm } s :=
  ⟨h.own, h.blk, h.lo, h.ar, h.nt, h.tkl, fun q hq => by
    rcases List.mem_cons.1 hq with rfl | hq
    · exact ⟨hm, hne⟩
    · exact h.fmk q hq⟩
theorem WS.less {w0 w : World} {B : WB} {V : WV} {s : CS} (h : WS w0 w B V s) (l : List (Nat × Array MapEntry × Nat)) (hl : ∀ q ∈ l, q ∈ V.fm) : WS w0 w B { V with fm := l } s := ⟨h.own, h.blk, h.lo, h.ar, h.nt, h.tkl, fun q hq => h.fmk q (hl q hq)⟩
theorem WS.apart {w0 w : World} {B : WB} {V : WV} {s : CS} (h : WS w0 w B V s) {m : Nat} (hm : w.heap.size ≤ m) : w.cell? ⟨B.cb, 0, none⟩ ≠ some (.map (some m)) := by
  obtain ⟨⟨S, mo, f, hA, rfl⟩, _⟩ := h.own
  intro c
  have e2 : w.cell? ⟨B.cb, 0, none⟩ = some (.map mo) := by simp [World.cell?, hA.hdr, hdrC]
  rw [e2] at c
  simp only [Option.some.injEq, Value.map.injEq] at c
  have := (hA.map m c).1.lt
  omega
structure Pr (w0 w : World) (B R : WB) (V : WV) (s : CS) (x : RS) : Prop where
  ws : WS w0 w B V s
  rd : RD w0 w R V x
  al : Alike s x
theorem Pr.keep {w0 w w' : World} {B R : WB} {V : WV} {s : CS} {x : RS} (h : Pr w0 w B R V s x) (hb : Below w.heap.size w w') : Pr w0 w' B R V s x := ⟨h.ws.keep hb, h.rd.keep hb, h.al⟩
end Go.Proofs.YtmakjfeepmiggaaGreat