/-
  The walk of CellsPlay.
-/
import Derived.Test.YtpceooniklpidaaSame05
import Derived.Test.YtpceooniklpidaaCellsActs
import Derived.Laws.AppendOwnNone
import Derived.Test.YtpceooniklpidaaSegs
import Derived.Deep.RegionHeld3
namespace Go.Proofs.Ytpceooniklpidaa
open Go.RowKit Go.Maps
set_option linter.unusedVariables false

def wdLeaves : List Leaf := [.int .u64, .int .u64]
theorem wd_of {w : World} {cs : List Value} (h : Leaf.allHold w wdLeaves cs) : ∃ p : Int × Int, cs = [.int .u64 p.1, .int .u64 p.2] ∧ (Lit.int .u64 p.1).wf = true ∧ (Lit.int .u64 p.2).wf = true := by
  obtain ⟨c0, r, rfl, g0, h⟩ := allHold_cons h
  obtain ⟨c1, r, rfl, g1, h⟩ := allHold_cons h
  obtain rfl := allHold_nil h
  obtain ⟨n0, rfl, w0⟩ := holds_int g0
  obtain ⟨n1, rfl, w1⟩ := holds_int g1
  exact ⟨(n0, n1), rfl, w0, w1⟩
theorem rwds_of {w : World} {a : Option Addr} {n cap : Nat} (h : Leaf.holds w (.sl wdLeaves) (.slice a n cap)) : ∃ l : List (Int × Int), l.length = n ∧ RWds w a cap l ∧ (a = none → cap = 0) := by
  obtain ⟨l, a', cap', hv, h1, h2, h3, h4, h5⟩ := recs_of h
  simp only [Value.slice.injEq] at hv
  obtain ⟨rfl, rfl, rfl⟩ := hv
  obtain ⟨m, hm, hp⟩ := list_of (fun i (x : Int × Int) => l[i]? = some [.int .u64 x.1, .int .u64 x.2] ∧ (Lit.int .u64 x.1).wf = true ∧ (Lit.int .u64 x.2).wf = true) l.length (fun i hi => by
    obtain ⟨x, hx, hw⟩ := wd_of (h4 _ (List.getElem_mem hi))
    exact ⟨x, by rw [List.getElem?_eq_getElem hi, hx], hw⟩)
  refine ⟨m, hm, ⟨by omega, h2, fun x hx => ?_, ?_⟩, h3⟩
  · obtain ⟨i, hi, rfl⟩ := List.mem_iff_getElem.1 hx
    exact (hp i hi).2
  · rcases h5 with rfl | ⟨b, off, rfl, h5⟩
    · left; exact List.eq_nil_of_length_eq_zero (by simpa using hm)
    · refine .inr ⟨b, off, rfl, fun i hi => ?_⟩
      have h7 := (hp i hi).1
      rw [List.getElem?_eq_getElem (by omega)] at h7
      simp only [Option.some.injEq] at h7
      have a0 := h5 i (by omega) 0 (by decide)
      have a1 := h5 i (by omega) 1 (by decide)
      rw [h7] at a0 a1
      exact ⟨a0, by rw [Nat.add_assoc]; exact a1⟩

theorem flat2_one (l : List (Int × Int)) : ∀ u ∈ flat2 l, u.oneCell' = true := by
  intro u hu
  simp only [flat2, List.mem_flatMap] at hu
  obtain ⟨p, _, hp⟩ := hu
  simp at hp
  rcases hp with rfl | rfl <;> rfl
theorem RWds.news {w : World} {ad : Addr} {cap : Nat} {l : List (Int × Int)} (h : RWds w (some ad) cap l) : ∀ j u, (flat2 l)[j]? = some u → w.cell? (ad.add j) = some u := by
  intro j u hj
  have hjl : j < l.length * 2 := by have := (List.getElem?_eq_some_iff.1 hj).1; rwa [flat2_len] at this
  rcases h.cell with rfl | ⟨b, off, e, h5⟩
  · simp at hjl
  · cases e
    have hi : j / 2 < l.length := by omega
    obtain ⟨f0, f1⟩ := flat2_at l (j / 2) hi
    obtain ⟨c0, c1⟩ := h5 (j / 2) hi
    rw [radd_plain]
    rcases (by omega : j = j / 2 * 2 ∨ j = j / 2 * 2 + 1) with e | e
    · have e2 : off + j = off + j / 2 * 2 := by omega
      rw [e] at hj
      rw [f0] at hj
      rw [e2, c0]; exact hj
    · have e2 : off + j = off + j / 2 * 2 + 1 := by omega
      rw [e] at hj
      rw [f1] at hj
      rw [e2, c1]; exact hj
theorem append_words {ops : Array Oper} {rest : List Oper} {o : Oper} {a : Act} {Q : Exit → Act → World → Prop} {w : World} (hgd : o.guard = none) (s x : Operand)
    (ho : o.op = .call { callee := .builtin .append, args := #[s, x], argTypes := #[113, 113] }) (l : List (Int × Int)) (ao : Option Addr) (cap : Nat)
    (hs : a.eval s = .slice none 0 0) (hx : a.eval x = .slice ao l.length cap) (h : RWds w ao cap l) (hn : ao = none → cap = 0) (hl : l.length ≤ 1000000)
    (K : ∀ v' w', w'.ownsRow w.heap.size 116 2 v' l.length (flat2 l) → Below w.heap.size w w' → wpList Try.prog ops Q rest (a.put o.dst v') w') : wpList Try.prog ops Q (o :: rest) a w := by
  obtain ⟨i0, hi0, hz0, hz1, hz2⟩ := info_parts info_cword
  cases ao with
  | none =>
    have hc := hn rfl
    have hl0 := h.le
    have h0 : l = [] := List.length_eq_zero_iff.1 (by omega)
    subst h0 hc
    refine wpList_append_own_none hgd s x _ ho w.heap.size 116 i0 2 Try.underlying113 hi0 _ 0 [] hs (World.ownsRow_nil _ _ _ _) hx (K _ _ (World.ownsRow_nil _ _ _ _) (Below.refl _ _))
  | some ad =>
    refine wpList_append_own _ hgd s x _ ho w.heap.size 116 i0 (.agg #[.int .u64 0, .int .u64 0]) 2 16 Try.underlying113 hi0 hz0 hz1 hz2 rfl (by decide) (.slice none 0 0) 0 [] hs (World.ownsRow_nil _ _ _ _) ad l.length cap (flat2 l) hx (flat2_len l) h.news (flat2_one l) (by unfold maxLen; omega) (by omega) (Nat.le_refl _) fun v' w' h1 h2 _ => ?_
    rw [Nat.zero_add, List.nil_append] at h1
    exact K v' w' h1 ((Below.refl _ w).grown h2 (Nat.le_refl _) (fun j hj => by simp [Value.ownBlock] at hj))
theorem rwds_own {w : World} {base e : Nat} {v : Value} {l : List (Int × Int)} (h : w.ownsRow base e 2 v l.length (flat2 l)) (hw : ∀ p ∈ l, (Lit.int .u64 p.1).wf = true ∧ (Lit.int .u64 p.2).wf = true) : ∃ a cap, v = .slice a l.length cap ∧ RWds w a cap l ∧ (a = none → cap = 0) ∧ (a = none ∨ ∃ g, a = some ⟨g, 0, none⟩) ∧
    (0 < l.length → ∃ g cur, a = some ⟨g, 0, none⟩ ∧ base ≤ g ∧ w.heap[g]? = some (.cells cur e (0, 0)) ∧ l.length * 2 ≤ cur.size) := by
  obtain ⟨h1, ⟨rfl, h0⟩ | ⟨g, cap, cur, rfl, hb, hg, hn, hm, hs, ht⟩⟩ := h
  · have : l = [] := List.length_eq_zero_iff.1 h0
    subst this
    exact ⟨none, 0, rfl, ⟨Nat.le_refl _, Nat.zero_le _, hw, .inl rfl⟩, fun _ => rfl, .inl rfl, fun h => by simp at h⟩
  · refine ⟨_, cap, rfl, ⟨hn, hm, hw, .inr ⟨g, 0, rfl, fun i hi => ?_⟩⟩, fun h => by simp at h, .inr ⟨g, rfl⟩, fun _ => ⟨g, cur, rfl, hb, hg, by omega⟩⟩
    obtain ⟨f0, f1⟩ := flat2_at l i hi
    rw [← ht, List.getElem?_take, if_pos (by omega)] at f0 f1
    simp only [Array.getElem?_toList] at f0 f1
    simp [World.cell?, hg, f0, f1]
theorem new_any (w : World) (a : Option Addr) (cap : Nat) (l : List (Int × Int)) (h : RWds w a cap l) (hn : a = none → cap = 0) (hf : a = none ∨ ∃ g, a = some ⟨g, 0, none⟩) (hlim : l.length < lim) :
    Calls Try.prog 48 #[.slice a l.length cap] w fun e w' => ∃ b S, e = .returned (.pointer (some ⟨b, 0, none⟩)) ∧ Cells w' w.heap.size b (CS.init l) S ∧ Below w.heap.size w w' := by
  cases a with
  | none =>
    have hc := hn rfl
    have hl0 := h.le
    have h0 : l = [] := List.length_eq_zero_iff.1 (by omega)
    subst h0 hc
    exact new_nil w
  | some ad =>
    obtain ⟨g, e⟩ := hf.resolve_left (by simp)
    cases e
    refine new_words w g 0 cap l h.le h.most hlim (fun k hk => ?_) h.wf
    rcases h.cell with rfl | ⟨b, off, e, h5⟩
    · simp at hk
    · cases e
      exact h5 k hk

theorem init_alike (l : List (Int × Int)) : Alike (CS.init l) ⟨rfold l, 0, 0, 0, 0, 0⟩ := by
  have key : ∀ (l o : List (Int × Int)) (s : CS), s.val = rlook o → Ris o → (∀ p ∈ o, p.2 ≠ 0) →
      (l.foldl (fun s p => s.set p.1 p.2) s).val = rlook (l.foldl (fun x p => rput x p.1 p.2) o) ∧ ∀ p ∈ l.foldl (fun x p => rput x p.1 p.2) o, p.2 ≠ 0 := by
    intro l
    induction l with
    | nil => intro o s h _ h2; exact ⟨h, h2⟩
    | cons q l ih =>
      intro o s h hr hz
      have e := rput_ins hr q.1 q.2
      refine ih (rput o q.1 q.2) (s.set q.1 q.2) ?_ (by rw [e]; exact rins_ris hr _ _) (fun p hp => ?_)
      · show upd s.val q.1 q.2 = _
        rw [e, rlook_ins hr, h]
      · rw [e] at hp
        rcases rins_mem hp with hp | ⟨rfl, hv⟩
        · exact hz p hp
        · exact hv
  obtain ⟨h1, h2⟩ := key l [] CS.zero rfl List.Pairwise.nil (fun p hp => by cases hp)
  have hn := CS.init_n l
  exact ⟨h1, rfold_ris l, h2, hn.2.1, hn.2.2.1, hn.2.2.2.1, hn.2.2.2.2.1, hn.2.2.2.2.2⟩
theorem Both.other {w0 w w' : World} {cb r q : Nat} {s : CS} {x : RS} {cs : Array Value} {T : TypeId} {fr : Nat × Nat} (h : Both w0 w cb r s x) (hk : Keeps (· = q) w w') (hq : w.heap[q]? = some (.cells cs T fr)) (hlo : w0.heap.size ≤ q)
    (h1 : (T == 141) = false) (h2 : (T == 213) = false) (h3 : (T == 126) = false) (h4 : (T == 117) = false) : Both w0 w' cb r s x := by
  obtain ⟨lv, hr⟩ := h.ref
  have key : ∀ (k : Nat) (cs2 : Array Value) (T2 : TypeId), w.heap[k]? = some (Obj.cells cs2 T2 (0, 0)) → (T == T2) = false → w'.heap[k]? = some (Obj.cells cs2 T2 (0, 0)) := fun k cs2 T2 hk2 hT => by
    rw [hk.block k (Array.getElem?_eq_some_iff.1 hk2).1 fun c => ?_]; exact hk2
    subst c
    have := hk2.symm.trans hq; simp only [Option.some.injEq, Obj.cells.injEq] at this; rw [this.2.1] at hT; simp at hT
  refine ⟨h.own.other hk hq hlo h1 h2, ⟨lv, key _ _ _ hr.hdr h3, hr.lo, ?_, hr.wf⟩, h.alike⟩
  obtain ⟨g1, g3 | ⟨g, cap, cur, rfl, hg, hgg, r3⟩⟩ := hr.row
  · exact ⟨g1, .inl g3⟩
  · exact ⟨g1, .inr ⟨g, cap, cur, rfl, hg, key _ _ _ hgg h4, r3⟩⟩
theorem rcells_base {w : World} {base base' r : Nat} {lv : Value} {x : RS} (h : RCells w base r lv x) (hb : base' ≤ base) : RCells w base' r lv x := by
  refine ⟨h.hdr, Nat.le_trans hb h.lo, ⟨h.row.1, ?_⟩, h.wf⟩
  rcases h.row.2 with h2 | ⟨g, cap, cur, h3, h4, h5⟩
  · exact .inl h2
  · exact .inr ⟨g, cap, cur, h3, Nat.le_trans hb h4, h5⟩
theorem two_below {b o o2 : Nat} {v v2 : Value} {W W' : World} (hb : Below W.heap.size W W') (h : W.cell? ⟨b, o, none⟩ = some v ∧ W.cell? ⟨b, o2, none⟩ = some v2) : W'.cell? ⟨b, o, none⟩ = some v ∧ W'.cell? ⟨b, o2, none⟩ = some v2 :=
  ⟨(hb.cell (World.block_lt_of_cell? _ _ h.1)).trans h.1, (hb.cell (World.block_lt_of_cell? _ _ h.2)).trans h.2⟩
theorem two_alloc {b o o2 : Nat} {v v2 : Value} {W : World} {q : Obj} (h : W.cell? ⟨b, o, none⟩ = some v ∧ W.cell? ⟨b, o2, none⟩ = some v2) : (W.alloc q).cell? ⟨b, o, none⟩ = some v ∧ (W.alloc q).cell? ⟨b, o2, none⟩ = some v2 :=
  two_below (below_alloc' W q) h
theorem own_ne {w : World} {base e size n b : Nat} {v : Value} {xs : List Value} (h : w.ownsRow base e size v n xs) (hb : b < base) : some b ≠ v.ownBlock := fun c => by have := (h.lt b c.symm).1; omega
theorem play_first {w w' : World} {cb r : Nat} {l : List (Int × Int)} {lv : Value} (ho : Own w w' cb (CS.init l)) (hr : RCells w' w.heap.size r lv ⟨rfold l, 0, 0, 0, 0, 0⟩) : Both w w' cb r (CS.init l) ⟨rfold l, 0, 0, 0, 0, 0⟩ :=
  ⟨ho, ⟨lv, hr⟩, init_alike l⟩
theorem init_far (l : List (Int × Int)) (h : l.length ≤ 20) : Far (CS.init l) ⟨rfold l, 0, 0, 0, 0, 0⟩ 20 := by
  have h1 := CS.init_n l
  have h2 := rfold_len l
  exact ⟨by omega, by omega, by simp only; omega⟩

theorem after_same {w w5 : World} {cb r : Nat} {s : CS} {x : RS} (h : Both w w5 cb r s x) (a : Int) (ha : (Lit.int .u64 a).wf = true) : ∃ (l : List (Int × Int)) (c : Nat),
    (w5.cell? ⟨r, 2, none⟩ = some (.int .u8 s.kind) ∧ w5.cell? ⟨r, 3, none⟩ = some (.int .u64 s.addr) ∧ w5.cell? ⟨r, 4, none⟩ = some (.int .u64 s.was) ∧ w5.cell? ⟨r, 5, none⟩ = some (.int .u64 s.is)) ∧
    (∀ st : ExtW w5, Calls Try.prog 35 #[.pointer (some ⟨cb, 0, none⟩)] st.val fun e w' => e = .returned (.agg #[.int .u8 s.kind, .int .u64 s.addr, .int .u64 s.was, .int .u64 s.is]) ∧ Below st.val.heap.size st.val w') ∧
    (∀ st : ExtW w5, Calls Try.prog 15 #[.pointer (some ⟨cb, 0, none⟩), .int .u64 a] st.val fun e w' => e = .returned (.int .u64 (s.val a)) ∧ st.val = w') ∧
    (∀ st : ExtW w5, Calls Try.prog 52 #[.pointer (some ⟨r, 0, none⟩), .int .u64 a] st.val fun e w' => e = .returned (.int .u64 (s.val a)) ∧ st.val = w') := by
  obtain ⟨lv, hR⟩ := h.ref
  have hA := h.alike
  refine ⟨x.l, x.cnt, ⟨?_, ?_, ?_, ?_⟩, fun st => last_ext h.own st, fun st => peek_ext h.own a ha _ rfl st, fun st => ?_⟩
  · rw [hA.kind]; exact hR.cell 2
  · rw [hA.addr]; exact hR.cell 3
  · rw [hA.was]; exact hR.cell 4
  · rw [hA.is]; exact hR.cell 5
  · rw [hA.val]
    exact (rpeek_any _ _ _ _ _ (hR.keep st.below) a).mono fun e w' ⟨he, hw⟩ => ⟨he, hw.symm⟩

set_option maxRecDepth 10000 in
set_option maxHeartbeats 4000000 in
theorem cplay_any (w : World) (ao bo : Option Addr) (cap capb : Nat) (l : List (Int × Int)) (acts : List Ac) (h : RWds w ao cap l) (hn : ao = none → cap = 0) (ha : Acts w bo capb acts) (h20 : l.length ≤ 20) (h300 : acts.length ≤ 300) :
    Calls Try.prog 8 #[.slice ao l.length cap, .slice bo acts.length capb] w fun e w' => e = .returned (.bool true) ∧ Below w.heap.size w w' := by
  have g20 : (l.length : Int) ≤ 20 := by omega
  have g300 : (acts.length : Int) ≤ 300 := by omega
  have HP := Lib.hid h; have HN := Lib.hid hn; have HA := Lib.hid ha; have HL := Lib.hid h20; have H3 := Lib.hid h300
  obtain ⟨i0, hi0, hz0, hz1, hz2⟩ := info_parts info_rword
  have HI := Lib.hid hi0; have HZ0 := Lib.hid hz0; have HZ1 := Lib.hid hz1; have HZ2 := Lib.hid hz2
  clear h hn ha hi0 hz0 hz1 hz2
  go_enter Try.func8, Try.ntmps8
  go_wp2
  go_loopw [5, 6] (fun mv i wr => ∃ k : Nat, k ≤ l.length ∧ i = .int .i64 k ∧ wr.ownsRow w.heap.size 117 2 mv k (flat2 (l.take k)) ∧ Below w.heap.size w wr) (fun _ i _ => l.length - (intOf i).toNat)
  case atStart => exact ⟨0, by omega, rfl, World.ownsRow_nil _ _ _ _, Below.refl _ _⟩
  case round =>
    obtain ⟨k, hk, rfl, hrow, hbl⟩ := hrel
    by_cases hlt : k < l.length
    · obtain ⟨b, off, x, y, rfl, hx, hw, c0, c1⟩ := (HP.out.below hbl).at k hlt
      have hlt' : (k : Int) < l.length := by omega
      have hbw : b < w.heap.size := by
        obtain ⟨b2, o2, x2, y2, e2, _, _, c2, _⟩ := HP.out.at k hlt
        cases e2; exact World.block_lt_of_cell? _ _ c2
      have hne := own_ne hrow hbw
      have hsz : w.heap.size ≤ wr.heap.size := hbl.size
      have HX := Lib.hid hx; have HR := Lib.hid hrow; have HB := Lib.hid hbl
      have hh : wr.drew.cell? ⟨b, off + k * 2, none⟩ = some (.int .u64 x) ∧ wr.drew.cell? ⟨b, off + k * 2 + 1, none⟩ = some (.int .u64 y) := ⟨c0, c1⟩
      have hal : ∀ q, (wr.alloc q).drew.cell? ⟨b, off + k * 2, none⟩ = some (.int .u64 x) ∧ (wr.alloc q).drew.cell? ⟨b, off + k * 2 + 1, none⟩ = some (.int .u64 y) := fun q => two_alloc (W := wr) ⟨c0, c1⟩
      clear hx hw hrow hbl c0 c1
      go_wp2
      go_region_held3 (fun W => W.cell? ⟨b, off + k * 2, none⟩ = some (.int .u64 x) ∧ W.cell? ⟨b, off + k * 2 + 1, none⟩ = some (.int .u64 y))
        (first | exact hh | exact hal _ | go_keep | (refine ⟨?_, ?_⟩ <;> (rw [hgrow.cell_far _ (by simp; omega) hne]; first | assumption | exact (hal _).1 | exact (hal _).2)))
        ((refine step_append_lies _ (by rfl) _ _ _ (by rfl) w.heap.size 117 i0 _ 2 16 Try.underlying115 HI.out HZ0.out HZ1.out HZ2.out rfl (by omega) _ k (flat2 (l.take k)) (by rfl) ((HR.out.alloc _).drew) ⟨wr.heap.size, 0, none⟩ 1 1 [.int .u64 x, .int .u64 y] (by rfl) (by rfl) (World.news_of_block (cs := #[.int .u64 x, .int .u64 y]) (t := 117) (fr := (0, 0)) (heap_alloc_new wr _)) (by simp [Value.oneCell']) (by omega) (by unfold maxLen; omega) (by omega) (by simp; omega) (wr.heap.size + 1) (by simp) ?_; intro gg cap w1 hown1 hgrow hat hlt2))
      have hb2 := (HB.out.alloc HB.out.size (.cells #[.int .u64 x, .int .u64 y] 117)).grown (w' := w1) ⟨hgrow.os, hgrow.tape, hgrow.output, hgrow.size, hgrow.block⟩ (by simp; have := HB.out.size; omega) (fun j hj => (HR.out.lt j hj).1)
      have HO2 := Lib.hid hown1; have HB3 := Lib.hid hb2
      clear hown1 hgrow hb2 hat hlt2 hh
      go_wp2
      go_roundw
      case rel => exact ⟨k + 1, by omega, by go_num, by rw [List.take_add_one, HX.out]; simp only [Option.toList_some]; rw [flat2_snoc]; exact HO2.out, HB3.out⟩
      case measure => simp [intOf]; omega
    · obtain rfl : k = l.length := by omega
      rw [List.take_length] at hrow
      obtain ⟨ma, mcap, rfl, hm1, hm2, hm3, hm4⟩ := rwds_own hrow HP.out.wf
      have HB := Lib.hid hbl; have HM := Lib.hid hm1
      clear hrow hbl hm1 hm2 hm3 hm4 hlt
      go_wp2_with (at_builtin; refine append_words rfl _ _ rfl l _ _ rfl rfl (HP.out.below HB.out) HN.out (by have := HL.out; omega) ?_)
      intro v' w1 hown1 hb1
      obtain ⟨ta, tcap, rfl, ht1, ht2, ht3, ht4⟩ := rwds_own hown1 HP.out.wf
      have hB1 := HB.out.trans (hb1.mono HB.out.size)
      have hM1 := HM.out.below hb1
      have hn1 := new_any w1 ta tcap l ht1 ht2 ht3 (by have := HL.out; unfold lim; omega)
      have HT4 := Lib.hid ht4; have HB1 := Lib.hid hB1; have HM1 := Lib.hid hM1; have HB0 := Lib.hid HB.out.size
      clear hown1 hb1 ht1 ht2 ht3 ht4 hB1 hM1 HB HM
      go_wp2_with (first
        | (go_at_call 48; refine hn1.mono ?_; rintro e w2 ⟨cb, S, rfl, hc2, hb2⟩; have HC2 := Lib.hid hc2; have HB2 := Lib.hid hb2; clear hc2 hb2 hn1)
        | (go_at_call 49; refine (rnew_any w2 _ _ l (HM1.out.below HB2.out) (by have := HL.out; omega)).mono ?_; rintro e w3 ⟨rfl, ⟨lv, r3⟩, b3⟩; have HR3 := Lib.hid r3; have HB3 := Lib.hid b3; clear r3 b3))
      have hbase : w.heap.size ≤ w2.heap.size := Nat.le_trans HB1.out.size HB2.out.size
      have hboth := play_first ((Own.new HB1.out HC2.out HB2.out).keep HB3.out) (rcells_base HR3.out hbase)
      have hT : 0 < l.length → ∃ g cur, ta = some ⟨g, 0, none⟩ ∧ w.heap.size ≤ g ∧ w3.heap[g]? = some (.cells cur 116 (0, 0)) ∧ l.length * 2 ≤ cur.size := fun h0 => by
        obtain ⟨g, cur, e, h1, h2, h3⟩ := HT4.out h0
        have h4 := (HB2.out.block g (Array.getElem?_eq_some_iff.1 h2).1).trans h2
        exact ⟨g, cur, e, Nat.le_trans HB0.out h1, (HB3.out.block g (Array.getElem?_eq_some_iff.1 h4).1).trans h4, h3⟩
      have HBO := Lib.hid hboth; have HT := Lib.hid hT
      clear hboth hT hbase HT4 HB1 HM1 HB0 HC2 HB2 HR3 HB3
      go_wp2_with fail
      go_loopw [10] (fun i wr => ∃ k : Nat, k ≤ l.length ∧ i = .int .i64 k ∧ Both w wr cb w2.heap.size (CS.init l) ⟨rfold l, 0, 0, 0, 0, 0⟩ ∧ (0 < l.length → ∃ g cur, ta = some ⟨g, 0, none⟩ ∧ w.heap.size ≤ g ∧ wr.heap[g]? = some (.cells cur 116 (0, 0)) ∧ l.length * 2 ≤ cur.size)) (fun i _ => l.length - (intOf i).toNat)
      case atStart => exact ⟨0, by omega, rfl, HBO.out, HT.out⟩
      case round =>
        obtain ⟨k, hk, rfl, hb, ht⟩ := hrel
        by_cases hlt : k < l.length
        · obtain ⟨g, cur, rfl, hgl, hg, hcs⟩ := ht (by omega)
          obtain ⟨v1, p1⟩ : ∃ v, wr.cell? ⟨g, k * 2 + 1, none⟩ = some v := ⟨cur[k * 2 + 1]'(by omega), by simp [World.cell?, hg]⟩
          have f1 : wr.frozen? ⟨g, k * 2 + 1, none⟩ = false := by simp [World.frozen?, hg]
          have hlt' : (k : Int) < l.length := by omega
          have HB4 := Lib.hid (hb.other (setCell_keeps wr g (k * 2 + 1) (.int .u64 77)) hg hgl rfl rfl rfl rfl)
          have HG4 := Lib.hid (setCell_same hg (k * 2 + 1) (.int .u64 77))
          clear hb hg ht
          go_wp2
          go_roundw
          case rel => exact ⟨k + 1, by omega, by go_num, HB4.out, fun _ => ⟨g, _, rfl, hgl, HG4.out, by simpa using hcs⟩⟩
          case measure => simp [intOf]; omega
        · obtain rfl : k = l.length := by omega
          have hfar := init_far l HL.out
          have hs := same05_any hb (by have := hfar.1; omega)
          have HB5 := Lib.hid hb; have HF5 := Lib.hid hfar
          clear hb hfar ht HBO HT
          go_wp2_with (go_at_call 50; refine hs.mono ?_; rintro e w4 ⟨rfl, b4⟩)
          have HB6 := Lib.hid (HB5.out.keep b4)
          clear HB5 b4 hs
          go_loopw [11] (fun i wr => ∃ (k : Nat) (s : CS) (x : RS), k ≤ acts.length ∧ i = .int .i64 k ∧ Both w wr cb w2.heap.size s x ∧ Far s x (20 + k)) (fun i _ => acts.length - (intOf i).toNat)
          case atStart => exact ⟨0, _, _, by omega, rfl, HB6.out, HF5.out⟩
          case round =>
            clear HB6 HF5
            obtain ⟨k, s, x, hk, rfl, hb, hf⟩ := hrel
            by_cases hlt : k < acts.length
            · obtain ⟨g, off, y, rfl, hy, hyw, q0, q1, q2, q3⟩ := HA.out.at k hlt
              have hg : g < w.heap.size := World.block_lt_of_cell? _ _ q0
              have HQ := Lib.hid q1
              replace q0 := (hb.own.below.cell (p := ⟨g, _, none⟩) hg).trans q0
              replace q1 := (hb.own.below.cell (p := ⟨g, _, none⟩) hg).trans q1
              replace q2 := (hb.own.below.cell (p := ⟨g, _, none⟩) hg).trans q2
              replace q3 := (hb.own.below.cell (p := ⟨g, _, none⟩) hg).trans q3
              have hlt' : (k : Int) < acts.length := by omega
              have H3' := H3.out
              have hz : 0 ≤ y.k ∧ y.k < 256 := by
                have hmin : IntKind.u8.min = 0 := rfl
                have hmax : IntKind.u8.max = 255 := rfl
                have := hyw.k
                simp only [Lit.wf, Bool.and_eq_true, decide_eq_true_eq] at this; omega
              have hsame := same_any hb (20 + k) hf (by omega) y.k y.a y.v y.i hz hyw.a hyw.v hyw.i
              have x0 := fun st : ExtW wr => st.cell q0
              have x1 := fun st : ExtW wr => st.cell q1
              have x2 := fun st : ExtW wr => st.cell q2
              have x3 := fun st : ExtW wr => st.cell q3
              have hsm : ∀ W, Below wr.heap.size wr W → Calls Try.prog 51 #[.pointer (some ⟨cb, 0, none⟩), .pointer (some ⟨w2.heap.size, 0, none⟩), .agg #[.int .u8 y.k, .int .u64 y.a, .int .u64 y.v, .int .u64 y.i]] W fun e w' => e = .returned (.bool true) ∧ ∃ s' x', Both w w' cb w2.heap.size s' x' ∧ Far s' x' (20 + k + 1) ∧ s'.cnt = s.cnt + 1 := fun W hW =>
                same_any (hb.keep hW) (20 + k) hf (by omega) y.k y.a y.v y.i hz hyw.a hyw.v hyw.i W rfl
              have HS := Lib.hid hsm; have HYA := Lib.hid hyw.a; have HG := Lib.hid hg
              have HBW := Lib.hid hb.own.below
              clear hsame q0 q1 q2 q3 hy hyw hf hsm hz hb
              go_wp2
              refine wp_region_segs [6] (by kernel_rfl) (by kernel_rfl) (by kernel_rfl) ?_
              simp only [Segs, List.take_succ_cons, List.take_zero, List.drop_succ_cons, List.drop_zero]
              repeat (go_big_quiet_step (fail))
              refine wpQuiet_nil ?_
              rintro W ⟨⟨W2, hW⟩, rfl⟩
              clear x0 x1 x2 x3
              refine seg_call rfl (by kernel_rfl) 51 #[.pointer (some ⟨cb, 0, none⟩), .pointer (some ⟨w2.heap.size, 0, none⟩), .agg #[.int .u8 y.k, .int .u64 y.a, .int .u64 y.v, .int .u64 y.i]] (by kernel_rfl) ?_
              refine (HS.out _ hW).mono ?_
              rintro e w5 ⟨rfl, s', x', h5, hf5, -⟩
              refine ⟨_, rfl, ?_⟩
              simp only [List.getElem_toArray, List.getElem_cons_succ, List.getElem_cons_zero]
              go_frame
              have hst := after_same h5 y.a HYA.out
              clear hW
              obtain ⟨l', c', e1, e2, e3, e4⟩ := hst
              have z1 := fun st : ExtW w5 => st.cell ((h5.own.below.cell (p := ⟨g, _, none⟩) HG.out).trans HQ.out)
              have z2 := fun st : ExtW w5 => st.cell e1.1
              have z3 := fun st : ExtW w5 => st.cell e1.2.1
              have z4 := fun st : ExtW w5 => st.cell e1.2.2.1
              have z5 := fun st : ExtW w5 => st.cell e1.2.2.2
              have H5 := Lib.hid h5; have HF5 := Lib.hid hf5
              clear h5 hf5 e1
              repeat (go_big_quiet_step (first
                | (go_at_call 35; with_reducible refine calls_ext (e2 _))
                | (go_at_call 15; with_reducible refine calls_ext_same (e3 _))
                | (go_at_call 52; with_reducible refine calls_ext_same (e4 _))))
              refine wpQuiet_nil ?_
              rintro W3 ⟨⟨W4, hW4⟩, rfl⟩
              clear z1 z2 z3 z4 z5 e2 e3 e4
              have H6 := Lib.hid (H5.out.keep hW4)
              clear hW4
              go_wp2
              go_roundw
              case rel => exact ⟨k + 1, s', x', by omega, by go_num, H6.out, HF5.out⟩
              case measure => simp [intOf]; omega
            · obtain rfl : k = acts.length := by omega
              have hs := same05_any hb (by have := hf.1; omega)
              have HB7 := Lib.hid hb
              clear hb hf
              go_wp2_with (first
                | (go_at_call 50; refine hs.mono ?_; rintro e w6 ⟨rfl, b6⟩; clear hs)
                | (go_at_call 47; refine (lives05 _).mono ?_; rintro e w7 ⟨rfl, b7⟩))
              go_ret
              have h6 := (HB7.out.own.keep b6).below
              exact ⟨rfl, h6.trans (b7.mono h6.size)⟩
theorem leaves_words05 : leaves Try.prog 5 113 = some [.sl wdLeaves] := by kernel_rfl
theorem leaves_acts05 : leaves Try.prog 5 114 = some [.sl acLeaves] := by kernel_rfl
set_option maxRecDepth 10000 in
theorem walkCellsPlay {H : Type} (w : World) (enc : TypeId × Value → H) (base : Nat) (v : Value) (d : DataW H) (p : List MemPlace) (k : DataW.Trod enc Try.prog w 0 (fun _ => true) true 113 v d p) (o : Value.okWide Try.prog w .any base 113 v)
    (enc2 : TypeId × Value → H) (base2 : Nat) (v2 : Value) (d2 : DataW H) (p2 : List MemPlace) (k2 : DataW.Trod enc2 Try.prog w 0 (fun _ => true) true 114 v2 d2 p2) (o2 : Value.okWide Try.prog w .any base2 114 v2) :
    Calls Try.prog 8 #[v, v2] w fun e w' => e = .returned (.bool true) ∧ Below w.heap.size w w' := by
  obtain ⟨a, n, cap, rfl⟩ := Go.WideShapes.okWide_slice Try.underlying113 o
  obtain ⟨l, rfl, hl, hn⟩ := rwds_of (opened leaves_words05 k).1
  obtain ⟨a2, n2, cap2, rfl⟩ := Go.WideShapes.okWide_slice Try.underlying114 o2
  obtain ⟨l2, rfl, hl2⟩ := acts_of (opened leaves_acts05 k2).1
  clear k o k2 o2
  by_cases h20 : l.length ≤ 20
  · by_cases h300 : l2.length ≤ 300
    · exact cplay_any w a a2 cap cap2 l l2 hl hn hl2 h20 h300
    · have d1 : (l.length : Int) ≤ 20 := by omega
      have d2 : (300 : Int) < l2.length := by omega
      go_enter Try.func8, Try.ntmps8
      go_wp2_with (go_at_call 47; refine (lives05 _).mono ?_; rintro e w7 ⟨rfl, b7⟩)
      go_ret
      exact ⟨rfl, b7⟩
  · have d1 : (20 : Int) < l.length := by omega
    go_enter Try.func8, Try.ntmps8
    go_wp2_with (go_at_call 47; refine (lives05 _).mono ?_; rintro e w7 ⟨rfl, b7⟩)
    go_ret
    exact ⟨rfl, b7⟩
end Go.Proofs.Ytpceooniklpidaa
