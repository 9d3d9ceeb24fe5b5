import Derived.Test.YtmakjfeepmiggaaGreatZ31
import Derived.Test.YtmakjfeepmiggaaGreatZ29
import Derived.Test.YtmakjfeepmiggaaGreatZ7
import Derived.Test.YtmakjfeepmiggaaGreatZ9
import Derived.Test.YtmakjfeepmiggaaGreatZ6
import Derived.Test.YtmakjfeepmiggaaGreatB2
import Derived.Test.YtmakjfeepmiggaaGreatZ4
import Derived.Test.YtmakjfeepmiggaaGreatZ12
import Derived.Test.YtmakjfeepmiggaaGreatZ34
import Derived.Test.YtmakjfeepmiggaaGreatZ17
import Derived.Deep.RegionHeld2
namespace Go.Proofs.YtmakjfeepmiggaaGreat
open Go.RowKit Go.Maps TagPure
set_option linter.unusedVariables false
def tabO (bits : Int) (tab : Int → Int) (b : Int) (s : Nat) : Int := otW bits (tab b) b s
def tabF (tab : Int → Int) (b : Int) : Int := frW (tab b)
theorem oth_bd0 (k t b : Int) (hb : 1 ≤ b ∧ b ≤ 12) (hk : 0 ≤ k ∧ k < tsize b) (ht : 0 ≤ t ∧ t ≤ 255) : 0 ≤ oth k t b ∧ oth k t b < tsize b := by
  unfold oth
  rw [mask_modW _ _ (by omega) (by omega) hb]
  have hp := tsize_pos hb
  have h1 := Int.emod_nonneg (t * 1540483477) (b := tsize b) (by omega)
  have h2 := Int.emod_lt_of_pos (t * 1540483477) (show 0 < tsize b by omega)
  rw [tsize_powW hb] at hk h1 h2 ⊢
  exact xor_ltW _ _ _ (by omega) hk ⟨h1, h2⟩
theorem tab_ok (bits : Int) (hb : 1 ≤ bits ∧ bits ≤ 12) (tab : Int → Int) : Tab (tsize bits).toNat (tabO bits tab) := by
  have hp := tsize_pos hb
  refine ⟨fun b s h0 h1 _ => ?_⟩
  have ht : 0 ≤ tg (tab b) s ∧ tg (tab b) s ≤ 255 := by unfold tg; omega
  have := oth_bd0 b (tg (tab b) s) bits hb ⟨h0, by omega⟩ ht
  unfold tabO otW
  omega
theorem wexp_congr (cap : Int) (o o' : Int → Nat → Int) (b : Int) (k : Nat) (l : List Nd) (h : ∀ s, o b s = o' b s) : wexp cap o b k l = wexp cap o' b k l := by
  unfold wexp
  simp only [List.foldl_cons, List.foldl_nil]
  rw [h 0, h 1, h 2, h 3]
theorem frW_nn (v : Int) : frW v = -1 ∨ 0 ≤ frW v := by
  rcases free_casesW v with h | ⟨n, _, h, _⟩
  · exact .inl h
  · exact .inr (by unfold frW; rw [h]; omega)
theorem wexp_len_le (cap : Int) (o : Int → Nat → Int) (b : Int) (k : Nat) (l : List Nd) : l.length ≤ (wexp cap o b k l).length := (wexp_pre cap o b k l).length_le
section
variable {x : WY} {tab : Int → Int}
theorem WY.next_no (h : frW (tab (nd x.l x.at_).1) = -1) : x.next (tab (nd x.l x.at_).1) = { x with l := wexp x.most (tabO x.bits tab) (nd x.l x.at_).1 x.at_ x.l, at_ := x.at_ + 1, over := decide (x.at_ + 1 = (wexp x.most (tabO x.bits tab) (nd x.l x.at_).1 x.at_ x.l).length) } := by
  unfold WY.next
  rw [if_pos h, wexp_congr x.most (otW x.bits (tab (nd x.l x.at_).1)) (tabO x.bits tab) _ _ _ (fun s => rfl)]
theorem WY.next_yes (h : 0 ≤ frW (tab (nd x.l x.at_).1)) : x.next (tab (nd x.l x.at_).1) = { x with way := wway x.l x.at_ (tabF tab (nd x.l x.at_).1), over := true } := by
  unfold WY.next
  rw [if_neg (by omega)]; rfl
theorem WyOk.next (h : WyOk x) (ho : x.over = false) : WyOk (x.next (tab (nd x.l x.at_).1)) := by
  have hat := h.at_ ho
  have hl := h.len
  rcases frW_nn (tab (nd x.l x.at_).1) with hf | hf
  · rw [WY.next_no hf]
    have hb := h.win.rng _ (nd_mem hat)
    have hle := wexp_len_le x.most (tabO x.bits tab) (nd x.l x.at_).1 x.at_ x.l
    refine ⟨h.bits, h.win.exp (tab_ok x.bits h.bits tab) hb, ahead_exp _ _ _ _ h.ahead hat, fun c => ?_, fun _ => h.way ho, h.wayl, h.made⟩
    have := of_decide_eq_false c
    simp only at this ⊢
    omega
  · rw [WY.next_yes hf]
    refine ⟨h.bits, h.win, h.ahead, fun c => (by cases c), fun c => (by cases c), ?_, h.made⟩
    simp only [wway, List.length_reverse]
    have := wpath_len x.l x.l.length x.at_ (tabF tab (nd x.l x.at_).1)
    omega
end
theorem next_mo (x : WY) (v : Int) : (x.next v).mo = x.mo ∧ (x.next v).bits = x.bits ∧ (x.next v).most = x.most ∧ (x.next v).kb = x.kb := by
  unfold WY.next; split <;> exact ⟨rfl, rfl, rfl, rfl⟩
end Go.Proofs.YtmakjfeepmiggaaGreat
namespace Go.Proofs.YtmakjfeepmiggaaGreat
open Go.RowKit Go.Maps
set_option linter.unusedVariables false
end Go.Proofs.YtmakjfeepmiggaaGreat
namespace Go.Proofs.YtmakjfeepmiggaaGreat
open Go.RowKit Go.Maps
set_option linter.unusedVariables false
end Go.Proofs.YtmakjfeepmiggaaGreat
namespace Go.Proofs.YtmakjfeepmiggaaGreat
open Go.RowKit Go.Maps
set_option linter.unusedVariables false
theorem world12v (b : Int) (hb : 1 ≤ b ∧ b ≤ 12) (w : World) : Calls Tryz.prog 38 #[.int .i64 b] w fun e w' => ∃ B, e = .returned (.pointer (some ⟨B.wb, 0, none⟩)) ∧ WS w w' B (v0 ⟨b, 8, 3, 1, 16⟩) (CS.init [(2, tword b 0)]) := by
  have hn1 : Calls Tryz.prog 47 #[.agg #[.int .i64 b, .int .i64 8, .int .i64 3, .int .i64 1, .int .i64 16]] w fun e w' => ∃ B : WB, e = .returned (.tuple #[.pointer (some ⟨B.wb, 0, none⟩), .int .i64 0]) ∧ WS w w' B (v0 ⟨b, 8, 3, 1, 16⟩) (CS.init [(2, tword b 0)]) :=
    (wnew_ok ⟨b, 8, 3, 1, 16⟩ (by simp [Conf.ok]; omega) w).mono fun e w' ⟨wb, cb, ib, nb, he, g1, g2, g3, g4, g5, g6, g7⟩ => ⟨⟨wb, cb, ib, nb⟩, he, ws_of (Below.refl _ w) g1 g2 g3 g4 g5 g6 g7⟩
  clear hb
  go_enter Tryz.func38, Tryz.ntmps38
  go_wp2_with (go_at_call 47; with_reducible refine hn1.mono ?_; rintro e w1 ⟨B, rfl, h1⟩)
  go_ret
  exact ⟨_, rfl, h1⟩
theorem WS.slow {w0 w : World} {B : WB} {V : WV} {s : CS} (h : WS w0 w B V s) : w0.heap.size ≤ w.heap.size := h.below.size
end Go.Proofs.YtmakjfeepmiggaaGreat
namespace Go.Proofs.YtmakjfeepmiggaaGreat
open Go.RowKit Go.Maps TagPure
set_option linter.unusedVariables false
structure Tb where
  qb : Int
  ta : Option Addr
  tc : Nat
  tags : List Int
  qa : Int
  qbb : Int
  qm : Int
abbrev Tb.cells (t : Tb) : Array Value := #[.int .u8 t.qb, .slice t.ta t.tags.length t.tc, .int .u16 t.qa, .int .u16 t.qbb, .int .u16 t.qm]
def Tb.bits (t : Tb) : Int := 1 + t.qb % 5
def Tb.a (t : Tb) : Int := t.qa % tsize t.bits
def Tb.b (t : Tb) : Int := t.qbb % tsize t.bits
def Tb.tab (t : Tb) (k : Int) : Int := if k.toNat < t.tags.length then t.tags.getD k.toNat 0 else 16843009 * (1 + k)
structure TbRd (w : World) (t : Tb) : Prop where
  cell : ∀ i (hi : i < t.tags.length), ∃ b off, t.ta = some ⟨b, off, none⟩ ∧ w.cell? ⟨b, off + i, none⟩ = some (.int .u64 (t.tags[i]))
  wf : ∀ v ∈ t.tags, 0 ≤ v ∧ v < 18446744073709551616
  most : t.tags.length ≤ maxLen
  rb : 0 ≤ t.qb ∧ t.qb < 256
  ra : 0 ≤ t.qa ∧ t.qa < 65536
  rbb : 0 ≤ t.qbb ∧ t.qbb < 65536
  rm : 0 ≤ t.qm ∧ t.qm < 65536
theorem TbRd.bits {w : World} {t : Tb} (h : TbRd w t) : 1 ≤ t.bits ∧ t.bits ≤ 5 := by have := h.rb; unfold Tb.bits; omega
theorem TbRd.below {w w' : World} {t : Tb} (h : TbRd w t) (hb : Below w.heap.size w w') : TbRd w' t := by
  refine ⟨fun i hi => ?_, h.wf, h.most, h.rb, h.ra, h.rbb, h.rm⟩
  obtain ⟨b, off, h1, h2⟩ := h.cell i hi
  exact ⟨b, off, h1, by have := World.block_lt_of_cell? _ _ h2; unfold World.cell? at h2 ⊢; simp only at h2 ⊢; rw [hb.block b this]; exact h2⟩
theorem tsize5 {b : Int} (h : 1 ≤ b ∧ b ≤ 5) : 2 ≤ tsize b ∧ tsize b ≤ 32 := by
  have : b = 1 ∨ b = 2 ∨ b = 3 ∨ b = 4 ∨ b = 5 := by omega
  rcases this with rfl | rfl | rfl | rfl | rfl <;> decide
theorem TbRd.ab {w : World} {t : Tb} (h : TbRd w t) : (0 ≤ t.a ∧ t.a < tsize t.bits) ∧ 0 ≤ t.b ∧ t.b < tsize t.bits := by
  have h2 := tsize5 h.bits
  unfold Tb.a Tb.b
  exact ⟨⟨Int.emod_nonneg _ (by omega), Int.emod_lt_of_pos _ (by omega)⟩, Int.emod_nonneg _ (by omega), Int.emod_lt_of_pos _ (by omega)⟩
end Go.Proofs.YtmakjfeepmiggaaGreat
namespace Go.Proofs.YtmakjfeepmiggaaGreat
open Go.RowKit Go.Maps TagPure
set_option linter.unusedVariables false
theorem own_loW {w : World} {base b2 e size n : Nat} {v : Value} {xs : List Value} (h : w.ownsRow base e size v n xs) (hl : b2 ≤ base) : w.ownsRow b2 e size v n xs := by
  obtain ⟨h1, h2 | ⟨g, cap, cur, rfl, hb, hg, r⟩⟩ := h
  · exact ⟨h1, .inl h2⟩
  · exact ⟨h1, .inr ⟨g, cap, cur, rfl, Nat.le_trans hl hb, hg, r⟩⟩
theorem WayAt.lower {w : World} {lo lo' xb : Nat} {x : WY} (h : WayAt w lo xb x) (hl : lo' ≤ lo) : WayAt w lo' xb x := by
  obtain ⟨h0, ⟨vb, vw, h1, h2, h3, h4⟩, h5, h6, h7⟩ := h
  exact ⟨Nat.le_trans hl h0, ⟨vb, vw, h1, own_loW h2 hl, own_loW h3 hl, h4⟩, fun m hm => ⟨Nat.le_trans hl (h5 m hm).1, (h5 m hm).2⟩, h6, h7⟩
theorem way_fresh {w0 w w1 : World} {B : WB} {V : WV} {s : CS} {m : Nat} (h : WS w0 w B V s) (hb : Below w.heap.size w w1) (hm : w.heap.size ≤ m) : Besd w1 B V m := by
  refine ⟨fun c => ?_, fun q hq e => ?_⟩
  · obtain ⟨⟨S', hS'⟩, -⟩ := h.own
    obtain ⟨mo, f, hA, rfl⟩ := hS'
    have e : w1.cell? ⟨B.cb, 0, none⟩ = some (.map mo) := by
      have h1 := (hb.block _ (Array.getElem?_eq_some_iff.1 hA.hdr).1).trans hA.hdr
      rw [hcell h1]; rfl
    rw [e] at c
    simp only [Option.some.injEq, Value.map.injEq] at c
    have := (hA.map m c).1.lt
    omega
  · have := (Array.getElem?_eq_some_iff.1 (h.fmk q hq).1).1
    omega
theorem wnew_ok2 {bits most a b : Int} {kb m : Nat} (hb : 1 ≤ bits ∧ bits ≤ 12) (ha : 0 ≤ a ∧ a < tsize bits) (hb2 : 0 ≤ b ∧ b < tsize bits) : WyOk (wnew bits most a b kb m) := by
  have hp := tsize_pos hb
  have hsh := wfirst_sh (N := (tsize bits).toNat) (fun _ _ => 0) (fun _ => 0) (a := a) (b := b) (by omega) (by omega)
  refine ⟨hb, hsh.win, hsh.ahead, fun _ => ?_, fun _ => rfl, Nat.zero_le _, rfl⟩
  show 0 < (wfirst a b).length
  unfold wfirst; split <;> simp
structure WayR (w : World) (lo xb : Nat) (x : WY) (bits : Int) (r : Nat × List Nd × List (Int × Int) × Bool) : Prop where
  at_ : WayAt w lo xb x
  bits_ : x.bits = bits
  l : x.l = r.2.1
  way : x.way = r.2.2.1
  over : x.over = r.2.2.2
  ok : WyOk x
theorem WayR.frm {w w' : World} {lo xb : Nat} {x : WY} {bits : Int} {r : Nat × List Nd × List (Int × Int) × Bool} (h : WayR w lo xb x bits r) (hf : Fr wTy true w w') (hm : ∀ m, x.mo = some m → w'.heap[m]? = w.heap[m]?) : WayR w' lo xb x bits r :=
  ⟨h.at_.frm hf w_not_y hm, h.bits_, h.l, h.way, h.over, h.ok⟩
theorem WayR.below {w w' : World} {lo xb : Nat} {x : WY} {bits : Int} {r : Nat × List Nd × List (Int × Int) × Bool} (h : WayR w lo xb x bits r) (hb : Below w.heap.size w w') : WayR w' lo xb x bits r :=
  ⟨h.at_.below hb, h.bits_, h.l, h.way, h.over, h.ok⟩
def WayH (w : World) (lo xb : Nat) (V : WV) (bits : Int) (r : Nat × List Nd × List (Int × Int) × Bool) : Prop :=
  ∃ x m es cl, WayR w lo xb x bits r ∧ x.mo = some m ∧ w.heap[m]? = some (.map es cl) ∧ (m, es, cl) ∈ V.fm
section
variable {w0 w w' : World} {B : WB} {V V' : WV} {s s' : CS} {lo xb : Nat} {bits : Int} {r : Nat × List Nd × List (Int × Int) × Bool}
theorem WayH.step (h : WayH w lo xb V bits r) (hw : WS w0 w' B V s') (hf : Fr wTy true w w') : WayH w' lo xb V bits r := by
  obtain ⟨x, m, es, cl, h1, h2, h3, h4⟩ := h
  have e := (hw.fmk _ h4).1
  refine ⟨x, m, es, cl, h1.frm hf (fun m' hm' => ?_), h2, e, h4⟩
  rw [h2] at hm'; cases hm'
  exact e.trans h3.symm
theorem WayH.below (h : WayH w lo xb V bits r) (hb : Below w.heap.size w w') : WayH w' lo xb V bits r := by
  obtain ⟨x, m, es, cl, h1, h2, h3, h4⟩ := h
  exact ⟨x, m, es, cl, h1.below hb, h2, (hb.block _ (Array.getElem?_eq_some_iff.1 h3).1).trans h3, h4⟩
theorem WayH.mono (h : WayH w lo xb V bits r) (hs : ∀ q ∈ V.fm, q ∈ V'.fm) : WayH w lo xb V' bits r := by
  obtain ⟨x, m, es, cl, h1, h2, h3, h4⟩ := h
  exact ⟨x, m, es, cl, h1, h2, h3, hs _ h4⟩
end
end Go.Proofs.YtmakjfeepmiggaaGreat
namespace Go.Proofs.YtmakjfeepmiggaaGreat
open Go.RowKit Go.Maps TagPure
set_option linter.unusedVariables false
structure WPd where
  x : WY
  kr : Nat
def wySet (o : PO WPd) (k : Nat) : Prop := k = o.pb ∨ k = o.rb ∨ k = o.a.x.kb ∨ k = o.a.kr ∨ o.a.x.mo = some k
def zWy (T : TypeId) : Bool := T == 71
def WyGood (x : WY) : Prop := WyOk x ∨ (x.made = false ∧ x.way = [] ∧ x.l = [] ∧ x.mo = none)
structure WyP (w : World) (lo : Nat) (o : PO WPd) (S : Nat → Prop) : Prop where
  x : WayAt w lo o.pb o.a.x
  r : RWayAt w lo o.rb o.a.kr o.a.x
  ok : WyGood o.a.x
  s : S = wySet o
theorem own_keepZ {Z : TypeId → Bool} {w w' : World} {lo e size n : Nat} {v : Value} {xs : List Value} (h : w.ownsRow lo e size v n xs) (hz : ZKeep Z w w') (he : Z e = true) : w'.ownsRow lo e size v n xs := by
  obtain ⟨c1, c2 | ⟨g, cap, cur, hv, hb, hg, r⟩⟩ := h
  · exact ⟨c1, .inl c2⟩
  · exact ⟨c1, .inr ⟨g, cap, cur, hv, hb, hz g cur _ _ hg he, r⟩⟩
theorem own_keepK {w w' : World} {lo e size n kb xb : Nat} {v : Value} {xs : List Value} (h : w.ownsRow lo e size v n xs) (hk : KbOk v kb xb) (he : w'.heap[kb]? = w.heap[kb]?) : w'.ownsRow lo e size v n xs := by
  obtain ⟨c1, c2 | ⟨g, cap, cur, rfl, hb, hg, r⟩⟩ := h
  · exact ⟨c1, .inl c2⟩
  · have hkg : kb = g := by
      rcases hk with e | ⟨e, -⟩
      · simp only [Value.ownBlock, Option.some.injEq] at e; exact e.symm
      · simp only [Value.ownBlock] at e; cases e
    subst hkg
    exact ⟨c1, .inr ⟨kb, cap, cur, rfl, hb, he.trans hg, r⟩⟩
theorem kb_blk {w : World} {lo e size n kb xb : Nat} {v : Value} {xs : List Value} (h : w.ownsRow lo e size v n xs) (hk : KbOk v kb xb) : kb = xb ∨ (lo ≤ kb ∧ ∃ cs, w.heap[kb]? = some (.cells cs e (0, 0))) := by
  rcases hk with e | ⟨-, e⟩
  · right
    obtain ⟨c1, ⟨rfl, -⟩ | ⟨g, cap, cur, rfl, hb, hg, r⟩⟩ := h
    · cases e
    · simp only [Value.ownBlock, Option.some.injEq] at e
      subst e; exact ⟨hb, _, hg⟩
  · exact .inl e
section
variable {w w' : World} {lo lo' xb b kr : Nat} {x : WY}
theorem WayAt.keepB (h : WayAt w lo xb x) (h1 : w'.heap[xb]? = w.heap[xb]?) (h2 : w'.heap[x.kb]? = w.heap[x.kb]?) (h3 : ∀ m, x.mo = some m → w'.heap[m]? = w.heap[m]?) (h4 : ZKeep zWy w w') : WayAt w' lo xb x := by
  obtain ⟨h0, ⟨vb, vw, b1, b2, b3, b4⟩, b5, b6, b7⟩ := h
  refine ⟨h0, ⟨vb, vw, h1.trans b1, own_keepK b2 b4 h2, own_keepZ b3 h4 rfl, b4⟩, fun m hm => ⟨(b5 m hm).1, (b5 m hm).2.keep (h3 m hm)⟩, b6, fun e => ?_⟩
  have := b7 e
  rw [hcell b1] at this
  rw [hcell (h1.trans b1)]; exact this
theorem RWayAt.keepB (h : RWayAt w lo b kr x) (h1 : w'.heap[b]? = w.heap[b]?) (h2 : w'.heap[kr]? = w.heap[kr]?) (h4 : ZKeep zWy w w') : RWayAt w' lo b kr x := by
  obtain ⟨h0, vl, vw, b1, b2, b3, b4⟩ := h
  exact ⟨h0, vl, vw, h1.trans b1, own_keepK b2 b4 h2, own_keepZ b3 h4 rfl, b4⟩
theorem RWayAt.lower (h : RWayAt w lo b kr x) (hl : lo' ≤ lo) : RWayAt w lo' b kr x := by
  obtain ⟨h0, vl, vw, h1, h2, h3, h4⟩ := h
  exact ⟨Nat.le_trans hl h0, vl, vw, h1, own_loW h2 hl, own_loW h3 hl, h4⟩
theorem WayAt.kbB (h : WayAt w lo xb x) : lo ≤ x.kb ∧ ∃ cs T, w.heap[x.kb]? = some (.cells cs T (0, 0)) ∧ (T = 135 ∨ T = 3) := by
  obtain ⟨h0, ⟨vb, vw, b1, b2, b3, b4⟩, -⟩ := h
  rcases kb_blk b2 b4 with e | ⟨e, cs, e2⟩
  · rw [e]; exact ⟨h0, _, _, b1, .inl rfl⟩
  · exact ⟨e, cs, _, e2, .inr rfl⟩
theorem RWayAt.krB (h : RWayAt w lo b kr x) : lo ≤ kr ∧ ∃ cs T, w.heap[kr]? = some (.cells cs T (0, 0)) ∧ (T = 56 ∨ T = 141) := by
  obtain ⟨h0, vl, vw, b1, b2, b3, b4⟩ := h
  rcases kb_blk b2 b4 with e | ⟨e, cs, e2⟩
  · rw [e]; exact ⟨h0, _, _, b1, .inl rfl⟩
  · exact ⟨e, cs, _, e2, .inr rfl⟩
theorem WayAt.blkB (h : WayAt w lo xb x) : ∃ cs, w.heap[xb]? = some (.cells cs 135 (0, 0)) := by
  obtain ⟨h0, ⟨vb, vw, b1, -⟩, -⟩ := h; exact ⟨_, b1⟩
theorem RWayAt.blkB (h : RWayAt w lo b kr x) : ∃ cs, w.heap[b]? = some (.cells cs 56 (0, 0)) := by
  obtain ⟨h0, vl, vw, b1, -⟩ := h; exact ⟨_, b1⟩
theorem RWayAt.setkb (h : RWayAt w lo b kr x) (kb : Nat) : RWayAt w lo b kr { x with kb := kb } := ⟨h.low, h.ex⟩
end
end Go.Proofs.YtmakjfeepmiggaaGreat
namespace Go.Proofs.YtmakjfeepmiggaaGreat
open Go.RowKit Go.Maps Go.Sort
set_option linter.unusedVariables false
section
variable {P : Program}
theorem wp_append_cpW {o : Oper} {a : Act} {w : World} {K : Act → World → Prop} {Q : Exit → Act → World → Prop} (s x : Operand) (t : TypeId)
    (ho : o.op = .call { callee := .builtin .append, args := #[s, x], argTypes := #[t, t] })
    (e : TypeId) (i : TypeInfo) (z : Value) (size bytes : Nat) (ht : P.underlying t = some (.slice e)) (hi : P.info? e = some i) (hz : i.zero = some z)
    (hsize : i.size = size) (hby : i.bytes = bytes) (hzs : z.cells.size = size) (hsz : 0 < size)
    (hs : a.eval s = .slice none 0 0) (ax : Option Addr) (m c : Nat) (news : List Value) (hx : a.eval x = .slice ax m c) (hl : news.length = m * size)
    (hn : m = 0 ∨ ∃ ad, ax = some ad ∧ ∀ j u, news[j]? = some u → w.cell? (ad.add j) = some u) (h1 : ∀ u ∈ news, u.oneCell' = true)
    (h63 : m ≤ maxLen) (hbytes : m * bytes ≤ 140737488355328)
    (h : ∀ ag cap w', w'.ownsRow w.heap.size e size (.slice ag m cap) m news → Below w.heap.size w w' → K (a.put o.dst (.slice ag m cap)) w') : o.wp P a w K Q := by
  by_cases hm : m = 0
  · subst hm
    have hnil : news = [] := List.length_eq_zero_iff.1 (by omega)
    subst hnil
    have hrun : (Builtin.append_ #[t, t] o.type #[.slice none 0 0, .slice ax 0 c]).run P w = .ok (.slice none 0 0) w := by
      cases ax with
      | none => simp [Builtin.append_, run_underlying ht, sizeOf, typeInfo, hi, Builtin.lenOf, Builtin.firstCells]
      | some ad =>
        have hfc := run_firstCells_some (P := P) w i.size 0 ad 0 c [] (by simp) (fun j u hj => by simp at hj)
        simp [Builtin.append_, run_underlying ht, sizeOf, typeInfo, hi, Builtin.lenOf, hfc]
    unfold Oper.wp
    simp [execOp, ho, resolve, invoke, builtin, hs, hx, hrun, Result.andThen]
    exact h none 0 w (World.ownsRow_nil _ _ _ _) (Below.refl _ _)
  · rcases hn with hn | ⟨ad, rfl, hn⟩
    · exact absurd hn hm
    refine wp_append_lies w s x t ho w.heap.size e i z size bytes ht hi hz hsize hby hzs hsz _ 0 [] hs (World.ownsRow_nil _ _ _ _) ad m c news hx hl hn h1 (by omega) (by omega) (by rw [Nat.zero_add]; exact hbytes) (Nat.le_refl _) _ rfl ?_
    intro g cap w' hown hgrow _ _
    simp only [Nat.zero_add, List.nil_append] at hown ⊢
    exact h _ cap w' hown ((Below.refl _ _).grown hgrow (Nat.le_refl _) (fun j hj => by simp [Value.ownBlock] at hj))
theorem wpList_append_cpW {ops : Array Oper} {rest : List Oper} {o : Oper} {a : Act} {w : World} {Q : Exit → Act → World → Prop} (hgd : o.guard = none) (s x : Operand) (t : TypeId)
    (ho : o.op = .call { callee := .builtin .append, args := #[s, x], argTypes := #[t, t] })
    (e : TypeId) (i : TypeInfo) (z : Value) (size bytes : Nat) (ht : P.underlying t = some (.slice e)) (hi : P.info? e = some i) (hz : i.zero = some z)
    (hsize : i.size = size) (hby : i.bytes = bytes) (hzs : z.cells.size = size) (hsz : 0 < size)
    (hs : a.eval s = .slice none 0 0) (ax : Option Addr) (m c : Nat) (news : List Value) (hx : a.eval x = .slice ax m c) (hl : news.length = m * size)
    (hn : m = 0 ∨ ∃ ad, ax = some ad ∧ ∀ j u, news[j]? = some u → w.cell? (ad.add j) = some u) (h1 : ∀ u ∈ news, u.oneCell' = true)
    (h63 : m ≤ maxLen) (hbytes : m * bytes ≤ 140737488355328)
    (h : ∀ ag cap w', w'.ownsRow w.heap.size e size (.slice ag m cap) m news → Below w.heap.size w w' → wpList P ops Q rest (a.put o.dst (.slice ag m cap)) w') : wpList P ops Q (o :: rest) a w :=
  wpList_plain hgd fun _ hK => wp_append_cpW s x t ho e i z size bytes ht hi hz hsize hby hzs hsz hs ax m c news hx hl hn h1 h63 hbytes fun ag cap w' h2 h3 => hK _ _ (h ag cap w' h2 h3)
end
theorem spots_news {w : World} {lo : Nat} {v : Value} {bits : Int} {l : List (Int × Int)} (h : w.ownsRow lo 71 3 v l.length (flatS bits l)) : ∃ ax c, v = .slice ax l.length c ∧ (l.length = 0 ∨ ∃ ad, ax = some ad ∧ ∀ j u, (flatS bits l)[j]? = some u → w.cell? (ad.add j) = some u) := by
  obtain ⟨_, ⟨rfl, h0⟩ | ⟨g, cap, cur, rfl, hb, hg, hn, hm, hs, ht⟩⟩ := h
  · exact ⟨none, 0, by rw [h0], .inl h0⟩
  · refine ⟨_, cap, rfl, .inr ⟨_, rfl, fun j u hj => ?_⟩⟩
    have hj2 : j < (flatS bits l).length := (List.getElem?_eq_some_iff.1 hj).1
    rw [flatS_len] at hj2
    have ea : (⟨g, 0, none⟩ : Addr).add j = ⟨g, 0 + j, none⟩ := by simp [Addr.add]; omega
    rw [ea, Nat.zero_add, hcell hg]
    rw [← ht, List.getElem?_take, if_pos hj2] at hj
    rw [← hj]; simp
set_option maxRecDepth 10000 in
theorem rgot {w : World} {lo b kr : Nat} {x : WY} (h : RWayAt w lo b kr x) (hl : x.way.length ≤ 100000) : Calls Tryz.prog 52 #[.pointer (some ⟨b, 0, none⟩)] w fun e w' => ∃ v, e = .returned v ∧ w'.ownsRow w.heap.size 71 3 v x.way.length (flatS x.bits x.way) ∧ Below w.heap.size w w' := by
  obtain ⟨i0, hi0, hz0, hz1, hz2⟩ := info_parts info_spot3
  have HI := Lib.hid hi0; have HZ0 := Lib.hid hz0; have HZ1 := Lib.hid hz1; have HZ2 := Lib.hid hz2
  obtain ⟨_, vl, vw, h1, -, h3, -⟩ := h
  obtain ⟨ax, c, rfl, hnews⟩ := spots_news h3
  have c5 : w.cell? ⟨b, 5, none⟩ = some (.slice ax x.way.length c) := hcell h1 5
  have HN := Lib.hid hnews; have HL := Lib.hid hl
  clear hi0 hz0 hz1 hz2 h1 h3 hnews hl
  go_enter Tryz.func52, Tryz.ntmps52
  go_wp2_with (at_builtin; refine wpList_append_cpW rfl _ _ 54 rfl 71 i0 (.agg #[.int .i64 0, .int .i64 0, .int .i64 0]) 3 24 Tryz.underlying54 HI.out HZ0.out HZ1.out HZ2.out rfl (by decide) rfl ax x.way.length c (flatS x.bits x.way) rfl (flatS_len _ _) HN.out (flatS_one _ _) (by have := HL.out; unfold maxLen; omega) (by have := HL.out; omega) ?_; intro ag cap w2 hown hb2; have HO := Lib.hid hown; have HB := Lib.hid hb2; clear hown hb2 c5)
  go_ret
  exact ⟨_, rfl, HO.out, HB.out⟩
def SpFrom (w : World) (ga : Nat) (bits : Int) (l : List (Int × Int)) (k : Nat) : Prop := ∀ j (hj : j < l.length), k ≤ j → w.cell? ⟨ga, j * 3, none⟩ = some (.int .i64 bits) ∧ w.cell? ⟨ga, j * 3 + 1, none⟩ = some (.int .i64 (l[j]).1) ∧ w.cell? ⟨ga, j * 3 + 2, none⟩ = some (.int .i64 (l[j]).2)
theorem SpN.open {w : World} {base : Nat} {v : Value} {bits : Int} {l : List (Int × Int)} (h : SpN w base v bits l) (hb : base ≤ w.heap.size) : ∃ aa ga, v = .slice aa l.length l.length ∧ (0 < l.length → aa = some ⟨ga, 0, none⟩ ∧ ∃ cur, w.heap[ga]? = some (.cells cur 71 (0, 0))) ∧ base ≤ ga ∧ ga ≤ w.heap.size ∧ SpFrom w ga bits l 0 ∧ l.length ≤ maxLen := by
  rcases h with ⟨rfl, rfl⟩ | ⟨g, cur, rfl, h2, h3, h4, h5⟩
  · exact ⟨none, w.heap.size, rfl, fun h => absurd h (by simp), hb, Nat.le_refl _, fun j hj => absurd hj (by simp), Nat.zero_le _⟩
  · refine ⟨_, g, rfl, fun _ => ⟨rfl, cur, h3⟩, h2, Nat.le_of_lt (Array.getElem?_eq_some_iff.1 h3).1, fun j hj _ => ?_, h4⟩
    obtain ⟨g', e, -, -, q0, q1, q2, -⟩ := SpN.at (.inr ⟨g, cur, rfl, h2, h3, h4, h5⟩ : SpN w base (.slice (some ⟨g, 0, none⟩) l.length l.length) bits l) j hj
    simp only [Value.slice.injEq, Option.some.injEq, Addr.mk.injEq, and_true] at e
    subst e
    exact ⟨q0, q1, q2⟩
theorem SpFrom.keep {w w' : World} {g : Nat} {bits : Int} {l : List (Int × Int)} {k : Nat} (h : SpFrom w g bits l k) (hg : w'.heap[g]? = w.heap[g]?) : SpFrom w' g bits l k := fun j hj hk => by
  obtain ⟨a, b, c⟩ := h j hj hk
  have e : ∀ o, w'.cell? ⟨g, o, none⟩ = w.cell? ⟨g, o, none⟩ := fun o => by unfold World.cell?; simp only; rw [hg]
  rw [e, e, e]
  exact ⟨a, b, c⟩
theorem SpFrom.below {w w' : World} {g : Nat} {bits : Int} {l : List (Int × Int)} {k : Nat} (h : SpFrom w g bits l k) (hb : Below w.heap.size w w') : SpFrom w' g bits l k := fun j hj hk => by
  obtain ⟨a, b, c⟩ := h j hj hk
  have kk : ∀ {o : Nat} {u : Value}, w.cell? ⟨g, o, none⟩ = some u → w'.cell? ⟨g, o, none⟩ = some u := fun h => (hb.cell (World.block_lt_of_cell? _ _ h)).trans h
  exact ⟨kk a, kk b, kk c⟩
theorem SpFrom.set {w : World} {g : Nat} {bits : Int} {l : List (Int × Int)} {k o : Nat} (h : SpFrom w g bits l k) (ho : o < k * 3) (u : Value) : SpFrom (w.setCell ⟨g, o, none⟩ u) g bits l k := fun j hj hk => by
  obtain ⟨a, b, c⟩ := h j hj hk
  have kk : ∀ {i : Nat} {u' : Value}, o < i → w.cell? ⟨g, i, none⟩ = some u' → (w.setCell ⟨g, o, none⟩ u).cell? ⟨g, i, none⟩ = some u' := fun hi h => (World.cell?_setCell_other _ _ _ _ (by first | (simp; done) | (simp; omega))).trans h
  exact ⟨kk (by omega) a, kk (by omega) b, kk (by omega) c⟩
end Go.Proofs.YtmakjfeepmiggaaGreat