/-
  Texts of this prover, merged: ReadAt, Bytes, Reading, WritLaw, LookQuLaw, LookLives, LookQuiet, Since, LookSoLaw, SoLk.
-/
import Derived.Test.YtdbgfidnccpmdaaGreatLA
import Derived.Test.YtdbgfidnccpmdaaGreatP3
import Derived.Test.YtdbgfidnccpmdaaGreatRA
import Derived.Test.YtdbgfidnccpmdaaGreatP1
import Derived.Test.YtdbgfidnccpmdaaGreatOpen
/-
  nestboxlaw14.At: the items of a key in its places.
-/
namespace Go.Proofs.YtdbgfidnccpmdaaGreat
open Go.RowKit Go.Maps TagPure
set_option linter.unusedVariables false

/-- Has a slot an item of the key, under its tag? -/
def okA (its : List Itm) (v : Int → Int) (key : ByteArray) (p : Int × Int) (n : Nat) : Bool := ((tagOf (v (tagsA p.1 p.2)) n == tag01 (hashOf key)) && (atOf its (wrap64 (v (itemA p.1 p.2 n)))).2) && ((atOf its (wrap64 (v (itemA p.1 p.2 n)))).1.key.toList == key.toList)
def atP (its : List Itm) (v : Int → Int) (key : ByteArray) (p : Int × Int) : Nat → List Int
  | 0 => []
  | n + 1 => atP its v key p n ++ (if okA its v key p n then [wrap64 (v (itemA p.1 p.2 n))] else [])
def atL (its : List Itm) (v : Int → Int) (key : ByteArray) : List (Int × Int) → Nat → List Int
  | _, 0 => []
  | l, k + 1 => atL its v key l k ++ (match l[k]? with | some p => atP its v key p 4 | none => [])
theorem atP_len (its : List Itm) (v : Int → Int) (key : ByteArray) (p : Int × Int) (n : Nat) : (atP its v key p n).length ≤ n := by
  induction n with
  | zero => simp [atP]
  | succ n ih => simp only [atP, List.length_append]; split <;> simp <;> omega
theorem atL_len (its : List Itm) (v : Int → Int) (key : ByteArray) (l : List (Int × Int)) (k : Nat) : (atL its v key l k).length ≤ 4 * k := by
  induction k with
  | zero => simp [atL]
  | succ k ih =>
    simp only [atL, List.length_append]
    split
    · have := atP_len its v key ‹Int × Int› 4; omega
    · simp; omega
def iv (l : List Int) : List Value := l.map fun n => Value.int .i64 n
theorem iv_app (a b : List Int) : iv (a ++ b) = iv a ++ iv b := List.map_append
theorem row_ext {w w' : World} {base e size n : Nat} {v : Value} {xs : List Value} (h : w.ownsRow base e size v n xs) (b : Below w.heap.size w w') : w'.ownsRow base e size v n xs :=
  ⟨h.1, h.2.imp id fun ⟨g, cap, cur, h1, h2, h3, h4⟩ => ⟨g, cap, cur, h1, h2, (b.block _ (Array.getElem?_eq_some_iff.1 h3).1).trans h3, h4⟩⟩
def AtPost (w : World) (L : List Int) (e : Ending) (w' : World) : Prop := ∃ v, e = .returned v ∧ w'.ownsRow w.heap.size 3 1 v L.length (iv L) ∧ Below w.heap.size w w'
set_option maxRecDepth 100000 in
set_option maxHeartbeats 8000000 in
theorem readat_any {w0 w : World} {B : WB} {V : WV} {s : CS} (h : WS w0 w B V s) (key : ByteArray) (hk : key.size ≤ maxLen) (hits : V.its.length ≤ 1048576) (hpl : (plist (hashOf key) (s.val 2)).length ≤ 4) :
    Calls Tryz.prog 38 #[.pointer (some ⟨B.wb, 0, none⟩), .string key] w (AtPost w (atL V.its s.val key (plist (hashOf key) (s.val 2)) (plist (hashOf key) (s.val 2)).length)) := by
  obtain ⟨i0, hi0, hz0, hz1, hz2⟩ := info_parts info_int
  have HI := Lib.hid hi0; have HZ0 := Lib.hid hz0; have HZ1 := Lib.hid hz1; have HZ2 := Lib.hid hz2
  have H := Lib.hid h; have HITS := Lib.hid hits
  obtain ⟨ha0, ha1⟩ := hfold_bd key key.size
  have hH := Lib.hid (fun W => hash_big key hk W)
  have hP := Lib.hid (fun W => places_any (hashOf key) (s.val 2) ha0 ha1 (h.own.wf 2) W)
  have hTg := Lib.hid (fun W => tag_fn (hashOf key) ha0 ha1 W)
  obtain ⟨Lp, hLp⟩ : ∃ Lp, Lp = plist (hashOf key) (s.val 2) := ⟨_, rfl⟩
  rw [← hLp] at hP hpl ⊢
  have HPL := Lib.hid hpl
  clear hi0 hz0 hz1 hz2 h hits ha0 ha1 hk hLp hpl
  go_enter Tryz.func38, Tryz.ntmps38
  go_upto_region 3 with (go_at_call 32; refine (hH.out _).mono ?_; intro e w1 hh; obtain ⟨hh1, b1⟩ := hh; subst hh1; have B1 := Lib.hid b1; clear b1)
  have h1 := H.out.keep B1.out
  have hpk := h1.peek 2 (by decide)
  have c0 := h1.c0
  clear h1
  go_upto_region 4 with (first
    | (go_at_call 33; refine hpk.mono ?_; intro e w' hh; obtain ⟨hh1, hh2⟩ := hh; subst hh1; obtain rfl := hh2.symm; clear hpk c0)
    | (go_at_call 31; refine (hP.out _).mono ?_; intro e w2 hh; obtain ⟨pv, hh1, hp, b2⟩ := hh; subst hh1; have B2 := Lib.hid (B1.out.trans (b2.mono B1.out.size)); obtain ⟨ao, hpv, hplc⟩ := hp.plc; subst hpv; have HPC := Lib.hid hplc; clear b2 hp hplc))
  clear hH hP
  go_wp2_with fail
  have HB2 := Lib.hid B2.out
  have HK0 := Lib.hid (show ∀ W, Below w2.heap.size w2 W → WS w0 W B V s from fun W hW => H.out.keep (B2.out.trans (hW.mono B2.out.size)))
  go_loopw [5, 8] (fun v5 v8 wr => ∃ k : Nat, k ≤ Lp.length ∧ v8 = .int .i64 k ∧ wr.ownsRow w2.heap.size 3 1 v5 (atL V.its s.val key Lp k).length (iv (atL V.its s.val key Lp k)) ∧ Below w2.heap.size w2 wr) (fun _ v8 _ => Lp.length - (intOf v8).toNat)
  case atStart => exact ⟨0, by omega, rfl, World.ownsRow_nil _ _ _ _, Below.refl _ _⟩
  case round =>
    obtain ⟨k, hk, rfl, hown, hbl⟩ := hrel
    have hp4 := HPL.out
    by_cases hlt : k < Lp.length
    · have hlt' : (k : Int) < Lp.length := by omega
      have hp4' : (Lp.length : Int) ≤ 4 := by omega
      obtain ⟨g, o, x, y, hao, hlk, -, -⟩ := HPC.out.at k hlt
      have hcl := (show ∀ W, Below w2.heap.size w2 W → W.cell? ⟨g, o + k * 2, none⟩ = some (.int .i64 x) ∧ W.cell? ⟨g, o + k * 2 + 1, none⟩ = some (.int .i64 y) from fun W hW => by
        obtain ⟨g', o', x', y', hao', hlk', h1, h2⟩ := (HPC.out.below hW).at k hlt
        rw [hao] at hao'
        simp only [Option.some.injEq, Addr.mk.injEq, and_true] at hao'
        rw [hlk] at hlk'
        simp only [Option.some.injEq, Prod.mk.injEq] at hlk'
        obtain ⟨rfl, rfl⟩ := hao'
        obtain ⟨rfl, rfl⟩ := hlk'
        exact ⟨h1, h2⟩)
      have HCL := Lib.hid hcl; have HLK := Lib.hid hlk; have HLT := Lib.hid hlt; have HOWN := Lib.hid hown; have HBL := Lib.hid hbl
      subst hao
      clear hcl hlk hlt hown hbl hk hp4
      go_wp2_with fail
      go_loopw [5, 9] (fun v5 v9 wi => ∃ j : Nat, j ≤ 4 ∧ v9 = .int .i64 j ∧ wi.ownsRow w2.heap.size 3 1 v5 (atL V.its s.val key Lp k ++ atP V.its s.val key (x, y) j).length (iv (atL V.its s.val key Lp k ++ atP V.its s.val key (x, y) j)) ∧ Below w2.heap.size w2 wi) (fun _ v9 _ => 4 - (intOf v9).toNat)
      case atStart => exact ⟨0, by omega, rfl, by simp only [atP, List.append_nil]; exact HOWN.out, HBL.out⟩
      case round =>
        clear HOWN HBL
        obtain ⟨j, hj, rfl, hown, hbl⟩ := hrel
        by_cases hj4 : j < 4
        · have hj4' : (j : Int) < 4 := by omega
          obtain ⟨x0, x1⟩ := HCL.out _ hbl
          have hsl := slot_any (HK0.out _ hbl) x y j (by simp [Lit.wf, IntKind.min, IntKind.max, IntKind.bits, IntKind.signed]; omega)
          have HOWN := Lib.hid hown; have HBL := Lib.hid hbl; have HJ := Lib.hid hj4
          clear hown hbl hj hj4
          go_upto_region 11 with (go_at_call 62; refine hsl.mono ?_; intro e w6 hh; obtain ⟨hh1, b6⟩ := hh; subst hh1; have HOWN6 := Lib.hid (row_ext HOWN.out b6); have HB6 := Lib.hid (HBL.out.trans (b6.mono HBL.out.size)); clear b6 hsl x0 x1 HOWN HBL)
          obtain ⟨tg, htg⟩ : ∃ tg, tagOf (s.val (tagsA x y)) (j : Int) = tg := ⟨_, rfl⟩
          obtain ⟨it, hit⟩ : ∃ it, s.val (itemA x y (j : Int)) = it := ⟨_, rfl⟩
          obtain ⟨r, hr⟩ : ∃ r, wrap64 it = r := ⟨_, rfl⟩
          have hr2 : IntKind.i64.wrap it = r := (IntWalk.i64_left it).trans hr
          rw [htg, hit]
          have hi9 := (HK0.out _ HB6.out).iat5 HITS.out r
          obtain ⟨z, hz⟩ : ∃ z, z = atOf V.its r := ⟨_, rfl⟩
          rw [← hz] at hi9
          have hstep : atP V.its s.val key (x, y) (j + 1) = atP V.its s.val key (x, y) j ++ (if ((tg == tag01 (hashOf key)) && z.2) && (z.1.key.toList == key.toList) then [r] else []) := by
            simp only [atP, okA, htg, hit, hr, ← hz]
          have hpc := (HK0.out _ HB6.out).hd5.2.1
          have HSTEP := Lib.hid hstep
          clear hstep htg hit hz
          go_upto_region 12 with (go_at_call 40; refine hi9.mono ?_; intro e w9 hh; obtain ⟨hh1, b9⟩ := hh; subst hh1; have B9 := Lib.hid b9; clear b9 hi9 hpc)
          have hbA := below_alloc w9 (.cells z.1.cells.toArray 52)
          have hxA := hcell (heap_alloc_new w9 (.cells z.1.cells.toArray 52)) 0
          have b6A := B9.out.trans (hbA.mono B9.out.size)
          have HBA := Lib.hid (HB6.out.trans (b6A.mono HB6.out.size))
          have HOWNA := Lib.hid (row_ext HOWN6.out b6A)
          change Code.wp _ _ _ _ (w9.alloc (.cells z.1.cells.toArray 52))
          clear hbA b6A B9 HB6 HOWN6
          generalize w9.alloc (.cells z.1.cells.toArray 52) = wA at *
          generalize w9.heap.size = qA at *
          have cA : wA.cell? ⟨qA, 0, none⟩ = some (.string z.1.key) := hxA
          obtain ⟨b1, hb1⟩ : ∃ b1, (tg == tag01 (hashOf key)) = b1 := ⟨_, rfl⟩
          obtain ⟨b2, hb2⟩ : ∃ b2, z.2 = b2 := ⟨_, rfl⟩
          obtain ⟨b3, hb3⟩ : ∃ b3, (z.1.key.toList == key.toList) = b3 := ⟨_, rfl⟩
          have hstep := HSTEP.out
          rw [hb1, hb2, hb3] at hstep
          rw [hb2]
          have HSTEP2 := Lib.hid hstep
          clear HSTEP hstep hxA hb2
          have hno : (b1 && b2 && b3) = false → atP V.its s.val key (x, y) (j + 1) = atP V.its s.val key (x, y) j := fun hf => by
            rw [HSTEP2.out, hf]; simp
          have HNO := Lib.hid hno
          clear hno
          cases b1
          all_goals
            cases b2
            all_goals
              cases b3
          rotate_left 7
          · have HE := Lib.hid (show atP V.its s.val key (x, y) (j + 1) = atP V.its s.val key (x, y) j ++ [r] from HSTEP2.out)
            have hn5 : (atL V.its s.val key Lp k ++ atP V.its s.val key (x, y) j).length ≤ 20 := by
              rw [List.length_append]
              have h1 := atL_len V.its s.val key Lp k; have h2 := atP_len V.its s.val key (x, y) j; have := HPL.out; have := HLT.out; have := HJ.out; omega
            have HN5 := Lib.hid hn5
            clear hn5
            go_upto_region 13 with (go_at_call 56; refine (hTg.out _).mono ?_; intro e w10 hh; obtain ⟨hh1, hh2⟩ := hh; subst hh1; obtain rfl := hh2.symm)
            clear cA hb1 hb3
            go_wp2_with (at_builtin; refine wpList_append_own _ rfl _ _ 103 rfl w2.heap.size 3 i0 (.int .i64 0) 1 8 Tryz.underlying103 HI.out HZ0.out HZ1.out HZ2.out rfl (by decide) _ _ _ rfl (HOWNA.out.alloc _) ⟨wA.heap.size, 0, none⟩ 1 1 [.int .i64 r] rfl rfl ?c1 ?c2 ?c3 ?c4 ?c5 ?_)
            case c1 => exact cell_one_new _ _ _
            case c2 => simp [Value.oneCell']
            case c3 => have h5 := HN5.out; unfold maxLen; omega
            case c4 => have h5 := HN5.out; omega
            case c5 => simp; have := HBA.out.size; omega
            intro v' w3 hown' hgrow _
            go_wp2
            go_roundw
            case rel =>
              refine ⟨j + 1, HJ.out, by go_num, ?_, (HBA.out.alloc HBA.out.size _).grown hgrow (by simp; have := HBA.out.size; omega) (fun j hj => (HOWNA.out.lt j hj).1)⟩
              rw [HE.out, ← List.append_assoc, iv_app, List.length_append, List.length_append]; exact hown'
            case measure => simp [intOf]; omega
          all_goals
            clear HSTEP2
            go_wp2_with (go_at_call 56; refine (hTg.out _).mono ?_; intro e w10 hh; obtain ⟨hh1, hh2⟩ := hh; subst hh1; obtain rfl := hh2.symm)
            go_roundw
            case rel => exact ⟨j + 1, HJ.out, by go_num, by rw [HNO.out rfl]; exact HOWNA.out, HBA.out⟩
            case measure => have := HJ.out; simp [intOf]; omega
        · obtain rfl : j = 4 := by omega
          have e : atL V.its s.val key Lp (k + 1) = atL V.its s.val key Lp k ++ atP V.its s.val key (x, y) 4 := by
            simp only [atL, HLK.out]
          rw [← e] at hown
          have HOWN := Lib.hid hown; have HBL := Lib.hid hbl
          clear hown hbl hj hj4 e
          go_wp2_with fail
          go_roundw
          case rel => exact ⟨k + 1, HLT.out, by have := HLT.out; go_num, HOWN.out, HBL.out⟩
          case measure => have := HLT.out; simp [intOf]; omega
    · obtain rfl : k = Lp.length := by omega
      have hB := B2.out.trans (hbl.mono B2.out.size)
      have hown2 : wr.ownsRow w.heap.size 3 1 u5 (atL V.its s.val key Lp Lp.length).length (iv (atL V.its s.val key Lp Lp.length)) := ⟨hown.1, hown.2.imp id fun ⟨g, cap, cur, h1, h2, h3⟩ => ⟨g, cap, cur, h1, Nat.le_trans B2.out.size h2, h3⟩⟩
      have HO := Lib.hid hown2; have HBB := Lib.hid hB
      clear hown hown2 hbl hB hlt hk
      go_wp2_with fail
      go_ret
      exact ⟨_, rfl, HO.out, HBB.out⟩
end Go.Proofs.YtdbgfidnccpmdaaGreat

/-
  Lists of bytes in memory.
-/
namespace Go.Proofs.YtdbgfidnccpmdaaGreat
open Go.RowKit
set_option linter.unusedVariables false

structure By8 (w : World) (a : Option Addr) (cap : Nat) (l : List Int) : Prop where
  le : l.length ≤ cap
  most : cap ≤ maxLen
  nil : a = none → cap = 0
  wf : ∀ x ∈ l, 0 ≤ x ∧ x < 256
  cell : l = [] ∨ ∃ b off, a = some ⟨b, off, none⟩ ∧ ∀ i, (hi : i < l.length) → w.cell? ⟨b, off + i, none⟩ = some (.int .u8 l[i])
theorem By8.at {w : World} {a : Option Addr} {cap : Nat} {l : List Int} (h : By8 w a cap l) (i : Nat) (hi : i < l.length) :
    ∃ b off x, a = some ⟨b, off, none⟩ ∧ (0 ≤ x ∧ x < 256) ∧ w.cell? ⟨b, off + i, none⟩ = some (.int .u8 x) := by
  rcases h.cell with rfl | ⟨b, off, rfl, h5⟩
  · simp at hi
  · exact ⟨b, off, l[i], rfl, h.wf _ (List.getElem_mem hi), h5 i hi⟩
theorem By8.below {w w' : World} {a : Option Addr} {cap : Nat} {l : List Int} (h : By8 w a cap l) (hb : Below w.heap.size w w') : By8 w' a cap l := by
  refine ⟨h.le, h.most, h.nil, h.wf, h.cell.imp id fun ⟨b, off, e, h5⟩ => ⟨b, off, e, fun i hi => ?_⟩⟩
  have h6 := h5 i hi
  exact (hb.cell (World.block_lt_of_cell? _ _ h6)).trans h6
theorem by8_of {w : World} {v : Value} (h : Leaf.holds w (.sl [.int .u8]) v) : ∃ (l : List Int) (a : Option Addr) (cap : Nat), v = .slice a l.length cap ∧ By8 w a cap l := by
  obtain ⟨l, a, cap, rfl, h1, h2, h3, h4, h5⟩ := recs_of h
  have hwf : ∀ x, (Lit.int .u8 x).wf = true → 0 ≤ x ∧ x < 256 := fun x hx => by
    have hmin : IntKind.u8.min = 0 := rfl
    have hmax : IntKind.u8.max = 255 := rfl
    simp only [Lit.wf, Bool.and_eq_true, decide_eq_true_eq] at hx; omega
  obtain ⟨m, hm, hp⟩ := list_of (fun i (x : Int) => l[i]? = some [.int .u8 x] ∧ 0 ≤ x ∧ x < 256) l.length (fun i hi => by
    obtain ⟨c0, r, e0, g0, h⟩ := allHold_cons (h4 _ (List.getElem_mem hi))
    obtain rfl := allHold_nil h
    obtain ⟨z0, rfl, k0⟩ := holds_int g0
    exact ⟨z0, by rw [List.getElem?_eq_getElem hi, e0], hwf _ k0⟩)
  refine ⟨m, a, cap, by rw [hm], ⟨by omega, h2, h3, fun x hx => ?_, ?_⟩⟩
  · obtain ⟨i, hi, rfl⟩ := List.mem_iff_getElem.1 hx
    exact (hp i hi).2
  · rcases h5 with rfl | ⟨b, off, rfl, h6⟩
    · exact .inl (List.length_eq_zero_iff.1 hm)
    · refine .inr ⟨b, off, rfl, fun i hi => ?_⟩
      have hi2 : i < l.length := by omega
      have hq := (hp i (by omega)).1
      rw [List.getElem?_eq_getElem hi2, Option.some.injEq] at hq
      have a0 := h6 i hi2 0 (by decide)
      rw [hq] at a0
      simpa using a0
theorem leaves_by8 : leaves Tryz.prog 4 81 = some [.sl [.int .u8]] := by kernel_rfl
end Go.Proofs.YtdbgfidnccpmdaaGreat

/-
  A Reading of law 14 that comes in: opened; is it great?
-/
namespace Go.Proofs.YtdbgfidnccpmdaaGreat
open Go.RowKit
set_option linter.unusedVariables false

/-- A change. -/
structure Chg where
  kind : Int
  item : Int
  place : Int
  slot : Int
structure Chg.ok (c : Chg) : Prop where
  kind : 0 ≤ c.kind ∧ c.kind < 256
  item : 0 ≤ c.item ∧ c.item < 256
  place : 0 ≤ c.place ∧ c.place < 256
  slot : 0 ≤ c.slot ∧ c.slot < 256
structure Quad (w : World) (a : Option Addr) (cap : Nat) (l : List Chg) : Prop where
  le : l.length ≤ cap
  most : cap ≤ maxLen
  bd : ∀ p ∈ l, p.ok
  cell : l = [] ∨ ∃ b off, a = some ⟨b, off, none⟩ ∧ ∀ i, (hi : i < l.length) → w.cell? ⟨b, off + i * 4, none⟩ = some (.int .u8 (l[i]).kind) ∧ w.cell? ⟨b, off + i * 4 + 1, none⟩ = some (.int .u8 (l[i]).item) ∧ w.cell? ⟨b, off + i * 4 + 2, none⟩ = some (.int .u8 (l[i]).place) ∧ w.cell? ⟨b, off + i * 4 + 3, none⟩ = some (.int .u8 (l[i]).slot)
theorem Quad.below {w w' : World} {a : Option Addr} {cap : Nat} {l : List Chg} (h : Quad w a cap l) (hb : Below w.heap.size w w') : Quad w' a cap l := by
  refine ⟨h.le, h.most, h.bd, h.cell.imp id fun ⟨b, off, e, h5⟩ => ⟨b, off, e, fun i hi => ?_⟩⟩
  obtain ⟨h6, h7, h8, h9⟩ := h5 i hi
  exact ⟨(hb.cell (World.block_lt_of_cell? _ _ h6)).trans h6, (hb.cell (World.block_lt_of_cell? _ _ h7)).trans h7, (hb.cell (World.block_lt_of_cell? _ _ h8)).trans h8, (hb.cell (World.block_lt_of_cell? _ _ h9)).trans h9⟩
theorem quad_of {w : World} {v : Value} (h : Leaf.holds w (.sl [.int .u8, .int .u8, .int .u8, .int .u8]) v) : ∃ (l : List Chg) (a : Option Addr) (cap : Nat), v = .slice a l.length cap ∧ Quad w a cap l := by
  obtain ⟨l, a, cap, rfl, h1, h2, h3, h4, h5⟩ := recs_of h
  obtain ⟨m, hm, hp⟩ := list_of (fun i (x : Chg) => l[i]? = some [.int .u8 x.kind, .int .u8 x.item, .int .u8 x.place, .int .u8 x.slot] ∧ x.ok) l.length (fun i hi => by
    obtain ⟨c0, r, e0, g0, h⟩ := allHold_cons (h4 _ (List.getElem_mem hi))
    obtain ⟨c1, r, rfl, g1, h⟩ := allHold_cons h
    obtain ⟨c2, r, rfl, g2, h⟩ := allHold_cons h
    obtain ⟨c3, r, rfl, g3, h⟩ := allHold_cons h
    obtain rfl := allHold_nil h
    obtain ⟨z0, rfl, k0⟩ := holds_int g0
    obtain ⟨z1, rfl, k1⟩ := holds_int g1
    obtain ⟨z2, rfl, k2⟩ := holds_int g2
    obtain ⟨z3, rfl, k3⟩ := holds_int g3
    exact ⟨⟨z0, z1, z2, z3⟩, by rw [List.getElem?_eq_getElem hi, e0], wf_u8 k0, wf_u8 k1, wf_u8 k2, wf_u8 k3⟩)
  refine ⟨m, a, cap, by rw [hm], ⟨by omega, h2, fun x hx => ?_, ?_⟩⟩
  · obtain ⟨i, hi, rfl⟩ := List.mem_iff_getElem.1 hx
    exact (hp i hi).2
  · rcases h5 with rfl | ⟨b, off, rfl, h6⟩
    · exact .inl (List.length_eq_zero_iff.1 hm)
    · refine .inr ⟨b, off, rfl, fun i hi => ?_⟩
      have hi2 : i < l.length := by omega
      have hq := (hp i (by omega)).1
      rw [List.getElem?_eq_getElem hi2, Option.some.injEq] at hq
      have a0 := h6 i hi2 0 (by decide)
      have a1 := h6 i hi2 1 (by decide)
      have a2 := h6 i hi2 2 (by decide)
      have a3 := h6 i hi2 3 (by decide)
      rw [hq] at a0 a1 a2 a3
      exact ⟨by simpa using a0, by simpa [Nat.add_assoc] using a1, by simpa [Nat.add_assoc] using a2, by simpa [Nat.add_assoc] using a3⟩
/-- What a Reading holds. -/
structure Rdg where
  bits : Int
  ia : Option Addr
  ic : Nat
  its : List Itm
  ca : Option Addr
  cc : Nat
  chs : List Chg
  key : ByteArray
  tries : Int
  sa : Option Addr
  sc : Nat
  steps : List Int
abbrev Rdg.cells (q : Rdg) : Array Value := #[.int .u8 q.bits, .slice q.ia q.its.length q.ic, .slice q.ca q.chs.length q.cc, .string q.key, .int .u8 q.tries, .slice q.sa q.steps.length q.sc]
structure RdgRd (w : World) (q : Rdg) : Prop where
  bits : 0 ≤ q.bits ∧ q.bits < 256
  tries : 0 ≤ q.tries ∧ q.tries < 256
  key : q.key.size ≤ maxLen
  its : Itms w (.slice q.ia q.its.length q.ic) q.its
  chs : Quad w q.ca q.cc q.chs
  steps : By8 w q.sa q.sc q.steps
theorem RdgRd.below {w w' : World} {q : Rdg} (h : RdgRd w q) (hb : Below w.heap.size w w') : RdgRd w' q := ⟨h.bits, h.tries, h.key, h.its.below hb (Nat.le_refl _), h.chs.below hb, h.steps.below hb⟩
def rdgLeaves : List Leaf := [.int .u8, .sl itmLeaves, .sl [.int .u8, .int .u8, .int .u8, .int .u8], .str, .int .u8, .sl [.int .u8]]
theorem leaves_reading : leaves Tryz.prog 5 83 = some rdgLeaves := by kernel_rfl
theorem rdg_of {w : World} {cs : List Value} (h : Leaf.allHold w rdgLeaves cs) : ∃ q : Rdg, cs = q.cells.toList ∧ RdgRd w q := by
  unfold rdgLeaves at h
  obtain ⟨c0, r, rfl, g0, h⟩ := allHold_cons h
  obtain ⟨c1, r, rfl, g1, h⟩ := allHold_cons h
  obtain ⟨c2, r, rfl, g2, h⟩ := allHold_cons h
  obtain ⟨c3, r, rfl, g3, h⟩ := allHold_cons h
  obtain ⟨c4, r, rfl, g4, h⟩ := allHold_cons h
  obtain ⟨c5, r, rfl, g5, h⟩ := allHold_cons h
  obtain rfl := allHold_nil h
  obtain ⟨z0, rfl, k0⟩ := holds_int g0
  obtain ⟨its, hi⟩ := itms_of g1
  obtain ⟨ia, ic, rfl, hi2⟩ := id hi
  obtain ⟨chs, ca, cc, rfl, hc⟩ := quad_of g2
  obtain ⟨z3, rfl, k3⟩ := holds_str g3
  obtain ⟨z4, rfl, k4⟩ := holds_int g4
  obtain ⟨steps, sa, sc, rfl, hs⟩ := by8_of g5
  exact ⟨⟨z0, ia, ic, its, ca, cc, chs, z3, z4, sa, sc, steps⟩, rfl, wf_u8 k0, wf_u8 k4, k3, hi, hc, hs⟩
set_option maxRecDepth 10000 in
theorem rdg_open {H : Type} {w : World} {enc : TypeId × Value → H} {base : Nat} {v : Value} {d : DataW H} {p : List MemPlace} (k : DataW.Trod enc Tryz.prog w 0 (fun _ => true) true 83 v d p) (o : Value.okWide Tryz.prog w .any base 83 v) : ∃ q : Rdg, v = .agg q.cells ∧ RdgRd w q := by
  obtain ⟨cs, rfl, -⟩ := Go.WideShapes.okWide_struct Tryz.underlying83 o
  obtain ⟨q, hf, hr⟩ := rdg_of (opened leaves_reading k)
  refine ⟨q, ?_, hr⟩
  have : cs.toList = q.cells.toList := hf
  rw [Array.toList_inj.1 this]
theorem rdg_cells {W : World} {p : Nat} {q : Rdg} (z : W.heap[p]? = some (.cells q.cells 83 (0, 0))) : W.cell? ⟨p, 0, none⟩ = some (.int .u8 q.bits) ∧ W.cell? ⟨p, 1, none⟩ = some (.slice q.ia q.its.length q.ic) ∧ W.cell? ⟨p, 2, none⟩ = some (.slice q.ca q.chs.length q.cc) ∧ W.cell? ⟨p, 3, none⟩ = some (.string q.key) ∧ W.cell? ⟨p, 4, none⟩ = some (.int .u8 q.tries) ∧ W.cell? ⟨p, 5, none⟩ = some (.slice q.sa q.steps.length q.sc) :=
  ⟨hcell z 0, hcell z 1, hcell z 2, hcell z 3, hcell z 4, hcell z 5⟩
def RGPost (w : World) (q : Rdg) (e : Ending) (w' : World) : Prop := ∃ g, e = .returned (.bool g) ∧ Below w.heap.size w w' ∧ (g = false → q.its.length ≤ 30 ∧ q.chs.length ≤ 60 ∧ q.steps.length ≤ 400)
set_option maxRecDepth 100000 in
set_option maxHeartbeats 2000000 in
theorem rgreat_any (q : Rdg) (w : World) (hr : RdgRd w q) : Calls Tryz.prog 28 #[.agg q.cells] w (RGPost w q) := by
  have hB := below_alloc w (.cells q.cells 83)
  have z := heap_alloc_new w (.cells q.cells 83)
  have HR := Lib.hid hr; have HB := Lib.hid hB; have HKL := Lib.hid hr.key
  clear hr hB
  go_enter Tryz.func28, Tryz.ntmps28
  go_upto_region 1 with (fail)
  change Code.wp _ _ _ _ (w.alloc (.cells q.cells 83))
  generalize w.alloc (.cells q.cells 83) = w1 at *
  have C1 := Lib.hid (show w1.cell? ⟨w.heap.size, 1, none⟩ = some (.slice q.ia q.its.length q.ic) from hcell z 1)
  have C2 := Lib.hid (show w1.cell? ⟨w.heap.size, 2, none⟩ = some (.slice q.ca q.chs.length q.cc) from hcell z 2)
  have C5 := Lib.hid (show w1.cell? ⟨w.heap.size, 5, none⟩ = some (.slice q.sa q.steps.length q.sc) from hcell z 5)
  have c3 : w1.cell? ⟨w.heap.size, 3, none⟩ = some (.string q.key) := hcell z 3
  clear z
  go_wp2_with fail
  clear c3
  go_loopw [3, 4] (fun v3 v4 wr => ∃ (k : Nat) (n : Int), k ≤ q.its.length ∧ k ≤ 50 ∧ v4 = .int .i64 k ∧ v3 = .int .i64 n ∧ Below w1.heap.size w1 wr) (fun _ v4 _ => q.its.length - (intOf v4).toNat)
  case atStart => exact ⟨0, q.key.size, by omega, by omega, rfl, rfl, Below.refl _ _⟩
  case round =>
    obtain ⟨k, n, hk, hk50, rfl, rfl, hbw⟩ := hrel
    have c1 : wr.cell? ⟨w.heap.size, 1, none⟩ = some (.slice q.ia q.its.length q.ic) := (ExtW.mk wr hbw).cell C1.out
    have c2 : wr.cell? ⟨w.heap.size, 2, none⟩ = some (.slice q.ca q.chs.length q.cc) := (ExtW.mk wr hbw).cell C2.out
    have c5 : wr.cell? ⟨w.heap.size, 5, none⟩ = some (.slice q.sa q.steps.length q.sc) := (ExtW.mk wr hbw).cell C5.out
    have HBW := Lib.hid hbw
    clear hbw
    by_cases hlt : k < q.its.length ∧ k < 50
    · have hlt' : (k : Int) < q.its.length := by omega
      have hlt2 : (k : Int) < 50 := by omega
      obtain ⟨b, off, y, hia, hy, q0, q1, q2, q3, q4, q5⟩ := Itms.cell HR.out.its k hlt.1
      have hg : b < w.heap.size := World.block_lt_of_cell? _ _ q0
      have q0 := fun st2 : ExtW wr => st2.cell ((ExtW.mk wr HBW.out).cell ((HB.out.cell (p := ⟨b, _, none⟩) hg).trans q0))
      have q1 := fun st2 : ExtW wr => st2.cell ((ExtW.mk wr HBW.out).cell ((HB.out.cell (p := ⟨b, _, none⟩) hg).trans q1))
      rw [hia] at c1
      have HLT := Lib.hid hlt
      have k1 := fun st2 : ExtW wr => st2.cell c1
      clear hy hia hg q2 q3 q4 q5 hk hk50 hlt c2 c5
      by_cases e1 : (4000 : Int) < y.key.size
      all_goals
        by_cases e2 : (4000 : Int) < y.val.size
        all_goals
          go_upto_region 5 with (fail)
          refine wp_region_ext (by kernel_rfl) (by kernel_rfl) ?_
          repeat (go_big_quiet_step (fail))
          refine wpQuiet_nil ?_
          rintro W2 ⟨⟨_, hW⟩, rfl⟩
          clear q0 q1 k1 c1 e1 e2
          go_wp2_with fail
          go_roundw
          case rel => exact ⟨k + 1, _, HLT.out.1, HLT.out.2, by go_num, rfl, HBW.out.trans (hW.mono HBW.out.size)⟩
          case measure => have h1 := HLT.out; simp [intOf]; omega
    · have hex : RGPost w q (.returned (.bool (decide (4000 < n) || decide ((30 : Int) < q.its.length) || decide ((60 : Int) < q.chs.length) || decide ((400 : Int) < q.steps.length)))) wr := by
        refine ⟨_, rfl, HB.out.trans (HBW.out.mono HB.out.size), fun h => ?_⟩
        simp only [Bool.or_eq_false_iff, decide_eq_false_iff_not] at h
        omega
      obtain ⟨d0, hd0⟩ : ∃ d, decide ((4000 : Int) < n) = d := ⟨_, rfl⟩
      obtain ⟨d1, hd1⟩ : ∃ d, decide ((30 : Int) < q.its.length) = d := ⟨_, rfl⟩
      obtain ⟨d2, hd2⟩ : ∃ d, decide ((60 : Int) < q.chs.length) = d := ⟨_, rfl⟩
      obtain ⟨d3, hd3⟩ : ∃ d, decide ((400 : Int) < q.steps.length) = d := ⟨_, rfl⟩
      rw [hd0, hd1, hd2, hd3] at hex
      have HEX := Lib.hid hex
      clear hex
      by_cases hkl : k < q.its.length
      all_goals
        first
          | have hkl' : (k : Int) < q.its.length := by omega
          | have hkl' : ¬ (k : Int) < q.its.length := by omega
        try (have hk50' : ¬ (k : Int) < 50 := by omega)
        clear hlt hk hk50 hkl
        cases d0
        all_goals
          cases d1
          all_goals
            cases d2
            all_goals
              go_wp2_with fail
              go_ret
              exact HEX.out
end Go.Proofs.YtdbgfidnccpmdaaGreat

/-
  Law 14's writer: what a step of it does, in plain words; what it leaves.
-/
namespace Go.Proofs.YtdbgfidnccpmdaaGreat
open Go.RowKit Go.Maps TagPure
set_option linter.unusedVariables false

/-- The tables' next word. -/
def nextW (t : Int) : Int := if 0 < asNow t then tword (asNow t) 0 else tword (asOld t) (asOld t + 1)
/-- What a change has to do. -/
def chRow (its : List Itm) (v : Int → Int) (c : Chg) : List Dg :=
  let ref := 1 + c.item % its.length
  let h := hashOf (atOf its ref).1.key
  let l := plist h (v 2)
  let p := l.getD (c.place % l.length).toNat (0, 0)
  [.mark (vof [p]), if 3 < c.kind % 8 then .out (sof p.1 p.2 (c.slot % 4)) else hsput (p.1, p.2, c.slot % 4) (tag01 h) ref, .mark (vof [p])]
/-- A step of what is first. -/
def wdo (s : CS) (left : List Chg) (d : Dg) (r : List Dg) : Bool × CS × List Chg × List Dg := (true, (d.step s).1, left, if (d.step s).2.over then r else (d.step s).2 :: r)
/-- A writer's step. -/
def wgo (its : List Itm) (s : CS) : List Chg → List Dg → Bool × CS × List Chg × List Dg
  | left, d :: r => wdo s left d r
  | [], [] => (false, s, [], [])
  | c :: left, [] =>
    if c.kind % 8 = 7 then (if asOld (s.val 2) < 12 then (true, s.acc 2 2 (nextW (s.val 2)), left, []) else wgo its s left [])
    else if its = [] then wgo its s left [] else (match chRow its s.val c with | [] => (true, s, left, []) | d :: r => wdo s left d r)
theorem wgo_cons (its : List Itm) (s : CS) (left : List Chg) (d : Dg) (r : List Dg) : wgo its s left (d :: r) = wdo s left d r := by cases left <;> simp [wgo]
def EvenV (v : Int → Int) : Prop := ∀ a, 64 ≤ a → a < 128 → v a % 2 = 0
def OddA (a0 : Int) (v : Int → Int) : Prop := ∀ a, 64 ≤ a → a < 128 → v a % 2 = if a = a0 then 1 else 0
def SGo (σ : SL) : Prop := 128 ≤ σ.tg ∧ 128 ≤ σ.it ∧ (σ.ln = 0 ∨ σ.ln = 1 ∨ σ.ln = 2)
/-- What a change does: not through yet; its words are no versions. -/
def DGo : Dg → Prop
  | .mark _ => False
  | .out σ => SGo σ
  | .put σ _ _ => SGo σ
def dcost : Dg → Nat
  | .mark xs => xs.length
  | .out σ => (3 - σ.ln).toNat
  | .put σ _ _ => (3 - σ.ln).toNat
def rcost (row : List Dg) : Nat := (row.map dcost).sum
/-- How far a change is. -/
inductive WPh : (Int → Int) → List Dg → Prop
  | z (v : Int → Int) (h : EvenV v) : WPh v []
  | a (v : Int → Int) (a0 : Int) (d : Dg) (h : EvenV v) (h0 : 64 ≤ a0 ∧ a0 < 128) (hd : DGo d) : WPh v [.mark [a0], d, .mark [a0]]
  | b (v : Int → Int) (a0 : Int) (d : Dg) (h : OddA a0 v) (h0 : 64 ≤ a0 ∧ a0 < 128) (hd : DGo d) : WPh v [d, .mark [a0]]
  | c (v : Int → Int) (a0 : Int) (h : OddA a0 v) (h0 : 64 ≤ a0 ∧ a0 < 128) : WPh v [.mark [a0]]
theorem sgo_over {σ : SL} (h : SGo σ) : ((σ.tg == 0) || (σ.ln == 3)) = false := by
  obtain ⟨h1, -, h3⟩ := h
  have e1 : (σ.tg == 0) = false := beq_eq_false_iff_ne.2 (by omega)
  have e2 : (σ.ln == 3) = false := beq_eq_false_iff_ne.2 (by omega)
  rw [e1, e2]; rfl
theorem dgo_over {d : Dg} (h : DGo d) : d.over = false := by
  cases d with
  | mark xs => cases h
  | out σ => exact sgo_over h
  | put σ g r => exact sgo_over h
theorem WPh.over {v : Int → Int} {row : List Dg} (h : WPh v row) : ∀ d ∈ row, d.over = false := by
  intro d hd
  cases h with
  | z h => cases hd
  | a a0 d' h h0 hd' =>
    simp only [List.mem_cons, List.not_mem_nil, or_false] at hd
    rcases hd with rfl | rfl | rfl
    · rfl
    · exact dgo_over hd'
    · rfl
  | b a0 d' h h0 hd' =>
    simp only [List.mem_cons, List.not_mem_nil, or_false] at hd
    rcases hd with rfl | rfl
    · exact dgo_over hd'
    · rfl
  | c a0 h h0 =>
    simp only [List.mem_cons, List.not_mem_nil, or_false] at hd
    subst hd; rfl
theorem even_far {v : Int → Int} (h : EvenV v) {g : Int} (hg : 128 ≤ g ∨ g < 64) (y : Int) : EvenV (upd v g y) := fun a h1 h2 => by
  unfold upd; rw [if_neg (by omega)]; exact h a h1 h2
theorem odd_far {a0 : Int} {v : Int → Int} (h : OddA a0 v) {g : Int} (hg : 128 ≤ g) (y : Int) : OddA a0 (upd v g y) := fun a h1 h2 => by
  unfold upd; rw [if_neg (by omega)]; exact h a h1 h2
theorem even_odd {a0 : Int} {v : Int → Int} (h : EvenV v) (h0 : 64 ≤ a0 ∧ a0 < 128) : OddA a0 (upd v a0 (wu (v a0 + 1))) := fun a h1 h2 => by
  unfold upd
  by_cases e : a = a0
  · rw [if_pos e, if_pos e, wu_eq]
    have := h a0 h0.1 h0.2
    omega
  · rw [if_neg e, if_neg e]; exact h a h1 h2
theorem odd_even {a0 : Int} {v : Int → Int} (h : OddA a0 v) (h0 : 64 ≤ a0 ∧ a0 < 128) : EvenV (upd v a0 (wu (v a0 + 1))) := fun a h1 h2 => by
  unfold upd
  by_cases e : a = a0
  · rw [if_pos e, wu_eq]
    have := h a0 h0.1 h0.2
    rw [if_pos rfl] at this
    omega
  · rw [if_neg e]
    have := h a h1 h2
    rw [if_neg e] at this
    exact this
theorem dgs_le (s : CS) (d : Dg) : (d.step s).1.n ≤ s.n + 1 ∧ (d.step s).1.cnt ≤ s.cnt + 1 := by
  cases d with
  | mark xs => cases xs with
    | nil => exact ⟨Nat.le_succ _, by show s.cnt ≤ s.cnt + 1; omega⟩
    | cons a r => exact ⟨Nat.le_refl _, Nat.le_refl _⟩
  | out σ =>
    unfold Dg.step
    dsimp only
    split
    · exact ⟨Nat.le_refl _, Nat.le_refl _⟩
    · split <;> exact ⟨Nat.le_refl _, Nat.le_refl _⟩
  | put σ g r =>
    unfold Dg.step
    dsimp only
    split
    · exact ⟨Nat.le_refl _, Nat.le_refl _⟩
    · split <;> exact ⟨Nat.le_refl _, Nat.le_refl _⟩
theorem rcost_cons (d : Dg) (r : List Dg) : rcost (d :: r) = dcost d + rcost r := by simp [rcost]
theorem rcost_nil : rcost [] = 0 := rfl
theorem dcost_one (a : Int) : dcost (.mark [a]) = 1 := rfl
/-- A step of what is done to a slot. -/
theorem dgo_step {d : Dg} (hd : DGo d) (s : CS) {a0 : Int} (h : OddA a0 s.val) : OddA a0 (d.step s).1.val ∧ (d.step s).1.n ≤ s.n + 1 ∧ (d.step s).1.cnt ≤ s.cnt + 1 ∧
    (((d.step s).2.over = true ∧ dcost d = 1) ∨ ((d.step s).2.over = false ∧ DGo (d.step s).2 ∧ dcost (d.step s).2 + 1 = dcost d)) := by
  have hle := dgs_le s d
  refine ⟨?_, hle.1, hle.2, ?_⟩
  · cases d with
    | mark xs => cases hd
    | out σ =>
      obtain ⟨h1, h2, h3⟩ := hd
      unfold Dg.step; dsimp only
      split
      · exact odd_far h h1 _
      · split
        · exact odd_far h h1 _
        · exact odd_far h h2 _
    | put σ g r =>
      obtain ⟨h1, h2, h3⟩ := hd
      unfold Dg.step; dsimp only
      split
      · exact odd_far h h2 _
      · split
        · exact odd_far h h1 _
        · exact odd_far h h1 _
  · cases d with
    | mark xs => cases hd
    | out σ =>
      obtain ⟨h1, h2, h3⟩ := hd
      have e1 : (σ.tg == 0) = false := beq_eq_false_iff_ne.2 (by omega)
      rcases h3 with h3 | h3 | h3
      · have e : (Dg.out σ).step s = (s.acc 1 σ.tg (s.val σ.tg), .out { σ with x := s.val σ.tg, ln := 1 }) := by unfold Dg.step; dsimp only; rw [if_pos h3]
        rw [e]; exact .inr ⟨by simp [Dg.over, e1], ⟨h1, h2, .inr (.inl rfl)⟩, by simp [dcost, h3]⟩
      · have e : (Dg.out σ).step s = (s.acc 2 σ.tg (TagPure.withOf σ.x σ.at_ 0), .out { σ with ln := 2 }) := by unfold Dg.step; dsimp only; rw [if_neg (by omega), if_pos h3]
        rw [e]; exact .inr ⟨by simp [Dg.over, e1], ⟨h1, h2, .inr (.inr rfl)⟩, by simp [dcost, h3]⟩
      · have e : (Dg.out σ).step s = (s.acc 2 σ.it 0, .out { σ with ln := 3 }) := by unfold Dg.step; dsimp only; rw [if_neg (by omega), if_neg (by omega)]
        rw [e]; exact .inl ⟨by simp [Dg.over], by simp [dcost, h3]⟩
    | put σ g r =>
      obtain ⟨h1, h2, h3⟩ := hd
      have e1 : (σ.tg == 0) = false := beq_eq_false_iff_ne.2 (by omega)
      rcases h3 with h3 | h3 | h3
      · have e : (Dg.put σ g r).step s = (s.acc 2 σ.it r, .put { σ with ln := 1 } g r) := by unfold Dg.step; dsimp only; rw [if_pos h3]
        rw [e]; exact .inr ⟨by simp [Dg.over, e1], ⟨h1, h2, .inr (.inl rfl)⟩, by simp [dcost, h3]⟩
      · have e : (Dg.put σ g r).step s = (s.acc 1 σ.tg (s.val σ.tg), .put { σ with x := s.val σ.tg, ln := 2 } g r) := by unfold Dg.step; dsimp only; rw [if_neg (by omega), if_pos h3]
        rw [e]; exact .inr ⟨by simp [Dg.over, e1], ⟨h1, h2, .inr (.inr rfl)⟩, by simp [dcost, h3]⟩
      · have e : (Dg.put σ g r).step s = (s.acc 2 σ.tg (TagPure.withOf σ.x σ.at_ g), .put { σ with ln := 3 } g r) := by unfold Dg.step; dsimp only; rw [if_neg (by omega), if_neg (by omega)]
        rw [e]; exact .inl ⟨by simp [Dg.over], by simp [dcost, h3]⟩
/-- What a step's answer has to be. -/
structure WNext (s : CS) (cost : Nat) (r : Bool × CS × List Chg × List Dg) : Prop where
  is : r.1 = true
  ph : WPh r.2.1.val r.2.2.2
  n : r.2.1.n ≤ s.n + 1
  cnt : r.2.1.cnt ≤ s.cnt + 1
  cost : 5 * r.2.2.1.length + rcost r.2.2.2 + 1 ≤ cost
theorem wdo_law {s : CS} {d : Dg} {r : List Dg} (h : WPh s.val (d :: r)) (left : List Chg) : WNext s (5 * left.length + rcost (d :: r)) (wdo s left d r) := by
  cases h with
  | a a0 d' h h0 hd =>
    have e : (Dg.mark [a0]).step s = (s.acc 4 a0 (wu (s.val a0 + 1)), .mark []) := rfl
    refine ⟨rfl, ?_, Nat.le_refl _, Nat.le_refl _, ?_⟩
    · unfold wdo; rw [e]; exact .b _ a0 d' (even_odd h h0) h0 hd
    · unfold wdo; rw [e]; simp [rcost, dcost, Dg.over]; omega
  | b a0 d' h h0 hd =>
    obtain ⟨h1, h2, h3, h4⟩ := dgo_step hd s h
    rcases h4 with ⟨h4, h5⟩ | ⟨h4, h5, h6⟩
    · refine ⟨rfl, ?_, h2, h3, ?_⟩
      · unfold wdo; simp only [if_pos h4]; exact .c _ a0 h1 h0
      · unfold wdo; simp only [if_pos h4, rcost_cons, rcost_nil, dcost_one, h5]; omega
    · have h4' : ¬ (d.step s).2.over = true := by rw [h4]; decide
      refine ⟨rfl, ?_, h2, h3, ?_⟩
      · unfold wdo; simp only [if_neg h4']; exact .b _ a0 _ h1 h0 h5
      · unfold wdo; simp only [if_neg h4', rcost_cons, rcost_nil, dcost_one]; omega
  | c a0 h h0 =>
    have e : (Dg.mark [a0]).step s = (s.acc 4 a0 (wu (s.val a0 + 1)), .mark []) := rfl
    refine ⟨rfl, ?_, Nat.le_refl _, Nat.le_refl _, ?_⟩
    · unfold wdo; rw [e]; exact .z _ (odd_even h h0)
    · unfold wdo; rw [e]; simp [rcost, dcost, Dg.over]
theorem chrow_law {its : List Itm} {v : Int → Int} (c : Chg) (hne : its ≠ []) (h : EvenV v) : WPh v (chRow its v c) ∧ rcost (chRow its v c) ≤ 5 := by
  have hpos : 0 < its.length := List.length_pos_iff.2 hne
  have hi0 := Int.emod_nonneg c.item (b := (its.length : Int)) (by omega)
  obtain ⟨ref, href⟩ : ∃ ref, ref = 1 + c.item % its.length := ⟨_, rfl⟩
  obtain ⟨k0, k1⟩ := hfold_bd (atOf its ref).1.key (atOf its ref).1.key.size
  obtain ⟨L, hL⟩ : ∃ L, L = plist (hashOf (atOf its ref).1.key) (v 2) := ⟨_, rfl⟩
  have hlp : 0 < L.length := by rw [hL]; exact plist_posL _ _
  have hm0 := Int.emod_nonneg c.place (b := (L.length : Int)) (by omega)
  have hm1 := Int.emod_lt_of_pos c.place (show (0 : Int) < L.length by omega)
  obtain ⟨p, hp⟩ : ∃ p, p = L.getD (c.place % L.length).toNat (0, 0) := ⟨_, rfl⟩
  have hpm : p ∈ L := by
    rw [hp, List.getD_eq_getElem?_getD, List.getElem?_eq_getElem (by omega)]
    exact List.getElem_mem _
  obtain ⟨⟨b1, b2⟩, u0, u1⟩ : (1 ≤ p.1 ∧ p.1 ≤ 12) ∧ 0 ≤ p.2 ∧ p.2 < tsize p.1 := plist_okL (hashOf (atOf its ref).1.key) (v 2) k0 k1 p (by rw [← hL]; exact hpm)
  have hpt := tsize_pos (b := p.1) ⟨b1, b2⟩
  have hasp : hasP p.1 p.2 = true := by unfold hasP; simp [u0, u1]
  have hver : ver p.1 p.2 = 64 + stripe p.1 p.2 := by unfold ver; rw [if_pos hasp]
  have hst : 0 ≤ stripe p.1 p.2 ∧ stripe p.1 p.2 < 64 := by unfold stripe; omega
  have hvof : vof [p] = [ver p.1 p.2] := by
    show vstep [] p = _
    unfold vstep
    rw [if_neg (by omega)]; rfl
  have hs0 := Int.emod_nonneg c.slot (b := 4) (by omega)
  have hs1 := Int.emod_lt_of_pos c.slot (show (0 : Int) < 4 by omega)
  have htg : tagsA p.1 p.2 = 4096 + 8 * (tsize p.1 + p.2) := by unfold tagsA; rw [if_pos hasp]
  have hit : itemA p.1 p.2 (c.slot % 4) = 4096 + 8 * (tsize p.1 + p.2) + 1 + c.slot % 4 := by
    unfold itemA
    rw [if_pos (by unfold hasS; simp [hasp, hs0, hs1])]
  have hsof : sof p.1 p.2 (c.slot % 4) = ⟨tagsA p.1 p.2, itemA p.1 p.2 (c.slot % 4), c.slot % 4, 0, 0⟩ := by
    unfold sof
    rw [if_neg (by omega)]
  have hsg : SGo (sof p.1 p.2 (c.slot % 4)) := by rw [hsof]; exact ⟨by show 128 ≤ tagsA _ _; omega, by show 128 ≤ itemA _ _ _; omega, .inl rfl⟩
  have htb := tag01_bd (hashOf (atOf its ref).1.key) k0 k1
  have hsp : hsput (p.1, p.2, c.slot % 4) (tag01 (hashOf (atOf its ref).1.key)) ref = .put (sof p.1 p.2 (c.slot % 4)) (tag01 (hashOf (atOf its ref).1.key)) ref := by
    unfold hsput
    rw [if_neg (by omega)]
  obtain ⟨d, hd⟩ : ∃ d, d = (if 3 < c.kind % 8 then Dg.out (sof p.1 p.2 (c.slot % 4)) else hsput (p.1, p.2, c.slot % 4) (tag01 (hashOf (atOf its ref).1.key)) ref) := ⟨_, rfl⟩
  have hrow : chRow its v c = [.mark [ver p.1 p.2], d, .mark [ver p.1 p.2]] := by
    rw [← hvof, hd, hp, hL, href]; rfl
  have hdg : DGo d := by
    rw [hd]; split
    · exact hsg
    · rw [hsp]; exact hsg
  have hdc : dcost d ≤ 3 := by
    rw [hd]; split
    · show (3 - (sof p.1 p.2 (c.slot % 4)).ln).toNat ≤ 3; rw [hsof]; exact Nat.le_refl _
    · rw [hsp]; show (3 - (sof p.1 p.2 (c.slot % 4)).ln).toNat ≤ 3; rw [hsof]; exact Nat.le_refl _
  rw [hrow]
  exact ⟨.a v _ d h (by omega) hdg, by simp only [rcost_cons, rcost_nil, dcost_one]; omega⟩
theorem chrow_over {its : List Itm} (v : Int → Int) (c : Chg) (hne : its ≠ []) : ∀ d ∈ chRow its v c, d.over = false := by
  have h := (chrow_law (its := its) (v := fun a => if a = 2 then v 2 else 0) c hne (fun a h1 h2 => by simp only; rw [if_neg (by omega)]; rfl)).1
  have e : chRow its (fun a => if a = 2 then v 2 else 0) c = chRow its v c := by unfold chRow; simp only [if_true]
  rw [e] at h
  exact h.over
theorem wgo_law (its : List Itm) (s : CS) : ∀ (left : List Chg) (row : List Dg), WPh s.val row → WNext s (5 * left.length + rcost row) (wgo its s left row) ∨ (wgo its s left row = (false, s, [], []) ∧ EvenV s.val)
  | left, d :: r, h => by
    rw [wgo_cons]; exact .inl (wdo_law h left)
  | [], [], h => by
    cases h with
    | z h => exact .inr ⟨by simp [wgo], h⟩
  | c :: left, [], h => by
    have he : EvenV s.val := by cases h with | z h => exact h
    have ih := wgo_law its s left [] h
    have mono : ∀ {r}, WNext s (5 * left.length + rcost []) r → WNext s (5 * (c :: left).length + rcost []) r := fun hn => ⟨hn.is, hn.ph, hn.n, hn.cnt, by have := hn.cost; simp only [List.length_cons]; omega⟩
    unfold wgo
    by_cases h7 : c.kind % 8 = 7
    · rw [if_pos h7]
      by_cases h12 : asOld (s.val 2) < 12
      · rw [if_pos h12]
        exact .inl ⟨rfl, .z _ (even_far he (.inr (by decide)) _), Nat.le_refl _, Nat.le_refl _, by simp [rcost]; omega⟩
      · rw [if_neg h12]
        exact ih.imp mono id
    · rw [if_neg h7]
      by_cases hi : its = []
      · rw [if_pos hi]
        exact ih.imp mono id
      · rw [if_neg hi]
        obtain ⟨h1, h2⟩ := chrow_law c hi he
        cases hr : chRow its s.val c with
        | nil => exact .inl ⟨rfl, .z _ he, by simp, by simp, by simp [rcost]; omega⟩
        | cons d r =>
          rw [hr] at h1 h2
          have hn := wdo_law h1 left
          exact .inl ⟨hn.is, hn.ph, hn.n, hn.cnt, by have := hn.cost; simp only [List.length_cons, rcost, List.map_nil, List.sum_nil] at *; omega⟩
end Go.Proofs.YtdbgfidnccpmdaaGreat

/-
  A Look of a key whose stripes are even, while nobody changes anything: what it finds, how many steps it takes.
-/
namespace Go.Proofs.YtdbgfidnccpmdaaGreat
open Go.RowKit Go.Maps TagPure
set_option linter.unusedVariables false

/-- What stays of a Look while it reads. -/
structure Kept (x x' : LK) : Prop where
  key : x'.key = x.key
  h : x'.h = x.h
  left : x'.left = x.left
  tab : x'.tab = x.tab
  all : x'.all = x.all
  ep : x'.ep = x.ep
  pt : x'.pt = x.pt
  bad : x'.bad = x.bad
theorem Kept.refl (x : LK) : Kept x x := ⟨rfl, rfl, rfl, rfl, rfl, rfl, rfl, rfl⟩
theorem Kept.trans {x y z : LK} (a : Kept x y) (b : Kept y z) : Kept x z := ⟨b.key.trans a.key, b.h.trans a.h, b.left.trans a.left, b.tab.trans a.tab, b.all.trans a.all, b.ep.trans a.ep, b.pt.trans a.pt, b.bad.trans a.bad⟩
/-- The loads that are left of line 4. -/
def rest4 (x : LK) : List Ld := x.sl.map (fun (n : Nat) => Ld.itm (x.all.getD x.at_ (0, 0)) (n : Int)) ++ (x.all.drop (x.at_ + 1)).map Ld.tag
def lds (x : LK) : List Ld := if x.ph = .tag then (x.all.drop x.at_).map Ld.tag else rest4 x
theorem on_rest (x : LK) (ha : x.at_ < x.all.length) : (rest4 x = [] → x.on.ph = .fif) ∧ (rest4 x ≠ [] → (x.on.ph = .tag ∨ x.on.ph = .itm) ∧ lds x.on = rest4 x) ∧ Kept x x.on ∧ x.on.vs = x.vs ∧ x.on.ref = x.ref := by
  unfold LK.on
  by_cases h1 : x.sl = []
  · rw [if_pos h1]
    have e : rest4 x = (x.all.drop (x.at_ + 1)).map Ld.tag := by unfold rest4; rw [h1]; rfl
    rw [e]
    by_cases h2 : x.at_ + 1 < x.all.length
    · rw [if_pos h2]
      refine ⟨fun c => ?_, fun _ => ⟨.inl rfl, by unfold lds; rw [if_pos rfl]⟩, ⟨rfl, rfl, rfl, rfl, rfl, rfl, rfl, rfl⟩, rfl, rfl⟩
      have := congrArg List.length c
      simp only [List.length_map, List.length_drop, List.length_nil] at this
      omega
    · rw [if_neg h2]
      refine ⟨fun _ => rfl, fun c => absurd ?_ c, ⟨rfl, rfl, rfl, rfl, rfl, rfl, rfl, rfl⟩, rfl, rfl⟩
      rw [List.drop_eq_nil_of_le (by omega)]; rfl
  · rw [if_neg h1]
    refine ⟨fun c => ?_, fun _ => ⟨.inr rfl, by unfold lds; rw [if_neg (by intro c; cases c)]; rfl⟩, ⟨rfl, rfl, rfl, rfl, rfl, rfl, rfl, rfl⟩, rfl, rfl⟩
    unfold rest4 at c
    have := congrArg List.length c
    simp only [List.length_append, List.length_map, List.length_nil] at this
    exact absurd (List.length_eq_zero_iff.1 (by omega)) h1
/-- What line 4 finds. -/
def foundR (s : CS) (r : Int) : Option ((Int × Int) × Int) → Int
  | none => r
  | some (p, n) => wrap64 (s.val (itemA p.1 p.2 n))
theorem cost_pos (s : CS) (key : ByteArray) (ls : List Ld) (h : ∀ l ∈ ls, l ≠ .tab) : ls ≠ [] → 1 ≤ cost s key ls := by
  intro hn
  cases ls with
  | nil => exact absurd rfl hn
  | cons l r =>
    cases l with
    | tab => exact absurd rfl (h .tab (by simp))
    | tag p => simp only [cost]; omega
    | itm p n => simp only [cost]; omega
theorem rest4_tab (x : LK) : ∀ l ∈ rest4 x, l ≠ .tab := by
  intro l hl
  rcases List.mem_append.1 hl with h | h
  · obtain ⟨n, -, rfl⟩ := List.mem_map.1 h; intro c; cases c
  · obtain ⟨n, -, rfl⟩ := List.mem_map.1 h; intro c; cases c
theorem lds_tab (x : LK) : ∀ l ∈ lds x, l ≠ .tab := by
  unfold lds
  split
  · intro l hl; obtain ⟨n, -, rfl⟩ := List.mem_map.1 hl; intro c; cases c
  · exact rest4_tab x
/-- Line 4. -/
theorem line4 (V : WV) : ∀ (k : Nat) (s : CS) (x : LK), LOk x → (x.ph = .tag ∨ x.ph = .itm) → x.h = hashOf x.key → cost s x.key (lds x) ≤ k →
    ∃ c s' x', (∀ m, liter (m + c) V s x = ((liter m V s' x').1 + c, (liter m V s' x').2)) ∧ s'.val = s.val ∧ s'.cnt = s.cnt + c ∧ s'.n = s.n + c ∧ LOk x' ∧ x'.ph = .fif ∧ Kept x x' ∧ x'.vs = x.vs ∧ x'.ref = foundR s x.ref (scan V.its s x.key (lds x)) ∧
      1 ≤ c ∧ c ≤ cost s x.key (lds x) ∧ (scan V.its s x.key (lds x) = none → c = cost s x.key (lds x)) := by
  intro k
  induction k with
  | zero =>
    intro s x ho hp hh hc
    have hne : lds x ≠ [] := by
      unfold lds
      rcases hp with h | h
      · rw [if_pos h]
        have := ho.ata (.inl h)
        intro c
        have := congrArg List.length c
        simp only [List.length_map, List.length_drop, List.length_nil] at this; omega
      · rw [if_neg (by rw [h]; intro c; cases c)]
        unfold rest4
        intro c
        have := congrArg List.length c
        simp only [List.length_append, List.length_map, List.length_nil] at this
        exact ho.sl h (List.length_eq_zero_iff.1 (by omega))
    have := cost_pos s x.key (lds x) (lds_tab x) hne
    omega
  | succ k ih =>
    intro s x ho hp hh hc
    have hoff : x.ph ≠ .off := by rcases hp with h | h <;> rw [h] <;> intro c <;> cases c
    rcases hp with hp | hp
    · -- a place's tags
      have ha := ho.ata (.inl hp)
      obtain ⟨p, hpp⟩ : ∃ p, p = x.all.getD x.at_ (0, 0) := ⟨_, rfl⟩
      have hL : lds x = Ld.tag p :: (x.all.drop (x.at_ + 1)).map Ld.tag := by
        unfold lds
        rw [if_pos hp, List.drop_eq_getElem_cons ha, List.map_cons, hpp, List.getD_eq_getElem?_getD, List.getElem?_eq_getElem ha]; rfl
      obtain ⟨N, hN⟩ : ∃ N, N = has (s.val (tagsA p.1 p.2)) (tag01 (hashOf x.key)) 4 := ⟨_, rfl⟩
      have e1 : lnS s x = s.acc 1 (tagsA p.1 p.2) (s.val (tagsA p.1 p.2)) := by unfold lnS; rw [hp]; simp only [← hpp]
      have e2 : lnV V s x = V := by unfold lnV; rw [hp]
      have e3 : lnX V.its s x 0 = ({ x with sl := N } : LK).on := by unfold lnX; rw [hp]; simp only [← hpp, hh, ← hN]
      have hv := load_val s (tagsA p.1 p.2)
      have ho2 := ho.next V.its s 0
      rw [e3] at ho2
      obtain ⟨o1, o2, o3, o4, o5⟩ := on_rest ({ x with sl := N } : LK) ha
      have hR : rest4 ({ x with sl := N } : LK) = N.map (fun (n : Nat) => Ld.itm p n) ++ (x.all.drop (x.at_ + 1)).map Ld.tag := by unfold rest4; rw [hpp]
      have hcost : cost s x.key (lds x) = 1 + cost s x.key (rest4 ({ x with sl := N } : LK)) := by
        rw [hL, hR, cost_app]; simp only [cost, ← hN]; omega
      have hscan : scan V.its s x.key (lds x) = scan V.its s x.key (rest4 ({ x with sl := N } : LK)) := by
        rw [hL, hR, scan_app]; simp only [scan, ← hN]
      have one : ∀ m, liter (m + 1) V s x = ((liter m V (lnS s x) (({ x with sl := N } : LK).on)).1 + 1, (liter m V (lnS s x) (({ x with sl := N } : LK).on)).2) := fun m => by rw [liter_on m V s x hoff, e2, e3]
      by_cases hr : rest4 ({ x with sl := N } : LK) = []
      · rw [hr] at hcost hscan
        refine ⟨1, lnS s x, ({ x with sl := N } : LK).on, one, by rw [e1]; exact hv, by rw [e1]; rfl, by rw [e1]; rfl, ho2, o1 hr, ⟨o3.key, o3.h, o3.left, o3.tab, o3.all, o3.ep, o3.pt, o3.bad⟩, o4, ?_, Nat.le_refl _, by rw [hcost]; simp [cost], fun _ => by rw [hcost]; rfl⟩
        rw [hscan]; exact o5
      · obtain ⟨q1, q2⟩ := o2 hr
        have hk' : cost (lnS s x) ({ x with sl := N } : LK).on.key (lds ({ x with sl := N } : LK).on) ≤ k := by
          rw [q2, o3.key, e1, cost_val hv]; show cost s x.key _ ≤ k; omega
        obtain ⟨c, s', x', g1, g2, g3, g3', g4, g5, g6, g7, g8, g9, g10, g11⟩ := ih (lnS s x) ({ x with sl := N } : LK).on ho2 q1 (by rw [o3.h, o3.key]; exact hh) hk'
        have hck : cost (lnS s x) ({ x with sl := N } : LK).on.key (lds ({ x with sl := N } : LK).on) = cost s x.key (rest4 ({ x with sl := N } : LK)) := by rw [q2, o3.key, e1, cost_val hv]
        have hsk : scan V.its (lnS s x) ({ x with sl := N } : LK).on.key (lds ({ x with sl := N } : LK).on) = scan V.its s x.key (rest4 ({ x with sl := N } : LK)) := by rw [q2, o3.key, e1, scan_val hv]
        rw [hck] at g10 g11
        rw [hsk] at g8 g11
        refine ⟨c + 1, s', x', fun m => ?_, by rw [g2, e1]; exact hv, by rw [g3, e1]; show s.cnt + 1 + c = _; omega, by rw [g3', e1]; show s.n + 1 + c = _; omega, g4, g5, Kept.trans ⟨o3.key, o3.h, o3.left, o3.tab, o3.all, o3.ep, o3.pt, o3.bad⟩ g6, g7.trans o4, ?_, by omega, by omega, fun hn => ?_⟩
        · rw [show m + (c + 1) = (m + c) + 1 by omega, one, g1, Prod.mk.injEq]; exact ⟨(by first | omega | (simp only; omega)), rfl⟩
        · rw [g8, hscan, o5]
          cases scan V.its s x.key (rest4 ({ x with sl := N } : LK)) with
          | none => rfl
          | some y => simp only [foundR, e1, hv]
        · rw [hscan] at hn; have := g11 hn; omega
    · -- a slot's item
      have ha := ho.ata (.inr hp)
      obtain ⟨p, hpp⟩ : ∃ p, p = x.all.getD x.at_ (0, 0) := ⟨_, rfl⟩
      obtain ⟨n, tl, hsl⟩ : ∃ n tl, x.sl = n :: tl := by
        cases hh2 : x.sl with
        | nil => exact absurd hh2 (ho.sl hp)
        | cons n tl => exact ⟨n, tl, rfl⟩
      have hL : lds x = Ld.itm p (n : Int) :: rest4 ({ x with sl := tl } : LK) := by
        unfold lds
        rw [if_neg (by rw [hp]; intro c; cases c)]
        unfold rest4
        rw [hsl, ← hpp]; rfl
      have e1 : lnS s x = s.acc 1 (itemA p.1 p.2 (n : Int)) (s.val (itemA p.1 p.2 (n : Int))) := by unfold lnS; rw [hp]; simp only [← hpp, hsl, List.headD_cons]
      have e2 : lnV V s x = V := by unfold lnV; rw [hp]
      have e3 : lnX V.its s x 0 = x.item V.its (wrap64 (s.val (itemA p.1 p.2 (n : Int)))) := by unfold lnX; rw [hp]; simp only [← hpp, hsl, List.headD_cons]
      have hv := load_val s (itemA p.1 p.2 (n : Int))
      have ho2 := ho.next V.its s 0
      rw [e3] at ho2
      have one : ∀ m, liter (m + 1) V s x = ((liter m V (lnS s x) (x.item V.its (wrap64 (s.val (itemA p.1 p.2 (n : Int)))))).1 + 1, (liter m V (lnS s x) (x.item V.its (wrap64 (s.val (itemA p.1 p.2 (n : Int)))))).2) := fun m => by rw [liter_on m V s x hoff, e2, e3]
      by_cases hh3 : hit V.its s x.key p (n : Int) = true
      · have ei : x.item V.its (wrap64 (s.val (itemA p.1 p.2 (n : Int)))) = { x with sl := x.sl.tail, ref := wrap64 (s.val (itemA p.1 p.2 (n : Int))), ph := .fif } := if_pos hh3
        rw [ei] at ho2 one
        have hsc : scan V.its s x.key (lds x) = some (p, (n : Int)) := by rw [hL]; simp only [scan, if_pos hh3]
        refine ⟨1, lnS s x, _, one, by rw [e1]; exact hv, by rw [e1]; rfl, by rw [e1]; rfl, ho2, rfl, ⟨rfl, rfl, rfl, rfl, rfl, rfl, rfl, rfl⟩, rfl, by rw [hsc]; rfl, Nat.le_refl _, by rw [hL]; simp only [cost]; omega, fun c => by rw [hsc] at c; cases c⟩
      · have ei : x.item V.its (wrap64 (s.val (itemA p.1 p.2 (n : Int)))) = ({ x with sl := tl } : LK).on := by
          exact (if_neg hh3).trans (by rw [hsl]; rfl)
        rw [ei] at ho2 one
        obtain ⟨o1, o2, o3, o4, o5⟩ := on_rest ({ x with sl := tl } : LK) ha
        have hcost : cost s x.key (lds x) = 1 + cost s x.key (rest4 ({ x with sl := tl } : LK)) := by rw [hL]; rfl
        have hscan : scan V.its s x.key (lds x) = scan V.its s x.key (rest4 ({ x with sl := tl } : LK)) := by rw [hL]; simp only [scan, if_neg hh3]
        by_cases hr : rest4 ({ x with sl := tl } : LK) = []
        · rw [hr] at hcost hscan
          refine ⟨1, lnS s x, ({ x with sl := tl } : LK).on, one, by rw [e1]; exact hv, by rw [e1]; rfl, by rw [e1]; rfl, ho2, o1 hr, ⟨o3.key, o3.h, o3.left, o3.tab, o3.all, o3.ep, o3.pt, o3.bad⟩, o4, ?_, Nat.le_refl _, by rw [hcost]; simp [cost], fun _ => by rw [hcost]; rfl⟩
          rw [hscan]; exact o5
        · obtain ⟨q1, q2⟩ := o2 hr
          have hk' : cost (lnS s x) ({ x with sl := tl } : LK).on.key (lds ({ x with sl := tl } : LK).on) ≤ k := by
            rw [q2, o3.key, e1, cost_val hv]; show cost s x.key _ ≤ k; omega
          obtain ⟨c, s', x', g1, g2, g3, g3', g4, g5, g6, g7, g8, g9, g10, g11⟩ := ih (lnS s x) ({ x with sl := tl } : LK).on ho2 q1 (by rw [o3.h, o3.key]; exact hh) hk'
          have hck : cost (lnS s x) ({ x with sl := tl } : LK).on.key (lds ({ x with sl := tl } : LK).on) = cost s x.key (rest4 ({ x with sl := tl } : LK)) := by rw [q2, o3.key, e1, cost_val hv]
          have hsk : scan V.its (lnS s x) ({ x with sl := tl } : LK).on.key (lds ({ x with sl := tl } : LK).on) = scan V.its s x.key (rest4 ({ x with sl := tl } : LK)) := by rw [q2, o3.key, e1, scan_val hv]
          rw [hck] at g10 g11
          rw [hsk] at g8 g11
          refine ⟨c + 1, s', x', fun m => ?_, by rw [g2, e1]; exact hv, by rw [g3, e1]; show s.cnt + 1 + c = _; omega, by rw [g3', e1]; show s.n + 1 + c = _; omega, g4, g5, Kept.trans ⟨o3.key, o3.h, o3.left, o3.tab, o3.all, o3.ep, o3.pt, o3.bad⟩ g6, g7.trans o4, ?_, by omega, by omega, fun hn => ?_⟩
          · rw [show m + (c + 1) = (m + c) + 1 by omega, one, g1, Prod.mk.injEq]; exact ⟨(by first | omega | (simp only; omega)), rfl⟩
          · rw [g8, hscan, o5]
            cases scan V.its s x.key (rest4 ({ x with sl := tl } : LK)) with
            | none => rfl
            | some y => simp only [foundR, e1, hv]
          · rw [hscan] at hn; have := g11 hn; omega
/-- Line 2, from a stripe on: all are even. -/
theorem line2 (V : WV) (S : List Int) (f : Int → Int) : ∀ (d : Nat) (s : CS) (x : LK), x.ph = .snd → LOk x → s.val = f → x.vs.map (·.1) = S → x.at_ + (d + 1) = S.length → (∀ a ∈ S, ¬ f a % 2 = 1) → (∀ i, i < x.at_ → x.vs[i]? = (S[i]?).map fun a => (a, f a)) →
    ∃ s' x', (∀ m, liter (m + (d + 1)) V s x = ((liter m V s' x').1 + (d + 1), (liter m V s' x').2)) ∧ s'.val = f ∧ s'.cnt = s.cnt + (d + 1) ∧ s'.n = s.n + (d + 1) ∧ LOk x' ∧ x'.ph = .thd ∧ Kept x x' ∧ x'.ref = x.ref ∧ x'.vs = S.map fun a => (a, f a) := by
  intro d
  induction d with
  | zero =>
    intro s x hp ho hs hS ha he hv
    have hl : x.vs.length = S.length := by rw [← hS, List.length_map]
    have hA := sec_at hS x.at_ (by omega)
    have hne := he _ (List.getElem_mem (show x.at_ < S.length by omega))
    obtain ⟨a, haa⟩ : ∃ a, a = S[x.at_]'(by omega) := ⟨_, rfl⟩
    rw [← haa] at hA hne
    have e1 : lnS s x = s.acc 1 a (s.val a) := by unfold lnS; rw [hp]; simp only [hA]
    have e2 : lnV V s x = V := by unfold lnV; rw [hp]; simp only [hA, hs]; rw [if_neg hne]
    have e3 : lnX V.its s x 0 = { x.seen (s.val a) with at_ := x.at_ + 1, ph := .thd } := by
      unfold lnX; rw [hp]; simp only [hA, hs]; unfold LK.second; rw [if_neg hne, if_pos (by omega)]
    have ho2 := ho.next V.its s 0
    rw [e3] at ho2
    refine ⟨lnS s x, _, fun m => by rw [liter_on m V s x (by rw [hp]; intro c; cases c), e2, e3], by rw [e1]; exact (acc_id s 1 a).1.trans hs, by rw [e1]; rfl, by rw [e1]; rfl, ho2, rfl, ⟨rfl, rfl, rfl, rfl, rfl, rfl, rfl, rfl⟩, rfl, ?_⟩
    show x.vs.set x.at_ ((x.vs.getD x.at_ (0, 0)).1, s.val a) = _
    rw [hA, hs]
    refine List.ext_getElem? fun i => ?_
    rw [List.getElem?_map, List.getElem?_set]
    by_cases hi : x.at_ = i
    · subst hi; simp only [if_pos (show x.at_ < x.vs.length by omega), if_true]
      rw [List.getElem?_eq_getElem (by omega), haa]; rfl
    · rw [if_neg hi]
      by_cases h2 : i < x.at_
      · exact hv i h2
      · rw [List.getElem?_eq_none (by omega), List.getElem?_eq_none (by omega)]; rfl
  | succ d ih =>
    intro s x hp ho hs hS ha he hv
    have hl : x.vs.length = S.length := by rw [← hS, List.length_map]
    have hA := sec_at hS x.at_ (by omega)
    have hne := he _ (List.getElem_mem (show x.at_ < S.length by omega))
    obtain ⟨a, haa⟩ : ∃ a, a = S[x.at_]'(by omega) := ⟨_, rfl⟩
    rw [← haa] at hA hne
    have e1 : lnS s x = s.acc 1 a (s.val a) := by unfold lnS; rw [hp]; simp only [hA]
    have e2 : lnV V s x = V := by unfold lnV; rw [hp]; simp only [hA, hs]; rw [if_neg hne]
    have e3 : lnX V.its s x 0 = { x.seen (s.val a) with at_ := x.at_ + 1 } := by
      unfold lnX; rw [hp]; simp only [hA, hs]; unfold LK.second; rw [if_neg hne, if_neg (by omega)]
    have ho2 := ho.next V.its s 0
    rw [e3] at ho2
    have ev : (s.acc 1 a (s.val a)).val = f := (acc_id s 1 a).1.trans hs
    obtain ⟨s', x', h1, h2, h3, h3', h4, h5, h6, h7, h8⟩ := ih (s.acc 1 a (s.val a)) { x.seen (s.val a) with at_ := x.at_ + 1 } hp ho2 ev ((seen_map x _).trans hS) (by show x.at_ + 1 + (d + 1) = _; omega) he (fun i hi => by
      show (x.vs.set x.at_ ((x.vs.getD x.at_ (0, 0)).1, s.val a))[i]? = _
      rw [hA, hs, List.getElem?_set]
      by_cases hia : x.at_ = i
      · subst hia; simp only [if_pos (show x.at_ < x.vs.length by omega), if_true]
        rw [List.getElem?_eq_getElem (by omega), haa]; rfl
      · rw [if_neg hia]; exact hv i (by have : i < x.at_ + 1 := hi; omega))
    refine ⟨s', x', fun m => ?_, h2, by rw [h3]; show s.cnt + 1 + (d + 1) = _; omega, by rw [h3']; show s.n + 1 + (d + 1) = _; omega, h4, h5, Kept.trans (show Kept x { x.seen (s.val a) with at_ := x.at_ + 1 } from ⟨rfl, rfl, rfl, rfl, rfl, rfl, rfl, rfl⟩) h6, h7, h8⟩
    rw [show m + (d + 1 + 1) = (m + (d + 1)) + 1 by omega, liter_on _ V s x (by rw [hp]; intro c; cases c), e1, e2, e3, h1 m, Prod.mk.injEq]
    exact ⟨(by first | omega | (simp only; omega)), rfl⟩
/-- Line 6, from a stripe on: all are as they were. -/
theorem line6 (V : WV) (S : List Int) (f : Int → Int) : ∀ (d : Nat) (s : CS) (x : LK), x.ph = .six → s.val = f → x.vs = (S.map fun a => (a, f a)) → x.at_ + (d + 1) = S.length →
    ∃ s' x', (∀ m, liter (m + (d + 1)) V s x = (d + 1, V, s', x')) ∧ s'.val = f ∧ s'.cnt = s.cnt + (d + 1) ∧ s'.n = s.n + (d + 1) ∧ x'.ph = .off ∧ Kept x x' ∧ x'.ref = x.ref := by
  intro d
  have at_ : ∀ (x : LK), x.vs = (S.map fun a => (a, f a)) → (hi : x.at_ < S.length) → x.vs.getD x.at_ (0, 0) = (S[x.at_], f S[x.at_]) := fun x h hi => by
    rw [h, List.getD_eq_getElem?_getD, List.getElem?_map, List.getElem?_eq_getElem hi]; rfl
  induction d with
  | zero =>
    intro s x hp hs hv ha
    have hA := at_ x hv (by omega)
    have hl : x.vs.length = S.length := by rw [hv, List.length_map]
    generalize S[x.at_]'(by omega) = a at hA
    have e1 : lnS s x = s.acc 1 a (s.val a) := by unfold lnS; rw [hp]; simp only [hA]
    have e2 : lnV V s x = V := by unfold lnV; rw [hp]; simp only [hA, hs, if_true]
    have e3 : lnX V.its s x 0 = { x with at_ := x.at_ + 1, ph := .off } := by
      unfold lnX; rw [hp]; simp only [hA, hs]; unfold LK.sixth; rw [if_pos rfl, if_pos (by omega)]
    refine ⟨lnS s x, { x with at_ := x.at_ + 1, ph := .off }, fun m => by rw [liter_on m V s x (by rw [hp]; intro c; cases c), e2, e3, liter_off m _ _ _ rfl], by rw [e1]; exact (acc_id s 1 a).1.trans hs, by rw [e1]; rfl, by rw [e1]; rfl, rfl, ⟨rfl, rfl, rfl, rfl, rfl, rfl, rfl, rfl⟩, rfl⟩
  | succ d ih =>
    intro s x hp hs hv ha
    have hA := at_ x hv (by omega)
    have hl : x.vs.length = S.length := by rw [hv, List.length_map]
    generalize S[x.at_]'(by omega) = a at hA
    have e1 : lnS s x = s.acc 1 a (s.val a) := by unfold lnS; rw [hp]; simp only [hA]
    have e2 : lnV V s x = V := by unfold lnV; rw [hp]; simp only [hA, hs, if_true]
    have e3 : lnX V.its s x 0 = { x with at_ := x.at_ + 1 } := by
      unfold lnX; rw [hp]; simp only [hA, hs]; unfold LK.sixth; rw [if_pos rfl, if_neg (by omega), hp]
    have ev : (s.acc 1 a (s.val a)).val = f := (acc_id s 1 a).1.trans hs
    obtain ⟨s', x', h1, h2, h3, h3', h4, h5, h6⟩ := ih (s.acc 1 a (s.val a)) { x with at_ := x.at_ + 1 } hp ev hv (by show x.at_ + 1 + (d + 1) = _; omega)
    refine ⟨s', x', fun m => ?_, h2, by rw [h3]; show s.cnt + 1 + (d + 1) = _; omega, by rw [h3']; show s.n + 1 + (d + 1) = _; omega, h4, Kept.trans (show Kept x { x with at_ := x.at_ + 1 } from ⟨rfl, rfl, rfl, rfl, rfl, rfl, rfl, rfl⟩) h5, h6⟩
    rw [show m + (d + 1 + 1) = (m + (d + 1)) + 1 by omega, liter_on _ V s x (by rw [hp]; intro c; cases c), e1, e2, e3, h1 m]
/-- All of it. -/
theorem quiet_all (V : WV) (s : CS) (x : LK) (hp : x.ph = .fst) (ho : LOk x) (hk : x.h = hashOf x.key) (hS : ∀ a ∈ vof (plist x.h (s.val 2)), ¬ s.val a % 2 = 1) :
    ∃ c s' x', (∀ m, liter (m + (c + (3 + 2 * (vof (plist x.h (s.val 2))).length))) V s x = (c + (3 + 2 * (vof (plist x.h (s.val 2))).length), V, s', x')) ∧ s'.val = s.val ∧ s'.cnt = s.cnt + (c + (3 + 2 * (vof (plist x.h (s.val 2))).length)) ∧ x'.ph = .off ∧ x'.bad = x.bad ∧
      x'.ref = foundR s 0 (scan V.its s x.key ((plist x.h (s.val 2)).map Ld.tag)) ∧ x'.ep = s.val 8 ∧ x'.pt = ((s.cnt + (vof (plist x.h (s.val 2))).length + 2 : Nat) : Int) ∧ 1 ≤ c ∧ c ≤ cost s x.key ((plist x.h (s.val 2)).map Ld.tag) ∧
      (scan V.its s x.key ((plist x.h (s.val 2)).map Ld.tag) = none → c = cost s x.key ((plist x.h (s.val 2)).map Ld.tag)) := by
  obtain ⟨L, hL⟩ : ∃ L, L = plist x.h (s.val 2) := ⟨_, rfl⟩
  obtain ⟨S, hSS⟩ : ∃ S, S = vof L := ⟨_, rfl⟩
  rw [← hL] at hS ⊢
  rw [← hSS] at hS ⊢
  have hpos : 0 < S.length := by
    rw [hSS]; exact vof_pos (by rw [hL]; exact plist_posL _ _) (by rw [hL]; exact plist_okL _ _ ho.h.1 ho.h.2)
  obtain ⟨q, hq⟩ : ∃ q, S.length = q + 1 := ⟨S.length - 1, by omega⟩
  -- line 1
  have a1 : lnS s x = s.acc 1 2 (s.val 2) := by unfold lnS; rw [hp]
  have a2 : lnV V s x = V := by unfold lnV; rw [hp]
  have a3 : lnX V.its s x 0 = x.first (s.val 2) 0 := by unfold lnX; rw [hp]
  have o1 := ho.first (s.val 2) 0
  have v1 : (s.acc 1 2 (s.val 2)).val = s.val := (acc_id s 1 2).1
  -- line 2
  obtain ⟨s2, x2, b1, b2, b3, b3', b4, b5, b6, b7, b8⟩ := line2 V S s.val q (s.acc 1 2 (s.val 2)) (x.first (s.val 2) 0) rfl o1 v1 (by
    show (vers (vof (plist x.h (s.val 2)))).map (·.1) = S
    rw [← hL, ← hSS]; exact vers_fst S) (by show 0 + (q + 1) = _; omega) hS (fun i hi => absurd hi (Nat.not_lt_zero _))
  -- line 3
  have c1 : lnS s2 x2 = s2.acc 1 8 (s2.val 8) := by unfold lnS; rw [b5]
  have c2 : lnV V s2 x2 = V := by unfold lnV; rw [b5]
  have c3 : lnX V.its s2 x2 0 = { x2 with ep := s2.val 8, at_ := 0, pt := ((s2.acc 1 8 (s2.val 8)).cnt : Int), ph := .tag } := by unfold lnX; rw [b5]
  have o3 := b4.next V.its s2 0
  rw [c3] at o3
  have v3 : (s2.acc 1 8 (s2.val 8)).val = s.val := (acc_id s2 1 8).1.trans b2
  -- line 4
  have hall : x2.all = L := by rw [b6.all, hL]; rfl
  have hlds : lds ({ x2 with ep := s2.val 8, at_ := 0, pt := ((s2.acc 1 8 (s2.val 8)).cnt : Int), ph := .tag } : LK) = L.map Ld.tag := by
    unfold lds; rw [if_pos rfl]; show (x2.all.drop 0).map Ld.tag = _; rw [hall, List.drop_zero]
  have hkey : x2.key = x.key := b6.key
  obtain ⟨c, s4, x4, d1, d2, d3, d3', d4, d5, d6, d7, d8, d9, d10, d11⟩ := line4 V _ (s2.acc 1 8 (s2.val 8)) { x2 with ep := s2.val 8, at_ := 0, pt := ((s2.acc 1 8 (s2.val 8)).cnt : Int), ph := .tag } o3 (.inl rfl) (by show x2.h = hashOf x2.key; rw [b6.h, hkey]; exact hk) (Nat.le_refl _)
  rw [hlds] at d8 d10 d11
  have hck : cost (s2.acc 1 8 (s2.val 8)) x2.key (L.map Ld.tag) = cost s x.key (L.map Ld.tag) := by rw [hkey, cost_val v3]
  have hsk : scan V.its (s2.acc 1 8 (s2.val 8)) x2.key (L.map Ld.tag) = scan V.its s x.key (L.map Ld.tag) := by rw [hkey, scan_val v3]
  have d10' : c ≤ cost s x.key (L.map Ld.tag) := by rw [← hck]; exact d10
  have d11' : scan V.its s x.key (L.map Ld.tag) = none → c = cost s x.key (L.map Ld.tag) := fun h => by rw [← hck]; exact d11 (by rw [← hsk] at h; exact h)
  -- line 5
  have e1 : lnS s4 x4 = s4.acc 1 2 (s4.val 2) := by unfold lnS; rw [d5]
  have ht : s4.val 2 = x4.tab := by
    rw [d6.tab]
    show s4.val 2 = x2.tab
    rw [b6.tab, d2, v3]; rfl
  have e2 : lnV V s4 x4 = V := by unfold lnV; rw [d5]; simp only [if_pos ht]
  have e3 : lnX V.its s4 x4 0 = { x4 with at_ := 0, ph := .six } := by unfold lnX; rw [d5]; simp only; unfold LK.fifth; rw [if_pos ht]
  have v5 : (s4.acc 1 2 (s4.val 2)).val = s.val := (acc_id s4 1 2).1.trans (d2.trans v3)
  -- line 6
  obtain ⟨s6, x6, f1, f2, f3, f3', f4, f5, f6⟩ := line6 V S s.val q (s4.acc 1 2 (s4.val 2)) { x4 with at_ := 0, ph := .six } rfl v5 (by show x4.vs = _; rw [d7]; exact b8) (by show 0 + (q + 1) = _; omega)
  refine ⟨c, s6, x6, fun m => ?_, f2, ?_, f4, ?_, ?_, ?_, ?_, d9, d10', d11'⟩
  · rw [hq]
    rw [show m + (c + (3 + 2 * (q + 1))) = ((((m + (q + 1)) + 1 + c) + 1) + (q + 1)) + 1 by omega]
    rw [liter_on _ V s x (by rw [hp]; intro c; cases c), a1, a2, a3, b1, liter_on _ V s2 x2 (by rw [b5]; intro c; cases c), c1, c2, c3, d1, liter_on _ V s4 x4 (by rw [d5]; intro c; cases c), e1, e2, e3, f1, Prod.mk.injEq]
    exact ⟨(by first | omega | (simp only; omega)), rfl⟩
  · rw [f3]; show s4.cnt + 1 + (q + 1) = _; rw [d3]; show s2.cnt + 1 + c + 1 + (q + 1) = _; rw [b3]; show s.cnt + 1 + (q + 1) + 1 + c + 1 + (q + 1) = _; omega
  · rw [f5.bad]; show x4.bad = _; rw [d6.bad]; show x2.bad = _; rw [b6.bad]; rfl
  · rw [f6]; show x4.ref = _; rw [d8]; show foundR (s2.acc 1 8 (s2.val 8)) x2.ref (scan V.its (s2.acc 1 8 (s2.val 8)) x2.key (L.map Ld.tag)) = _
    rw [hsk, b7]
    cases scan V.its s x.key (L.map Ld.tag) with
    | none => rfl
    | some y => simp only [foundR, v3]
  · rw [f5.ep]; show x4.ep = _; rw [d6.ep]; show s2.val 8 = _; rw [b2]
  · rw [f5.pt]; show x4.pt = _; rw [d6.pt]; show ((s2.cnt + 1 : Nat) : Int) = _; rw [b3]; show ((s.cnt + 1 + (q + 1) + 1 : Nat) : Int) = _; rw [hq]; congr 1; omega
end Go.Proofs.YtdbgfidnccpmdaaGreat

/-
  Looks: layer 14's example.
-/
namespace Go.Proofs.YtdbgfidnccpmdaaGreat
open Go.RowKit Go.Maps TagPure
set_option linter.unusedVariables false

def k14 : ByteArray := ⟨#[97]⟩
def x14 : LK := ⟨k14, hashOf k14, 2, .fst, 0, [], [], 0, [], 0, 0, 0, false, 0⟩
theorem k14_pl : (plist (hashOf k14) 1).length = 2 := by kernel_rfl
theorem k14_of : (vof (plist (hashOf k14) 1)).length = 2 := by kernel_rfl
theorem ex14 : (liter 40 (v0 ⟨1, 8, 3, 1, 16⟩) (CS.init [(2, tword 1 0)]) x14).1 = 9 := by kernel_rfl
theorem ex14g : (liter 40 (v0 ⟨1, 8, 3, 1, 16⟩) (CS.init [(2, tword 1 0)]) x14).2.2.2.got = (0, 0, 4) := by kernel_rfl
theorem ex14b : (liter 40 (v0 ⟨1, 8, 3, 1, 16⟩) (CS.init [(2, tword 1 0)]) x14).2.2.2.bad = false := by kernel_rfl
theorem LookAt.lower {w : World} {lo lo' fb : Nat} {x : LK} (h : LookAt w lo fb x) (hl : lo' ≤ lo) : LookAt w lo' fb x := by
  obtain ⟨h0, va, vv, vs, h1, h2, h3, h4, h5⟩ := h
  exact ⟨Nat.le_trans hl h0, va, vv, vs, h1, h2, own_lo h3 hl, h4, h5⟩
theorem LookE.below {w w' : World} {lo fb : Nat} {x : LK} (h : LookE w lo fb x) (hb : Below w.heap.size w w') : LookE w' lo fb x := by
  obtain ⟨a, ha⟩ := h; exact ⟨a, ha.below hb⟩
theorem lgotE {w : World} {lo fb : Nat} {x : LK} (h : LookE w lo fb x) : Calls Tryz.prog 37 #[.pointer (some ⟨fb, 0, none⟩)] w fun e w' => e = .returned (.tuple #[.int .i64 x.got.1, .int .u64 x.got.2.1, .int .i64 x.got.2.2]) ∧ Below w.heap.size w w' := by
  obtain ⟨a, ha⟩ := h; exact lgot (x := { x with vb := a }) ha
theorem lfailsE {w : World} {lo fb : Nat} {x : LK} (h : LookE w lo fb x) : Calls Tryz.prog 39 #[.pointer (some ⟨fb, 0, none⟩)] w fun e w' => e = .returned (.bool x.bad) ∧ w' = w := by
  obtain ⟨a, ha⟩ := h; exact lfails (x := { x with vb := a }) ha
/-- A new one holds. -/
theorem LOk.new (key : ByteArray) (m : Int) (hm : 0 ≤ m ∧ m < 9223372036854775808) (vb : Nat) : LOk ⟨key, hashOf key, m, .fst, 0, [], [], 0, [], 0, 0, 0, false, vb⟩ :=
  ⟨hm, hfold_bd _ _, Nat.zero_le _, Nat.zero_le _, fun p h => (by cases h), fun c => absurd rfl c, fun c => (by rcases c with c | c <;> cases c), fun c => (by rcases c with c | c <;> cases c), fun c => (by cases c), fun n h => (by cases h)⟩
set_option maxRecDepth 10000 in
set_option maxHeartbeats 4000000 in
theorem lives14 (w : World) : Calls Tryz.prog 19 #[] w fun e w' => e = .returned (.bool true) ∧ Below w.heap.size w w' := by
  have hH := Lib.hid (fun W => hash_any k14 (by decide) W)
  have hP := Lib.hid (fun W => places_any (hashOf k14) 1 (hfold_bd _ _).1 (hfold_bd _ _).2 (by decide) W)
  have hNL := Lib.hid (fun W => newlook k14 (by decide) 2 2 (by decide) W)
  have hK := k14_of
  obtain ⟨L, hL⟩ : ∃ L, L = plist (hashOf k14) 1 := ⟨_, rfl⟩
  have hl2 : L.length = 2 := by rw [hL]; exact k14_pl
  rw [← hL] at hP hK
  obtain ⟨A, hA⟩ : ∃ A, A = vof L := ⟨_, rfl⟩
  have hO := Lib.hid (fun W ao (h : Plc W ao L.length L) => of_any L ao L.length W h (by omega))
  rw [← hA] at hO hK
  have HK := Lib.hid hK
  clear hA hL hl2 hK
  go_enter Tryz.func19, Tryz.ntmps19
  go_upto_region 6 with (go_at_call 87; refine (world12v 1 (by decide) w).mono ?_; intro e w1 hh; obtain ⟨B, hh1, h1⟩ := hh; subst hh1; have H1 := Lib.hid h1; clear h1)
  go_loopw [2, 3] (fun v2 v3 wr => v2 = .string k14 ∧ v3 = .int .i64 0 ∧ WS w wr B (v0 ⟨1, 8, 3, 1, 16⟩) (CS.init [(2, tword 1 0)])) (fun _ _ _ => 0)
  case atStart => exact ⟨rfl, rfl, H1.out⟩
  case round =>
    obtain ⟨rfl, rfl, h2⟩ := hrel
    have H2 := Lib.hid h2
    clear h2 H1
    have hk2 : ((A.length : Int) != 2) = false := by rw [HK.out]; rfl
    have hk3 : ((A.length : Int) == 2) = true := by rw [HK.out]; rfl
    go_upto_region 10 with (first
      | (go_at_call 32; refine (hH.out _).mono ?_; intro e w3 hh; obtain ⟨hh1, b3⟩ := hh; subst hh1; have H3 := Lib.hid (H2.out.keep b3); clear b3 H2)
      | (go_at_call 31; refine (hP.out _).mono ?_; intro e w4 hh; obtain ⟨pv, hh1, hp, b4⟩ := hh; subst hh1; obtain ⟨ao, hpv, hpl⟩ := hp.plc; subst hpv; have H4 := Lib.hid (H3.out.keep b4); have HPL := Lib.hid hpl; clear b4 hp hpl H3)
      | (go_at_call 34; refine (hO.out _ _ HPL.out).mono ?_; intro e w5 hh; obtain ⟨av, hh1, ha, b5⟩ := hh; subst hh1; obtain ⟨aa, ga, rfl, -⟩ := adr_formL ha; have H5 := Lib.hid (H4.out.keep b5); clear b5 ha H4 HPL)
      | (go_at_call 20; refine (hNL.out _).mono ?_; intro e w6 hh; obtain ⟨fb, hh1, a6, b6⟩ := hh; subst hh1; have H6 := Lib.hid (H5.out.keep b6); have E6 : Hid (LookE w6 w.heap.size fb x14) := (a6.lower H5.out.slow).e; clear b6 a6 H5))
    have hrun := lrun 40 (by decide) 1 ⟨by decide, by decide⟩ (by unfold lim; decide) H6.out E6.out (LOk.new k14 2 (by decide) 0) (by decide) (by decide) (fun y hy => by cases hy)
    rw [ex14] at hrun
    obtain ⟨V9, hV9⟩ : ∃ V9, V9 = (liter 40 (v0 ⟨1, 8, 3, 1, 16⟩) (CS.init [(2, tword 1 0)]) x14).2.1 := ⟨_, rfl⟩
    obtain ⟨s9, hs9⟩ : ∃ s9, s9 = (liter 40 (v0 ⟨1, 8, 3, 1, 16⟩) (CS.init [(2, tword 1 0)]) x14).2.2.1 := ⟨_, rfl⟩
    obtain ⟨x9, hx9⟩ : ∃ x9, x9 = (liter 40 (v0 ⟨1, 8, 3, 1, 16⟩) (CS.init [(2, tword 1 0)]) x14).2.2.2 := ⟨_, rfl⟩
    have hg9 := ex14g
    have hb9 := ex14b
    rw [← hV9, ← hs9, ← hx9] at hrun
    rw [← hx9] at hg9 hb9
    have HG9 := Lib.hid hg9; have HB9 := Lib.hid hb9
    clear hV9 hs9 hx9 hg9 hb9
    go_upto_region 12 with (first
      | (go_at_call 36; refine hrun.mono ?_; intro e w7 hh; obtain ⟨hh1, h7, a7⟩ := hh; subst hh1; have H7 := Lib.hid h7; have E7 := Lib.hid a7; have hgt := lgotE a7; rw [HG9.out] at hgt; clear h7 a7 hrun H6 E6)
      | (go_at_call 37; refine hgt.mono ?_; intro e w8 hh; obtain ⟨hh1, b8⟩ := hh; subst hh1; have H8 := Lib.hid (H7.out.keep b8); have E8 := Lib.hid (E7.out.below b8); have hfl := lfailsE E8.out; rw [HB9.out] at hfl; clear b8 hgt H7 E7))
    go_wp2_with (first
      | (go_at_call 39; refine hfl.mono ?_; intro e w9 hh; obtain ⟨hh1, hh2⟩ := hh; subst hh1; obtain rfl := hh2.symm; clear hfl)
      | (go_at_call 32; refine (hH.out _).mono ?_; intro e w13 hh; obtain ⟨hh1, b3⟩ := hh; subst hh1; have H3 := Lib.hid (H8.out.keep b3); clear b3 H8)
      | (go_at_call 31; refine (hP.out _).mono ?_; intro e w14 hh; obtain ⟨pv, hh1, hp, b4⟩ := hh; subst hh1; obtain ⟨ao2, hpv, hpl⟩ := hp.plc; subst hpv; have H4 := Lib.hid (H3.out.keep b4); have HPL := Lib.hid hpl; clear b4 hp hpl H3)
      | (go_at_call 34; refine (hO.out _ _ HPL.out).mono ?_; intro e w15 hh; obtain ⟨av, hh1, ha, b5⟩ := hh; subst hh1; obtain ⟨aa2, ga2, rfl, -⟩ := adr_formL ha; have H5 := Lib.hid (H4.out.keep b5); clear b5 ha H4 HPL))
    go_ret
    exact ⟨rfl, H5.out.below⟩
end Go.Proofs.YtdbgfidnccpmdaaGreat

/-
  LooksQuiet: a Look where nobody changes anything meanwhile.
-/
namespace Go.Proofs.YtdbgfidnccpmdaaGreat
open Go.RowKit Go.Maps TagPure
set_option linter.unusedVariables false

/-! ## What a scan finds is what At tells. -/
theorem has_iffQ (x t : Int) : ∀ k n, n ∈ has x t k ↔ n < k ∧ tg x n = t
  | 0, n => by simp [has]
  | k + 1, n => by
    simp only [has, List.mem_append, has_iffQ x t k n]
    by_cases h : tg x k = t
    · simp [h]
      constructor
      · rintro (⟨a, b⟩ | rfl)
        · exact ⟨by omega, b⟩
        · exact ⟨by omega, h⟩
      · rintro ⟨a, b⟩
        by_cases e : n = k
        · exact .inr e
        · exact .inl ⟨by omega, b⟩
    · simp [h]
      intro b
      constructor
      · intro a; omega
      · intro a
        by_cases e : n = k
        · subst e; exact (h b).elim
        · omega
section
variable {its : List Itm} {s : CS} {key : ByteArray} {p : Int × Int}
theorem fhit_none (N : List Nat) : fhit its s key p N = none ↔ ∀ n ∈ N, ¬ hit its s key p (n : Int) = true := by
  induction N with
  | nil => simp [fhit]
  | cons n N ih =>
    simp only [fhit, List.mem_cons, forall_eq_or_imp]
    split
    · rename_i h; simp [h]
    · rename_i h; rw [ih]; exact ⟨fun g => ⟨h, g⟩, fun g => g.2⟩
theorem fhit_some {N : List Nat} {y : (Int × Int) × Int} (h : fhit its s key p N = some y) : ∃ n ∈ N, y = (p, (n : Int)) ∧ hit its s key p (n : Int) = true := by
  induction N with
  | nil => cases h
  | cons n N ih =>
    simp only [fhit] at h
    split at h
    · rename_i hh
      exact ⟨n, List.mem_cons_self, (Option.some.inj h).symm, hh⟩
    · obtain ⟨m, h1, h2⟩ := ih h
      exact ⟨m, List.mem_cons_of_mem _ h1, h2⟩
theorem scan_none (L : List (Int × Int)) : scan its s key (L.map Ld.tag) = none ↔ ∀ p ∈ L, ∀ n ∈ has (s.val (tagsA p.1 p.2)) (tag01 (hashOf key)) 4, ¬ hit its s key p (n : Int) = true := by
  induction L with
  | nil => simp [scan]
  | cons p L ih =>
    simp only [List.map_cons, scan, List.mem_cons, forall_eq_or_imp]
    cases hf : fhit its s key p (has (s.val (tagsA p.1 p.2)) (tag01 (hashOf key)) 4) with
    | none =>
      have h1 := (fhit_none _).1 hf
      show scan its s key (L.map Ld.tag) = none ↔ _
      rw [ih]
      exact ⟨fun h => ⟨h1, h⟩, fun h => h.2⟩
    | some y =>
      obtain ⟨n, h1, h2, h3⟩ := fhit_some hf
      constructor
      · intro c; cases c
      · intro h; exact absurd h3 (h.1 n h1)
theorem scan_some {L : List (Int × Int)} {y : (Int × Int) × Int} (h : scan its s key (L.map Ld.tag) = some y) : ∃ p ∈ L, ∃ n : Nat, y = (p, (n : Int)) ∧ hit its s key p (n : Int) = true := by
  induction L with
  | nil => cases h
  | cons p L ih =>
    simp only [List.map_cons, scan] at h
    cases hf : fhit its s key p (has (s.val (tagsA p.1 p.2)) (tag01 (hashOf key)) 4) with
    | none =>
      rw [hf] at h
      obtain ⟨q, h1, h2⟩ := ih h
      exact ⟨q, List.mem_cons_of_mem _ h1, h2⟩
    | some z =>
      rw [hf] at h
      obtain ⟨n, h1, h2, h3⟩ := fhit_some hf
      have h : some z = some y := h
      cases h
      exact ⟨p, List.mem_cons_self, n, h2, h3⟩
theorem hit_iff (n : Int) : hit its s key p n = true ↔ (atOf its (wrap64 (s.val (itemA p.1 p.2 n)))).2 = true ∧ (atOf its (wrap64 (s.val (itemA p.1 p.2 n)))).1.key = key := by
  unfold hit; simp
theorem okA_iff (n : Nat) (hn : n < 4) : okA its s.val key p n = true ↔ n ∈ has (s.val (tagsA p.1 p.2)) (tag01 (hashOf key)) 4 ∧ hit its s key p (n : Int) = true := by
  rw [has_iffQ, hit_iff]
  have e : tagOf (s.val (tagsA p.1 p.2)) (n : Int) = tg (s.val (tagsA p.1 p.2)) n := by unfold tagOf; rw [if_pos (by omega)]; simp
  unfold okA
  rw [e]
  simp only [Bool.and_eq_true, beq_iff_eq, ByteArray.toList_eq]
  constructor
  · rintro ⟨⟨h1, h2⟩, h3⟩
    exact ⟨⟨hn, h1⟩, h2, by ext1; exact Array.toList_inj.1 h3⟩
  · rintro ⟨⟨h0, h1⟩, h2, h3⟩
    exact ⟨⟨h1, h2⟩, by rw [h3]⟩
theorem atP_nil (m : Nat) : atP its s.val key p m = [] ↔ ∀ n, n < m → ¬ okA its s.val key p n = true := by
  induction m with
  | zero => simp [atP]
  | succ m ih =>
    simp only [atP, List.append_eq_nil_iff, ih]
    constructor
    · rintro ⟨h1, h2⟩ n hn
      by_cases e : n = m
      · subst e; intro c; rw [if_pos c] at h2; cases h2
      · exact h1 n (by omega)
    · intro h
      exact ⟨fun n hn => h n (by omega), by rw [if_neg (h m (by omega))]⟩
theorem atL_nil (l : List (Int × Int)) (k : Nat) : atL its s.val key l k = [] ↔ ∀ i, i < k → ∀ p, l[i]? = some p → atP its s.val key p 4 = [] := by
  induction k with
  | zero => simp [atL]
  | succ k ih =>
    simp only [atL, List.append_eq_nil_iff, ih]
    constructor
    · rintro ⟨h1, h2⟩ i hi p hp
      by_cases e : i = k
      · subst e; rw [hp] at h2; exact h2
      · exact h1 i (by omega) p hp
    · intro h
      refine ⟨fun i hi => h i (by omega), ?_⟩
      cases hk : l[k]? with
      | none => rfl
      | some p => exact h k (by omega) p hk
theorem scan_at (L : List (Int × Int)) : scan its s key (L.map Ld.tag) = none ↔ atL its s.val key L L.length = [] := by
  rw [scan_none, atL_nil]
  constructor
  · intro h i hi p hp
    rw [atP_nil]
    intro n hn c
    have := (okA_iff n hn).1 c
    exact h p (List.mem_of_getElem? hp) n this.1 this.2
  · intro h p hp n hn c
    obtain ⟨i, hi⟩ := List.mem_iff_getElem?.1 hp
    have h4 := ((has_iffQ _ _ 4 n).1 hn).1
    have := (atP_nil 4).1 (h i (List.getElem?_eq_some_iff.1 hi).1 p hi) n h4
    exact this ((okA_iff n h4).2 ⟨hn, c⟩)
theorem cost_bd (L : List (Int × Int)) : L.length ≤ cost s key (L.map Ld.tag) ∧ cost s key (L.map Ld.tag) ≤ 5 * L.length := by
  induction L with
  | nil => exact ⟨Nat.le_refl _, Nat.le_refl _⟩
  | cons p L ih =>
    have := has_le (s.val (tagsA p.1 p.2)) (tag01 (hashOf key)) 4
    simp only [List.map_cons, cost, List.length_cons]
    omega
end
/-- Keys of records that may be read are not too long. -/
theorem itms_keys {w : World} {v : Value} {l : List Itm} (h : Leaf.holds w (.sl itmLeaves) v) (hi : Itms w v l) : ∀ x ∈ l, x.key.size ≤ maxLen := by
  simp only [Leaf.holds] at h
  obtain ⟨a, len, cap, rfl, -, -, -, h4⟩ := h
  obtain ⟨a2, cap2, he, -, -, -, h5⟩ := hi
  simp only [Value.slice.injEq] at he
  obtain ⟨rfl, rfl, rfl⟩ := he
  rcases h5 with rfl | ⟨b, off, rfl, hc⟩
  · intro x hx; cases hx
  · rcases h4 with h0 | ⟨b2, off2, e2, hd⟩
    · intro x hx
      rw [List.length_eq_zero_iff.1 h0] at hx; cases hx
    · simp only [Option.some.injEq, Addr.mk.injEq, and_true] at e2
      obtain ⟨rfl, rfl⟩ := e2
      intro x hx
      obtain ⟨i, hi, rfl⟩ := List.mem_iff_getElem.1 hx
      obtain ⟨cs, c1, c2, c3⟩ := hd i hi
      obtain ⟨c0, r, rfl, g0, -⟩ := allHold_cons c3
      obtain ⟨s0, rfl, hs⟩ := holds_str g0
      have e1 := c2 0 (by simp)
      have e2 := hc i hi 0 (by decide)
      rw [show Leaf.many itmLeaves = 6 from rfl, e2] at e1
      simp only [Itm.cells, List.getElem?_cons_zero, Option.some.injEq, Value.string.injEq] at e1
      rw [e1]; exact hs
set_option maxRecDepth 10000 in
theorem rdg_openK {H : Type} {w : World} {enc : TypeId × Value → H} {base : Nat} {v : Value} {d : DataW H} {p : List MemPlace} (k : DataW.Trod enc Tryz.prog w 0 (fun _ => true) true 83 v d p) (o : Value.okWide Tryz.prog w .any base 83 v) : ∃ q : Rdg, v = .agg q.cells ∧ RdgRd w q ∧ ∀ x ∈ q.its, x.key.size ≤ maxLen := by
  obtain ⟨cs, rfl, -⟩ := Go.WideShapes.okWide_struct Tryz.underlying83 o
  have h0 := opened leaves_reading k
  obtain ⟨q, hf, hr⟩ := rdg_of h0
  have hf : cs.toList = q.cells.toList := hf
  refine ⟨q, by rw [Array.toList_inj.1 hf], hr, ?_⟩
  have h0 : Leaf.allHold w rdgLeaves cs.toList := h0
  rw [hf] at h0
  unfold rdgLeaves at h0
  obtain ⟨c0, r, e0, -, h0⟩ := allHold_cons h0
  obtain ⟨c1, r1, e1, g1, -⟩ := allHold_cons h0
  have e : c1 = .slice q.ia q.its.length q.ic := by
    have h2 : q.cells.toList = c0 :: c1 :: r1 := by rw [e0, e1]
    have h3 : (q.cells.toList)[1]? = some c1 := by rw [h2]; rfl
    have h4 : (q.cells.toList)[1]? = some (.slice q.ia q.its.length q.ic) := rfl
    exact Option.some.inj (h3.symm.trans h4)
  rw [e] at g1
  exact itms_keys g1 hr.its
/-- What a quiet look comes to. -/
structure QuSum (its : List Itm) (s : CS) (key : ByteArray) (n : Nat) (r pt : Int) (L : List (Int × Int)) : Prop where
  lo : 4 + 2 * (vof L).length ≤ n
  hi : n ≤ 3 + 2 * (vof L).length + 5 * L.length
  n60 : n ≤ 60
  ptl : 1 ≤ pt
  ptm : pt ≤ 100000
  cs : (r = 0 ∧ atL its s.val key L L.length = [] ∧ 3 + 2 * (vof L).length + L.length ≤ n) ∨ (1 ≤ r ∧ r ≤ its.length ∧ atL its s.val key L L.length ≠ [] ∧ (atOf its r).2 = true ∧ (atOf its r).1.key = key)
theorem quiet_sum (V : WV) (s : CS) (key : ByteArray) (vb : Nat) (hev : EvenV s.val) (hc : s.cnt ≤ 90000) :
    ∃ n s2 x2 r pt, liter 60 V s ⟨key, hashOf key, 0, .fst, 0, [], [], 0, [], 0, 0, 0, false, vb⟩ = (n, V, s2, x2) ∧ s2.val = s.val ∧ x2.ph = .off ∧ x2.bad = false ∧ x2.ref = r ∧ x2.pt = pt ∧ QuSum V.its s key n r pt (plist (hashOf key) (s.val 2)) := by
  obtain ⟨L, hL⟩ : ∃ L, L = plist (hashOf key) (s.val 2) := ⟨_, rfl⟩
  have hS : ∀ a ∈ vof L, ¬ s.val a % 2 = 1 := fun a ha => by
    have h1 := vof_in64h a ha
    have := hev a h1.1 h1.2
    omega
  have hq := quiet_all V s ⟨key, hashOf key, 0, .fst, 0, [], [], 0, [], 0, 0, 0, false, vb⟩ rfl (LOk.new key 0 (by omega) vb) rfl (by show ∀ a ∈ vof (plist (hashOf key) (s.val 2)), _; rw [← hL]; exact hS)
  have hq : ∃ c s' x', (∀ m, liter (m + (c + (3 + 2 * (vof L).length))) V s ⟨key, hashOf key, 0, .fst, 0, [], [], 0, [], 0, 0, 0, false, vb⟩ = (c + (3 + 2 * (vof L).length), V, s', x')) ∧ s'.val = s.val ∧ s'.cnt = s.cnt + (c + (3 + 2 * (vof L).length)) ∧ x'.ph = .off ∧ x'.bad = false ∧
      x'.ref = foundR s 0 (scan V.its s key (L.map Ld.tag)) ∧ x'.ep = s.val 8 ∧ x'.pt = ((s.cnt + (vof L).length + 2 : Nat) : Int) ∧ 1 ≤ c ∧ c ≤ cost s key (L.map Ld.tag) ∧ (scan V.its s key (L.map Ld.tag) = none → c = cost s key (L.map Ld.tag)) := by rw [hL]; exact hq
  obtain ⟨c, s', x', h1, h2, h3, h4, h5, h6, h7, h8, h9, h10, h11⟩ := hq
  have hlen := plist_len (hashOf key) (s.val 2)
  rw [← hL] at hlen ⊢
  have hvl := vof_len L
  have hcb := cost_bd (s := s) (key := key) L
  refine ⟨c + (3 + 2 * (vof L).length), s', x', foundR s 0 (scan V.its s key (L.map Ld.tag)), _, ?_, h2, h4, h5, h6, h8, ⟨by omega, by omega, by omega, by omega, by omega, ?_⟩⟩
  · have := h1 (60 - (c + (3 + 2 * (vof L).length)))
    rw [show 60 - (c + (3 + 2 * (vof L).length)) + (c + (3 + 2 * (vof L).length)) = 60 by omega] at this
    exact this
  · cases hs : scan V.its s key (L.map Ld.tag) with
    | none =>
      have := h11 hs
      exact .inl ⟨rfl, (scan_at L).1 hs, by omega⟩
    | some y =>
      obtain ⟨p, hp, n, e1, e2⟩ := scan_some hs
      obtain ⟨g1, g2⟩ := (hit_iff _).1 e2
      subst e1
      obtain ⟨r, hr⟩ : ∃ r, r = wrap64 (s.val (itemA p.1 p.2 (n : Int))) := ⟨_, rfl⟩
      rw [← hr] at g1 g2
      have hb : 1 ≤ r ∧ r ≤ V.its.length := by
        unfold atOf at g1
        split at g1
        · rename_i h; exact h
        · cases g1
      refine .inr ⟨?_, ?_, fun c => ?_, ?_, ?_⟩
      · show 1 ≤ wrap64 _; rw [← hr]; exact hb.1
      · show wrap64 _ ≤ _; rw [← hr]; exact hb.2
      · have := (scan_at (its := V.its) (s := s) (key := key) L).2 c
        rw [hs] at this; cases this
      · show (atOf V.its (wrap64 _)).2 = true; rw [← hr]; exact g1
      · show (atOf V.its (wrap64 _)).1.key = key; rw [← hr]; exact g2
theorem newlook_big (key : ByteArray) (hk : key.size ≤ maxLen) (w : World) : Calls Tryz.prog 20 #[.string key, .int .i64 0] w fun e w' => ∃ fb, e = .returned (.pointer (some ⟨fb, 0, none⟩)) ∧ LookAt w' w.heap.size fb ⟨key, hashOf key, 0, .fst, 0, [], [], 0, [], 0, 0, 0, false, fb⟩ ∧ Below w.heap.size w w' := by
  have hh := fun W => hash_big key hk W
  have fin : Hid (∀ w2, Below w.heap.size w w2 → LookAt (w2.alloc (.cells #[.string key, .int .u64 (hashOf key), .int .i64 0, .func (.func 88) #[] #[], .int .u64 0, .slice none 0 0, .slice none 0 0, .int .i64 0, .slice none 0 0, .int .i64 0, .int .u64 0, .int .i64 0, .bool false] 209)) w.heap.size w2.heap.size ⟨key, hashOf key, 0, .fst, 0, [], [], 0, [], 0, 0, 0, false, w2.heap.size⟩ ∧ Below w.heap.size w (w2.alloc (.cells #[.string key, .int .u64 (hashOf key), .int .i64 0, .func (.func 88) #[] #[], .int .u64 0, .slice none 0 0, .slice none 0 0, .int .i64 0, .slice none 0 0, .int .i64 0, .int .u64 0, .int .i64 0, .bool false] 209))) := fun w2 b2 =>
    ⟨⟨b2.size, _, _, _, heap_alloc_new w2 _, .inl ⟨rfl, rfl⟩, World.ownsRow_nil _ _ _ _, .inl ⟨rfl, _, _, rfl, Nat.zero_le _⟩, .inr ⟨rfl, rfl⟩⟩, bnext b2 (below_alloc _ _)⟩
  clear hk
  go_enter Tryz.func20, Tryz.ntmps20
  go_wp2_with (go_at_call 32; refine (hh _).mono ?_; intro e w2 hh; obtain ⟨hh1, b2⟩ := hh; subst hh1; have B2 := Lib.hid b2; clear b2 hh)
  go_ret
  have := fin.out w2 B2.out
  exact ⟨_, rfl, this.1, this.2⟩
end Go.Proofs.YtdbgfidnccpmdaaGreat

/-
  What happens beside a reader: versions rise, a place's slots turn only while its version is odd, the tables' word never comes again.
-/
namespace Go.Proofs.YtdbgfidnccpmdaaGreat
open Go.RowKit Go.Maps TagPure
set_option linter.unusedVariables false

theorem updo {f : Int → Int} {g y x : Int} (h : x ≠ g) : upd f g y x = f x := by unfold upd; rw [if_neg h]
/-- How far tables have gone. -/
def wrank (t : Int) : Int := 2 * asOld t + (if 0 < asNow t then 1 else 0)
theorem tsize_nz {b : Int} : tsize b = 0 ↔ ¬ (1 ≤ b ∧ b ≤ 12) := by
  constructor
  · intro h c
    have := tsize_pos (b := b) c
    omega
  · intro h; exact tsize_out (by omega)
theorem asOld_bd (t : Int) : 1 ≤ asOld t ∧ asOld t ≤ 12 := by
  unfold asOld
  split
  · omega
  · rename_i h
    have := (not_congr (tsize_nz (b := t % 256))).1 h
    omega
theorem asNow_or (t : Int) : asNow t = 0 ∨ (asNow t = asOld t + 1 ∧ asNow t ≤ 12) := by
  unfold asNow
  split
  · exact .inl rfl
  · rename_i h
    have h1 : t / 256 % 256 = asOld t + 1 := Classical.byContradiction fun c => h (.inl c)
    have h2 := (not_congr (tsize_nz (b := t / 256 % 256))).1 (fun c => h (.inr c))
    exact .inr ⟨h1, by omega⟩
theorem tword_lo (o n : Int) (ho : 0 ≤ o ∧ o < 256) (hn : 0 ≤ n ∧ n < 256) : tword o n % 256 = o ∧ tword o n / 256 % 256 = n := by
  unfold tword; omega
theorem asOld_tw {o n : Int} (ho : 1 ≤ o ∧ o ≤ 12) (hn : 0 ≤ n ∧ n < 256) : asOld (tword o n) = o := by
  have h := tword_lo o n (by omega) hn
  unfold asOld
  rw [h.1, if_neg (fun c => (tsize_nz.1 c) ho)]
theorem next_rank (t : Int) (h : asOld t < 12) : wrank t < wrank (nextW t) := by
  have ho := asOld_bd t
  unfold nextW
  rcases asNow_or t with hn | ⟨hn, hn12⟩
  · rw [if_neg (by omega)]
    have h1 := asOld_tw (o := asOld t) (n := asOld t + 1) ho (by omega)
    have h2 : asNow (tword (asOld t) (asOld t + 1)) = asOld t + 1 := by
      have h := tword_lo (asOld t) (asOld t + 1) (by omega) (by omega)
      unfold asNow
      rw [h1, h.2, if_neg]
      rintro (c | c)
      · exact c rfl
      · exact (tsize_nz.1 c) (by omega)
    unfold wrank
    rw [h1, h2, if_neg (by omega), if_pos (by omega)]; omega
  · rw [if_pos (by omega)]
    have h1 := asOld_tw (o := asNow t) (n := 0) (by omega) (by omega)
    unfold wrank
    rw [h1]
    split <;> split <;> omega
/-- Since a moment. -/
structure Since (v v' : Int → Int) : Prop where
  up : ∀ a, 64 ≤ a → a < 128 → v a ≤ v' a
  slot : ∀ p, POk12L p → v' (ver p.1 p.2) = v (ver p.1 p.2) → v (ver p.1 p.2) % 2 = 0 → v' (tagsA p.1 p.2) = v (tagsA p.1 p.2) ∧ ∀ k, 0 ≤ k → k < 4 → v' (itemA p.1 p.2 k) = v (itemA p.1 p.2 k)
  tab : v' 2 = v 2 ∨ wrank (v 2) < wrank (v' 2)
theorem ver_in {p : Int × Int} (h : POk12L p) : 64 ≤ ver p.1 p.2 ∧ ver p.1 p.2 < 128 := by
  have hp : hasP p.1 p.2 = true := by unfold hasP; simp [h.2.1, h.2.2]
  unfold ver; rw [if_pos hp]; unfold stripe; omega
theorem Since.refl (v : Int → Int) : Since v v := ⟨fun _ _ _ => Int.le_refl _, fun _ _ _ _ => ⟨rfl, fun _ _ _ => rfl⟩, .inl rfl⟩
theorem Since.trans {a b c : Int → Int} (h : Since a b) (k : Since b c) : Since a c := by
  refine ⟨fun x h1 h2 => Int.le_trans (h.up x h1 h2) (k.up x h1 h2), fun p hp he h0 => ?_, ?_⟩
  · have hv := ver_in hp
    have h1 := h.up _ hv.1 hv.2
    have h2 := k.up _ hv.1 hv.2
    have e1 : b (ver p.1 p.2) = a (ver p.1 p.2) := by omega
    obtain ⟨g1, g2⟩ := h.slot p hp e1 h0
    obtain ⟨g3, g4⟩ := k.slot p hp (by omega) (by omega)
    exact ⟨g3.trans g1, fun j h1 h2 => (g4 j h1 h2).trans (g2 j h1 h2)⟩
  · rcases h.tab with h1 | h1 <;> rcases k.tab with h2 | h2
    · exact .inl (h2.trans h1)
    · exact .inr (by rw [← h1]; exact h2)
    · exact .inr (by rw [h2]; exact h1)
    · exact .inr (by omega)
/-! ## Where words of places lie. -/
theorem tags_v {p : Int × Int} (h : POk12L p) : tagsA p.1 p.2 = 4096 + 8 * (tsize p.1 + p.2) := by
  have hp : hasP p.1 p.2 = true := by unfold hasP; simp [h.2.1, h.2.2]
  unfold tagsA; rw [if_pos hp]
theorem item_v {p : Int × Int} (h : POk12L p) {k : Int} (h0 : 0 ≤ k) (h1 : k < 4) : itemA p.1 p.2 k = 4096 + 8 * (tsize p.1 + p.2) + 1 + k := by
  have hp : hasP p.1 p.2 = true := by unfold hasP; simp [h.2.1, h.2.2]
  unfold itemA; rw [if_pos (by unfold hasS; simp [hp, h0, h1])]
theorem place_inj {p q : Int × Int} (hp : POk12L p) (hq : POk12L q) (h : tsize p.1 + p.2 = tsize q.1 + q.2) : p = q := by
  obtain ⟨⟨b1, b2⟩, u0, u1⟩ := hp
  obtain ⟨⟨c1, c2⟩, w0, w1⟩ := hq
  have e1 := tsize_in ⟨b1, b2⟩
  have e2 := tsize_in ⟨c1, c2⟩
  have hb : p.1 = q.1 := by
    rcases twelve ⟨b1, b2⟩ with h1 | h1 | h1 | h1 | h1 | h1 | h1 | h1 | h1 | h1 | h1 | h1 <;> rcases twelve ⟨c1, c2⟩ with h2 | h2 | h2 | h2 | h2 | h2 | h2 | h2 | h2 | h2 | h2 | h2 <;> first
      | exact h1.trans h2.symm
      | (exfalso
         rw [h1] at e1 u1 h
         rw [h2] at e2 w1 h
         rw [e1] at u1 h
         rw [e2] at w1 h
         simp only [Int.reduceToNat, Int.reducePow] at u1 w1 h
         omega)
  have hu : p.2 = q.2 := by rw [hb] at h; omega
  exact Prod.ext hb hu
/-- A word of a place's slots is written while the place's version is odd. -/
theorem since_slot {v : Int → Int} {q : Int × Int} (hq : POk12L q) (ho : v (ver q.1 q.2) % 2 = 1) {g : Int} (hg : g = tagsA q.1 q.2 ∨ ∃ k, 0 ≤ k ∧ k < 4 ∧ g = itemA q.1 q.2 k) (y : Int) : Since v (upd v g y) := by
  have hgb : 128 ≤ g := by
    have := tsize_bd q.1; have := hq.2.1
    rcases hg with rfl | ⟨k, h0, h1, rfl⟩
    · rw [tags_v hq]; omega
    · rw [item_v hq h0 h1]; omega
  refine ⟨fun a h1 h2 => by rw [updo (by omega)]; exact Int.le_refl _, fun p hp _ he => ?_, .inl (updo (by omega))⟩
  have hne : tsize p.1 + p.2 ≠ tsize q.1 + q.2 := fun c => by
    rw [place_inj hp hq c, ho] at he; cases he
  have hp0 := hp.2.1; have hq0 := hq.2.1
  refine ⟨updo ?_, fun j j0 j1 => updo ?_⟩
  · rw [tags_v hp]
    rcases hg with rfl | ⟨k, h0, h1, rfl⟩
    · rw [tags_v hq]; omega
    · rw [item_v hq h0 h1]; omega
  · rw [item_v hp j0 j1]
    rcases hg with rfl | ⟨k, h0, h1, rfl⟩
    · rw [tags_v hq]; omega
    · rw [item_v hq h0 h1]; omega
/-- A version rises. -/
theorem since_ver {v : Int → Int} {a : Int} (ha : 64 ≤ a ∧ a < 128) {y : Int} (hy : v a ≤ y) : Since v (upd v a y) := by
  refine ⟨fun x h1 h2 => ?_, fun p hp _ he => ?_, .inl (updo (by omega))⟩
  · unfold upd; split
    · rename_i e; rw [e]; exact hy
    · exact Int.le_refl _
  · have := tsize_bd p.1; have hp0 := hp.2.1
    refine ⟨updo ?_, fun j j0 j1 => updo ?_⟩
    · rw [tags_v hp]; omega
    · rw [item_v hp j0 j1]; omega
/-- The tables go on. -/
theorem since_tab {v : Int → Int} {y : Int} (h : wrank (v 2) < wrank y) : Since v (upd v 2 y) := by
  refine ⟨fun x h1 h2 => by rw [updo (by omega)]; exact Int.le_refl _, fun p hp _ he => ?_, .inr (by rw [upd_same]; exact h)⟩
  have := tsize_bd p.1; have hp0 := hp.2.1
  refine ⟨updo ?_, fun j j0 j1 => updo ?_⟩
  · rw [tags_v hp]; omega
  · rw [item_v hp j0 j1]; omega
/-- Another word is written. -/
theorem since_far {v : Int → Int} {a : Int} (ha : 2 < a ∧ a < 64) (y : Int) : Since v (upd v a y) := by
  refine ⟨fun x h1 h2 => by rw [updo (by omega)]; exact Int.le_refl _, fun p hp _ he => ?_, .inl (updo (by omega))⟩
  have := tsize_bd p.1; have hp0 := hp.2.1
  refine ⟨updo ?_, fun j j0 j1 => updo ?_⟩
  · rw [tags_v hp]; omega
  · rw [item_v hp j0 j1]; omega
/-! ## The writer. -/
def SLk (a0 : Int) (σ : SL) : Prop := ∃ (q : Int × Int) (k : Int), POk12L q ∧ ver q.1 q.2 = a0 ∧ 0 ≤ k ∧ k < 4 ∧ σ.tg = tagsA q.1 q.2 ∧ σ.it = itemA q.1 q.2 k
def DLk (a0 : Int) : Dg → Prop
  | .mark xs => ∀ a ∈ xs, a = a0
  | .out σ => SLk a0 σ
  | .put σ _ _ => SLk a0 σ
def RLk (row : List Dg) : Prop := ∃ a0, ∀ d ∈ row, DLk a0 d
theorem DLk.step {a0 : Int} {d : Dg} (h : DLk a0 d) (s : CS) : DLk a0 (d.step s).2 := by
  cases d with
  | mark xs => cases xs with
    | nil => exact h
    | cons a r => exact fun x hx => h x (List.mem_cons_of_mem _ hx)
  | out σ => unfold Dg.step; dsimp only; split; exact h; split <;> exact h
  | put σ g r => unfold Dg.step; dsimp only; split; exact h; split <;> exact h
theorem dgo_since {d : Dg} (hd : DGo d) (s : CS) {a0 : Int} (hl : DLk a0 d) (ho : s.val a0 % 2 = 1) : Since s.val (d.step s).1.val := by
  have id_ : ∀ a, Since s.val (s.acc 1 a (s.val a)).val := fun a => by
    have e : (s.acc 1 a (s.val a)).val = s.val := by
      funext z; show upd s.val a (s.val a) z = _; unfold upd; split
      · rename_i h; rw [h]
      · rfl
    rw [e]; exact Since.refl _
  cases d with
  | mark xs => cases hd
  | out σ =>
    obtain ⟨q, k, hq, hv, k0, k1, e1, e2⟩ := hl
    rw [← hv] at ho
    unfold Dg.step; dsimp only
    split
    · exact id_ _
    · split
      · exact since_slot hq ho (.inl e1) _
      · exact since_slot hq ho (.inr ⟨k, k0, k1, e2⟩) _
  | put σ g r =>
    obtain ⟨q, k, hq, hv, k0, k1, e1, e2⟩ := hl
    rw [← hv] at ho
    unfold Dg.step; dsimp only
    split
    · exact since_slot hq ho (.inr ⟨k, k0, k1, e2⟩) _
    · split
      · exact id_ _
      · exact since_slot hq ho (.inl e1) _
/-- Versions are not too high. -/
def VBd (s : CS) : Prop := ∀ a, 64 ≤ a → a < 128 → 0 ≤ s.val a ∧ s.val a ≤ s.cnt
theorem wu_one {x : Int} (h : 0 ≤ x ∧ x < 1000000) : wu (x + 1) = x + 1 := by rw [wu_eq]; omega
structure WSin (s : CS) (r : Bool × CS × List Chg × List Dg) : Prop where
  sin : Since s.val r.2.1.val
  lk : RLk r.2.2.2
  bd : VBd r.2.1
theorem VBd.upd_far {s s' : CS} (h : VBd s) {g y : Int} (hg : 128 ≤ g ∨ g < 64) (hv : s'.val = upd s.val g y) (hc : s.cnt ≤ s'.cnt) : VBd s' := fun a h1 h2 => by
  rw [hv, updo (by omega)]
  have := h a h1 h2
  omega
theorem dgo_bd {d : Dg} (hd : DGo d) (s : CS) (h : VBd s) : VBd (d.step s).1 := by
  cases d with
  | mark xs => cases hd
  | out σ =>
    obtain ⟨h1, h2, h3⟩ := hd
    unfold Dg.step; dsimp only
    split
    · exact h.upd_far (.inl h1) rfl (Nat.le_succ _)
    · split
      · exact h.upd_far (.inl h1) rfl (Nat.le_succ _)
      · exact h.upd_far (.inl h2) rfl (Nat.le_succ _)
  | put σ g r =>
    obtain ⟨h1, h2, h3⟩ := hd
    unfold Dg.step; dsimp only
    split
    · exact h.upd_far (.inl h2) rfl (Nat.le_succ _)
    · split
      · exact h.upd_far (.inl h1) rfl (Nat.le_succ _)
      · exact h.upd_far (.inl h1) rfl (Nat.le_succ _)
theorem mark_bd {s : CS} (h : VBd s) {a0 : Int} (h0 : 64 ≤ a0 ∧ a0 < 128) (hc : s.cnt < 900000) : VBd (s.acc 4 a0 (wu (s.val a0 + 1))) ∧ Since s.val (s.acc 4 a0 (wu (s.val a0 + 1))).val := by
  have hb := h a0 h0.1 h0.2
  rw [wu_one (by omega)]
  refine ⟨fun a h1 h2 => ?_, since_ver h0 (by omega)⟩
  show 0 ≤ upd s.val a0 (s.val a0 + 1) a ∧ upd s.val a0 (s.val a0 + 1) a ≤ ((s.cnt + 1 : Nat) : Int)
  unfold upd
  have := h a h1 h2
  split <;> omega
theorem wdo_since {s : CS} {d : Dg} {r : List Dg} (h : WPh s.val (d :: r)) (hl : RLk (d :: r)) (hb : VBd s) (hc : s.cnt < 900000) (left : List Chg) : WSin s (wdo s left d r) := by
  obtain ⟨a1, hl⟩ := hl
  have hlk : RLk (if (d.step s).2.over then r else (d.step s).2 :: r) := by
    refine ⟨a1, fun e he => ?_⟩
    split at he
    · exact hl e (List.mem_cons_of_mem _ he)
    · rcases List.mem_cons.1 he with rfl | he
      · exact (hl d (List.mem_cons_self)).step s
      · exact hl e (List.mem_cons_of_mem _ he)
  cases h with
  | a a0 d' h h0 hd =>
    obtain ⟨g1, g2⟩ := mark_bd hb h0 hc
    exact ⟨g2, hlk, g1⟩
  | b a0 d' h h0 hd =>
    have e : a0 = a1 := hl (.mark [a0]) (by simp) a0 (by simp)
    have ho : s.val a0 % 2 = 1 := by have := h a0 h0.1 h0.2; rw [if_pos rfl] at this; exact this
    exact ⟨dgo_since hd s (hl d (List.mem_cons_self)) (by rw [← e]; exact ho), hlk, dgo_bd hd s hb⟩
  | c a0 h h0 =>
    obtain ⟨g1, g2⟩ := mark_bd hb h0 hc
    exact ⟨g2, hlk, g1⟩
theorem chrow_lk {its : List Itm} {v : Int → Int} (c : Chg) (hne : its ≠ []) : RLk (chRow its v c) := by
  have hpos : 0 < its.length := List.length_pos_iff.2 hne
  have hi0 := Int.emod_nonneg c.item (b := (its.length : Int)) (by omega)
  obtain ⟨ref, href⟩ : ∃ ref, ref = 1 + c.item % its.length := ⟨_, rfl⟩
  obtain ⟨k0, k1⟩ := hfold_bd (atOf its ref).1.key (atOf its ref).1.key.size
  obtain ⟨L, hL⟩ : ∃ L, L = plist (hashOf (atOf its ref).1.key) (v 2) := ⟨_, rfl⟩
  have hlp : 0 < L.length := by rw [hL]; exact plist_posL _ _
  have hm0 := Int.emod_nonneg c.place (b := (L.length : Int)) (by omega)
  have hm1 := Int.emod_lt_of_pos c.place (show (0 : Int) < L.length by omega)
  obtain ⟨p, hp⟩ : ∃ p, p = L.getD (c.place % L.length).toNat (0, 0) := ⟨_, rfl⟩
  have hpm : p ∈ L := by
    rw [hp, List.getD_eq_getElem?_getD, List.getElem?_eq_getElem (by omega)]
    exact List.getElem_mem _
  have hpk : POk12L p := plist_okL (hashOf (atOf its ref).1.key) (v 2) k0 k1 p (by rw [← hL]; exact hpm)
  have hv := ver_in hpk
  have hvof : vof [p] = [ver p.1 p.2] := by
    show vstep [] p = _
    unfold vstep
    rw [if_neg (by omega)]; rfl
  have hs0 := Int.emod_nonneg c.slot (b := 4) (by omega)
  have hs1 := Int.emod_lt_of_pos c.slot (show (0 : Int) < 4 by omega)
  have hsz := tsize_bd p.1
  have hp0 := hpk.2.1
  have htg := tags_v hpk
  have hit := item_v hpk hs0 hs1
  have hsof : sof p.1 p.2 (c.slot % 4) = ⟨tagsA p.1 p.2, itemA p.1 p.2 (c.slot % 4), c.slot % 4, 0, 0⟩ := by
    unfold sof
    rw [if_neg (by omega)]
  have hsl : SLk (ver p.1 p.2) (sof p.1 p.2 (c.slot % 4)) := by rw [hsof]; exact ⟨p, c.slot % 4, hpk, rfl, hs0, hs1, rfl, rfl⟩
  have htb := tag01_bd (hashOf (atOf its ref).1.key) k0 k1
  have hsp : hsput (p.1, p.2, c.slot % 4) (tag01 (hashOf (atOf its ref).1.key)) ref = .put (sof p.1 p.2 (c.slot % 4)) (tag01 (hashOf (atOf its ref).1.key)) ref := by
    unfold hsput
    rw [if_neg (by omega)]
  obtain ⟨d, hd⟩ : ∃ d, d = (if 3 < c.kind % 8 then Dg.out (sof p.1 p.2 (c.slot % 4)) else hsput (p.1, p.2, c.slot % 4) (tag01 (hashOf (atOf its ref).1.key)) ref) := ⟨_, rfl⟩
  have hrow : chRow its v c = [.mark [ver p.1 p.2], d, .mark [ver p.1 p.2]] := by
    rw [← hvof, hd, hp, hL, href]; rfl
  have hdg : DLk (ver p.1 p.2) d := by
    rw [hd]; split
    · exact hsl
    · rw [hsp]; exact hsl
  have hmk : DLk (ver p.1 p.2) (.mark [ver p.1 p.2]) := fun a ha => List.mem_singleton.1 ha
  rw [hrow]
  refine ⟨ver p.1 p.2, fun e he => ?_⟩
  simp only [List.mem_cons, List.not_mem_nil, or_false] at he
  rcases he with rfl | rfl | rfl
  · exact hmk
  · exact hdg
  · exact hmk
theorem wgo_since (its : List Itm) (s : CS) (hb : VBd s) (hc : s.cnt < 900000) : ∀ (left : List Chg) (row : List Dg), WPh s.val row → RLk row → WSin s (wgo its s left row)
  | left, d :: r, h, hl => by
    rw [wgo_cons]; exact wdo_since h hl hb hc left
  | [], [], h, hl => by
    simp only [wgo]; exact ⟨Since.refl _, hl, hb⟩
  | c :: left, [], h, hl => by
    have he : EvenV s.val := by cases h with | z h => exact h
    have ih := wgo_since its s hb hc left [] h hl
    unfold wgo
    by_cases h7 : c.kind % 8 = 7
    · rw [if_pos h7]
      by_cases h12 : asOld (s.val 2) < 12
      · rw [if_pos h12]
        exact ⟨since_tab (next_rank _ h12), hl, hb.upd_far (.inr (by decide)) rfl (Nat.le_succ _)⟩
      · rw [if_neg h12]; exact ih
    · rw [if_neg h7]
      by_cases hi : its = []
      · rw [if_pos hi]; exact ih
      · rw [if_neg hi]
        have h1 := (chrow_law (its := its) (v := s.val) c hi he).1
        have h2 := chrow_lk (its := its) (v := s.val) c hi
        cases hr : chRow its s.val c with
        | nil => exact ⟨Since.refl _, ⟨0, fun d hd => by cases hd⟩, hb⟩
        | cons d r =>
          rw [hr] at h1 h2
          exact wdo_since h1 h2 hb hc left
end Go.Proofs.YtdbgfidnccpmdaaGreat

/-
  A Look beside others: what it finds was so at its point. The plain law.
-/
namespace Go.Proofs.YtdbgfidnccpmdaaGreat
open Go.RowKit Go.Maps TagPure
set_option linter.unusedVariables false

structure LBase (x : LK) : Prop where
  h : x.h = hashOf x.key
  all : x.all = plist x.h x.tab
  vs : x.vs.map (·.1) = vof x.all
def TabI (x : LK) (v : Int → Int) : Prop := v 2 = x.tab ∨ wrank x.tab < wrank (v 2)
/-- The first so many versions were seen: even, and not above those that are. -/
def SeenI (x : LK) (v : Int → Int) (j : Nat) : Prop := ∀ i, i < j → ∀ a n, x.vs[i]? = some (a, n) → n % 2 = 0 ∧ n ≤ v a
def GoodI (x : LK) (v : Int → Int) : Prop := ∀ (i : Nat) a n, x.vs[i]? = some (a, n) → v a = n
def Fnd (its : List Itm) (x : LK) (s3 : CS) : Option ((Int × Int) × Int) := scan its s3 x.key (x.all.map Ld.tag)
structure LSnd (x : LK) (v : Int → Int) (j : Nat) : Prop where
  b : LBase x
  ref : x.ref = 0
  tab : TabI x v
  seen : SeenI x v j
structure LPnt (x : LK) (s3 : CS) (v : Int → Int) : Prop where
  b : LBase x
  tab : TabI x s3.val
  seen : SeenI x s3.val x.vs.length
  sin : Since s3.val v
  ep : x.ep = s3.val 8
  pt : x.pt = (s3.cnt : Int)
structure LSix (its : List Itm) (x : LK) (s3 : CS) (v : Int → Int) : Prop where
  b : LBase x
  tab : s3.val 2 = x.tab
  seen : SeenI x s3.val x.vs.length
  ep : x.ep = s3.val 8
  pt : x.pt = (s3.cnt : Int)
  five : ∃ v5, Since s3.val v5 ∧ Since v5 v ∧ (GoodI x v5 → x.ref = foundR s3 0 (Fnd its x s3)) ∧ ∀ i, i < x.at_ → ∀ a n, x.vs[i]? = some (a, n) → v5 a = n
structure LOff (its : List Itm) (x : LK) (s3 : CS) : Prop where
  b : LBase x
  tab : s3.val 2 = x.tab
  ep : x.ep = s3.val 8
  pt : x.pt = (s3.cnt : Int)
  ref : x.ref = foundR s3 0 (Fnd its x s3)
  ev : ∀ (i : Nat) a n, x.vs[i]? = some (a, n) → s3.val a = n ∧ n % 2 = 0
structure LInv (its : List Itm) (x : LK) (s3 : CS) (v : Int → Int) : Prop where
  h : x.h = hashOf x.key
  bad : x.ph ≠ .off → x.bad = false
  snd : x.ph = .snd → LSnd x v x.at_
  thd : x.ph = .thd → LSnd x v x.vs.length
  pnt : x.ph = .tag ∨ x.ph = .itm ∨ x.ph = .fif → LPnt x s3 v
  rd : x.ph = .tag ∨ x.ph = .itm → x.ref = 0 ∧ (GoodI x v → Fnd its x s3 = scan its s3 x.key (lds x))
  fif : x.ph = .fif → GoodI x v → x.ref = foundR s3 0 (Fnd its x s3)
  six : x.ph = .six → LSix its x s3 v
  off : x.ph = .off → x.bad = true ∨ (x.bad = false ∧ LOff its x s3)
section
variable {its : List Itm} {x : LK} {s3 : CS} {v : Int → Int}
theorem LInv.mk_fst (hh : x.h = hashOf x.key) (hb : x.bad = false) (hp : x.ph = .fst) : LInv its x s3 v :=
  ⟨hh, fun _ => hb, fun c => (by rw [hp] at c; cases c), fun c => (by rw [hp] at c; cases c), fun c => (by rw [hp] at c; rcases c with c | c | c <;> cases c), fun c => (by rw [hp] at c; rcases c with c | c <;> cases c), fun c => (by rw [hp] at c; cases c), fun c => (by rw [hp] at c; cases c), fun c => (by rw [hp] at c; cases c)⟩
theorem LInv.mk_snd (hb : x.bad = false) (hp : x.ph = .snd) (g : LSnd x v x.at_) : LInv its x s3 v :=
  ⟨g.b.h, fun _ => hb, fun _ => g, fun c => (by rw [hp] at c; cases c), fun c => (by rw [hp] at c; rcases c with c | c | c <;> cases c), fun c => (by rw [hp] at c; rcases c with c | c <;> cases c), fun c => (by rw [hp] at c; cases c), fun c => (by rw [hp] at c; cases c), fun c => (by rw [hp] at c; cases c)⟩
theorem LInv.mk_thd (hb : x.bad = false) (hp : x.ph = .thd) (g : LSnd x v x.vs.length) : LInv its x s3 v :=
  ⟨g.b.h, fun _ => hb, fun c => (by rw [hp] at c; cases c), fun _ => g, fun c => (by rw [hp] at c; rcases c with c | c | c <;> cases c), fun c => (by rw [hp] at c; rcases c with c | c <;> cases c), fun c => (by rw [hp] at c; cases c), fun c => (by rw [hp] at c; cases c), fun c => (by rw [hp] at c; cases c)⟩
theorem LInv.mk_rd (hb : x.bad = false) (hp : x.ph = .tag ∨ x.ph = .itm) (g : LPnt x s3 v) (hr : x.ref = 0) (hf : GoodI x v → Fnd its x s3 = scan its s3 x.key (lds x)) : LInv its x s3 v :=
  ⟨g.b.h, fun _ => hb, fun c => (by rw [c] at hp; rcases hp with hp | hp <;> cases hp), fun c => (by rw [c] at hp; rcases hp with hp | hp <;> cases hp), fun _ => g, fun _ => ⟨hr, hf⟩, fun c => (by rw [c] at hp; rcases hp with hp | hp <;> cases hp), fun c => (by rw [c] at hp; rcases hp with hp | hp <;> cases hp), fun c => (by rw [c] at hp; rcases hp with hp | hp <;> cases hp)⟩
theorem LInv.mk_fif (hb : x.bad = false) (hp : x.ph = .fif) (g : LPnt x s3 v) (hf : GoodI x v → x.ref = foundR s3 0 (Fnd its x s3)) : LInv its x s3 v :=
  ⟨g.b.h, fun _ => hb, fun c => (by rw [hp] at c; cases c), fun c => (by rw [hp] at c; cases c), fun _ => g, fun c => (by rw [hp] at c; rcases c with c | c <;> cases c), fun _ => hf, fun c => (by rw [hp] at c; cases c), fun c => (by rw [hp] at c; cases c)⟩
theorem LInv.mk_six (hb : x.bad = false) (hp : x.ph = .six) (g : LSix its x s3 v) : LInv its x s3 v :=
  ⟨g.b.h, fun _ => hb, fun c => (by rw [hp] at c; cases c), fun c => (by rw [hp] at c; cases c), fun c => (by rw [hp] at c; rcases c with c | c | c <;> cases c), fun c => (by rw [hp] at c; rcases c with c | c <;> cases c), fun c => (by rw [hp] at c; cases c), fun _ => g, fun c => (by rw [hp] at c; cases c)⟩
theorem LInv.mk_off (hh : x.h = hashOf x.key) (hp : x.ph = .off) (g : x.bad = true ∨ (x.bad = false ∧ LOff its x s3)) : LInv its x s3 v :=
  ⟨hh, fun c => absurd hp c, fun c => (by rw [hp] at c; cases c), fun c => (by rw [hp] at c; cases c), fun c => (by rw [hp] at c; rcases c with c | c | c <;> cases c), fun c => (by rw [hp] at c; rcases c with c | c <;> cases c), fun c => (by rw [hp] at c; cases c), fun c => (by rw [hp] at c; cases c), fun _ => g⟩
theorem LBase.in64 (h : LBase x) {i : Nat} {a n : Int} (hi : x.vs[i]? = some (a, n)) : 64 ≤ a ∧ a < 128 := by
  have hm : a ∈ x.vs.map (·.1) := List.mem_map.2 ⟨(a, n), List.mem_of_getElem? hi, rfl⟩
  rw [h.vs] at hm
  exact vof_in64 a hm
theorem lt_of_at {i : Nat} {a n : Int} (hi : x.vs[i]? = some (a, n)) : i < x.vs.length := (List.getElem?_eq_some_iff.1 hi).1
theorem TabI.since {v' : Int → Int} (h : TabI x v) (k : Since v v') : TabI x v' := by
  unfold TabI at *
  rcases h with h | h <;> rcases k.tab with g | g
  · exact .inl (g.trans h)
  · exact .inr (by rw [← h]; exact g)
  · exact .inr (by rw [g]; exact h)
  · exact .inr (by omega)
theorem SeenI.since {v' : Int → Int} {j : Nat} (hb : LBase x) (h : SeenI x v j) (k : Since v v') : SeenI x v' j := fun i hi a n ha => by
  obtain ⟨h1, h2⟩ := h i hi a n ha
  have := hb.in64 ha
  have := k.up a this.1 this.2
  exact ⟨h1, by omega⟩
theorem GoodI.back {v' : Int → Int} (hb : LBase x) (hs : SeenI x v x.vs.length) (k : Since v v') (h : GoodI x v') : GoodI x v := fun i a n ha => by
  have h1 := (hs i (lt_of_at ha) a n ha).2
  have h2 := h i a n ha
  have := hb.in64 ha
  have := k.up a this.1 this.2
  omega
/-- Others' steps leave it. -/
theorem LInv.since {v' : Int → Int} (h : LInv its x s3 v) (k : Since v v') : LInv its x s3 v' := by
  refine ⟨h.h, h.bad, fun c => ?_, fun c => ?_, fun c => ?_, fun c => ?_, fun c hg => ?_, fun c => ?_, h.off⟩
  · obtain ⟨b, r, t, s⟩ := h.snd c
    exact ⟨b, r, t.since k, s.since b k⟩
  · obtain ⟨b, r, t, s⟩ := h.thd c
    exact ⟨b, r, t.since k, s.since b k⟩
  · obtain ⟨b, t, s, si, e, p⟩ := h.pnt c
    exact ⟨b, t, s, si.trans k, e, p⟩
  · have P := h.pnt (by rcases c with c | c; exact .inl c; exact .inr (.inl c))
    obtain ⟨r, f⟩ := h.rd c
    exact ⟨r, fun hg => f (GoodI.back P.b (P.seen.since P.b P.sin) k hg)⟩
  · have P := h.pnt (.inr (.inr c))
    exact h.fif c (GoodI.back P.b (P.seen.since P.b P.sin) k hg)
  · obtain ⟨b, t, s, e, p, v5, f1, f2, f3, f4⟩ := h.six c
    exact ⟨b, t, s, e, p, v5, f1, f2.trans k, f3, f4⟩
theorem LInv.again (hh : x.h = hashOf x.key) (hb : x.bad = false) : LInv its x.again s3 v := by
  unfold LK.again
  split
  · exact .mk_off hh rfl (.inl rfl)
  · exact .mk_fst hh hb rfl
theorem ver_mem {L : List (Int × Int)} (hL : ∀ p ∈ L, 64 ≤ ver p.1 p.2) {p : Int × Int} (hp : p ∈ L) : ver p.1 p.2 ∈ vof L := by
  have hv := hL p hp
  have key : ∀ (l : List (Int × Int)) (o : List Int), (ver p.1 p.2 ∈ o ∨ p ∈ l) → ver p.1 p.2 ∈ l.foldl vstep o := by
    intro l
    induction l with
    | nil => intro o h; rcases h with h | h; exact h; cases h
    | cons q l ih =>
      intro o h
      refine ih _ ?_
      rcases h with h | h
      · left
        unfold vstep
        split
        · exact h
        · split
          · exact h
          · exact List.mem_append_left _ h
      · rcases List.mem_cons.1 h with rfl | h
        · left
          unfold vstep
          rw [if_neg (by omega)]
          split
          · rename_i hc; simpa using hc
          · simp
        · exact .inr h
  exact key L [] (.inr hp)
/-- A place's words are those of the point, where all is good. -/
theorem good_place (P : LPnt x s3 v) (hg : GoodI x v) (h0 : 0 ≤ x.h ∧ x.h < 18446744073709551616) {p : Int × Int} (hp : p ∈ x.all) : v (tagsA p.1 p.2) = s3.val (tagsA p.1 p.2) ∧ ∀ k, 0 ≤ k → k < 4 → v (itemA p.1 p.2 k) = s3.val (itemA p.1 p.2 k) := by
  have hpk : POk12L p := plist_okL x.h x.tab h0.1 h0.2 p (by rw [← P.b.all]; exact hp)
  have hv := ver_in hpk
  have hmem : ver p.1 p.2 ∈ vof x.all := ver_mem (fun p hp => (ver_in (plist_okL x.h x.tab h0.1 h0.2 p (by rw [← P.b.all]; exact hp))).1) hp
  rw [← P.b.vs] at hmem
  obtain ⟨⟨a, n⟩, hm, ha⟩ := List.mem_map.1 hmem
  obtain ⟨i, hi⟩ := List.mem_iff_getElem?.1 hm
  have ha : a = ver p.1 p.2 := ha
  obtain ⟨g1, g2⟩ := P.seen i (lt_of_at hi) a n hi
  have g3 := hg i a n hi
  have g4 := P.sin.up a (by omega) (by omega)
  rw [ha] at g2 g3 g4
  exact P.sin.slot p hpk (by omega) (by omega)
theorem lnS_val (s : CS) (x : LK) : (lnS s x).val = s.val := by
  have h : ∀ a, (s.acc 1 a (s.val a)).val = s.val := fun a => (acc_id s 1 a).1
  unfold lnS
  split <;> first | exact h _ | rfl
/-- Line 4 goes on. -/
theorem LInv.mk_on {y : LK} (hb : y.bad = false) (ha : y.at_ < y.all.length) (g : LPnt y s3 v) (hr : y.ref = 0) (hf : GoodI y v → Fnd its y s3 = scan its s3 y.key (rest4 y)) : LInv its y.on s3 v := by
  obtain ⟨o1, o2, o3, o4, o5⟩ := on_rest y ha
  have ob : y.on.bad = false := o3.bad.trans hb
  have hB : LBase y.on := ⟨by rw [o3.h, o3.key]; exact g.b.h, by rw [o3.all, o3.h, o3.tab]; exact g.b.all, by rw [o4, o3.all]; exact g.b.vs⟩
  have hP : LPnt y.on s3 v := ⟨hB, by unfold TabI; rw [o3.tab]; exact g.tab, by unfold SeenI; rw [o4]; exact g.seen, g.sin, by rw [o3.ep]; exact g.ep, by rw [o3.pt]; exact g.pt⟩
  have hG : GoodI y.on v → GoodI y v := fun h => by unfold GoodI at h; rw [o4] at h; exact h
  have hF : Fnd its y.on s3 = Fnd its y s3 := by unfold Fnd; rw [o3.key, o3.all]
  by_cases hn : rest4 y = []
  · refine .mk_fif ob (o1 hn) hP fun h => ?_
    have := hf (hG h)
    rw [hn] at this
    rw [hF, this, o5, hr]; rfl
  · obtain ⟨q1, q2⟩ := o2 hn
    refine .mk_rd ob q1 hP (o5.trans hr) fun h => ?_
    rw [hF, q2, o3.key]
    exact hf (hG h)
theorem getD_mem {l : List (Int × Int)} {i : Nat} (h : i < l.length) : l.getD i (0, 0) ∈ l := List.mem_of_getElem? (getD_at h)
/-- A step of the Look. -/
theorem LInv.step (s : CS) (h : LInv its x s3 s.val) (ho : LOk x) (vb : Nat) : LInv its (lnX its s x vb) (if x.ph = .thd then lnS s x else s3) (lnS s x).val := by
  rw [lnS_val]
  cases hp : x.ph with
  | fst =>
    rw [if_neg (by intro c; cases c)]
    have e : lnX its s x vb = x.first (s.val 2) vb := by unfold lnX; rw [hp]
    rw [e]
    exact .mk_snd (h.bad (by rw [hp]; intro c; cases c)) rfl ⟨⟨h.h, rfl, vers_fst _⟩, rfl, .inl rfl, fun i hi => absurd hi (Nat.not_lt_zero _)⟩
  | snd =>
    rw [if_neg (by intro c; cases c)]
    have hb := h.bad (by rw [hp]; intro c; cases c)
    obtain ⟨b, r, t, sn⟩ := h.snd hp
    have hk := ho.atv (.inl hp)
    have hg := getD_at (d := ((0 : Int), (0 : Int))) hk
    obtain ⟨a, n0, han⟩ : ∃ a n0, x.vs.getD x.at_ (0, 0) = (a, n0) := ⟨_, _, rfl⟩
    rw [han] at hg
    have e : lnX its s x vb = x.second (s.val a) := by unfold lnX; rw [hp]; simp only [han]
    rw [e]
    unfold LK.second
    by_cases hodd : s.val a % 2 = 1
    · rw [if_pos hodd]; exact LInv.again h.h hb
    · rw [if_neg hodd]
      have hvs : (x.seen (s.val a)).vs = x.vs.set x.at_ (a, s.val a) := by unfold LK.seen; simp only [han]
      have hB : LBase (x.seen (s.val a)) := ⟨b.h, b.all, (seen_map x _).trans b.vs⟩
      have hS : ∀ i, i < x.at_ + 1 → ∀ a' n, (x.seen (s.val a)).vs[i]? = some (a', n) → n % 2 = 0 ∧ n ≤ s.val a' := by
        intro i hi a' n hn
        rw [hvs, List.getElem?_set] at hn
        by_cases hia : x.at_ = i
        · rw [if_pos hia, if_pos (by omega)] at hn
          simp only [Option.some.injEq, Prod.mk.injEq] at hn
          obtain ⟨rfl, rfl⟩ := hn
          exact ⟨by omega, Int.le_refl _⟩
        · rw [if_neg hia] at hn
          exact sn i (by omega) a' n hn
      by_cases hl : x.at_ + 1 = x.vs.length
      · rw [if_pos hl]
        refine .mk_thd hb rfl ⟨⟨hB.h, hB.all, hB.vs⟩, r, t, fun i hi => ?_⟩
        have hl2 : (x.seen (s.val a)).vs.length = x.vs.length := by rw [hvs]; exact List.length_set
        have hi : i < (x.seen (s.val a)).vs.length := hi
        exact hS i (by omega)
      · rw [if_neg hl]
        exact .mk_snd hb hp ⟨⟨hB.h, hB.all, hB.vs⟩, r, t, hS⟩
  | thd =>
    rw [if_pos rfl]
    have hb := h.bad (by rw [hp]; intro c; cases c)
    obtain ⟨b, r, t, sn⟩ := h.thd hp
    have e : lnX its s x vb = { x with ep := s.val 8, at_ := 0, pt := ((s.acc 1 8 (s.val 8)).cnt : Int), ph := .tag } := by unfold lnX; rw [hp]
    have e2 : lnS s x = s.acc 1 8 (s.val 8) := by unfold lnS; rw [hp]
    have e3 : (lnS s x).val = s.val := lnS_val s x
    rw [e]
    refine .mk_rd hb (.inl rfl) ⟨⟨b.h, b.all, b.vs⟩, by rw [e3]; exact t, by rw [e3]; exact sn, by rw [e3]; exact Since.refl _, by rw [e3], by rw [e2]⟩ r fun _ => ?_
    unfold Fnd lds
    rw [if_pos rfl, List.drop_zero]
  | tag =>
    rw [if_neg (by intro c; cases c)]
    have hb := h.bad (by rw [hp]; intro c; cases c)
    have P := h.pnt (.inl hp)
    obtain ⟨r, f⟩ := h.rd (.inl hp)
    have ha := ho.ata (.inl hp)
    obtain ⟨p, hpp⟩ : ∃ p, p = x.all.getD x.at_ (0, 0) := ⟨_, rfl⟩
    obtain ⟨N, hN⟩ : ∃ N, N = has (s.val (tagsA p.1 p.2)) (tag01 (hashOf x.key)) 4 := ⟨_, rfl⟩
    have e : lnX its s x vb = ({ x with sl := N } : LK).on := by unfold lnX; rw [hp]; simp only [← hpp, h.h, ← hN]
    rw [e]
    have hL : lds x = Ld.tag p :: (x.all.drop (x.at_ + 1)).map Ld.tag := by
      unfold lds
      rw [if_pos hp, List.drop_eq_getElem_cons ha, List.map_cons, hpp, List.getD_eq_getElem?_getD, List.getElem?_eq_getElem ha]; rfl
    have hR : rest4 ({ x with sl := N } : LK) = N.map (fun (n : Nat) => Ld.itm p n) ++ (x.all.drop (x.at_ + 1)).map Ld.tag := by unfold rest4; rw [hpp]
    refine .mk_on (y := { x with sl := N }) hb ha ⟨⟨P.b.h, P.b.all, P.b.vs⟩, P.tab, P.seen, P.sin, P.ep, P.pt⟩ r fun hg => ?_
    have hw := (good_place P hg ho.h (p := p) (by rw [hpp]; exact getD_mem ha)).1
    have := f hg
    show scan its s3 x.key (x.all.map Ld.tag) = _
    rw [show scan its s3 x.key (x.all.map Ld.tag) = Fnd its x s3 from rfl, this, hL, hR, scan_app]
    simp only [scan, hN, hw]
  | itm =>
    rw [if_neg (by intro c; cases c)]
    have hb := h.bad (by rw [hp]; intro c; cases c)
    have P := h.pnt (.inr (.inl hp))
    obtain ⟨r, f⟩ := h.rd (.inr hp)
    have ha := ho.ata (.inr hp)
    obtain ⟨p, hpp⟩ : ∃ p, p = x.all.getD x.at_ (0, 0) := ⟨_, rfl⟩
    obtain ⟨n, tl, hsl⟩ : ∃ n tl, x.sl = n :: tl := by
      cases hh2 : x.sl with
      | nil => exact absurd hh2 (ho.sl hp)
      | cons n tl => exact ⟨n, tl, rfl⟩
    have hn4 := ho.s4 n (by rw [hsl]; simp)
    have hL : lds x = Ld.itm p (n : Int) :: rest4 ({ x with sl := tl } : LK) := by
      unfold lds
      rw [if_neg (by rw [hp]; intro c; cases c)]
      unfold rest4
      rw [hsl, ← hpp]; rfl
    have e : lnX its s x vb = x.item its (wrap64 (s.val (itemA p.1 p.2 (n : Int)))) := by unfold lnX; rw [hp]; simp only [← hpp, hsl, List.headD_cons]
    have hh : ∀ hg : GoodI x s.val, hit its s3 x.key p (n : Int) = hit its s x.key p (n : Int) := fun hg => by
      have hw := (good_place P hg ho.h (p := p) (by rw [hpp]; exact getD_mem ha)).2 (n : Int) (by omega) (by omega)
      unfold hit; rw [hw]
    rw [e]
    by_cases hh3 : hit its s x.key p (n : Int) = true
    · have ei : x.item its (wrap64 (s.val (itemA p.1 p.2 (n : Int)))) = { x with sl := x.sl.tail, ref := wrap64 (s.val (itemA p.1 p.2 (n : Int))), ph := .fif } := if_pos hh3
      rw [ei]
      refine .mk_fif hb rfl ⟨⟨P.b.h, P.b.all, P.b.vs⟩, P.tab, P.seen, P.sin, P.ep, P.pt⟩ fun hg => ?_
      have hg : GoodI x s.val := hg
      have := f hg
      show wrap64 _ = foundR s3 0 (scan its s3 x.key (x.all.map Ld.tag))
      rw [show scan its s3 x.key (x.all.map Ld.tag) = Fnd its x s3 from rfl, this, hL]
      simp only [scan, hh hg, if_pos hh3, foundR]
      have hw := (good_place P hg ho.h (p := p) (by rw [hpp]; exact getD_mem ha)).2 (n : Int) (by omega) (by omega)
      rw [hw]
    · have ei : x.item its (wrap64 (s.val (itemA p.1 p.2 (n : Int)))) = ({ x with sl := tl } : LK).on := by
        exact (if_neg hh3).trans (by rw [hsl]; rfl)
      rw [ei]
      refine .mk_on (y := { x with sl := tl }) hb ha ⟨⟨P.b.h, P.b.all, P.b.vs⟩, P.tab, P.seen, P.sin, P.ep, P.pt⟩ r fun hg => ?_
      have hg : GoodI x s.val := hg
      have := f hg
      show scan its s3 x.key (x.all.map Ld.tag) = _
      rw [show scan its s3 x.key (x.all.map Ld.tag) = Fnd its x s3 from rfl, this, hL]
      simp only [scan, hh hg, if_neg hh3]
  | fif =>
    rw [if_neg (by intro c; cases c)]
    have hb := h.bad (by rw [hp]; intro c; cases c)
    have P := h.pnt (.inr (.inr hp))
    have f := h.fif hp
    have e : lnX its s x vb = x.fifth (s.val 2) := by unfold lnX; rw [hp]
    rw [e]
    unfold LK.fifth
    by_cases ht : s.val 2 = x.tab
    · rw [if_pos ht]
      have h3 : s3.val 2 = x.tab := by
        rcases P.tab with g | g
        · exact g
        · rcases P.sin.tab with k | k
          · rw [k] at ht; exact ht
          · rw [ht] at k; omega
      exact .mk_six hb rfl ⟨⟨P.b.h, P.b.all, P.b.vs⟩, h3, P.seen, P.ep, P.pt, s.val, P.sin, Since.refl _, f, fun i hi => absurd hi (Nat.not_lt_zero _)⟩
    · rw [if_neg ht]; exact LInv.again h.h hb
  | six =>
    rw [if_neg (by intro c; cases c)]
    have hb := h.bad (by rw [hp]; intro c; cases c)
    obtain ⟨b, t, sn, e8, ept, v5, f1, f2, f3, f4⟩ := h.six hp
    have hk := ho.atv (.inr hp)
    have hg := getD_at (d := ((0 : Int), (0 : Int))) hk
    obtain ⟨a, n0, han⟩ : ∃ a n0, x.vs.getD x.at_ (0, 0) = (a, n0) := ⟨_, _, rfl⟩
    rw [han] at hg
    have e : lnX its s x vb = x.sixth n0 (s.val a) := by unfold lnX; rw [hp]; simp only [han]
    rw [e]
    unfold LK.sixth
    by_cases hv : s.val a = n0
    · rw [if_pos hv]
      have h5 : ∀ i, i < x.at_ + 1 → ∀ a' n, x.vs[i]? = some (a', n) → v5 a' = n := by
        intro i hi a' n hn
        by_cases hia : i = x.at_
        · subst hia
          rw [hg] at hn
          simp only [Option.some.injEq, Prod.mk.injEq] at hn
          obtain ⟨rfl, rfl⟩ := hn
          have hr := b.in64 hg
          have g1 := (sn x.at_ hk a n0 hg).2
          have g2 := f1.up a hr.1 hr.2
          have g3 := f2.up a hr.1 hr.2
          omega
        · exact f4 i (by omega) a' n hn
      by_cases hl : x.at_ + 1 = x.vs.length
      · rw [if_pos hl]
        refine .mk_off h.h rfl (.inr ⟨hb, ⟨⟨b.h, b.all, b.vs⟩, t, e8, ept, ?_, fun i a' n hn => ?_⟩⟩)
        · exact f3 fun i a' n hn => h5 i (by have := lt_of_at hn; omega) a' n hn
        · have hi := lt_of_at hn
          have hi : i < x.vs.length := hi
          have hr := b.in64 (x := x) hn
          have g1 := sn i hi a' n hn
          have g2 := f1.up a' hr.1 hr.2
          have g3 := h5 i (by omega) a' n hn
          exact ⟨by omega, g1.1⟩
      · rw [if_neg hl]
        exact .mk_six hb hp ⟨⟨b.h, b.all, b.vs⟩, t, sn, e8, ept, v5, f1, f2, f3, h5⟩
    · rw [if_neg hv]; exact LInv.again h.h hb
  | off =>
    rw [if_neg (by intro c; cases c)]
    have e : lnX its s x vb = x := by unfold lnX; rw [hp]
    rw [e]; exact h
theorem LInv.new (key : ByteArray) (m : Int) (vb : Nat) : LInv its ⟨key, hashOf key, m, .fst, 0, [], [], 0, [], 0, 0, 0, false, vb⟩ s3 v := .mk_fst rfl rfl rfl
end
/-! ## What was got. -/
theorem atP_mem {its : List Itm} {v : Int → Int} {key : ByteArray} {p : Int × Int} {m n : Nat} (hn : n < m) (h : okA its v key p n = true) : wrap64 (v (itemA p.1 p.2 n)) ∈ atP its v key p m := by
  induction m with
  | zero => omega
  | succ m ih =>
    simp only [atP, List.mem_append]
    by_cases e : n = m
    · subst e; right; rw [if_pos h]; simp
    · exact .inl (ih (by omega))
theorem atL_mem {its : List Itm} {v : Int → Int} {key : ByteArray} {l : List (Int × Int)} {i k : Nat} {p : Int × Int} {r : Int} (hi : i < k) (hp : l[i]? = some p) (h : r ∈ atP its v key p 4) : r ∈ atL its v key l k := by
  induction k with
  | zero => omega
  | succ k ih =>
    simp only [atL, List.mem_append]
    by_cases e : i = k
    · subst e; right; rw [hp]; exact h
    · exact .inl (ih (by omega))
theorem scan_okA {its : List Itm} {s : CS} {key : ByteArray} {L : List (Int × Int)} {y : (Int × Int) × Int} (h : scan its s key (L.map Ld.tag) = some y) : ∃ p ∈ L, ∃ n : Nat, n < 4 ∧ y = (p, (n : Int)) ∧ okA its s.val key p n = true := by
  induction L with
  | nil => cases h
  | cons p L ih =>
    simp only [List.map_cons, scan] at h
    cases hf : fhit its s key p (has (s.val (tagsA p.1 p.2)) (tag01 (hashOf key)) 4) with
    | none =>
      rw [hf] at h
      obtain ⟨q, h1, h2⟩ := ih h
      exact ⟨q, List.mem_cons_of_mem _ h1, h2⟩
    | some z =>
      rw [hf] at h
      obtain ⟨n, h1, h2, h3⟩ := fhit_some hf
      have h : some z = some y := h
      cases h
      have h4 := ((has_iffQ _ _ 4 n).1 h1).1
      exact ⟨p, List.mem_cons_self, n, h4, h2, (okA_iff n h4).2 ⟨h1, h3⟩⟩
/-- A Look that is told: what it got was so at its point. -/
theorem off_law {its : List Itm} {x : LK} {s3 : CS} {v : Int → Int} (h : LInv its x s3 v) (hp : x.ph = .off) (hb : x.bad = false) : x.ep = s3.val 8 ∧ x.pt = (s3.cnt : Int) ∧
    ((x.ref = 0 ∧ atL its s3.val x.key (plist (hashOf x.key) (s3.val 2)) (plist (hashOf x.key) (s3.val 2)).length = []) ∨
     (1 ≤ x.ref ∧ x.ref ∈ atL its s3.val x.key (plist (hashOf x.key) (s3.val 2)) (plist (hashOf x.key) (s3.val 2)).length)) := by
  rcases h.off hp with c | ⟨-, ⟨b, t, e, p, r, -⟩⟩
  · rw [hb] at c; cases c
  · refine ⟨e, p, ?_⟩
    have hall : x.all = plist (hashOf x.key) (s3.val 2) := by rw [t, ← b.h]; exact b.all
    rw [← hall]
    unfold Fnd at r
    cases hs : scan its s3 x.key (x.all.map Ld.tag) with
    | none => rw [hs] at r; exact .inl ⟨r, (scan_at _).1 hs⟩
    | some y =>
      obtain ⟨q, hq, n, hn, rfl, hok⟩ := scan_okA hs
      rw [hs] at r
      have r : x.ref = wrap64 (s3.val (itemA q.1 q.2 (n : Int))) := r
      obtain ⟨i, hi⟩ := List.mem_iff_getElem?.1 hq
      have hm := atL_mem (k := x.all.length) (List.getElem?_eq_some_iff.1 hi).1 hi (atP_mem hn hok)
      have h2 := ((hit_iff _).1 ((okA_iff n hn).1 hok).2).1
      refine .inr ⟨?_, by rw [r]; exact hm⟩
      rw [r]
      unfold atOf at h2
      split at h2
      · rename_i hc; exact hc.1
      · cases h2
/-- And all its places' versions were even then. -/
theorem off_even {its : List Itm} {x : LK} {s3 : CS} {v : Int → Int} (h : LInv its x s3 v) (hp : x.ph = .off) (hb : x.bad = false) : ∀ p ∈ plist (hashOf x.key) (s3.val 2), s3.val (ver p.1 p.2) % 2 = 0 := by
  intro p hpm
  rcases h.off hp with c | ⟨-, ⟨b, t, e, pt, r, ev⟩⟩
  · rw [hb] at c; cases c
  · have hall : x.all = plist (hashOf x.key) (s3.val 2) := by rw [t, ← b.h]; exact b.all
    obtain ⟨k0, k1⟩ := hfold_bd x.key x.key.size
    have hm := ver_mem (fun p hp => (ver_in (plist_okL (hashOf x.key) (s3.val 2) k0 k1 p hp)).1) hpm
    rw [← hall, ← b.vs] at hm
    obtain ⟨⟨a, n⟩, hm, ha⟩ := List.mem_map.1 hm
    obtain ⟨i, hi⟩ := List.mem_iff_getElem?.1 hm
    have ha : a = ver p.1 p.2 := ha
    obtain ⟨g1, g2⟩ := ev i a n hi
    rw [← ha, g1]; exact g2
end Go.Proofs.YtdbgfidnccpmdaaGreat

/-
  A Look beside others: what a step of it leaves.
-/
namespace Go.Proofs.YtdbgfidnccpmdaaGreat
open Go.RowKit Go.Maps TagPure
set_option linter.unusedVariables false

theorem newlook_tr (key : ByteArray) (hk : key.size ≤ maxLen) (n : Int) (hn : 0 ≤ n) (w : World) : Calls Tryz.prog 20 #[.string key, .int .i64 n] w fun e w' => ∃ fb, e = .returned (.pointer (some ⟨fb, 0, none⟩)) ∧ LookAt w' w.heap.size fb ⟨key, hashOf key, n, .fst, 0, [], [], 0, [], 0, 0, 0, false, fb⟩ ∧ Below w.heap.size w w' := by
  have hh := fun W => hash_big key hk W
  have fin : Hid (∀ w2, Below w.heap.size w w2 → LookAt (w2.alloc (.cells #[.string key, .int .u64 (hashOf key), .int .i64 n, .func (.func 88) #[] #[], .int .u64 0, .slice none 0 0, .slice none 0 0, .int .i64 0, .slice none 0 0, .int .i64 0, .int .u64 0, .int .i64 0, .bool false] 209)) w.heap.size w2.heap.size ⟨key, hashOf key, n, .fst, 0, [], [], 0, [], 0, 0, 0, false, w2.heap.size⟩ ∧ Below w.heap.size w (w2.alloc (.cells #[.string key, .int .u64 (hashOf key), .int .i64 n, .func (.func 88) #[] #[], .int .u64 0, .slice none 0 0, .slice none 0 0, .int .i64 0, .slice none 0 0, .int .i64 0, .int .u64 0, .int .i64 0, .bool false] 209))) := fun w2 b2 =>
    ⟨⟨b2.size, _, _, _, heap_alloc_new w2 _, .inl ⟨rfl, rfl⟩, World.ownsRow_nil _ _ _ _, .inl ⟨rfl, _, _, rfl, Nat.zero_le _⟩, .inr ⟨rfl, rfl⟩⟩, bnext b2 (below_alloc _ _)⟩
  have E : Hid (max n 0 = n) := by show max n 0 = n; omega
  clear hk
  go_enter Tryz.func20, Tryz.ntmps20
  go_wp2_with (go_at_call 32; refine (hh _).mono ?_; intro e w2 hh; obtain ⟨hh1, b2⟩ := hh; subst hh1; have B2 := Lib.hid b2; clear b2 hh)
  go_ret
  (try rw [E.out])
  have := fin.out w2 B2.out
  exact ⟨_, rfl, this.1, this.2⟩
section
variable {w0 w W W' : World} {fb lo : Nat} {x : LK}
theorem LookE.fr {K : TypeId → Bool} {mp : Bool} (h : LookE W lo fb x) (hf : Fr K mp W W') (hK : ∀ T, lTy T = true → K T = false) : LookE W' lo fb x := by
  obtain ⟨vb, h⟩ := h; exact ⟨vb, h.fr hf hK⟩
theorem LookE.bel (h : LookE W lo fb x) (hb : Below W.heap.size W W') : LookE W' lo fb x := by
  obtain ⟨vb, h⟩ := h; exact ⟨vb, h.below hb⟩
/-- The blocks' types that a Look's step turns. -/
def kL (T : TypeId) : Bool := wTy T || T == 209 || T == 302
theorem look_fr (h : LookAt W lo fb x) (hf : Fz fb x.vb W W') : Fr kL true W W' := by
  refine ⟨hf.size, fun k c T f h1 h2 => ?_, fun c => by cases c⟩
  simp only [kL, Bool.or_eq_false_iff] at h2
  obtain ⟨⟨e1, e2⟩, e3⟩ := h2
  obtain ⟨h0, va, vv, vs, g1, g2, g3, g4, g5⟩ := h
  have hne : k ≠ fb := fun e => by
    subst e
    rw [g1] at h1
    simp only [Option.some.injEq, Obj.cells.injEq] at h1
    rw [← h1.2.1] at e2
    simp at e2
  refine hf.cells k c T f h1 e1 hne fun e => ?_
  subst e
  rcases g5 with g5 | ⟨-, g5⟩
  · obtain ⟨-, ⟨rfl, -⟩ | ⟨g, cap, cur, rfl, -, hg, -⟩⟩ := g3
    · cases g5
    · simp only [Value.ownBlock, Option.some.injEq] at g5
      rw [g5, h1] at hg
      simp only [Option.some.injEq, Obj.cells.injEq] at hg
      rw [hg.2.1] at e3
      simp at e3
  · exact hne g5
end
theorem dstep_cnt (s : CS) (d : Dg) : s.cnt ≤ (d.step s).1.cnt := by
  unfold Dg.step
  split
  · exact Nat.le_refl _
  · exact Nat.le_succ _
  · split
    · exact Nat.le_succ _
    · split <;> exact Nat.le_succ _
  · split
    · exact Nat.le_succ _
    · split <;> exact Nat.le_succ _
/-- The point was passed. -/
def Ptd (x : LK) : Prop := x.ph = .tag ∨ x.ph = .itm ∨ x.ph = .fif ∨ x.ph = .six ∨ (x.ph = .off ∧ x.bad = false)
theorem ptd_again {x : LK} (h : Ptd x.again) : False := by
  unfold Ptd LK.again at h
  split at h <;> simp at h
theorem ptd_step {its : List Itm} {s : CS} {x : LK} {vb : Nat} (ht : x.ph ≠ .thd) (ho : x.ph ≠ .off) (h : Ptd (lnX its s x vb)) : Ptd x := by
  cases hp : x.ph with
  | fst =>
    have e : lnX its s x vb = x.first (s.val 2) vb := by unfold lnX; rw [hp]
    rw [e] at h
    unfold Ptd LK.first at h
    simp at h
  | snd =>
    exfalso
    have e : lnX its s x vb = x.second (s.val (x.vs.getD x.at_ (0, 0)).1) := by unfold lnX; rw [hp]
    rw [e] at h
    unfold LK.second at h
    split at h
    · exact ptd_again h
    · split at h
      · unfold Ptd at h; simp at h
      · unfold Ptd LK.seen at h; simp [hp] at h
  | thd => exact absurd hp ht
  | tag => exact .inl hp
  | itm => exact .inr (.inl hp)
  | fif => exact .inr (.inr (.inl hp))
  | six => exact .inr (.inr (.inr (.inl hp)))
  | off => exact absurd hp ho
/-- Only the third line loads the epoch. -/
theorem lns_addr {x : LK} {its : List Itm} {s3 : CS} {v : Int → Int} (hl : LInv its x s3 v) (ho : LOk x) (s' : CS) (hoff : x.ph ≠ .off) : (lnS s' x).addr = 8 ↔ x.ph = .thd := by
  have tagp : x.ph = .tag ∨ x.ph = .itm → POk12L (x.all.getD x.at_ (0, 0)) := fun hp => by
    have P := hl.pnt (by rcases hp with h | h; exact .inl h; exact .inr (.inl h))
    have hm := getD_mem (ho.ata hp)
    rw [P.b.all] at hm
    rw [P.b.all]
    exact plist_okL _ _ ho.h.1 ho.h.2 _ hm
  have verp : x.ph = .snd ∨ x.ph = .six → 64 ≤ (x.vs.getD x.at_ (0, 0)).1 := fun hp => by
    have hk := ho.atv hp
    have hg := getD_at (d := ((0 : Int), (0 : Int))) hk
    have b : LBase x := by
      rcases hp with h | h
      · exact (hl.snd h).b
      · exact (hl.six h).b
    exact (b.in64 (a := (x.vs.getD x.at_ (0, 0)).1) (n := (x.vs.getD x.at_ (0, 0)).2) hg).1
  cases hp : x.ph with
  | fst => unfold lnS; rw [hp]; simp [CS.acc]
  | snd => have h := verp (.inl hp); have e : (lnS s' x).addr = (x.vs.getD x.at_ (0, 0)).1 := by unfold lnS; rw [hp]; rfl
           rw [e]; exact ⟨fun c => by omega, fun c => by cases c⟩
  | thd => unfold lnS; rw [hp]; simp [CS.acc]
  | tag => have h := tagp (.inl hp); have e := tags_v h; have := tsize_bd (x.all.getD x.at_ (0, 0)).1; have := h.2.1; have e2 : (lnS s' x).addr = tagsA (x.all.getD x.at_ (0, 0)).1 (x.all.getD x.at_ (0, 0)).2 := by unfold lnS; rw [hp]; rfl
           rw [e2, e]; exact ⟨fun c => by omega, fun c => by cases c⟩
  | itm =>
    have h := tagp (.inr hp)
    obtain ⟨n, tl, hsl⟩ : ∃ n tl, x.sl = n :: tl := by
      cases hh2 : x.sl with
      | nil => exact absurd hh2 (ho.sl hp)
      | cons n tl => exact ⟨n, tl, rfl⟩
    have hn4 := ho.s4 n (by rw [hsl]; simp)
    have hd : x.sl.headD 0 = n := by rw [hsl]; rfl
    have e := item_v h (k := (n : Int)) (by omega) (by omega)
    have := tsize_bd (x.all.getD x.at_ (0, 0)).1; have := h.2.1
    have e2 : (lnS s' x).addr = itemA (x.all.getD x.at_ (0, 0)).1 (x.all.getD x.at_ (0, 0)).2 (n : Int) := by unfold lnS; rw [hp]; simp only [hd]; rfl
    rw [e2, e]; exact ⟨fun c => by omega, fun c => by cases c⟩
  | fif => unfold lnS; rw [hp]; simp [CS.acc]
  | six => have h := verp (.inr hp); have e : (lnS s' x).addr = (x.vs.getD x.at_ (0, 0)).1 := by unfold lnS; rw [hp]; rfl
           rw [e]; exact ⟨fun c => by omega, fun c => by cases c⟩
  | off => exact absurd hp hoff
theorem lns_cnt {x : LK} (s : CS) (h : x.ph ≠ .off) : (lnS s x).cnt = s.cnt + 1 ∧ (lnS s x).n = s.n + 1 := by
  cases hp : x.ph <;> first | exact absurd hp h | (unfold lnS; rw [hp]; exact ⟨rfl, rfl⟩)
theorem lnX_key (its : List Itm) (s : CS) (x : LK) (vb : Nat) : (lnX its s x vb).key = x.key := by
  obtain ⟨key, h, left, ph, tab, all, vs, at_, sl, ref, ep, pt, bad, vb0⟩ := x
  cases ph
  · rfl
  · show (LK.second _ _).key = _
    unfold LK.second LK.seen LK.again
    split
    · split <;> rfl
    · split <;> rfl
  · rfl
  · show (LK.on _).key = _
    unfold LK.on
    split
    · split <;> rfl
    · rfl
  · show (LK.item _ _ _).key = _
    unfold LK.item LK.on
    split
    · rfl
    · split
      · split <;> rfl
      · rfl
  · show (LK.fifth _ _).key = _
    unfold LK.fifth LK.again
    split
    · rfl
    · split <;> rfl
  · show (LK.sixth _ _ _).key = _
    unfold LK.sixth LK.again
    split
    · split <;> rfl
    · split <;> rfl
  · rfl
theorem VBd.look {s : CS} {x : LK} (h : VBd s) : VBd (lnS s x) := fun a h1 h2 => by
  rw [lnS_val]; have := h a h1 h2; have := (lnS_le s x).2.2; omega
end Go.Proofs.YtdbgfidnccpmdaaGreat
