/-
  Lists of places, lists of addresses; the stripes of places.
-/
import Derived.Test.YtmakjfeepmiggaaGreatVer
import Derived.Test.YtmakjfeepmiggaaGreatKeeps
namespace Go.Proofs.YtmakjfeepmiggaaGreat
open Go.RowKit
set_option linter.unusedVariables false

theorem own_below {w w' : World} {base e size n : Nat} {v : Value} {xs : List Value} (h : w.ownsRow base e size v n xs) (hb : Below w.heap.size w w') : w'.ownsRow base e size v n xs := by
  obtain ⟨h1, h2 | ⟨g, cap, cur, rfl, hb1, hg, r⟩⟩ := h
  · exact ⟨h1, .inl h2⟩
  · exact ⟨h1, .inr ⟨g, cap, cur, rfl, hb1, (hb.block g (Array.getElem?_eq_some_iff.1 hg).1).trans hg, r⟩⟩

/-- A list of places that may be read. -/
structure Plc (w : World) (a : Option Addr) (cap : Nat) (l : List (Int × Int)) : Prop where
  le : l.length ≤ cap
  most : cap ≤ maxLen
  nil : a = none → cap = 0
  cell : l = [] ∨ ∃ b off, a = some ⟨b, off, none⟩ ∧ ∀ i, (hi : i < l.length) → w.cell? ⟨b, off + i * 2, none⟩ = some (.int .i64 (l[i]).1) ∧ w.cell? ⟨b, off + i * 2 + 1, none⟩ = some (.int .i64 (l[i]).2)
theorem Plc.at {w : World} {a : Option Addr} {cap : Nat} {l : List (Int × Int)} (h : Plc w a cap l) (i : Nat) (hi : i < l.length) :
    ∃ b off x y, a = some ⟨b, off, none⟩ ∧ l[i]? = some (x, y) ∧ w.cell? ⟨b, off + i * 2, none⟩ = some (.int .i64 x) ∧ w.cell? ⟨b, off + i * 2 + 1, none⟩ = some (.int .i64 y) := by
  rcases h.cell with rfl | ⟨b, off, rfl, h5⟩
  · simp at hi
  · exact ⟨b, off, l[i].1, l[i].2, rfl, List.getElem?_eq_getElem hi, h5 i hi⟩
theorem Plc.below {w w' : World} {a : Option Addr} {cap : Nat} {l : List (Int × Int)} (h : Plc w a cap l) (hb : Below w.heap.size w w') : Plc w' a cap l := by
  refine ⟨h.le, h.most, h.nil, h.cell.imp id fun ⟨b, off, e, h5⟩ => ⟨b, off, e, fun i hi => ?_⟩⟩
  obtain ⟨h6, h7⟩ := h5 i hi
  exact ⟨(hb.cell (World.block_lt_of_cell? _ _ h6)).trans h6, (hb.cell (World.block_lt_of_cell? _ _ h7)).trans h7⟩

/-- The stripes of places, each once. -/
def vstep (out : List Int) (p : Int × Int) : List Int := if ver p.1 p.2 = 0 then out else if out.contains (ver p.1 p.2) then out else out ++ [ver p.1 p.2]
def vof (l : List (Int × Int)) : List Int := l.foldl vstep []
def cu (l : List Int) : List Value := l.map (Value.int .u64)
theorem vof_take {l : List (Int × Int)} {k : Nat} {x y : Int} (h : l[k]? = some (x, y)) : vof (l.take (k + 1)) = vstep (vof (l.take k)) (x, y) := by
  unfold vof
  rw [List.take_add_one, h, List.foldl_append]
  rfl
theorem vstep_len (out : List Int) (p : Int × Int) : (vstep out p).length ≤ out.length + 1 := by
  unfold vstep; split
  · omega
  · split
    · omega
    · simp
theorem vof_len (l : List (Int × Int)) : (vof l).length ≤ l.length := by
  have : ∀ (l : List (Int × Int)) (o : List Int), (l.foldl vstep o).length ≤ o.length + l.length := by
    intro l
    induction l with
    | nil => intro o; simp
    | cons x l ih => intro o; have := ih (vstep o x); have := vstep_len o x; simp only [List.foldl_cons, List.length_cons]; omega
  have := this l []
  unfold vof; simpa using this

/-- The first place at which a stands from k on, or -1. -/
def fidx (xs : List Int) (a : Int) (k : Nat) : Int := match xs with
  | [] => -1
  | x :: r => if a = x then k else fidx r a (k + 1)
theorem fidx_ge (xs : List Int) (a : Int) (k : Nat) : decide (0 ≤ fidx xs a k) = xs.contains a := by
  induction xs generalizing k with
  | nil => rfl
  | cons x r ih =>
    unfold fidx
    split
    · rename_i h; subst h; simp
    · rename_i h; rw [ih]; simp [h]
theorem fidx_drop {xs : List Int} {a y : Int} {k : Nat} (h : xs[k]? = some y) : fidx (xs.drop k) a k = if a = y then (k : Int) else fidx (xs.drop (k + 1)) a (k + 1) := by
  have hk : k < xs.length := (List.getElem?_eq_some_iff.1 h).1
  rw [List.drop_eq_getElem_cons hk]
  have : xs[k] = y := (List.getElem?_eq_some_iff.1 h).2
  rw [this]; rfl

theorem index_addrs (xs : List Int) (a : Int) (v : Value) (w : World) (h : Rd w v xs.length (cu xs)) : Calls Tryz.prog 197 #[v, .int .u64 a] w fun e w' => e = .returned (.int .i64 (fidx xs a 0)) ∧ w' = w := by
  obtain ⟨ad, cap, rfl, h1, h2, h3, h4⟩ := h
  have hml : xs.length ≤ maxLen := Nat.le_trans h1 h2
  unfold maxLen at hml
  go_enter Tryz.func197, Tryz.ntmps197
  go_wp2
  go_loop [8] (fun i => ∃ k : Nat, k ≤ xs.length ∧ i = .int .i64 k ∧ fidx xs a 0 = fidx (xs.drop k) a k) (fun i => xs.length - (intOf i).toNat)
  case atStart => exact ⟨0, by omega, rfl, rfl⟩
  case round =>
    obtain ⟨k, hk, rfl, hf⟩ := hrel
    by_cases hlt : k < xs.length
    · rcases h4 with h4 | ⟨b, off, rfl, h5⟩
      · exfalso; have : (cu xs).length = 0 := by rw [h4]; rfl
        simp [cu] at this; rw [this] at hlt; simp at hlt
      have hc := h5 k (by simpa [cu] using hlt)
      have hx : xs[k]? = some xs[k] := List.getElem?_eq_getElem hlt
      rw [show (cu xs)[k]? = some (.int .u64 xs[k]) by simp [cu, hlt]] at hc
      rw [fidx_drop hx] at hf
      generalize xs[k] = y at hc hf
      have hlt' : (k : Int) < xs.length := by omega
      clear hx
      by_cases hay : a = y
      · have hb : (a == y) = true := beq_iff_eq.2 hay
        rw [if_pos hay] at hf
        have HF := Lib.hid hf
        clear hf hay h5
        go_wp2
        go_ret
        exact ⟨ret_i64 HF.out.symm, rfl⟩
      · have hb : (a == y) = false := beq_eq_false_iff_ne.2 hay
        rw [if_neg hay] at hf
        have HF := Lib.hid hf
        clear hf hay h5
        go_wp2
        go_round
        case rel => exact ⟨k + 1, by omega, by go_num, HF.out⟩
        case measure => simp [intOf]; omega
    · obtain rfl : k = xs.length := by omega
      have HF := Lib.hid hf
      clear hf h4
      go_wp2
      go_ret
      exact ⟨by rw [HF.out]; simp [fidx], rfl⟩
theorem conf_b {a b : Bool} (h : a = b) : Ending.returned (.bool a) = .returned (.bool b) := by rw [h]
theorem contains_addrs (xs : List Int) (a : Int) (v : Value) (w : World) (h : Rd w v xs.length (cu xs)) : Calls Tryz.prog 156 #[v, .int .u64 a] w fun e w' => e = .returned (.bool (xs.contains a)) ∧ w' = w := by
  have hi := index_addrs xs a v w h
  have hf := fidx_ge xs a 0
  obtain ⟨ad, cap, rfl, h1, h2, h3, h4⟩ := h
  generalize fidx xs a 0 = r at *
  generalize xs.contains a = c at *
  go_enter Tryz.func156, Tryz.ntmps156
  go_wp2_with (go_at_call 197; refine hi.mono ?_; rintro e w1 ⟨rfl, rfl⟩)
  go_ret
  exact ⟨rfl, rfl⟩

/-- A list of addresses that the call itself made, without room behind it. -/
def Adr (w : World) (base : Nat) (v : Value) (xs : List Int) : Prop :=
  (v = .slice none 0 0 ∧ xs = []) ∨ ∃ g cur, v = .slice (some ⟨g, 0, none⟩) xs.length xs.length ∧ base ≤ g ∧ w.heap[g]? = some (.cells cur 39 (0, 0)) ∧ xs.length ≤ maxLen ∧ cur.toList.take xs.length = cu xs
theorem clip_addrs (v : Value) (base : Nat) (xs : List Int) (w : World) (h : w.ownsRow base 39 1 v xs.length (cu xs)) :
    Calls Tryz.prog 157 #[v] w fun e w' => ∃ v', e = .returned v' ∧ Adr w' base v' xs ∧ w' = w := by
  obtain ⟨h1, ⟨rfl, h0⟩ | ⟨g, cap, cur, rfl, hb, hg, hn, hm, hs, ht⟩⟩ := h
  · have : xs = [] := by cases xs with | nil => rfl | cons x r => simp at h0
    subst this
    clear h1 h0
    go_enter Tryz.func157, Tryz.ntmps157
    go_wp2
    go_ret
    exact ⟨_, rfl, .inl ⟨rfl, rfl⟩, rfl⟩
  · have hm2 := Nat.le_trans hn hm
    unfold maxLen at hm hm2
    simp only [Nat.mul_one] at ht
    have HT := Lib.hid ht; have HG := Lib.hid hg
    clear ht hg hs h1
    go_enter Tryz.func157, Tryz.ntmps157
    go_wp2
    go_ret
    exact ⟨_, rfl, .inr ⟨g, cur, rfl, hb, HG.out, by unfold maxLen; omega, HT.out⟩, rfl⟩
theorem Adr.keep {w w' : World} {base : Nat} {v : Value} {xs : List Int} (h : Adr w base v xs) (hb : Below w.heap.size w w') : Adr w' base v xs := by
  rcases h with h | ⟨g, cur, rfl, h1, h2, h3⟩
  · exact .inl h
  · exact .inr ⟨g, cur, rfl, h1, (hb.block g (Array.getElem?_eq_some_iff.1 h2).1).trans h2, h3⟩

theorem info_addr : (Tryz.prog.info? 39).map (fun i => (i.zero, i.size, i.bytes)) = some (some (.int .u64 0), 1, 8) := by kernel_rfl
set_option maxHeartbeats 1000000 in
theorem of_any (l : List (Int × Int)) (ao : Option Addr) (cap : Nat) (w : World) (h : Plc w ao cap l) (hsz : l.length ≤ 1000000) : Calls Tryz.prog 94 #[.slice ao l.length cap] w fun e w' => ∃ v, e = .returned v ∧ Adr w' w.heap.size v (vof l) ∧ Below w.heap.size w w' := by
  have hml : l.length ≤ maxLen := Nat.le_trans h.le h.most
  obtain ⟨i0, hi0, hz0, hz1, hz2⟩ := info_parts info_addr
  have HI := Lib.hid hi0; have HZ0 := Lib.hid hz0; have HZ1 := Lib.hid hz1; have HZ2 := Lib.hid hz2; have HP := Lib.hid h; have HM := Lib.hid hsz
  unfold maxLen at hml
  clear hi0 hz0 hz1 hz2 h hsz
  go_enter Tryz.func94, Tryz.ntmps94
  go_wp2
  go_loopw [2, 8] (fun v i wr => ∃ k : Nat, k ≤ l.length ∧ i = .int .i64 k ∧ wr.ownsRow w.heap.size 39 1 v (vof (l.take k)).length (cu (vof (l.take k))) ∧ Below w.heap.size w wr) (fun _ i _ => l.length - (intOf i).toNat)
  case atStart => exact ⟨0, by omega, rfl, World.ownsRow_nil _ _ _ _, Below.refl _ _⟩
  case round =>
    obtain ⟨k, hk, rfl, hown, hbl⟩ := hrel
    by_cases hlt : k < l.length
    · obtain ⟨b, off, x, y, rfl, hx, c0, c1⟩ := (HP.out.below hbl).at k hlt
      have hl := vof_len (l.take k)
      rw [List.length_take] at hl
      have hst := vof_take hx
      have hlt' : (k : Int) < l.length := by omega
      have HO := Lib.hid hown; have HL := Lib.hid hbl; have HS := Lib.hid hst
      clear hown hbl hst hx
      generalize vof (l.take k) = out at *
      have hb1 := below_alloc wr (.cells #[.int .i64 x, .int .i64 y] 69)
      have hv : vstep out (x, y) = if ver x y = 0 then out else if out.contains (ver x y) then out else out ++ [ver x y] := rfl
      have hver := fun w => ver_any x y w
      generalize ver x y = vv at *
      cases hz : (vv == 0)
      · have hz' : vv ≠ 0 := beq_eq_false_iff_ne.1 hz
        rw [if_neg hz'] at hv
        have hcn := fun w v h => contains_addrs out vv v w h
        cases hc : out.contains vv
        · rw [hc] at hcn hv
          have HV := Lib.hid hv
          have hz2 : (vv != 0) = true := bne_iff_ne.2 hz'
          have HC := Lib.hid hc
          clear hv hz' hz hc
          go_wp2_with (first
            | (go_at_call 155; refine (hver _).mono ?_; rintro e w1 ⟨rfl, b1⟩; have B1 := hb1.trans (b1.mono hb1.size); have O1 := own_below HO.out B1; have L1 := HL.out.trans (B1.mono HL.out.size); have OO := Lib.hid O1; have LL := Lib.hid L1; clear B1 O1 L1 b1 hb1)
            | (go_at_call 156; refine (hcn _ _ (Lst.rd (Lst.of_own OO.out))).mono ?_; rintro e w2 ⟨rfl, rfl⟩)
            | (at_builtin; refine wpList_append_own _ rfl _ _ 90 rfl w.heap.size 39 i0 (.int .u64 0) 1 8 Tryz.underlying90 HI.out HZ0.out HZ1.out HZ2.out rfl (by decide) _ _ _ rfl (OO.out.alloc _) ⟨_, 0, none⟩ 1 1 [.int .u64 vv] rfl rfl ?c1 ?c2 ?c3 ?c4 ?c5 ?_))
          case c1 => exact cell_one_new _ _ _
          case c2 => simp [Value.oneCell']
          case c3 => unfold maxLen; omega
          case c4 => have := HM.out; omega
          case c5 => simp; have := LL.out.size; omega
          intro v' w2 hown' hgrow _
          go_wp2
          go_roundw
          case rel =>
            refine ⟨k + 1, by omega, by go_num, ?_, (LL.out.alloc LL.out.size _).grown hgrow (by simp; have := LL.out.size; omega) (fun j hj => (OO.out.lt j hj).1)⟩
            rw [HS.out, HV.out]; simpa [cu] using hown'
          case measure => simp [intOf]; omega
        · rw [hc] at hcn hv
          have HV := Lib.hid hv
          have hz2 : (vv != 0) = true := bne_iff_ne.2 hz'
          have HC := Lib.hid hc
          clear hv hz' hz hc
          go_wp2_with (first
            | (go_at_call 155; refine (hver _).mono ?_; rintro e w1 ⟨rfl, b1⟩; have B1 := hb1.trans (b1.mono hb1.size); have O1 := own_below HO.out B1; have L1 := HL.out.trans (B1.mono HL.out.size); have OO := Lib.hid O1; have LL := Lib.hid L1; clear B1 O1 L1 b1 hb1)
            | (go_at_call 156; refine (hcn _ _ (Lst.rd (Lst.of_own OO.out))).mono ?_; rintro e w2 ⟨rfl, rfl⟩))
          go_roundw
          case rel => exact ⟨k + 1, by omega, by go_num, by rw [HS.out, HV.out]; exact OO.out, LL.out⟩
          case measure => simp [intOf]; omega
      · have hz' : vv = 0 := beq_iff_eq.1 hz
        rw [if_pos hz'] at hv
        have HV := Lib.hid hv
        have hz2 : (vv != 0) = false := by rw [hz']; rfl
        clear hv hz' hz
        go_wp2_with (go_at_call 155; refine (hver _).mono ?_; rintro e w1 ⟨rfl, b1⟩; have B1 := hb1.trans (b1.mono hb1.size); have O1 := own_below HO.out B1; have L1 := HL.out.trans (B1.mono HL.out.size); have OO := Lib.hid O1; have LL := Lib.hid L1; clear B1 O1 L1 b1 hb1)
        go_roundw
        case rel => exact ⟨k + 1, by omega, by go_num, by rw [HS.out, HV.out]; exact OO.out, LL.out⟩
        case measure => simp [intOf]; omega
    · obtain rfl : k = l.length := by omega
      rw [List.take_length] at hown
      have HL := Lib.hid hbl
      go_wp2_with (go_at_call 157; refine (clip_addrs _ _ _ _ hown).mono ?_; rintro e w2 ⟨v', rfl, hA, rfl⟩)
      go_ret
      exact ⟨_, rfl, hA, HL.out⟩
end Go.Proofs.YtmakjfeepmiggaaGreat
