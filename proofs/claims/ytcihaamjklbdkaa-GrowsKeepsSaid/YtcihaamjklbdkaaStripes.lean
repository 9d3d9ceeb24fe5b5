/-
  Lists of places, lists of addresses; the stripes of places.
-/
import Derived.Test.YtcihaamjklbdkaaVer
import Derived.Test.YtcihaamjklbdkaaKeeps
namespace Go.Proofs.Ytcihaamjklbdkaa
open Go.RowKit
set_option linter.unusedVariables false

theorem own_below {w w' : World} {base e size n : Nat} {v : Value} {xs : List Value} (h : w.ownsRow base e size v n xs) (hb : Below w.heap.size w w') : w'.ownsRow base e size v n xs := by
  obtain ⟨h1, h2 | ⟨g, cap, cur, rfl, hb1, hg, r⟩⟩ := h
  · exact ⟨h1, .inl h2⟩
  · exact ⟨h1, .inr ⟨g, cap, cur, rfl, hb1, (hb.block g (Array.getElem?_eq_some_iff.1 hg).1).trans hg, r⟩⟩

/-- A list of places that may be read. -/
structure Plc (w : World) (a : Option Addr) (cap : Nat) (l : List (Int × Int)) : Prop where
  le : l.length ≤ cap
  most : cap ≤ maxLen
  nil : a = none → cap = 0
  cell : l = [] ∨ ∃ b off, a = some ⟨b, off, none⟩ ∧ ∀ i, (hi : i < l.length) → w.cell? ⟨b, off + i * 2, none⟩ = some (.int .i64 (l[i]).1) ∧ w.cell? ⟨b, off + i * 2 + 1, none⟩ = some (.int .i64 (l[i]).2)
theorem Plc.at {w : World} {a : Option Addr} {cap : Nat} {l : List (Int × Int)} (h : Plc w a cap l) (i : Nat) (hi : i < l.length) :
    ∃ b off x y, a = some ⟨b, off, none⟩ ∧ l[i]? = some (x, y) ∧ w.cell? ⟨b, off + i * 2, none⟩ = some (.int .i64 x) ∧ w.cell? ⟨b, off + i * 2 + 1, none⟩ = some (.int .i64 y) := by
  rcases h.cell with rfl | ⟨b, off, rfl, h5⟩
  · simp at hi
  · exact ⟨b, off, l[i].1, l[i].2, rfl, List.getElem?_eq_getElem hi, h5 i hi⟩
theorem Plc.below {w w' : World} {a : Option Addr} {cap : Nat} {l : List (Int × Int)} (h : Plc w a cap l) (hb : Below w.heap.size w w') : Plc w' a cap l := by
  refine ⟨h.le, h.most, h.nil, h.cell.imp id fun ⟨b, off, e, h5⟩ => ⟨b, off, e, fun i hi => ?_⟩⟩
  obtain ⟨h6, h7⟩ := h5 i hi
  exact ⟨(hb.cell (World.block_lt_of_cell? _ _ h6)).trans h6, (hb.cell (World.block_lt_of_cell? _ _ h7)).trans h7⟩

/-- The stripes of places, each once. -/
def vstep (out : List Int) (p : Int × Int) : List Int := if ver p.1 p.2 = 0 then out else if out.contains (ver p.1 p.2) then out else out ++ [ver p.1 p.2]
def vof (l : List (Int × Int)) : List Int := l.foldl vstep []
def cu (l : List Int) : List Value := l.map (Value.int .u64)
theorem vof_take {l : List (Int × Int)} {k : Nat} {x y : Int} (h : l[k]? = some (x, y)) : vof (l.take (k + 1)) = vstep (vof (l.take k)) (x, y) := by
  unfold vof
  rw [List.take_add_one, h, List.foldl_append]
  rfl
theorem vstep_len (out : List Int) (p : Int × Int) : (vstep out p).length ≤ out.length + 1 := by
  unfold vstep; split
  · omega
  · split
    · omega
    · simp
theorem vof_len (l : List (Int × Int)) : (vof l).length ≤ l.length := by
  have : ∀ (l : List (Int × Int)) (o : List Int), (l.foldl vstep o).length ≤ o.length + l.length := by
    intro l
    induction l with
    | nil => intro o; simp
    | cons x l ih => intro o; have := ih (vstep o x); have := vstep_len o x; simp only [List.foldl_cons, List.length_cons]; omega
  have := this l []
  unfold vof; simpa using this

/-- The first place at which a stands from k on, or -1. -/
def fidx (xs : List Int) (a : Int) (k : Nat) : Int := match xs with
  | [] => -1
  | x :: r => if a = x then k else fidx r a (k + 1)
theorem fidx_ge (xs : List Int) (a : Int) (k : Nat) : decide (0 ≤ fidx xs a k) = xs.contains a := by
  induction xs generalizing k with
  | nil => rfl
  | cons x r ih =>
    unfold fidx
    split
    · rename_i h; subst h; simp
    · rename_i h; rw [ih]; simp [h]
theorem fidx_drop {xs : List Int} {a y : Int} {k : Nat} (h : xs[k]? = some y) : fidx (xs.drop k) a k = if a = y then (k : Int) else fidx (xs.drop (k + 1)) a (k + 1) := by
  have hk : k < xs.length := (List.getElem?_eq_some_iff.1 h).1
  rw [List.drop_eq_getElem_cons hk]
  have : xs[k] = y := (List.getElem?_eq_some_iff.1 h).2
  rw [this]; rfl

theorem conf_b {a b : Bool} (h : a = b) : Ending.returned (.bool a) = .returned (.bool b) := by rw [h]
/-- A list of addresses that the call itself made, without room behind it. -/
def Adr (w : World) (base : Nat) (v : Value) (xs : List Int) : Prop :=
  (v = .slice none 0 0 ∧ xs = []) ∨ ∃ g cur, v = .slice (some ⟨g, 0, none⟩) xs.length xs.length ∧ base ≤ g ∧ w.heap[g]? = some (.cells cur 47 (0, 0)) ∧ xs.length ≤ maxLen ∧ cur.toList.take xs.length = cu xs
theorem Adr.keep {w w' : World} {base : Nat} {v : Value} {xs : List Int} (h : Adr w base v xs) (hb : Below w.heap.size w w') : Adr w' base v xs := by
  rcases h with h | ⟨g, cur, rfl, h1, h2, h3⟩
  · exact .inl h
  · exact .inr ⟨g, cur, rfl, h1, (hb.block g (Array.getElem?_eq_some_iff.1 h2).1).trans h2, h3⟩

theorem info_addr : (Try.prog.info? 47).map (fun i => (i.zero, i.size, i.bytes)) = some (some (.int .u64 0), 1, 8) := by kernel_rfl
end Go.Proofs.Ytcihaamjklbdkaa
