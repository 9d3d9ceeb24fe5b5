/-
  Records, and the walks of package items.
-/
import Derived.Test.YtmakjfeepmiggaaGreatLib
import Derived.Test.YtmakjfeepmiggaaGreatKeeps
import Derived.Deep.AppendLies
namespace Go.Proofs.YtmakjfeepmiggaaGreat
open Go.RowKit
set_option linter.unusedVariables false

/-- A record, as its six cells hold it. -/
structure Itm where
  key : ByteArray
  val : ByteArray
  flags : Int
  id : Int
  dies : Int
  gen : Int
def Itm.cells (x : Itm) : List Value := [.string x.key, .string x.val, .int .u32 x.flags, .int .u64 x.id, .int .i64 x.dies, .int .i64 x.gen]
def Itm.zero : Itm := ⟨ByteArray.empty, ByteArray.empty, 0, 0, 0, 0⟩

theorem place_any (b g nb cap p n o : Nat) (w : World) (ho : n % 64 * 6 = o) (hm : n ≤ 1048576)
    (h1 : w.cell? ⟨b, 0, none⟩ = some (.slice (some ⟨g, 0, none⟩) nb cap)) (hn : n / 64 < nb)
    (h2 : w.cell? ⟨g, n / 64, none⟩ = some (.pointer (some ⟨p, 0, none⟩))) :
    Calls Tryz.prog 144 #[.pointer (some ⟨b, 0, none⟩), .int .i64 n] w fun e w' => e = .returned (.pointer (some ⟨p, o, none⟩)) ∧ w = w' := by
  subst ho
  have hn' : (n : Int) / 64 < (nb : Int) := by omega
  go_enter Tryz.func144, Tryz.ntmps144
  go_wp2
  go_ret
  exact ⟨rfl, rfl⟩

theorem add_nil (x : Itm) (w : World) : Calls Tryz.prog 79 #[.pointer none, .agg x.cells.toArray] w fun e w' => e = .returned (.tuple #[.int .i64 0, .int .i64 2]) ∧ Below w.heap.size w w' := by
  go_enter Tryz.func79, Tryz.ntmps79
  go_wp2
  go_ret2
  exact ⟨rfl, (Below.refl _ _).alloc (Nat.le_refl _) _⟩

theorem info_pblk : (Tryz.prog.info? 248).map (fun i => (i.zero, i.size, i.bytes)) = some (some (.pointer none), 1, 8) := by kernel_rfl
/-- A new block of records: 384 cells. -/
theorem zero_block : ∃ z : Array Value, z.size = 384 ∧ ∀ w, (zeroValue 250).run Tryz.prog w = .ok (.agg z) w :=
  ⟨(List.replicate 64 Itm.zero.cells).flatten.toArray, by decide +kernel, fun w => by kernel_rfl⟩

theorem news_one (W : World) (v : Value) (T n : Nat) (h : n = W.heap.size) : ∀ j u, [v][j]? = some u → (W.alloc (.cells #[v] T)).cell? ((⟨n, 0, none⟩ : Addr).add j) = some u := by
  subst h; exact cell_one_new _ _ _

/-- What a program arena holds: block b has the header; ps: its blocks of records. -/
structure ArenaAt (w : World) (base b : Nat) (ao : Option Addr) (cap : Nat) (ps : List Nat) (l : List Itm) : Prop where
  hdr : w.heap[b]? = some (.cells #[.slice ao ps.length cap, .int .i64 l.length] 242 (0, 0))
  own : w.ownsRow base 248 1 (.slice ao ps.length cap) ps.length (ps.map fun p => .pointer (some ⟨p, 0, none⟩))
  lo : base ≤ b
  los : ∀ p ∈ ps, base ≤ p
  most : l.length ≤ 64 * ps.length
  least : 64 * ps.length < l.length + 64
  blk : ∀ j, (hj : j < ps.length) → ∃ cs : Array Value, w.heap[ps[j]]? = some (.cells cs 250 (0, 0)) ∧ cs.size = 384 ∧ ∀ i, i < 64 → (hi : 64 * j + i < l.length) → ∀ f, f < 6 → cs[6 * i + f]? = (l[64 * j + i]).cells[f]?
  nodup : ps.Nodup
  nb : b ∉ ps
  no : (Value.slice ao ps.length cap).ownBlock ≠ some b
  nps : ∀ p ∈ ps, (Value.slice ao ps.length cap).ownBlock ≠ some p
/-- The blocks of an arena. -/
def arenaFp (b : Nat) (ao : Option Addr) (ps : List Nat) (k : Nat) : Prop := k = b ∨ (∃ a, ao = some a ∧ a.block = k) ∨ k ∈ ps
/-- An arena whose blocks are S. -/
def Arena (w : World) (base b : Nat) (l : List Itm) (S : Nat → Prop) : Prop := ∃ ao cap ps, ArenaAt w base b ao cap ps l ∧ S = arenaFp b ao ps

theorem ArenaAt.keep {w w' : World} {base b : Nat} {ao : Option Addr} {cap : Nat} {ps : List Nat} {l : List Itm} (h : ArenaAt w base b ao cap ps l) (hk : ∀ k, arenaFp b ao ps k → w'.heap[k]? = w.heap[k]?) : ArenaAt w' base b ao cap ps l := by
  refine ⟨by rw [hk b (.inl rfl)]; exact h.hdr, ?_, h.lo, h.los, h.most, h.least, fun j hj => ?_, h.nodup, h.nb, h.no, h.nps⟩
  · refine ⟨h.own.1, ?_⟩
    rcases h.own.2 with hn | ⟨g, c, cur, hv, hg, hh, r⟩
    · exact .inl hn
    · refine .inr ⟨g, c, cur, hv, hg, ?_, r⟩
      simp only [Value.slice.injEq] at hv
      rw [hk g (.inr (.inl ⟨_, hv.1, rfl⟩))]; exact hh
  · obtain ⟨cs, h1, h2⟩ := h.blk j hj
    exact ⟨cs, by rw [hk _ (.inr (.inr (List.getElem_mem hj)))]; exact h1, h2⟩
theorem Arena.keep {w w' : World} {base b : Nat} {l : List Itm} {S : Nat → Prop} (h : Arena w base b l S) (hk : ∀ k, S k → w'.heap[k]? = w.heap[k]?) : Arena w' base b l S := by
  obtain ⟨ao, cap, ps, h, rfl⟩ := h
  exact ⟨ao, cap, ps, h.keep hk, rfl⟩
theorem Arena.fp {w : World} {base b : Nat} {l : List Itm} {S : Nat → Prop} (h : Arena w base b l S) : ∀ k, S k → base ≤ k ∧ k < w.heap.size := by
  obtain ⟨ao, cap, ps, h, rfl⟩ := h
  rintro k (rfl | ⟨a, rfl, rfl⟩ | hk)
  · exact ⟨h.lo, (Array.getElem?_eq_some_iff.1 h.hdr).1⟩
  · exact h.own.lt _ rfl
  · obtain ⟨j, hj, rfl⟩ := List.mem_iff_getElem.1 hk
    obtain ⟨cs, h1, _⟩ := h.blk j hj
    exact ⟨h.los _ hk, (Array.getElem?_eq_some_iff.1 h1).1⟩
theorem Arena.below {w w' : World} {base b : Nat} {l : List Itm} {S : Nat → Prop} (h : Arena w base b l S) (hb : Below w.heap.size w w') : Arena w' base b l S :=
  h.keep fun k hk => hb.block k (h.fp k hk).2
theorem Arena.keeps {w w' : World} {base b : Nat} {l : List Itm} {S T : Nat → Prop} (h : Arena w base b l S) (hb : Keeps T w w') (hd : ∀ k, S k → ¬ T k) : Arena w' base b l S :=
  h.keep fun k hk => hb.block k (h.fp k hk).2 (hd k hk)

/-- Six cells written one behind the other. -/
def put6 (cs : Array Value) (o : Nat) (x : Itm) : Array Value :=
  (((((cs.setIfInBounds o (.string x.key)).setIfInBounds (o + 1) (.string x.val)).setIfInBounds (o + 2) (.int .u32 x.flags)).setIfInBounds (o + 3) (.int .u64 x.id)).setIfInBounds (o + 4) (.int .i64 x.dies)).setIfInBounds (o + 5) (.int .i64 x.gen)
theorem put6_size (cs : Array Value) (o : Nat) (x : Itm) : (put6 cs o x).size = cs.size := by simp [put6]
theorem put6_in (cs : Array Value) (o : Nat) (x : Itm) (f : Nat) (hf : f < 6) (ho : o + 6 ≤ cs.size) : (put6 cs o x)[o + f]? = x.cells[f]? := by
  have h0 : o < cs.size := by omega
  have h1 : o + 1 < cs.size := by omega
  have h2 : o + 2 < cs.size := by omega
  have h3 : o + 3 < cs.size := by omega
  have h4 : o + 4 < cs.size := by omega
  have h5 : o + 5 < cs.size := by omega
  match f, hf with
  | 0, _ => simp [put6, Itm.cells, h0]
  | 1, _ => simp [put6, Itm.cells, h1]
  | 2, _ => simp [put6, Itm.cells, h2]
  | 3, _ => simp [put6, Itm.cells, h3]
  | 4, _ => simp [put6, Itm.cells, h4]
  | 5, _ => simp [put6, Itm.cells, h5]
theorem put6_out (cs : Array Value) (o : Nat) (x : Itm) (k : Nat) (hk : k < o ∨ o + 6 ≤ k) : (put6 cs o x)[k]? = cs[k]? := by
  have h0 : o ≠ k := by omega
  have h1 : o + 1 ≠ k := by omega
  have h2 : o + 2 ≠ k := by omega
  have h3 : o + 3 ≠ k := by omega
  have h4 : o + 4 ≠ k := by omega
  have h5 : o + 5 ≠ k := by omega
  simp [put6, h0, h1, h2, h3, h4, h5]
end Go.Proofs.YtmakjfeepmiggaaGreat
