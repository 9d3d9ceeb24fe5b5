/-
  No cell of these rows narrows 'for every input' (looked for: loops, veiled, ifaces, maps, wideKeys, modest, calm, conditions, laid).
  DERIVED. THE GIVEN ROWS OF THIS SEAT. 6 by the template 'for every input the law returns true; each argument reads behind the call as it read before'; 0 by the template 'total and deterministic' (their statements: YtmagpbbjjkmbpaaGreatTotals.lean).
  GIVEN WITH THE SEED: the statements are not yours to turn. If you find one false, say at which input.
  Laid BY PROGRAM, IN A SANDBOX (cutbox-rows.mjs): the forced cells as the released guide's own fill.sh prints them over the translation cd61b309dc8317c5… (all of the seat's roots in one cut). By AI agents, Wed Nov 11 2026. No macro, syntax, notation, axiom, sorry.
-/
import Derived.Test.YtmagpbbjjkmbpaaGreatChecked
import GoSem.Claim
import GoSem.ClaimJoined
import GoSem.ClaimMapViews
import Derived.JoinedTies
import Derived.KernelRfl
namespace Go.Proofs.YtmagpbbjjkmbpaaGreat
/- THE CELL 'sum', in the pinned program and in every row, IS THE sha256 OF THE DUMP (.gsa) THAT YtmagpbbjjkmbpaaGreatProg.lean LOADS. Nothing in Lean hashes anything: it is a label: what it is worth is what the hold of that sum in a sandbox is worth. -/
noncomputable def Tryz.pinned : Pinned := { name := "ytmagpbbjjkmbpaagreat", sum := "cd61b309dc8317c5bdd4054435f8b779dd20ce075020f094fc45115cff16eba8", checked := Tryz.checked }
namespace Rows
def none {H : Type} : Left H := { results := [], args := [] }

/-- 'nestboxlaw34.HistsDrops': WHATEVER THE INPUT: true; the input reads as it did. -/
def histsDropsSpec : ChangeSpec := { name := "histsDrops", fn := fun _ => fun
  | [d1, d2] => { results := [.lit (.bool true)], args := [d1, d2] }
  | _ => none }
def histsDropsRow : OpenClaim := { program := "ytmagpbbjjkmbpaagreat", sum := "cd61b309dc8317c5bdd4054435f8b779dd20ce075020f094fc45115cff16eba8", func := "nestbox/nestboxlaw34.HistsDrops", spec := "histsDrops", inPlace := ["sync/atomic.StoreUint64", "sync/atomic.SwapUint64", "sync/atomic.LoadUint64", "sync/atomic.CompareAndSwapUint64"], unfollowed := true, recurses := true, apart := false }
def HistsDropsSaid : Prop := histsDropsRow.holds Tryz.pinned (OpenSpec.ofChange histsDropsSpec)

/-- ITS FALSE NEIGHBOUR: 'it returns false'. Refute it at one input. -/
def histsDropsWrong : ChangeSpec := { name := "histsDrops", fn := fun _ => fun
  | [d1, d2] => { results := [.lit (.bool false)], args := [d1, d2] }
  | _ => none }
def HistsDropsWrongFalsely : Prop := histsDropsRow.holds Tryz.pinned (OpenSpec.ofChange histsDropsWrong)

/-- 'nestboxlaw15.FindsPut': WHATEVER THE INPUT: true; the input reads as it did. -/
def findsPutSpec : ChangeSpec := { name := "findsPut", fn := fun _ => fun
  | [d1, d2, d3] => { results := [.lit (.bool true)], args := [d1, d2, d3] }
  | _ => none }
def findsPutRow : OpenClaim := { program := "ytmagpbbjjkmbpaagreat", sum := "cd61b309dc8317c5bdd4054435f8b779dd20ce075020f094fc45115cff16eba8", func := "nestbox/nestboxlaw15.FindsPut", spec := "findsPut", inPlace := ["sync/atomic.StoreUint64", "sync/atomic.LoadUint64", "sync/atomic.SwapUint64", "sync/atomic.CompareAndSwapUint64"], unfollowed := true, recurses := true, apart := false }
def FindsPutSaid : Prop := findsPutRow.holds Tryz.pinned (OpenSpec.ofChange findsPutSpec)

/-- ITS FALSE NEIGHBOUR: 'it returns false'. Refute it at one input. -/
def findsPutWrong : ChangeSpec := { name := "findsPut", fn := fun _ => fun
  | [d1, d2, d3] => { results := [.lit (.bool false)], args := [d1, d2, d3] }
  | _ => none }
def FindsPutWrongFalsely : Prop := findsPutRow.holds Tryz.pinned (OpenSpec.ofChange findsPutWrong)

/-- 'nestboxlaw15.FindsPlay': WHATEVER THE INPUT: true; the input reads as it did. -/
def findsPlaySpec : ChangeSpec := { name := "findsPlay", fn := fun _ => fun
  | [d1, d2] => { results := [.lit (.bool true)], args := [d1, d2] }
  | _ => none }
def findsPlayRow : OpenClaim := { program := "ytmagpbbjjkmbpaagreat", sum := "cd61b309dc8317c5bdd4054435f8b779dd20ce075020f094fc45115cff16eba8", func := "nestbox/nestboxlaw15.FindsPlay", spec := "findsPlay", inPlace := ["sync/atomic.StoreUint64", "sync/atomic.LoadUint64", "sync/atomic.SwapUint64", "sync/atomic.CompareAndSwapUint64"], unfollowed := true, recurses := true, apart := false }
def FindsPlaySaid : Prop := findsPlayRow.holds Tryz.pinned (OpenSpec.ofChange findsPlaySpec)

/-- ITS FALSE NEIGHBOUR: 'it returns false'. Refute it at one input. -/
def findsPlayWrong : ChangeSpec := { name := "findsPlay", fn := fun _ => fun
  | [d1, d2] => { results := [.lit (.bool false)], args := [d1, d2] }
  | _ => none }
def FindsPlayWrongFalsely : Prop := findsPlayRow.holds Tryz.pinned (OpenSpec.ofChange findsPlayWrong)

/-- 'nestboxlaw14.LooksQuiet': WHATEVER THE INPUT: true; the input reads as it did. -/
def looksQuietSpec : ChangeSpec := { name := "looksQuiet", fn := fun _ => fun
  | [d] => { results := [.lit (.bool true)], args := [d] }
  | _ => none }
def looksQuietRow : OpenClaim := { program := "ytmagpbbjjkmbpaagreat", sum := "cd61b309dc8317c5bdd4054435f8b779dd20ce075020f094fc45115cff16eba8", func := "nestbox/nestboxlaw14.LooksQuiet", spec := "looksQuiet", inPlace := ["sync/atomic.StoreUint64", "sync/atomic.LoadUint64", "sync/atomic.SwapUint64"], unfollowed := true, recurses := true, apart := false }
def LooksQuietSaid : Prop := looksQuietRow.holds Tryz.pinned (OpenSpec.ofChange looksQuietSpec)

/-- ITS FALSE NEIGHBOUR: 'it returns false'. Refute it at one input. -/
def looksQuietWrong : ChangeSpec := { name := "looksQuiet", fn := fun _ => fun
  | [d] => { results := [.lit (.bool false)], args := [d] }
  | _ => none }
def LooksQuietWrongFalsely : Prop := looksQuietRow.holds Tryz.pinned (OpenSpec.ofChange looksQuietWrong)

/-- 'nestboxlaw14.LooksPlay': WHATEVER THE INPUT: true; the input reads as it did. -/
def looksPlaySpec : ChangeSpec := { name := "looksPlay", fn := fun _ => fun
  | [d1, d2] => { results := [.lit (.bool true)], args := [d1, d2] }
  | _ => none }
def looksPlayRow : OpenClaim := { program := "ytmagpbbjjkmbpaagreat", sum := "cd61b309dc8317c5bdd4054435f8b779dd20ce075020f094fc45115cff16eba8", func := "nestbox/nestboxlaw14.LooksPlay", spec := "looksPlay", inPlace := ["sync/atomic.StoreUint64", "sync/atomic.LoadUint64", "sync/atomic.SwapUint64", "sync/atomic.CompareAndSwapUint64"], unfollowed := true, recurses := true, apart := false }
def LooksPlaySaid : Prop := looksPlayRow.holds Tryz.pinned (OpenSpec.ofChange looksPlaySpec)

/-- ITS FALSE NEIGHBOUR: 'it returns false'. Refute it at one input. -/
def looksPlayWrong : ChangeSpec := { name := "looksPlay", fn := fun _ => fun
  | [d1, d2] => { results := [.lit (.bool false)], args := [d1, d2] }
  | _ => none }
def LooksPlayWrongFalsely : Prop := looksPlayRow.holds Tryz.pinned (OpenSpec.ofChange looksPlayWrong)

/-- 'nestboxlaw14.LooksVoid': WHATEVER THE INPUT: true; the input reads as it did. -/
def looksVoidSpec : ChangeSpec := { name := "looksVoid", fn := fun _ => fun
  | [d1, d2] => { results := [.lit (.bool true)], args := [d1, d2] }
  | _ => none }
def looksVoidRow : OpenClaim := { program := "ytmagpbbjjkmbpaagreat", sum := "cd61b309dc8317c5bdd4054435f8b779dd20ce075020f094fc45115cff16eba8", func := "nestbox/nestboxlaw14.LooksVoid", spec := "looksVoid", inPlace := ["sync/atomic.StoreUint64", "sync/atomic.LoadUint64", "sync/atomic.SwapUint64", "sync/atomic.CompareAndSwapUint64"], unfollowed := true, recurses := true, apart := false }
def LooksVoidSaid : Prop := looksVoidRow.holds Tryz.pinned (OpenSpec.ofChange looksVoidSpec)

/-- ITS FALSE NEIGHBOUR: 'it returns false'. Refute it at one input. -/
def looksVoidWrong : ChangeSpec := { name := "looksVoid", fn := fun _ => fun
  | [d1, d2] => { results := [.lit (.bool false)], args := [d1, d2] }
  | _ => none }
def LooksVoidWrongFalsely : Prop := looksVoidRow.holds Tryz.pinned (OpenSpec.ofChange looksVoidWrong)

/- THE SECOND FORM. 'bulk': how many values and letters a reading holds, each counted each time it is reached (what is shared counts as often as it is met; a slice's spare places count too). A statement '..UptoSaid' is the law's where the arguments, and the package variables that the reading takes, are together of bulk at most 1048576: NARROWER than '..Said'. Prove '..Said' where nothing that the law and all that it calls make is longer than what came in: it says more and counts as full. Else prove '..UptoSaid'. A law counts once. -/
mutual
def uptoBulk {H : Type} : DataW H → Nat
  | .lit (.string bytes) => bytes.length + 1
  | .lit _ => 1
  | .nil => 1
  | .ptr d => uptoBulk d + 1
  | .slice elems spare => uptoBulkAll elems + uptoBulkAll spare + 1
  | .agg parts => uptoBulkAll parts + 1
  | .iface _ d => uptoBulk d + 1
  | .map entries => uptoBulkEntries entries + 1
  | .held _ => 1
def uptoBulkAll {H : Type} : List (DataW H) → Nat
  | [] => 0
  | d :: r => uptoBulk d + uptoBulkAll r
def uptoBulkEntries {H : Type} : List (Lit × DataW H) → Nat
  | [] => 0
  | x :: r => uptoBulkEntry x + uptoBulkEntries r
def uptoBulkEntry {H : Type} : Lit × DataW H → Nat
  | (.string bytes, d) => bytes.length + uptoBulk d + 1
  | (_, d) => uptoBulk d + 1
 end
def uptoSmall : (H : Type) → List (DataW H) → Bool := fun _ ds => decide (uptoBulkAll ds ≤ 1048576)
def OpenSpec.upto (s : _root_.Go.ChangeSpec) : _root_.Go.OpenSpec := { _root_.Go.OpenSpec.ofChange s with cond := some uptoSmall }

/-- 'nestboxlaw34.HistsDrops', WHERE WHAT IT READS IS OF BULK AT MOST 1048576: true; the input reads as it did. -/
def histsDropsUptoRow : OpenClaim := { program := "ytmagpbbjjkmbpaagreat", sum := "cd61b309dc8317c5bdd4054435f8b779dd20ce075020f094fc45115cff16eba8", func := "nestbox/nestboxlaw34.HistsDrops", spec := "histsDrops", inPlace := ["sync/atomic.StoreUint64", "sync/atomic.SwapUint64", "sync/atomic.LoadUint64", "sync/atomic.CompareAndSwapUint64"], unfollowed := true, recurses := true, apart := false, narrowed := true }
def HistsDropsUptoSaid : Prop := histsDropsUptoRow.holds Tryz.pinned (OpenSpec.upto histsDropsSpec)

/-- 'nestboxlaw15.FindsPut', WHERE WHAT IT READS IS OF BULK AT MOST 1048576: true; the input reads as it did. -/
def findsPutUptoRow : OpenClaim := { program := "ytmagpbbjjkmbpaagreat", sum := "cd61b309dc8317c5bdd4054435f8b779dd20ce075020f094fc45115cff16eba8", func := "nestbox/nestboxlaw15.FindsPut", spec := "findsPut", inPlace := ["sync/atomic.StoreUint64", "sync/atomic.LoadUint64", "sync/atomic.SwapUint64", "sync/atomic.CompareAndSwapUint64"], unfollowed := true, recurses := true, apart := false, narrowed := true }
def FindsPutUptoSaid : Prop := findsPutUptoRow.holds Tryz.pinned (OpenSpec.upto findsPutSpec)

/-- 'nestboxlaw15.FindsPlay', WHERE WHAT IT READS IS OF BULK AT MOST 1048576: true; the input reads as it did. -/
def findsPlayUptoRow : OpenClaim := { program := "ytmagpbbjjkmbpaagreat", sum := "cd61b309dc8317c5bdd4054435f8b779dd20ce075020f094fc45115cff16eba8", func := "nestbox/nestboxlaw15.FindsPlay", spec := "findsPlay", inPlace := ["sync/atomic.StoreUint64", "sync/atomic.LoadUint64", "sync/atomic.SwapUint64", "sync/atomic.CompareAndSwapUint64"], unfollowed := true, recurses := true, apart := false, narrowed := true }
def FindsPlayUptoSaid : Prop := findsPlayUptoRow.holds Tryz.pinned (OpenSpec.upto findsPlaySpec)

/-- 'nestboxlaw14.LooksQuiet', WHERE WHAT IT READS IS OF BULK AT MOST 1048576: true; the input reads as it did. -/
def looksQuietUptoRow : OpenClaim := { program := "ytmagpbbjjkmbpaagreat", sum := "cd61b309dc8317c5bdd4054435f8b779dd20ce075020f094fc45115cff16eba8", func := "nestbox/nestboxlaw14.LooksQuiet", spec := "looksQuiet", inPlace := ["sync/atomic.StoreUint64", "sync/atomic.LoadUint64", "sync/atomic.SwapUint64"], unfollowed := true, recurses := true, apart := false, narrowed := true }
def LooksQuietUptoSaid : Prop := looksQuietUptoRow.holds Tryz.pinned (OpenSpec.upto looksQuietSpec)

/-- 'nestboxlaw14.LooksPlay', WHERE WHAT IT READS IS OF BULK AT MOST 1048576: true; the input reads as it did. -/
def looksPlayUptoRow : OpenClaim := { program := "ytmagpbbjjkmbpaagreat", sum := "cd61b309dc8317c5bdd4054435f8b779dd20ce075020f094fc45115cff16eba8", func := "nestbox/nestboxlaw14.LooksPlay", spec := "looksPlay", inPlace := ["sync/atomic.StoreUint64", "sync/atomic.LoadUint64", "sync/atomic.SwapUint64", "sync/atomic.CompareAndSwapUint64"], unfollowed := true, recurses := true, apart := false, narrowed := true }
def LooksPlayUptoSaid : Prop := looksPlayUptoRow.holds Tryz.pinned (OpenSpec.upto looksPlaySpec)

/-- 'nestboxlaw14.LooksVoid', WHERE WHAT IT READS IS OF BULK AT MOST 1048576: true; the input reads as it did. -/
def looksVoidUptoRow : OpenClaim := { program := "ytmagpbbjjkmbpaagreat", sum := "cd61b309dc8317c5bdd4054435f8b779dd20ce075020f094fc45115cff16eba8", func := "nestbox/nestboxlaw14.LooksVoid", spec := "looksVoid", inPlace := ["sync/atomic.StoreUint64", "sync/atomic.LoadUint64", "sync/atomic.SwapUint64", "sync/atomic.CompareAndSwapUint64"], unfollowed := true, recurses := true, apart := false, narrowed := true }
def LooksVoidUptoSaid : Prop := looksVoidUptoRow.holds Tryz.pinned (OpenSpec.upto looksVoidSpec)

end Rows
end Go.Proofs.YtmagpbbjjkmbpaaGreat
