/-
  No cell of these rows narrows 'for every input' (looked for: loops, veiled, ifaces, maps, wideKeys, modest, calm, conditions, laid).
  DERIVED. THE GIVEN ROWS OF THIS SEAT. 3 by the template 'for every input the law returns true; each argument reads behind the call as it read before'; 0 by the template 'total and deterministic' (their statements: YtmagpbbjjkmbpaaTotals.lean).
  GIVEN WITH THE SEED: the statements are not yours to turn. If you find one false, say at which input.
  Laid BY PROGRAM, IN A SANDBOX (cutbox-rows.mjs): the forced cells as the released guide's own fill.sh prints them over the translation 4d084d02018622c1… (all of the seat's roots in one cut). By AI agents, Wed Nov 11 2026. No macro, syntax, notation, axiom, sorry.
-/
import Derived.Test.YtmagpbbjjkmbpaaChecked
import GoSem.Claim
import GoSem.ClaimJoined
import GoSem.ClaimMapViews
import Derived.JoinedTies
import Derived.KernelRfl
namespace Go.Proofs.Ytmagpbbjjkmbpaa
/- THE CELL 'sum', in the pinned program and in every row, IS THE sha256 OF THE DUMP (.gsa) THAT YtmagpbbjjkmbpaaProg.lean LOADS. Nothing in Lean hashes anything: it is a label: what it is worth is what the hold of that sum in a sandbox is worth. -/
noncomputable def Try.pinned : Pinned := { name := "ytmagpbbjjkmbpaa", sum := "4d084d02018622c1c048443409a3bb99404fee0c6f58c814c283dbd57b3e64d3", checked := Try.checked }
namespace Rows
def none {H : Type} : Left H := { results := [], args := [] }

/-- 'nestboxlaw34.HistsOrder': WHATEVER THE INPUT: true; the input reads as it did. -/
def histsOrderSpec : ChangeSpec := { name := "histsOrder", fn := fun _ => fun
  | [d1, d2] => { results := [.lit (.bool true)], args := [d1, d2] }
  | _ => none }
def histsOrderRow : OpenClaim := { program := "ytmagpbbjjkmbpaa", sum := "4d084d02018622c1c048443409a3bb99404fee0c6f58c814c283dbd57b3e64d3", func := "nestbox/nestboxlaw34.HistsOrder", spec := "histsOrder", unfollowed := true, recurses := true, apart := false }
def HistsOrderSaid : Prop := histsOrderRow.holds Try.pinned (OpenSpec.ofChange histsOrderSpec)

/-- ITS FALSE NEIGHBOUR: 'it returns false'. Refute it at one input. -/
def histsOrderWrong : ChangeSpec := { name := "histsOrder", fn := fun _ => fun
  | [d1, d2] => { results := [.lit (.bool false)], args := [d1, d2] }
  | _ => none }
def HistsOrderWrongFalsely : Prop := histsOrderRow.holds Try.pinned (OpenSpec.ofChange histsOrderWrong)

/-- 'nestboxlaw34.HistsPart': WHATEVER THE INPUT: true; the input reads as it did. -/
def histsPartSpec : ChangeSpec := { name := "histsPart", fn := fun _ => fun
  | [d1, d2, d3] => { results := [.lit (.bool true)], args := [d1, d2, d3] }
  | _ => none }
def histsPartRow : OpenClaim := { program := "ytmagpbbjjkmbpaa", sum := "4d084d02018622c1c048443409a3bb99404fee0c6f58c814c283dbd57b3e64d3", func := "nestbox/nestboxlaw34.HistsPart", spec := "histsPart", unfollowed := true, recurses := true, apart := false }
def HistsPartSaid : Prop := histsPartRow.holds Try.pinned (OpenSpec.ofChange histsPartSpec)

/-- ITS FALSE NEIGHBOUR: 'it returns false'. Refute it at one input. -/
def histsPartWrong : ChangeSpec := { name := "histsPart", fn := fun _ => fun
  | [d1, d2, d3] => { results := [.lit (.bool false)], args := [d1, d2, d3] }
  | _ => none }
def HistsPartWrongFalsely : Prop := histsPartRow.holds Try.pinned (OpenSpec.ofChange histsPartWrong)

/-- 'nestboxlaw14.LooksTries': WHATEVER THE INPUT: true; the input reads as it did. -/
def looksTriesSpec : ChangeSpec := { name := "looksTries", fn := fun _ => fun
  | [d1, d2, d3] => { results := [.lit (.bool true)], args := [d1, d2, d3] }
  | _ => none }
def looksTriesRow : OpenClaim := { program := "ytmagpbbjjkmbpaa", sum := "4d084d02018622c1c048443409a3bb99404fee0c6f58c814c283dbd57b3e64d3", func := "nestbox/nestboxlaw14.LooksTries", spec := "looksTries", inPlace := ["sync/atomic.StoreUint64", "sync/atomic.LoadUint64"], unfollowed := true, recurses := true, apart := false }
def LooksTriesSaid : Prop := looksTriesRow.holds Try.pinned (OpenSpec.ofChange looksTriesSpec)

/-- ITS FALSE NEIGHBOUR: 'it returns false'. Refute it at one input. -/
def looksTriesWrong : ChangeSpec := { name := "looksTries", fn := fun _ => fun
  | [d1, d2, d3] => { results := [.lit (.bool false)], args := [d1, d2, d3] }
  | _ => none }
def LooksTriesWrongFalsely : Prop := looksTriesRow.holds Try.pinned (OpenSpec.ofChange looksTriesWrong)

/- THE SECOND FORM. 'bulk': how many values and letters a reading holds, each counted each time it is reached (what is shared counts as often as it is met; a slice's spare places count too). A statement '..UptoSaid' is the law's where the arguments, and the package variables that the reading takes, are together of bulk at most 1048576: NARROWER than '..Said'. Prove '..Said' where nothing that the law and all that it calls make is longer than what came in: it says more and counts as full. Else prove '..UptoSaid'. A law counts once. -/
mutual
def uptoBulk {H : Type} : DataW H → Nat
  | .lit (.string bytes) => bytes.length + 1
  | .lit _ => 1
  | .nil => 1
  | .ptr d => uptoBulk d + 1
  | .slice elems spare => uptoBulkAll elems + uptoBulkAll spare + 1
  | .agg parts => uptoBulkAll parts + 1
  | .iface _ d => uptoBulk d + 1
  | .map entries => uptoBulkEntries entries + 1
  | .held _ => 1
def uptoBulkAll {H : Type} : List (DataW H) → Nat
  | [] => 0
  | d :: r => uptoBulk d + uptoBulkAll r
def uptoBulkEntries {H : Type} : List (Lit × DataW H) → Nat
  | [] => 0
  | x :: r => uptoBulkEntry x + uptoBulkEntries r
def uptoBulkEntry {H : Type} : Lit × DataW H → Nat
  | (.string bytes, d) => bytes.length + uptoBulk d + 1
  | (_, d) => uptoBulk d + 1
 end
def uptoSmall : (H : Type) → List (DataW H) → Bool := fun _ ds => decide (uptoBulkAll ds ≤ 1048576)
def OpenSpec.upto (s : _root_.Go.ChangeSpec) : _root_.Go.OpenSpec := { _root_.Go.OpenSpec.ofChange s with cond := some uptoSmall }

/-- 'nestboxlaw34.HistsOrder', WHERE WHAT IT READS IS OF BULK AT MOST 1048576: true; the input reads as it did. -/
def histsOrderUptoRow : OpenClaim := { program := "ytmagpbbjjkmbpaa", sum := "4d084d02018622c1c048443409a3bb99404fee0c6f58c814c283dbd57b3e64d3", func := "nestbox/nestboxlaw34.HistsOrder", spec := "histsOrder", unfollowed := true, recurses := true, apart := false, narrowed := true }
def HistsOrderUptoSaid : Prop := histsOrderUptoRow.holds Try.pinned (OpenSpec.upto histsOrderSpec)

/-- 'nestboxlaw34.HistsPart', WHERE WHAT IT READS IS OF BULK AT MOST 1048576: true; the input reads as it did. -/
def histsPartUptoRow : OpenClaim := { program := "ytmagpbbjjkmbpaa", sum := "4d084d02018622c1c048443409a3bb99404fee0c6f58c814c283dbd57b3e64d3", func := "nestbox/nestboxlaw34.HistsPart", spec := "histsPart", unfollowed := true, recurses := true, apart := false, narrowed := true }
def HistsPartUptoSaid : Prop := histsPartUptoRow.holds Try.pinned (OpenSpec.upto histsPartSpec)

/-- 'nestboxlaw14.LooksTries', WHERE WHAT IT READS IS OF BULK AT MOST 1048576: true; the input reads as it did. -/
def looksTriesUptoRow : OpenClaim := { program := "ytmagpbbjjkmbpaa", sum := "4d084d02018622c1c048443409a3bb99404fee0c6f58c814c283dbd57b3e64d3", func := "nestbox/nestboxlaw14.LooksTries", spec := "looksTries", inPlace := ["sync/atomic.StoreUint64", "sync/atomic.LoadUint64"], unfollowed := true, recurses := true, apart := false, narrowed := true }
def LooksTriesUptoSaid : Prop := looksTriesUptoRow.holds Try.pinned (OpenSpec.upto looksTriesSpec)

end Rows
end Go.Proofs.Ytmagpbbjjkmbpaa
