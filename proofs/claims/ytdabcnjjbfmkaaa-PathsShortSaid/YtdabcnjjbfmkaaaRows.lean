/-
  No cell of these rows narrows 'for every input' (looked for: loops, veiled, ifaces, maps, wideKeys, modest, calm, conditions, laid).
  DERIVED. THE GIVEN ROWS OF THIS SEAT. 4 by the template 'for every input the law returns true; each argument reads behind the call as it read before'; 0 by the template 'total and deterministic' (their statements: YtdabcnjjbfmkaaaTotals.lean).
  GIVEN WITH THE SEED: the statements are not yours to turn. If you find one false, say at which input.
  Laid BY PROGRAM, IN A SANDBOX (cutbox-rows.mjs): the forced cells as the released guide's own fill.sh prints them over the translation 7611a3b119de9a59… (all of the seat's roots in one cut). By AI agents, Wed Nov 11 2026. No macro, syntax, notation, axiom, sorry.
-/
import Derived.Test.YtdabcnjjbfmkaaaChecked
import GoSem.Claim
import GoSem.ClaimJoined
import GoSem.ClaimMapViews
import Derived.JoinedTies
import Derived.KernelRfl
namespace Go.Proofs.Ytdabcnjjbfmkaaa
/- THE CELL 'sum', in the pinned program and in every row, IS THE sha256 OF THE DUMP (.gsa) THAT YtdabcnjjbfmkaaaProg.lean LOADS. Nothing in Lean hashes anything: it is a label: what it is worth is what the hold of that sum in a sandbox is worth. -/
noncomputable def Try.pinned : Pinned := { name := "ytdabcnjjbfmkaaa", sum := "7611a3b119de9a595db5fefc5c5ab78772dbc7d579e50f0d6abd786aeb0b5f10", checked := Try.checked }
namespace Rows
def none {H : Type} : Left H := { results := [], args := [] }

/-- 'nestboxlaw10.WorldsSteps': WHATEVER THE INPUT: true; the input reads as it did. -/
def worldsStepsSpec : ChangeSpec := { name := "worldsSteps", fn := fun _ => fun
  | [d1, d2, d3] => { results := [.lit (.bool true)], args := [d1, d2, d3] }
  | _ => none }
def worldsStepsRow : OpenClaim := { program := "ytdabcnjjbfmkaaa", sum := "7611a3b119de9a595db5fefc5c5ab78772dbc7d579e50f0d6abd786aeb0b5f10", func := "nestbox/nestboxlaw10.WorldsSteps", spec := "worldsSteps", inPlace := ["sync/atomic.StoreUint64", "sync/atomic.LoadUint64", "sync/atomic.CompareAndSwapUint64", "sync/atomic.SwapUint64", "sync/atomic.AddUint64"], unfollowed := true, recurses := true, apart := false }
def WorldsStepsSaid : Prop := worldsStepsRow.holds Try.pinned (OpenSpec.ofChange worldsStepsSpec)

/-- ITS FALSE NEIGHBOUR: 'it returns false'. Refute it at one input. -/
def worldsStepsWrong : ChangeSpec := { name := "worldsSteps", fn := fun _ => fun
  | [d1, d2, d3] => { results := [.lit (.bool false)], args := [d1, d2, d3] }
  | _ => none }
def WorldsStepsWrongFalsely : Prop := worldsStepsRow.holds Try.pinned (OpenSpec.ofChange worldsStepsWrong)

/-- 'nestboxlaw14.LooksTries': WHATEVER THE INPUT: true; the input reads as it did. -/
def looksTriesSpec : ChangeSpec := { name := "looksTries", fn := fun _ => fun
  | [d1, d2, d3] => { results := [.lit (.bool true)], args := [d1, d2, d3] }
  | _ => none }
def looksTriesRow : OpenClaim := { program := "ytdabcnjjbfmkaaa", sum := "7611a3b119de9a595db5fefc5c5ab78772dbc7d579e50f0d6abd786aeb0b5f10", func := "nestbox/nestboxlaw14.LooksTries", spec := "looksTries", inPlace := ["sync/atomic.StoreUint64", "sync/atomic.LoadUint64"], unfollowed := true, recurses := true, apart := false }
def LooksTriesSaid : Prop := looksTriesRow.holds Try.pinned (OpenSpec.ofChange looksTriesSpec)

/-- ITS FALSE NEIGHBOUR: 'it returns false'. Refute it at one input. -/
def looksTriesWrong : ChangeSpec := { name := "looksTries", fn := fun _ => fun
  | [d1, d2, d3] => { results := [.lit (.bool false)], args := [d1, d2, d3] }
  | _ => none }
def LooksTriesWrongFalsely : Prop := looksTriesRow.holds Try.pinned (OpenSpec.ofChange looksTriesWrong)

/-- 'nestboxlaw16.PathsMore': WHATEVER THE INPUT: true; the input reads as it did. -/
def pathsMoreSpec : ChangeSpec := { name := "pathsMore", fn := fun _ => fun
  | [d1, d2] => { results := [.lit (.bool true)], args := [d1, d2] }
  | _ => none }
def pathsMoreRow : OpenClaim := { program := "ytdabcnjjbfmkaaa", sum := "7611a3b119de9a595db5fefc5c5ab78772dbc7d579e50f0d6abd786aeb0b5f10", func := "nestbox/nestboxlaw16.PathsMore", spec := "pathsMore", inPlace := ["sync/atomic.StoreUint64", "sync/atomic.SwapUint64", "sync/atomic.LoadUint64"], unfollowed := true, recurses := true, apart := false }
def PathsMoreSaid : Prop := pathsMoreRow.holds Try.pinned (OpenSpec.ofChange pathsMoreSpec)

/-- ITS FALSE NEIGHBOUR: 'it returns false'. Refute it at one input. -/
def pathsMoreWrong : ChangeSpec := { name := "pathsMore", fn := fun _ => fun
  | [d1, d2] => { results := [.lit (.bool false)], args := [d1, d2] }
  | _ => none }
def PathsMoreWrongFalsely : Prop := pathsMoreRow.holds Try.pinned (OpenSpec.ofChange pathsMoreWrong)

/-- 'nestboxlaw16.PathsShort': WHATEVER THE INPUT: true; the input reads as it did. -/
def pathsShortSpec : ChangeSpec := { name := "pathsShort", fn := fun _ => fun
  | [d] => { results := [.lit (.bool true)], args := [d] }
  | _ => none }
def pathsShortRow : OpenClaim := { program := "ytdabcnjjbfmkaaa", sum := "7611a3b119de9a595db5fefc5c5ab78772dbc7d579e50f0d6abd786aeb0b5f10", func := "nestbox/nestboxlaw16.PathsShort", spec := "pathsShort", inPlace := ["sync/atomic.StoreUint64", "sync/atomic.SwapUint64", "sync/atomic.LoadUint64"], unfollowed := true, recurses := true, apart := false }
def PathsShortSaid : Prop := pathsShortRow.holds Try.pinned (OpenSpec.ofChange pathsShortSpec)

/-- ITS FALSE NEIGHBOUR: 'it returns false'. Refute it at one input. -/
def pathsShortWrong : ChangeSpec := { name := "pathsShort", fn := fun _ => fun
  | [d] => { results := [.lit (.bool false)], args := [d] }
  | _ => none }
def PathsShortWrongFalsely : Prop := pathsShortRow.holds Try.pinned (OpenSpec.ofChange pathsShortWrong)

/- THE SECOND FORM. 'bulk': how many values and letters a reading holds, each counted each time it is reached (what is shared counts as often as it is met; a slice's spare places count too). A statement '..UptoSaid' is the law's where the arguments, and the package variables that the reading takes, are together of bulk at most 1048576: NARROWER than '..Said'. Prove '..Said' where nothing that the law and all that it calls make is longer than what came in: it says more and counts as full. Else prove '..UptoSaid'. A law counts once. -/
mutual
def uptoBulk {H : Type} : DataW H → Nat
  | .lit (.string bytes) => bytes.length + 1
  | .lit _ => 1
  | .nil => 1
  | .ptr d => uptoBulk d + 1
  | .slice elems spare => uptoBulkAll elems + uptoBulkAll spare + 1
  | .agg parts => uptoBulkAll parts + 1
  | .iface _ d => uptoBulk d + 1
  | .map entries => uptoBulkEntries entries + 1
  | .held _ => 1
def uptoBulkAll {H : Type} : List (DataW H) → Nat
  | [] => 0
  | d :: r => uptoBulk d + uptoBulkAll r
def uptoBulkEntries {H : Type} : List (Lit × DataW H) → Nat
  | [] => 0
  | x :: r => uptoBulkEntry x + uptoBulkEntries r
def uptoBulkEntry {H : Type} : Lit × DataW H → Nat
  | (.string bytes, d) => bytes.length + uptoBulk d + 1
  | (_, d) => uptoBulk d + 1
 end
def uptoSmall : (H : Type) → List (DataW H) → Bool := fun _ ds => decide (uptoBulkAll ds ≤ 1048576)
def OpenSpec.upto (s : _root_.Go.ChangeSpec) : _root_.Go.OpenSpec := { _root_.Go.OpenSpec.ofChange s with cond := some uptoSmall }

/-- 'nestboxlaw10.WorldsSteps', WHERE WHAT IT READS IS OF BULK AT MOST 1048576: true; the input reads as it did. -/
def worldsStepsUptoRow : OpenClaim := { program := "ytdabcnjjbfmkaaa", sum := "7611a3b119de9a595db5fefc5c5ab78772dbc7d579e50f0d6abd786aeb0b5f10", func := "nestbox/nestboxlaw10.WorldsSteps", spec := "worldsSteps", inPlace := ["sync/atomic.StoreUint64", "sync/atomic.LoadUint64", "sync/atomic.CompareAndSwapUint64", "sync/atomic.SwapUint64", "sync/atomic.AddUint64"], unfollowed := true, recurses := true, apart := false, narrowed := true }
def WorldsStepsUptoSaid : Prop := worldsStepsUptoRow.holds Try.pinned (OpenSpec.upto worldsStepsSpec)

/-- 'nestboxlaw14.LooksTries', WHERE WHAT IT READS IS OF BULK AT MOST 1048576: true; the input reads as it did. -/
def looksTriesUptoRow : OpenClaim := { program := "ytdabcnjjbfmkaaa", sum := "7611a3b119de9a595db5fefc5c5ab78772dbc7d579e50f0d6abd786aeb0b5f10", func := "nestbox/nestboxlaw14.LooksTries", spec := "looksTries", inPlace := ["sync/atomic.StoreUint64", "sync/atomic.LoadUint64"], unfollowed := true, recurses := true, apart := false, narrowed := true }
def LooksTriesUptoSaid : Prop := looksTriesUptoRow.holds Try.pinned (OpenSpec.upto looksTriesSpec)

/-- 'nestboxlaw16.PathsMore', WHERE WHAT IT READS IS OF BULK AT MOST 1048576: true; the input reads as it did. -/
def pathsMoreUptoRow : OpenClaim := { program := "ytdabcnjjbfmkaaa", sum := "7611a3b119de9a595db5fefc5c5ab78772dbc7d579e50f0d6abd786aeb0b5f10", func := "nestbox/nestboxlaw16.PathsMore", spec := "pathsMore", inPlace := ["sync/atomic.StoreUint64", "sync/atomic.SwapUint64", "sync/atomic.LoadUint64"], unfollowed := true, recurses := true, apart := false, narrowed := true }
def PathsMoreUptoSaid : Prop := pathsMoreUptoRow.holds Try.pinned (OpenSpec.upto pathsMoreSpec)

/-- 'nestboxlaw16.PathsShort', WHERE WHAT IT READS IS OF BULK AT MOST 1048576: true; the input reads as it did. -/
def pathsShortUptoRow : OpenClaim := { program := "ytdabcnjjbfmkaaa", sum := "7611a3b119de9a595db5fefc5c5ab78772dbc7d579e50f0d6abd786aeb0b5f10", func := "nestbox/nestboxlaw16.PathsShort", spec := "pathsShort", inPlace := ["sync/atomic.StoreUint64", "sync/atomic.SwapUint64", "sync/atomic.LoadUint64"], unfollowed := true, recurses := true, apart := false, narrowed := true }
def PathsShortUptoSaid : Prop := pathsShortUptoRow.holds Try.pinned (OpenSpec.upto pathsShortSpec)

end Rows
end Go.Proofs.Ytdabcnjjbfmkaaa
