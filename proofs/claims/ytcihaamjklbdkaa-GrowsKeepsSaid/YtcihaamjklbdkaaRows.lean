/-
  No cell of these rows narrows 'for every input' (looked for: loops, veiled, ifaces, maps, wideKeys, modest, calm, conditions, laid).
  DERIVED. THE GIVEN ROWS OF THIS SEAT. 3 by the template 'for every input the law returns true; each argument reads behind the call as it read before'; 0 by the template 'total and deterministic' (their statements: YtcihaamjklbdkaaTotals.lean).
  GIVEN WITH THE SEED: the statements are not yours to turn. If you find one false, say at which input.
  Laid BY PROGRAM, IN A SANDBOX (cutbox-rows.mjs): the forced cells as the released guide's own fill.sh prints them over the translation 01d858ac73110bb8… (all of the seat's roots in one cut). By AI agents, Wed Nov 11 2026. No macro, syntax, notation, axiom, sorry.
-/
import Derived.Test.YtcihaamjklbdkaaChecked
import GoSem.Claim
import GoSem.ClaimJoined
import GoSem.ClaimMapViews
import Derived.JoinedTies
import Derived.KernelRfl
namespace Go.Proofs.Ytcihaamjklbdkaa
/- THE CELL 'sum', in the pinned program and in every row, IS THE sha256 OF THE DUMP (.gsa) THAT YtcihaamjklbdkaaProg.lean LOADS. Nothing in Lean hashes anything: it is a label: what it is worth is what the hold of that sum in a sandbox is worth. -/
noncomputable def Try.pinned : Pinned := { name := "ytcihaamjklbdkaa", sum := "01d858ac73110bb8760790de2c1cf35dceb30425a9a4b7e08b2c7230d13746fd", checked := Try.checked }
namespace Rows
def none {H : Type} : Left H := { results := [], args := [] }

/-- 'nestboxlaw10.WorldsSteps': WHATEVER THE INPUT: true; the input reads as it did. -/
def worldsStepsSpec : ChangeSpec := { name := "worldsSteps", fn := fun _ => fun
  | [d1, d2, d3] => { results := [.lit (.bool true)], args := [d1, d2, d3] }
  | _ => none }
def worldsStepsRow : OpenClaim := { program := "ytcihaamjklbdkaa", sum := "01d858ac73110bb8760790de2c1cf35dceb30425a9a4b7e08b2c7230d13746fd", func := "nestbox/nestboxlaw10.WorldsSteps", spec := "worldsSteps", inPlace := ["sync/atomic.StoreUint64", "sync/atomic.LoadUint64", "sync/atomic.CompareAndSwapUint64", "sync/atomic.SwapUint64", "sync/atomic.AddUint64"], unfollowed := true, recurses := true, apart := false }
def WorldsStepsSaid : Prop := worldsStepsRow.holds Try.pinned (OpenSpec.ofChange worldsStepsSpec)

/-- ITS FALSE NEIGHBOUR: 'it returns false'. Refute it at one input. -/
def worldsStepsWrong : ChangeSpec := { name := "worldsSteps", fn := fun _ => fun
  | [d1, d2, d3] => { results := [.lit (.bool false)], args := [d1, d2, d3] }
  | _ => none }
def WorldsStepsWrongFalsely : Prop := worldsStepsRow.holds Try.pinned (OpenSpec.ofChange worldsStepsWrong)

/-- 'nestboxlaw19.GrowsOn': WHATEVER THE INPUT: true; the input reads as it did. -/
def growsOnSpec : ChangeSpec := { name := "growsOn", fn := fun _ => fun
  | [d1, d2] => { results := [.lit (.bool true)], args := [d1, d2] }
  | _ => none }
def growsOnRow : OpenClaim := { program := "ytcihaamjklbdkaa", sum := "01d858ac73110bb8760790de2c1cf35dceb30425a9a4b7e08b2c7230d13746fd", func := "nestbox/nestboxlaw19.GrowsOn", spec := "growsOn", inPlace := ["sync/atomic.StoreUint64", "sync/atomic.SwapUint64", "sync/atomic.LoadUint64"], unfollowed := true, recurses := true, apart := false }
def GrowsOnSaid : Prop := growsOnRow.holds Try.pinned (OpenSpec.ofChange growsOnSpec)

/-- ITS FALSE NEIGHBOUR: 'it returns false'. Refute it at one input. -/
def growsOnWrong : ChangeSpec := { name := "growsOn", fn := fun _ => fun
  | [d1, d2] => { results := [.lit (.bool false)], args := [d1, d2] }
  | _ => none }
def GrowsOnWrongFalsely : Prop := growsOnRow.holds Try.pinned (OpenSpec.ofChange growsOnWrong)

/-- 'nestboxlaw19.GrowsKeeps': WHATEVER THE INPUT: true; the input reads as it did. -/
def growsKeepsSpec : ChangeSpec := { name := "growsKeeps", fn := fun _ => fun
  | [d1, d2] => { results := [.lit (.bool true)], args := [d1, d2] }
  | _ => none }
def growsKeepsRow : OpenClaim := { program := "ytcihaamjklbdkaa", sum := "01d858ac73110bb8760790de2c1cf35dceb30425a9a4b7e08b2c7230d13746fd", func := "nestbox/nestboxlaw19.GrowsKeeps", spec := "growsKeeps", inPlace := ["sync/atomic.StoreUint64", "sync/atomic.LoadUint64"], unfollowed := true, recurses := true, apart := false }
def GrowsKeepsSaid : Prop := growsKeepsRow.holds Try.pinned (OpenSpec.ofChange growsKeepsSpec)

/-- ITS FALSE NEIGHBOUR: 'it returns false'. Refute it at one input. -/
def growsKeepsWrong : ChangeSpec := { name := "growsKeeps", fn := fun _ => fun
  | [d1, d2] => { results := [.lit (.bool false)], args := [d1, d2] }
  | _ => none }
def GrowsKeepsWrongFalsely : Prop := growsKeepsRow.holds Try.pinned (OpenSpec.ofChange growsKeepsWrong)

/- THE SECOND FORM. 'bulk': how many values and letters a reading holds, each counted each time it is reached (what is shared counts as often as it is met; a slice's spare places count too). A statement '..UptoSaid' is the law's where the arguments, and the package variables that the reading takes, are together of bulk at most 1048576: NARROWER than '..Said'. Prove '..Said' where nothing that the law and all that it calls make is longer than what came in: it says more and counts as full. Else prove '..UptoSaid'. A law counts once. -/
mutual
def uptoBulk {H : Type} : DataW H → Nat
  | .lit (.string bytes) => bytes.length + 1
  | .lit _ => 1
  | .nil => 1
  | .ptr d => uptoBulk d + 1
  | .slice elems spare => uptoBulkAll elems + uptoBulkAll spare + 1
  | .agg parts => uptoBulkAll parts + 1
  | .iface _ d => uptoBulk d + 1
  | .map entries => uptoBulkEntries entries + 1
  | .held _ => 1
def uptoBulkAll {H : Type} : List (DataW H) → Nat
  | [] => 0
  | d :: r => uptoBulk d + uptoBulkAll r
def uptoBulkEntries {H : Type} : List (Lit × DataW H) → Nat
  | [] => 0
  | x :: r => uptoBulkEntry x + uptoBulkEntries r
def uptoBulkEntry {H : Type} : Lit × DataW H → Nat
  | (.string bytes, d) => bytes.length + uptoBulk d + 1
  | (_, d) => uptoBulk d + 1
 end
def uptoSmall : (H : Type) → List (DataW H) → Bool := fun _ ds => decide (uptoBulkAll ds ≤ 1048576)
def OpenSpec.upto (s : _root_.Go.ChangeSpec) : _root_.Go.OpenSpec := { _root_.Go.OpenSpec.ofChange s with cond := some uptoSmall }

/-- 'nestboxlaw10.WorldsSteps', WHERE WHAT IT READS IS OF BULK AT MOST 1048576: true; the input reads as it did. -/
def worldsStepsUptoRow : OpenClaim := { program := "ytcihaamjklbdkaa", sum := "01d858ac73110bb8760790de2c1cf35dceb30425a9a4b7e08b2c7230d13746fd", func := "nestbox/nestboxlaw10.WorldsSteps", spec := "worldsSteps", inPlace := ["sync/atomic.StoreUint64", "sync/atomic.LoadUint64", "sync/atomic.CompareAndSwapUint64", "sync/atomic.SwapUint64", "sync/atomic.AddUint64"], unfollowed := true, recurses := true, apart := false, narrowed := true }
def WorldsStepsUptoSaid : Prop := worldsStepsUptoRow.holds Try.pinned (OpenSpec.upto worldsStepsSpec)

/-- 'nestboxlaw19.GrowsOn', WHERE WHAT IT READS IS OF BULK AT MOST 1048576: true; the input reads as it did. -/
def growsOnUptoRow : OpenClaim := { program := "ytcihaamjklbdkaa", sum := "01d858ac73110bb8760790de2c1cf35dceb30425a9a4b7e08b2c7230d13746fd", func := "nestbox/nestboxlaw19.GrowsOn", spec := "growsOn", inPlace := ["sync/atomic.StoreUint64", "sync/atomic.SwapUint64", "sync/atomic.LoadUint64"], unfollowed := true, recurses := true, apart := false, narrowed := true }
def GrowsOnUptoSaid : Prop := growsOnUptoRow.holds Try.pinned (OpenSpec.upto growsOnSpec)

/-- 'nestboxlaw19.GrowsKeeps', WHERE WHAT IT READS IS OF BULK AT MOST 1048576: true; the input reads as it did. -/
def growsKeepsUptoRow : OpenClaim := { program := "ytcihaamjklbdkaa", sum := "01d858ac73110bb8760790de2c1cf35dceb30425a9a4b7e08b2c7230d13746fd", func := "nestbox/nestboxlaw19.GrowsKeeps", spec := "growsKeeps", inPlace := ["sync/atomic.StoreUint64", "sync/atomic.LoadUint64"], unfollowed := true, recurses := true, apart := false, narrowed := true }
def GrowsKeepsUptoSaid : Prop := growsKeepsUptoRow.holds Try.pinned (OpenSpec.upto growsKeepsSpec)

end Rows
end Go.Proofs.Ytcihaamjklbdkaa
