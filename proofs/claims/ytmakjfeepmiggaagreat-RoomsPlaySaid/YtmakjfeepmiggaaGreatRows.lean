/-
  No cell of these rows narrows 'for every input' (looked for: loops, veiled, ifaces, maps, wideKeys, modest, calm, conditions, laid).
  DERIVED. THE GIVEN ROWS OF THIS SEAT. 4 by the template 'for every input the law returns true; each argument reads behind the call as it read before'; 0 by the template 'total and deterministic' (their statements: YtmakjfeepmiggaaGreatTotals.lean).
  GIVEN WITH THE SEED: the statements are not yours to turn. If you find one false, say at which input.
  Laid BY PROGRAM, IN A SANDBOX (cutbox-rows.mjs): the forced cells as the released guide's own fill.sh prints them over the translation 3122c0806d4300ab… (all of the seat's roots in one cut). By AI agents, Wed Nov 11 2026. No macro, syntax, notation, axiom, sorry.
-/
import Derived.Test.YtmakjfeepmiggaaGreatChecked
import GoSem.Claim
import GoSem.ClaimJoined
import GoSem.ClaimMapViews
import Derived.JoinedTies
import Derived.KernelRfl
namespace Go.Proofs.YtmakjfeepmiggaaGreat
/- THE CELL 'sum', in the pinned program and in every row, IS THE sha256 OF THE DUMP (.gsa) THAT YtmakjfeepmiggaaGreatProg.lean LOADS. Nothing in Lean hashes anything: it is a label: what it is worth is what the hold of that sum in a sandbox is worth. -/
noncomputable def Tryz.pinned : Pinned := { name := "ytmakjfeepmiggaagreat", sum := "3122c0806d4300abb410d95a9bf09e48f308a3854d7332003ce570039294bbd8", checked := Tryz.checked }
namespace Rows
def none {H : Type} : Left H := { results := [], args := [] }

/-- 'nestboxlaw16.PathsPlay': WHATEVER THE INPUT: true; the input reads as it did. -/
def pathsPlaySpec : ChangeSpec := { name := "pathsPlay", fn := fun _ => fun
  | [d1, d2] => { results := [.lit (.bool true)], args := [d1, d2] }
  | _ => none }
def pathsPlayRow : OpenClaim := { program := "ytmakjfeepmiggaagreat", sum := "3122c0806d4300abb410d95a9bf09e48f308a3854d7332003ce570039294bbd8", func := "nestbox/nestboxlaw16.PathsPlay", spec := "pathsPlay", inPlace := ["sync/atomic.StoreUint64", "sync/atomic.SwapUint64", "sync/atomic.LoadUint64", "sync/atomic.CompareAndSwapUint64"], unfollowed := true, recurses := true, apart := false }
def PathsPlaySaid : Prop := pathsPlayRow.holds Tryz.pinned (OpenSpec.ofChange pathsPlaySpec)

/-- ITS FALSE NEIGHBOUR: 'it returns false'. Refute it at one input. -/
def pathsPlayWrong : ChangeSpec := { name := "pathsPlay", fn := fun _ => fun
  | [d1, d2] => { results := [.lit (.bool false)], args := [d1, d2] }
  | _ => none }
def PathsPlayWrongFalsely : Prop := pathsPlayRow.holds Tryz.pinned (OpenSpec.ofChange pathsPlayWrong)

/-- 'nestboxlaw15.FindsPlay': WHATEVER THE INPUT: true; the input reads as it did. -/
def findsPlaySpec : ChangeSpec := { name := "findsPlay", fn := fun _ => fun
  | [d1, d2] => { results := [.lit (.bool true)], args := [d1, d2] }
  | _ => none }
def findsPlayRow : OpenClaim := { program := "ytmakjfeepmiggaagreat", sum := "3122c0806d4300abb410d95a9bf09e48f308a3854d7332003ce570039294bbd8", func := "nestbox/nestboxlaw15.FindsPlay", spec := "findsPlay", inPlace := ["sync/atomic.StoreUint64", "sync/atomic.LoadUint64", "sync/atomic.SwapUint64", "sync/atomic.CompareAndSwapUint64"], unfollowed := true, recurses := true, apart := false }
def FindsPlaySaid : Prop := findsPlayRow.holds Tryz.pinned (OpenSpec.ofChange findsPlaySpec)

/-- ITS FALSE NEIGHBOUR: 'it returns false'. Refute it at one input. -/
def findsPlayWrong : ChangeSpec := { name := "findsPlay", fn := fun _ => fun
  | [d1, d2] => { results := [.lit (.bool false)], args := [d1, d2] }
  | _ => none }
def FindsPlayWrongFalsely : Prop := findsPlayRow.holds Tryz.pinned (OpenSpec.ofChange findsPlayWrong)

/-- 'nestboxlaw14.LooksPlay': WHATEVER THE INPUT: true; the input reads as it did. -/
def looksPlaySpec : ChangeSpec := { name := "looksPlay", fn := fun _ => fun
  | [d1, d2] => { results := [.lit (.bool true)], args := [d1, d2] }
  | _ => none }
def looksPlayRow : OpenClaim := { program := "ytmakjfeepmiggaagreat", sum := "3122c0806d4300abb410d95a9bf09e48f308a3854d7332003ce570039294bbd8", func := "nestbox/nestboxlaw14.LooksPlay", spec := "looksPlay", inPlace := ["sync/atomic.StoreUint64", "sync/atomic.LoadUint64", "sync/atomic.SwapUint64", "sync/atomic.CompareAndSwapUint64"], unfollowed := true, recurses := true, apart := false }
def LooksPlaySaid : Prop := looksPlayRow.holds Tryz.pinned (OpenSpec.ofChange looksPlaySpec)

/-- ITS FALSE NEIGHBOUR: 'it returns false'. Refute it at one input. -/
def looksPlayWrong : ChangeSpec := { name := "looksPlay", fn := fun _ => fun
  | [d1, d2] => { results := [.lit (.bool false)], args := [d1, d2] }
  | _ => none }
def LooksPlayWrongFalsely : Prop := looksPlayRow.holds Tryz.pinned (OpenSpec.ofChange looksPlayWrong)

/-- 'nestboxlaw18.RoomsPlay': WHATEVER THE INPUT: true; the input reads as it did. -/
def roomsPlaySpec : ChangeSpec := { name := "roomsPlay", fn := fun _ => fun
  | [d1, d2] => { results := [.lit (.bool true)], args := [d1, d2] }
  | _ => none }
def roomsPlayRow : OpenClaim := { program := "ytmakjfeepmiggaagreat", sum := "3122c0806d4300abb410d95a9bf09e48f308a3854d7332003ce570039294bbd8", func := "nestbox/nestboxlaw18.RoomsPlay", spec := "roomsPlay", inPlace := ["sync/atomic.StoreUint64", "sync/atomic.LoadUint64", "sync/atomic.SwapUint64", "sync/atomic.CompareAndSwapUint64"], unfollowed := true, recurses := true, apart := false }
def RoomsPlaySaid : Prop := roomsPlayRow.holds Tryz.pinned (OpenSpec.ofChange roomsPlaySpec)

/-- ITS FALSE NEIGHBOUR: 'it returns false'. Refute it at one input. -/
def roomsPlayWrong : ChangeSpec := { name := "roomsPlay", fn := fun _ => fun
  | [d1, d2] => { results := [.lit (.bool false)], args := [d1, d2] }
  | _ => none }
def RoomsPlayWrongFalsely : Prop := roomsPlayRow.holds Tryz.pinned (OpenSpec.ofChange roomsPlayWrong)

/- THE SECOND FORM. 'bulk': how many values and letters a reading holds, each counted each time it is reached (what is shared counts as often as it is met; a slice's spare places count too). A statement '..UptoSaid' is the law's where the arguments, and the package variables that the reading takes, are together of bulk at most 1048576: NARROWER than '..Said'. Prove '..Said' where nothing that the law and all that it calls make is longer than what came in: it says more and counts as full. Else prove '..UptoSaid'. A law counts once. -/
mutual
def uptoBulk {H : Type} : DataW H → Nat
  | .lit (.string bytes) => bytes.length + 1
  | .lit _ => 1
  | .nil => 1
  | .ptr d => uptoBulk d + 1
  | .slice elems spare => uptoBulkAll elems + uptoBulkAll spare + 1
  | .agg parts => uptoBulkAll parts + 1
  | .iface _ d => uptoBulk d + 1
  | .map entries => uptoBulkEntries entries + 1
  | .held _ => 1
def uptoBulkAll {H : Type} : List (DataW H) → Nat
  | [] => 0
  | d :: r => uptoBulk d + uptoBulkAll r
def uptoBulkEntries {H : Type} : List (Lit × DataW H) → Nat
  | [] => 0
  | x :: r => uptoBulkEntry x + uptoBulkEntries r
def uptoBulkEntry {H : Type} : Lit × DataW H → Nat
  | (.string bytes, d) => bytes.length + uptoBulk d + 1
  | (_, d) => uptoBulk d + 1
 end
def uptoSmall : (H : Type) → List (DataW H) → Bool := fun _ ds => decide (uptoBulkAll ds ≤ 1048576)
def OpenSpec.upto (s : _root_.Go.ChangeSpec) : _root_.Go.OpenSpec := { _root_.Go.OpenSpec.ofChange s with cond := some uptoSmall }

/-- 'nestboxlaw16.PathsPlay', WHERE WHAT IT READS IS OF BULK AT MOST 1048576: true; the input reads as it did. -/
def pathsPlayUptoRow : OpenClaim := { program := "ytmakjfeepmiggaagreat", sum := "3122c0806d4300abb410d95a9bf09e48f308a3854d7332003ce570039294bbd8", func := "nestbox/nestboxlaw16.PathsPlay", spec := "pathsPlay", inPlace := ["sync/atomic.StoreUint64", "sync/atomic.SwapUint64", "sync/atomic.LoadUint64", "sync/atomic.CompareAndSwapUint64"], unfollowed := true, recurses := true, apart := false, narrowed := true }
def PathsPlayUptoSaid : Prop := pathsPlayUptoRow.holds Tryz.pinned (OpenSpec.upto pathsPlaySpec)

/-- 'nestboxlaw15.FindsPlay', WHERE WHAT IT READS IS OF BULK AT MOST 1048576: true; the input reads as it did. -/
def findsPlayUptoRow : OpenClaim := { program := "ytmakjfeepmiggaagreat", sum := "3122c0806d4300abb410d95a9bf09e48f308a3854d7332003ce570039294bbd8", func := "nestbox/nestboxlaw15.FindsPlay", spec := "findsPlay", inPlace := ["sync/atomic.StoreUint64", "sync/atomic.LoadUint64", "sync/atomic.SwapUint64", "sync/atomic.CompareAndSwapUint64"], unfollowed := true, recurses := true, apart := false, narrowed := true }
def FindsPlayUptoSaid : Prop := findsPlayUptoRow.holds Tryz.pinned (OpenSpec.upto findsPlaySpec)

/-- 'nestboxlaw14.LooksPlay', WHERE WHAT IT READS IS OF BULK AT MOST 1048576: true; the input reads as it did. -/
def looksPlayUptoRow : OpenClaim := { program := "ytmakjfeepmiggaagreat", sum := "3122c0806d4300abb410d95a9bf09e48f308a3854d7332003ce570039294bbd8", func := "nestbox/nestboxlaw14.LooksPlay", spec := "looksPlay", inPlace := ["sync/atomic.StoreUint64", "sync/atomic.LoadUint64", "sync/atomic.SwapUint64", "sync/atomic.CompareAndSwapUint64"], unfollowed := true, recurses := true, apart := false, narrowed := true }
def LooksPlayUptoSaid : Prop := looksPlayUptoRow.holds Tryz.pinned (OpenSpec.upto looksPlaySpec)

/-- 'nestboxlaw18.RoomsPlay', WHERE WHAT IT READS IS OF BULK AT MOST 1048576: true; the input reads as it did. -/
def roomsPlayUptoRow : OpenClaim := { program := "ytmakjfeepmiggaagreat", sum := "3122c0806d4300abb410d95a9bf09e48f308a3854d7332003ce570039294bbd8", func := "nestbox/nestboxlaw18.RoomsPlay", spec := "roomsPlay", inPlace := ["sync/atomic.StoreUint64", "sync/atomic.LoadUint64", "sync/atomic.SwapUint64", "sync/atomic.CompareAndSwapUint64"], unfollowed := true, recurses := true, apart := false, narrowed := true }
def RoomsPlayUptoSaid : Prop := roomsPlayUptoRow.holds Tryz.pinned (OpenSpec.upto roomsPlaySpec)

end Rows
end Go.Proofs.YtmakjfeepmiggaaGreat
