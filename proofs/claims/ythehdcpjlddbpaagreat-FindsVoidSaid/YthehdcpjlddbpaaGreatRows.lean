/-
  No cell of these rows narrows 'for every input' (looked for: loops, veiled, ifaces, maps, wideKeys, modest, calm, conditions, laid).
  DERIVED. THE GIVEN ROWS OF THIS SEAT. 7 by the template 'for every input the law returns true; each argument reads behind the call as it read before'; 0 by the template 'total and deterministic' (their statements: YthehdcpjlddbpaaGreatTotals.lean).
  GIVEN WITH THE SEED: the statements are not yours to turn. If you find one false, say at which input.
  Laid BY PROGRAM, IN A SANDBOX (cutbox-rows.mjs): the forced cells as the released guide's own fill.sh prints them over the translation 25ad4d2b8a39a6a8… (all of the seat's roots in one cut). By AI agents, Wed Nov 11 2026. No macro, syntax, notation, axiom, sorry.
-/
import Derived.Test.YthehdcpjlddbpaaGreatChecked
import GoSem.Claim
import GoSem.ClaimJoined
import GoSem.ClaimMapViews
import Derived.JoinedTies
import Derived.KernelRfl
namespace Go.Proofs.YthehdcpjlddbpaaGreat
/- THE CELL 'sum', in the pinned program and in every row, IS THE sha256 OF THE DUMP (.gsa) THAT YthehdcpjlddbpaaGreatProg.lean LOADS. Nothing in Lean hashes anything: it is a label: what it is worth is what the hold of that sum in a sandbox is worth. -/
noncomputable def Tryz.pinned : Pinned := { name := "ythehdcpjlddbpaagreat", sum := "25ad4d2b8a39a6a87553fb464bf0be20ee946ca624ba45f0d4fe839e0d6eccb6", checked := Tryz.checked }
namespace Rows
def none {H : Type} : Left H := { results := [], args := [] }

/-- 'nestboxlaw13.PutsBeside': WHATEVER THE INPUT: true; the input reads as it did. -/
def putsBesideSpec : ChangeSpec := { name := "putsBeside", fn := fun _ => fun
  | [d] => { results := [.lit (.bool true)], args := [d] }
  | _ => none }
def putsBesideRow : OpenClaim := { program := "ythehdcpjlddbpaagreat", sum := "25ad4d2b8a39a6a87553fb464bf0be20ee946ca624ba45f0d4fe839e0d6eccb6", func := "nestbox/nestboxlaw13.PutsBeside", spec := "putsBeside", inPlace := ["sync/atomic.StoreUint64", "sync/atomic.LoadUint64", "sync/atomic.SwapUint64", "sync/atomic.CompareAndSwapUint64"], unfollowed := true, recurses := true, apart := false }
def PutsBesideSaid : Prop := putsBesideRow.holds Tryz.pinned (OpenSpec.ofChange putsBesideSpec)

/-- ITS FALSE NEIGHBOUR: 'it returns false'. Refute it at one input. -/
def putsBesideWrong : ChangeSpec := { name := "putsBeside", fn := fun _ => fun
  | [d] => { results := [.lit (.bool false)], args := [d] }
  | _ => none }
def PutsBesideWrongFalsely : Prop := putsBesideRow.holds Tryz.pinned (OpenSpec.ofChange putsBesideWrong)

/-- 'nestboxlaw15.FindsPut': WHATEVER THE INPUT: true; the input reads as it did. -/
def findsPutSpec : ChangeSpec := { name := "findsPut", fn := fun _ => fun
  | [d1, d2, d3] => { results := [.lit (.bool true)], args := [d1, d2, d3] }
  | _ => none }
def findsPutRow : OpenClaim := { program := "ythehdcpjlddbpaagreat", sum := "25ad4d2b8a39a6a87553fb464bf0be20ee946ca624ba45f0d4fe839e0d6eccb6", func := "nestbox/nestboxlaw15.FindsPut", spec := "findsPut", inPlace := ["sync/atomic.StoreUint64", "sync/atomic.LoadUint64", "sync/atomic.SwapUint64", "sync/atomic.CompareAndSwapUint64"], unfollowed := true, recurses := true, apart := false }
def FindsPutSaid : Prop := findsPutRow.holds Tryz.pinned (OpenSpec.ofChange findsPutSpec)

/-- ITS FALSE NEIGHBOUR: 'it returns false'. Refute it at one input. -/
def findsPutWrong : ChangeSpec := { name := "findsPut", fn := fun _ => fun
  | [d1, d2, d3] => { results := [.lit (.bool false)], args := [d1, d2, d3] }
  | _ => none }
def FindsPutWrongFalsely : Prop := findsPutRow.holds Tryz.pinned (OpenSpec.ofChange findsPutWrong)

/-- 'nestboxlaw12.StripesTwice': WHATEVER THE INPUT: true; the input reads as it did. -/
def stripesTwiceSpec : ChangeSpec := { name := "stripesTwice", fn := fun _ => fun
  | [d1, d2] => { results := [.lit (.bool true)], args := [d1, d2] }
  | _ => none }
def stripesTwiceRow : OpenClaim := { program := "ythehdcpjlddbpaagreat", sum := "25ad4d2b8a39a6a87553fb464bf0be20ee946ca624ba45f0d4fe839e0d6eccb6", func := "nestbox/nestboxlaw12.StripesTwice", spec := "stripesTwice", inPlace := ["sync/atomic.StoreUint64", "sync/atomic.LoadUint64", "sync/atomic.SwapUint64", "sync/atomic.CompareAndSwapUint64"], unfollowed := true, recurses := true, apart := false }
def StripesTwiceSaid : Prop := stripesTwiceRow.holds Tryz.pinned (OpenSpec.ofChange stripesTwiceSpec)

/-- ITS FALSE NEIGHBOUR: 'it returns false'. Refute it at one input. -/
def stripesTwiceWrong : ChangeSpec := { name := "stripesTwice", fn := fun _ => fun
  | [d1, d2] => { results := [.lit (.bool false)], args := [d1, d2] }
  | _ => none }
def StripesTwiceWrongFalsely : Prop := stripesTwiceRow.holds Tryz.pinned (OpenSpec.ofChange stripesTwiceWrong)

/-- 'nestboxlaw15.FindsFirst': WHATEVER THE INPUT: true; the input reads as it did. -/
def findsFirstSpec : ChangeSpec := { name := "findsFirst", fn := fun _ => fun
  | [d1, d2] => { results := [.lit (.bool true)], args := [d1, d2] }
  | _ => none }
def findsFirstRow : OpenClaim := { program := "ythehdcpjlddbpaagreat", sum := "25ad4d2b8a39a6a87553fb464bf0be20ee946ca624ba45f0d4fe839e0d6eccb6", func := "nestbox/nestboxlaw15.FindsFirst", spec := "findsFirst", inPlace := ["sync/atomic.StoreUint64", "sync/atomic.LoadUint64", "sync/atomic.SwapUint64", "sync/atomic.CompareAndSwapUint64"], unfollowed := true, recurses := true, apart := false }
def FindsFirstSaid : Prop := findsFirstRow.holds Tryz.pinned (OpenSpec.ofChange findsFirstSpec)

/-- ITS FALSE NEIGHBOUR: 'it returns false'. Refute it at one input. -/
def findsFirstWrong : ChangeSpec := { name := "findsFirst", fn := fun _ => fun
  | [d1, d2] => { results := [.lit (.bool false)], args := [d1, d2] }
  | _ => none }
def FindsFirstWrongFalsely : Prop := findsFirstRow.holds Tryz.pinned (OpenSpec.ofChange findsFirstWrong)

/-- 'nestboxlaw15.FindsPlay': WHATEVER THE INPUT: true; the input reads as it did. -/
def findsPlaySpec : ChangeSpec := { name := "findsPlay", fn := fun _ => fun
  | [d1, d2] => { results := [.lit (.bool true)], args := [d1, d2] }
  | _ => none }
def findsPlayRow : OpenClaim := { program := "ythehdcpjlddbpaagreat", sum := "25ad4d2b8a39a6a87553fb464bf0be20ee946ca624ba45f0d4fe839e0d6eccb6", func := "nestbox/nestboxlaw15.FindsPlay", spec := "findsPlay", inPlace := ["sync/atomic.StoreUint64", "sync/atomic.LoadUint64", "sync/atomic.SwapUint64", "sync/atomic.CompareAndSwapUint64"], unfollowed := true, recurses := true, apart := false }
def FindsPlaySaid : Prop := findsPlayRow.holds Tryz.pinned (OpenSpec.ofChange findsPlaySpec)

/-- ITS FALSE NEIGHBOUR: 'it returns false'. Refute it at one input. -/
def findsPlayWrong : ChangeSpec := { name := "findsPlay", fn := fun _ => fun
  | [d1, d2] => { results := [.lit (.bool false)], args := [d1, d2] }
  | _ => none }
def FindsPlayWrongFalsely : Prop := findsPlayRow.holds Tryz.pinned (OpenSpec.ofChange findsPlayWrong)

/-- 'nestboxlaw15.FindsVoid': WHATEVER THE INPUT: true; the input reads as it did. -/
def findsVoidSpec : ChangeSpec := { name := "findsVoid", fn := fun _ => fun
  | [d] => { results := [.lit (.bool true)], args := [d] }
  | _ => none }
def findsVoidRow : OpenClaim := { program := "ythehdcpjlddbpaagreat", sum := "25ad4d2b8a39a6a87553fb464bf0be20ee946ca624ba45f0d4fe839e0d6eccb6", func := "nestbox/nestboxlaw15.FindsVoid", spec := "findsVoid", inPlace := ["sync/atomic.StoreUint64", "sync/atomic.SwapUint64", "sync/atomic.LoadUint64", "sync/atomic.CompareAndSwapUint64"], unfollowed := true, recurses := true, apart := false }
def FindsVoidSaid : Prop := findsVoidRow.holds Tryz.pinned (OpenSpec.ofChange findsVoidSpec)

/-- ITS FALSE NEIGHBOUR: 'it returns false'. Refute it at one input. -/
def findsVoidWrong : ChangeSpec := { name := "findsVoid", fn := fun _ => fun
  | [d] => { results := [.lit (.bool false)], args := [d] }
  | _ => none }
def FindsVoidWrongFalsely : Prop := findsVoidRow.holds Tryz.pinned (OpenSpec.ofChange findsVoidWrong)

/-- 'nestboxlaw19.GrowsPlay': WHATEVER THE INPUT: true; the input reads as it did. -/
def growsPlaySpec : ChangeSpec := { name := "growsPlay", fn := fun _ => fun
  | [d1, d2] => { results := [.lit (.bool true)], args := [d1, d2] }
  | _ => none }
def growsPlayRow : OpenClaim := { program := "ythehdcpjlddbpaagreat", sum := "25ad4d2b8a39a6a87553fb464bf0be20ee946ca624ba45f0d4fe839e0d6eccb6", func := "nestbox/nestboxlaw19.GrowsPlay", spec := "growsPlay", inPlace := ["sync/atomic.StoreUint64", "sync/atomic.LoadUint64", "sync/atomic.SwapUint64", "sync/atomic.CompareAndSwapUint64"], unfollowed := true, recurses := true, apart := false }
def GrowsPlaySaid : Prop := growsPlayRow.holds Tryz.pinned (OpenSpec.ofChange growsPlaySpec)

/-- ITS FALSE NEIGHBOUR: 'it returns false'. Refute it at one input. -/
def growsPlayWrong : ChangeSpec := { name := "growsPlay", fn := fun _ => fun
  | [d1, d2] => { results := [.lit (.bool false)], args := [d1, d2] }
  | _ => none }
def GrowsPlayWrongFalsely : Prop := growsPlayRow.holds Tryz.pinned (OpenSpec.ofChange growsPlayWrong)

/- THE SECOND FORM. 'bulk': how many values and letters a reading holds, each counted each time it is reached (what is shared counts as often as it is met; a slice's spare places count too). A statement '..UptoSaid' is the law's where the arguments, and the package variables that the reading takes, are together of bulk at most 1048576: NARROWER than '..Said'. Prove '..Said' where nothing that the law and all that it calls make is longer than what came in: it says more and counts as full. Else prove '..UptoSaid'. A law counts once. -/
mutual
def uptoBulk {H : Type} : DataW H → Nat
  | .lit (.string bytes) => bytes.length + 1
  | .lit _ => 1
  | .nil => 1
  | .ptr d => uptoBulk d + 1
  | .slice elems spare => uptoBulkAll elems + uptoBulkAll spare + 1
  | .agg parts => uptoBulkAll parts + 1
  | .iface _ d => uptoBulk d + 1
  | .map entries => uptoBulkEntries entries + 1
  | .held _ => 1
def uptoBulkAll {H : Type} : List (DataW H) → Nat
  | [] => 0
  | d :: r => uptoBulk d + uptoBulkAll r
def uptoBulkEntries {H : Type} : List (Lit × DataW H) → Nat
  | [] => 0
  | x :: r => uptoBulkEntry x + uptoBulkEntries r
def uptoBulkEntry {H : Type} : Lit × DataW H → Nat
  | (.string bytes, d) => bytes.length + uptoBulk d + 1
  | (_, d) => uptoBulk d + 1
 end
def uptoSmall : (H : Type) → List (DataW H) → Bool := fun _ ds => decide (uptoBulkAll ds ≤ 1048576)
def OpenSpec.upto (s : _root_.Go.ChangeSpec) : _root_.Go.OpenSpec := { _root_.Go.OpenSpec.ofChange s with cond := some uptoSmall }

/-- 'nestboxlaw13.PutsBeside', WHERE WHAT IT READS IS OF BULK AT MOST 1048576: true; the input reads as it did. -/
def putsBesideUptoRow : OpenClaim := { program := "ythehdcpjlddbpaagreat", sum := "25ad4d2b8a39a6a87553fb464bf0be20ee946ca624ba45f0d4fe839e0d6eccb6", func := "nestbox/nestboxlaw13.PutsBeside", spec := "putsBeside", inPlace := ["sync/atomic.StoreUint64", "sync/atomic.LoadUint64", "sync/atomic.SwapUint64", "sync/atomic.CompareAndSwapUint64"], unfollowed := true, recurses := true, apart := false, narrowed := true }
def PutsBesideUptoSaid : Prop := putsBesideUptoRow.holds Tryz.pinned (OpenSpec.upto putsBesideSpec)

/-- 'nestboxlaw15.FindsPut', WHERE WHAT IT READS IS OF BULK AT MOST 1048576: true; the input reads as it did. -/
def findsPutUptoRow : OpenClaim := { program := "ythehdcpjlddbpaagreat", sum := "25ad4d2b8a39a6a87553fb464bf0be20ee946ca624ba45f0d4fe839e0d6eccb6", func := "nestbox/nestboxlaw15.FindsPut", spec := "findsPut", inPlace := ["sync/atomic.StoreUint64", "sync/atomic.LoadUint64", "sync/atomic.SwapUint64", "sync/atomic.CompareAndSwapUint64"], unfollowed := true, recurses := true, apart := false, narrowed := true }
def FindsPutUptoSaid : Prop := findsPutUptoRow.holds Tryz.pinned (OpenSpec.upto findsPutSpec)

/-- 'nestboxlaw12.StripesTwice', WHERE WHAT IT READS IS OF BULK AT MOST 1048576: true; the input reads as it did. -/
def stripesTwiceUptoRow : OpenClaim := { program := "ythehdcpjlddbpaagreat", sum := "25ad4d2b8a39a6a87553fb464bf0be20ee946ca624ba45f0d4fe839e0d6eccb6", func := "nestbox/nestboxlaw12.StripesTwice", spec := "stripesTwice", inPlace := ["sync/atomic.StoreUint64", "sync/atomic.LoadUint64", "sync/atomic.SwapUint64", "sync/atomic.CompareAndSwapUint64"], unfollowed := true, recurses := true, apart := false, narrowed := true }
def StripesTwiceUptoSaid : Prop := stripesTwiceUptoRow.holds Tryz.pinned (OpenSpec.upto stripesTwiceSpec)

/-- 'nestboxlaw15.FindsFirst', WHERE WHAT IT READS IS OF BULK AT MOST 1048576: true; the input reads as it did. -/
def findsFirstUptoRow : OpenClaim := { program := "ythehdcpjlddbpaagreat", sum := "25ad4d2b8a39a6a87553fb464bf0be20ee946ca624ba45f0d4fe839e0d6eccb6", func := "nestbox/nestboxlaw15.FindsFirst", spec := "findsFirst", inPlace := ["sync/atomic.StoreUint64", "sync/atomic.LoadUint64", "sync/atomic.SwapUint64", "sync/atomic.CompareAndSwapUint64"], unfollowed := true, recurses := true, apart := false, narrowed := true }
def FindsFirstUptoSaid : Prop := findsFirstUptoRow.holds Tryz.pinned (OpenSpec.upto findsFirstSpec)

/-- 'nestboxlaw15.FindsPlay', WHERE WHAT IT READS IS OF BULK AT MOST 1048576: true; the input reads as it did. -/
def findsPlayUptoRow : OpenClaim := { program := "ythehdcpjlddbpaagreat", sum := "25ad4d2b8a39a6a87553fb464bf0be20ee946ca624ba45f0d4fe839e0d6eccb6", func := "nestbox/nestboxlaw15.FindsPlay", spec := "findsPlay", inPlace := ["sync/atomic.StoreUint64", "sync/atomic.LoadUint64", "sync/atomic.SwapUint64", "sync/atomic.CompareAndSwapUint64"], unfollowed := true, recurses := true, apart := false, narrowed := true }
def FindsPlayUptoSaid : Prop := findsPlayUptoRow.holds Tryz.pinned (OpenSpec.upto findsPlaySpec)

/-- 'nestboxlaw15.FindsVoid', WHERE WHAT IT READS IS OF BULK AT MOST 1048576: true; the input reads as it did. -/
def findsVoidUptoRow : OpenClaim := { program := "ythehdcpjlddbpaagreat", sum := "25ad4d2b8a39a6a87553fb464bf0be20ee946ca624ba45f0d4fe839e0d6eccb6", func := "nestbox/nestboxlaw15.FindsVoid", spec := "findsVoid", inPlace := ["sync/atomic.StoreUint64", "sync/atomic.SwapUint64", "sync/atomic.LoadUint64", "sync/atomic.CompareAndSwapUint64"], unfollowed := true, recurses := true, apart := false, narrowed := true }
def FindsVoidUptoSaid : Prop := findsVoidUptoRow.holds Tryz.pinned (OpenSpec.upto findsVoidSpec)

/-- 'nestboxlaw19.GrowsPlay', WHERE WHAT IT READS IS OF BULK AT MOST 1048576: true; the input reads as it did. -/
def growsPlayUptoRow : OpenClaim := { program := "ythehdcpjlddbpaagreat", sum := "25ad4d2b8a39a6a87553fb464bf0be20ee946ca624ba45f0d4fe839e0d6eccb6", func := "nestbox/nestboxlaw19.GrowsPlay", spec := "growsPlay", inPlace := ["sync/atomic.StoreUint64", "sync/atomic.LoadUint64", "sync/atomic.SwapUint64", "sync/atomic.CompareAndSwapUint64"], unfollowed := true, recurses := true, apart := false, narrowed := true }
def GrowsPlayUptoSaid : Prop := growsPlayUptoRow.holds Tryz.pinned (OpenSpec.upto growsPlaySpec)

end Rows
end Go.Proofs.YthehdcpjlddbpaaGreat
