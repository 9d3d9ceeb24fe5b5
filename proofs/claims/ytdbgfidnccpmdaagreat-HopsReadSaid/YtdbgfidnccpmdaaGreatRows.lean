/-
  No cell of these rows narrows 'for every input' (looked for: loops, veiled, ifaces, maps, wideKeys, modest, calm, conditions, laid).
  DERIVED. THE GIVEN ROWS OF THIS SEAT. 7 by the template 'for every input the law returns true; each argument reads behind the call as it read before'; 0 by the template 'total and deterministic' (their statements: YtdbgfidnccpmdaaGreatTotals.lean).
  GIVEN WITH THE SEED: the statements are not yours to turn. If you find one false, say at which input.
  Laid BY PROGRAM, IN A SANDBOX (cutbox-rows.mjs): the forced cells as the released guide's own fill.sh prints them over the translation 3295d16002eed866… (all of the seat's roots in one cut). By AI agents, Wed Nov 11 2026. No macro, syntax, notation, axiom, sorry.
-/
import Derived.Test.YtdbgfidnccpmdaaGreatChecked
import GoSem.Claim
import GoSem.ClaimJoined
import GoSem.ClaimMapViews
import Derived.JoinedTies
import Derived.KernelRfl
namespace Go.Proofs.YtdbgfidnccpmdaaGreat
/- THE CELL 'sum', in the pinned program and in every row, IS THE sha256 OF THE DUMP (.gsa) THAT YtdbgfidnccpmdaaGreatProg.lean LOADS. Nothing in Lean hashes anything: it is a label: what it is worth is what the hold of that sum in a sandbox is worth. -/
noncomputable def Tryz.pinned : Pinned := { name := "ytdbgfidnccpmdaagreat", sum := "3295d16002eed86625e730e379c8ea2c88238e5bc447020a101dfa54d0464141", checked := Tryz.checked }
namespace Rows
def none {H : Type} : Left H := { results := [], args := [] }

/-- 'nestboxlaw34.HistsDrops': WHATEVER THE INPUT: true; the input reads as it did. -/
def histsDropsSpec : ChangeSpec := { name := "histsDrops", fn := fun _ => fun
  | [d1, d2] => { results := [.lit (.bool true)], args := [d1, d2] }
  | _ => none }
def histsDropsRow : OpenClaim := { program := "ytdbgfidnccpmdaagreat", sum := "3295d16002eed86625e730e379c8ea2c88238e5bc447020a101dfa54d0464141", func := "nestbox/nestboxlaw34.HistsDrops", spec := "histsDrops", inPlace := ["sync/atomic.StoreUint64", "sync/atomic.SwapUint64", "sync/atomic.LoadUint64", "sync/atomic.CompareAndSwapUint64"], unfollowed := true, recurses := true, apart := false }
def HistsDropsSaid : Prop := histsDropsRow.holds Tryz.pinned (OpenSpec.ofChange histsDropsSpec)

/-- ITS FALSE NEIGHBOUR: 'it returns false'. Refute it at one input. -/
def histsDropsWrong : ChangeSpec := { name := "histsDrops", fn := fun _ => fun
  | [d1, d2] => { results := [.lit (.bool false)], args := [d1, d2] }
  | _ => none }
def HistsDropsWrongFalsely : Prop := histsDropsRow.holds Tryz.pinned (OpenSpec.ofChange histsDropsWrong)

/-- 'nestboxlaw14.LooksPlay': WHATEVER THE INPUT: true; the input reads as it did. -/
def looksPlaySpec : ChangeSpec := { name := "looksPlay", fn := fun _ => fun
  | [d1, d2] => { results := [.lit (.bool true)], args := [d1, d2] }
  | _ => none }
def looksPlayRow : OpenClaim := { program := "ytdbgfidnccpmdaagreat", sum := "3295d16002eed86625e730e379c8ea2c88238e5bc447020a101dfa54d0464141", func := "nestbox/nestboxlaw14.LooksPlay", spec := "looksPlay", inPlace := ["sync/atomic.StoreUint64", "sync/atomic.LoadUint64", "sync/atomic.SwapUint64", "sync/atomic.CompareAndSwapUint64"], unfollowed := true, recurses := true, apart := false }
def LooksPlaySaid : Prop := looksPlayRow.holds Tryz.pinned (OpenSpec.ofChange looksPlaySpec)

/-- ITS FALSE NEIGHBOUR: 'it returns false'. Refute it at one input. -/
def looksPlayWrong : ChangeSpec := { name := "looksPlay", fn := fun _ => fun
  | [d1, d2] => { results := [.lit (.bool false)], args := [d1, d2] }
  | _ => none }
def LooksPlayWrongFalsely : Prop := looksPlayRow.holds Tryz.pinned (OpenSpec.ofChange looksPlayWrong)

/-- 'nestboxlaw14.LooksQuiet': WHATEVER THE INPUT: true; the input reads as it did. -/
def looksQuietSpec : ChangeSpec := { name := "looksQuiet", fn := fun _ => fun
  | [d] => { results := [.lit (.bool true)], args := [d] }
  | _ => none }
def looksQuietRow : OpenClaim := { program := "ytdbgfidnccpmdaagreat", sum := "3295d16002eed86625e730e379c8ea2c88238e5bc447020a101dfa54d0464141", func := "nestbox/nestboxlaw14.LooksQuiet", spec := "looksQuiet", inPlace := ["sync/atomic.StoreUint64", "sync/atomic.LoadUint64", "sync/atomic.SwapUint64"], unfollowed := true, recurses := true, apart := false }
def LooksQuietSaid : Prop := looksQuietRow.holds Tryz.pinned (OpenSpec.ofChange looksQuietSpec)

/-- ITS FALSE NEIGHBOUR: 'it returns false'. Refute it at one input. -/
def looksQuietWrong : ChangeSpec := { name := "looksQuiet", fn := fun _ => fun
  | [d] => { results := [.lit (.bool false)], args := [d] }
  | _ => none }
def LooksQuietWrongFalsely : Prop := looksQuietRow.holds Tryz.pinned (OpenSpec.ofChange looksQuietWrong)

/-- 'nestboxlaw14.LooksSo': WHATEVER THE INPUT: true; the input reads as it did. -/
def looksSoSpec : ChangeSpec := { name := "looksSo", fn := fun _ => fun
  | [d] => { results := [.lit (.bool true)], args := [d] }
  | _ => none }
def looksSoRow : OpenClaim := { program := "ytdbgfidnccpmdaagreat", sum := "3295d16002eed86625e730e379c8ea2c88238e5bc447020a101dfa54d0464141", func := "nestbox/nestboxlaw14.LooksSo", spec := "looksSo", inPlace := ["sync/atomic.StoreUint64", "sync/atomic.LoadUint64", "sync/atomic.SwapUint64", "sync/atomic.CompareAndSwapUint64"], unfollowed := true, recurses := true, apart := false }
def LooksSoSaid : Prop := looksSoRow.holds Tryz.pinned (OpenSpec.ofChange looksSoSpec)

/-- ITS FALSE NEIGHBOUR: 'it returns false'. Refute it at one input. -/
def looksSoWrong : ChangeSpec := { name := "looksSo", fn := fun _ => fun
  | [d] => { results := [.lit (.bool false)], args := [d] }
  | _ => none }
def LooksSoWrongFalsely : Prop := looksSoRow.holds Tryz.pinned (OpenSpec.ofChange looksSoWrong)

/-- 'nestboxlaw18.RoomsPlay': WHATEVER THE INPUT: true; the input reads as it did. -/
def roomsPlaySpec : ChangeSpec := { name := "roomsPlay", fn := fun _ => fun
  | [d1, d2] => { results := [.lit (.bool true)], args := [d1, d2] }
  | _ => none }
def roomsPlayRow : OpenClaim := { program := "ytdbgfidnccpmdaagreat", sum := "3295d16002eed86625e730e379c8ea2c88238e5bc447020a101dfa54d0464141", func := "nestbox/nestboxlaw18.RoomsPlay", spec := "roomsPlay", inPlace := ["sync/atomic.StoreUint64", "sync/atomic.LoadUint64", "sync/atomic.SwapUint64", "sync/atomic.CompareAndSwapUint64"], unfollowed := true, recurses := true, apart := false }
def RoomsPlaySaid : Prop := roomsPlayRow.holds Tryz.pinned (OpenSpec.ofChange roomsPlaySpec)

/-- ITS FALSE NEIGHBOUR: 'it returns false'. Refute it at one input. -/
def roomsPlayWrong : ChangeSpec := { name := "roomsPlay", fn := fun _ => fun
  | [d1, d2] => { results := [.lit (.bool false)], args := [d1, d2] }
  | _ => none }
def RoomsPlayWrongFalsely : Prop := roomsPlayRow.holds Tryz.pinned (OpenSpec.ofChange roomsPlayWrong)

/-- 'nestboxlaw18.RoomsMake': WHATEVER THE INPUT: true; the input reads as it did. -/
def roomsMakeSpec : ChangeSpec := { name := "roomsMake", fn := fun _ => fun
  | [d] => { results := [.lit (.bool true)], args := [d] }
  | _ => none }
def roomsMakeRow : OpenClaim := { program := "ytdbgfidnccpmdaagreat", sum := "3295d16002eed86625e730e379c8ea2c88238e5bc447020a101dfa54d0464141", func := "nestbox/nestboxlaw18.RoomsMake", spec := "roomsMake", inPlace := ["sync/atomic.StoreUint64", "sync/atomic.LoadUint64", "sync/atomic.SwapUint64"], unfollowed := true, recurses := true, apart := false }
def RoomsMakeSaid : Prop := roomsMakeRow.holds Tryz.pinned (OpenSpec.ofChange roomsMakeSpec)

/-- ITS FALSE NEIGHBOUR: 'it returns false'. Refute it at one input. -/
def roomsMakeWrong : ChangeSpec := { name := "roomsMake", fn := fun _ => fun
  | [d] => { results := [.lit (.bool false)], args := [d] }
  | _ => none }
def RoomsMakeWrongFalsely : Prop := roomsMakeRow.holds Tryz.pinned (OpenSpec.ofChange roomsMakeWrong)

/-- 'nestboxlaw17.HopsRead': WHATEVER THE INPUT: true; the input reads as it did. -/
def hopsReadSpec : ChangeSpec := { name := "hopsRead", fn := fun _ => fun
  | [d1, d2] => { results := [.lit (.bool true)], args := [d1, d2] }
  | _ => none }
def hopsReadRow : OpenClaim := { program := "ytdbgfidnccpmdaagreat", sum := "3295d16002eed86625e730e379c8ea2c88238e5bc447020a101dfa54d0464141", func := "nestbox/nestboxlaw17.HopsRead", spec := "hopsRead", inPlace := ["sync/atomic.StoreUint64", "sync/atomic.LoadUint64"], unfollowed := true, recurses := true, apart := false }
def HopsReadSaid : Prop := hopsReadRow.holds Tryz.pinned (OpenSpec.ofChange hopsReadSpec)

/-- ITS FALSE NEIGHBOUR: 'it returns false'. Refute it at one input. -/
def hopsReadWrong : ChangeSpec := { name := "hopsRead", fn := fun _ => fun
  | [d1, d2] => { results := [.lit (.bool false)], args := [d1, d2] }
  | _ => none }
def HopsReadWrongFalsely : Prop := hopsReadRow.holds Tryz.pinned (OpenSpec.ofChange hopsReadWrong)

/- THE SECOND FORM. 'bulk': how many values and letters a reading holds, each counted each time it is reached (what is shared counts as often as it is met; a slice's spare places count too). A statement '..UptoSaid' is the law's where the arguments, and the package variables that the reading takes, are together of bulk at most 1048576: NARROWER than '..Said'. Prove '..Said' where nothing that the law and all that it calls make is longer than what came in: it says more and counts as full. Else prove '..UptoSaid'. A law counts once. -/
mutual
def uptoBulk {H : Type} : DataW H → Nat
  | .lit (.string bytes) => bytes.length + 1
  | .lit _ => 1
  | .nil => 1
  | .ptr d => uptoBulk d + 1
  | .slice elems spare => uptoBulkAll elems + uptoBulkAll spare + 1
  | .agg parts => uptoBulkAll parts + 1
  | .iface _ d => uptoBulk d + 1
  | .map entries => uptoBulkEntries entries + 1
  | .held _ => 1
def uptoBulkAll {H : Type} : List (DataW H) → Nat
  | [] => 0
  | d :: r => uptoBulk d + uptoBulkAll r
def uptoBulkEntries {H : Type} : List (Lit × DataW H) → Nat
  | [] => 0
  | x :: r => uptoBulkEntry x + uptoBulkEntries r
def uptoBulkEntry {H : Type} : Lit × DataW H → Nat
  | (.string bytes, d) => bytes.length + uptoBulk d + 1
  | (_, d) => uptoBulk d + 1
 end
def uptoSmall : (H : Type) → List (DataW H) → Bool := fun _ ds => decide (uptoBulkAll ds ≤ 1048576)
def OpenSpec.upto (s : _root_.Go.ChangeSpec) : _root_.Go.OpenSpec := { _root_.Go.OpenSpec.ofChange s with cond := some uptoSmall }

/-- 'nestboxlaw34.HistsDrops', WHERE WHAT IT READS IS OF BULK AT MOST 1048576: true; the input reads as it did. -/
def histsDropsUptoRow : OpenClaim := { program := "ytdbgfidnccpmdaagreat", sum := "3295d16002eed86625e730e379c8ea2c88238e5bc447020a101dfa54d0464141", func := "nestbox/nestboxlaw34.HistsDrops", spec := "histsDrops", inPlace := ["sync/atomic.StoreUint64", "sync/atomic.SwapUint64", "sync/atomic.LoadUint64", "sync/atomic.CompareAndSwapUint64"], unfollowed := true, recurses := true, apart := false, narrowed := true }
def HistsDropsUptoSaid : Prop := histsDropsUptoRow.holds Tryz.pinned (OpenSpec.upto histsDropsSpec)

/-- 'nestboxlaw14.LooksPlay', WHERE WHAT IT READS IS OF BULK AT MOST 1048576: true; the input reads as it did. -/
def looksPlayUptoRow : OpenClaim := { program := "ytdbgfidnccpmdaagreat", sum := "3295d16002eed86625e730e379c8ea2c88238e5bc447020a101dfa54d0464141", func := "nestbox/nestboxlaw14.LooksPlay", spec := "looksPlay", inPlace := ["sync/atomic.StoreUint64", "sync/atomic.LoadUint64", "sync/atomic.SwapUint64", "sync/atomic.CompareAndSwapUint64"], unfollowed := true, recurses := true, apart := false, narrowed := true }
def LooksPlayUptoSaid : Prop := looksPlayUptoRow.holds Tryz.pinned (OpenSpec.upto looksPlaySpec)

/-- 'nestboxlaw14.LooksQuiet', WHERE WHAT IT READS IS OF BULK AT MOST 1048576: true; the input reads as it did. -/
def looksQuietUptoRow : OpenClaim := { program := "ytdbgfidnccpmdaagreat", sum := "3295d16002eed86625e730e379c8ea2c88238e5bc447020a101dfa54d0464141", func := "nestbox/nestboxlaw14.LooksQuiet", spec := "looksQuiet", inPlace := ["sync/atomic.StoreUint64", "sync/atomic.LoadUint64", "sync/atomic.SwapUint64"], unfollowed := true, recurses := true, apart := false, narrowed := true }
def LooksQuietUptoSaid : Prop := looksQuietUptoRow.holds Tryz.pinned (OpenSpec.upto looksQuietSpec)

/-- 'nestboxlaw14.LooksSo', WHERE WHAT IT READS IS OF BULK AT MOST 1048576: true; the input reads as it did. -/
def looksSoUptoRow : OpenClaim := { program := "ytdbgfidnccpmdaagreat", sum := "3295d16002eed86625e730e379c8ea2c88238e5bc447020a101dfa54d0464141", func := "nestbox/nestboxlaw14.LooksSo", spec := "looksSo", inPlace := ["sync/atomic.StoreUint64", "sync/atomic.LoadUint64", "sync/atomic.SwapUint64", "sync/atomic.CompareAndSwapUint64"], unfollowed := true, recurses := true, apart := false, narrowed := true }
def LooksSoUptoSaid : Prop := looksSoUptoRow.holds Tryz.pinned (OpenSpec.upto looksSoSpec)

/-- 'nestboxlaw18.RoomsPlay', WHERE WHAT IT READS IS OF BULK AT MOST 1048576: true; the input reads as it did. -/
def roomsPlayUptoRow : OpenClaim := { program := "ytdbgfidnccpmdaagreat", sum := "3295d16002eed86625e730e379c8ea2c88238e5bc447020a101dfa54d0464141", func := "nestbox/nestboxlaw18.RoomsPlay", spec := "roomsPlay", inPlace := ["sync/atomic.StoreUint64", "sync/atomic.LoadUint64", "sync/atomic.SwapUint64", "sync/atomic.CompareAndSwapUint64"], unfollowed := true, recurses := true, apart := false, narrowed := true }
def RoomsPlayUptoSaid : Prop := roomsPlayUptoRow.holds Tryz.pinned (OpenSpec.upto roomsPlaySpec)

/-- 'nestboxlaw18.RoomsMake', WHERE WHAT IT READS IS OF BULK AT MOST 1048576: true; the input reads as it did. -/
def roomsMakeUptoRow : OpenClaim := { program := "ytdbgfidnccpmdaagreat", sum := "3295d16002eed86625e730e379c8ea2c88238e5bc447020a101dfa54d0464141", func := "nestbox/nestboxlaw18.RoomsMake", spec := "roomsMake", inPlace := ["sync/atomic.StoreUint64", "sync/atomic.LoadUint64", "sync/atomic.SwapUint64"], unfollowed := true, recurses := true, apart := false, narrowed := true }
def RoomsMakeUptoSaid : Prop := roomsMakeUptoRow.holds Tryz.pinned (OpenSpec.upto roomsMakeSpec)

/-- 'nestboxlaw17.HopsRead', WHERE WHAT IT READS IS OF BULK AT MOST 1048576: true; the input reads as it did. -/
def hopsReadUptoRow : OpenClaim := { program := "ytdbgfidnccpmdaagreat", sum := "3295d16002eed86625e730e379c8ea2c88238e5bc447020a101dfa54d0464141", func := "nestbox/nestboxlaw17.HopsRead", spec := "hopsRead", inPlace := ["sync/atomic.StoreUint64", "sync/atomic.LoadUint64"], unfollowed := true, recurses := true, apart := false, narrowed := true }
def HopsReadUptoSaid : Prop := hopsReadUptoRow.holds Tryz.pinned (OpenSpec.upto hopsReadSpec)

end Rows
end Go.Proofs.YtdbgfidnccpmdaaGreat
