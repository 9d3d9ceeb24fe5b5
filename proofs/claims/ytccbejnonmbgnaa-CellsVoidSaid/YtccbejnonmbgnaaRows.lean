/-
  No cell of these rows narrows 'for every input' (looked for: loops, veiled, ifaces, maps, wideKeys, modest, calm, conditions, laid).
  DERIVED. THE GIVEN ROWS OF THIS SEAT. 12 by the template 'for every input the law returns true; each argument reads behind the call as it read before'; 0 by the template 'total and deterministic' (their statements: YtccbejnonmbgnaaTotals.lean).
  GIVEN WITH THE SEED: the statements are not yours to turn. If you find one false, say at which input.
  Laid BY PROGRAM, IN A SANDBOX (cutbox-rows.mjs): the forced cells as the released guide's own fill.sh prints them over the translation f0c3c8d51c658443… (all of the seat's roots in one cut). By AI agents, Wed Nov 11 2026. No macro, syntax, notation, axiom, sorry.
-/
import Derived.Test.YtccbejnonmbgnaaChecked
import GoSem.Claim
import GoSem.ClaimJoined
import GoSem.ClaimMapViews
import Derived.JoinedTies
import Derived.KernelRfl
namespace Go.Proofs.Ytccbejnonmbgnaa
/- THE CELL 'sum', in the pinned program and in every row, IS THE sha256 OF THE DUMP (.gsa) THAT YtccbejnonmbgnaaProg.lean LOADS. Nothing in Lean hashes anything: it is a label: what it is worth is what the hold of that sum in a sandbox is worth. -/
noncomputable def Try.pinned : Pinned := { name := "ytccbejnonmbgnaa", sum := "f0c3c8d51c658443fc14350594ba026be55b719f993a046a7502bdede25467e4", checked := Try.checked }
namespace Rows
def none {H : Type} : Left H := { results := [], args := [] }

/-- 'nestboxlaw12.StripesOf': WHATEVER THE INPUT: true; the input reads as it did. -/
def stripesOfSpec : ChangeSpec := { name := "stripesOf", fn := fun _ => fun
  | [d1, d2] => { results := [.lit (.bool true)], args := [d1, d2] }
  | _ => none }
def stripesOfRow : OpenClaim := { program := "ytccbejnonmbgnaa", sum := "f0c3c8d51c658443fc14350594ba026be55b719f993a046a7502bdede25467e4", func := "nestbox/nestboxlaw12.StripesOf", spec := "stripesOf", inPlace := ["sync/atomic.StoreUint64", "sync/atomic.LoadUint64"], unfollowed := true, recurses := true, apart := false }
def StripesOfSaid : Prop := stripesOfRow.holds Try.pinned (OpenSpec.ofChange stripesOfSpec)

/-- ITS FALSE NEIGHBOUR: 'it returns false'. Refute it at one input. -/
def stripesOfWrong : ChangeSpec := { name := "stripesOf", fn := fun _ => fun
  | [d1, d2] => { results := [.lit (.bool false)], args := [d1, d2] }
  | _ => none }
def StripesOfWrongFalsely : Prop := stripesOfRow.holds Try.pinned (OpenSpec.ofChange stripesOfWrong)

/-- 'nestboxlaw12.StripesSeen': WHATEVER THE INPUT: true; the input reads as it did. -/
def stripesSeenSpec : ChangeSpec := { name := "stripesSeen", fn := fun _ => fun
  | [d1, d2, d3] => { results := [.lit (.bool true)], args := [d1, d2, d3] }
  | _ => none }
def stripesSeenRow : OpenClaim := { program := "ytccbejnonmbgnaa", sum := "f0c3c8d51c658443fc14350594ba026be55b719f993a046a7502bdede25467e4", func := "nestbox/nestboxlaw12.StripesSeen", spec := "stripesSeen", inPlace := ["sync/atomic.StoreUint64", "sync/atomic.LoadUint64", "sync/atomic.AddUint64"], unfollowed := true, recurses := true, apart := false }
def StripesSeenSaid : Prop := stripesSeenRow.holds Try.pinned (OpenSpec.ofChange stripesSeenSpec)

/-- ITS FALSE NEIGHBOUR: 'it returns false'. Refute it at one input. -/
def stripesSeenWrong : ChangeSpec := { name := "stripesSeen", fn := fun _ => fun
  | [d1, d2, d3] => { results := [.lit (.bool false)], args := [d1, d2, d3] }
  | _ => none }
def StripesSeenWrongFalsely : Prop := stripesSeenRow.holds Try.pinned (OpenSpec.ofChange stripesSeenWrong)

/-- 'nestboxlaw10.WorldsGrow': WHATEVER THE INPUT: true; the input reads as it did. -/
def worldsGrowSpec : ChangeSpec := { name := "worldsGrow", fn := fun _ => fun
  | [d] => { results := [.lit (.bool true)], args := [d] }
  | _ => none }
def worldsGrowRow : OpenClaim := { program := "ytccbejnonmbgnaa", sum := "f0c3c8d51c658443fc14350594ba026be55b719f993a046a7502bdede25467e4", func := "nestbox/nestboxlaw10.WorldsGrow", spec := "worldsGrow", inPlace := ["sync/atomic.StoreUint64", "sync/atomic.LoadUint64", "sync/atomic.CompareAndSwapUint64", "sync/atomic.SwapUint64"], unfollowed := true, recurses := true, apart := false }
def WorldsGrowSaid : Prop := worldsGrowRow.holds Try.pinned (OpenSpec.ofChange worldsGrowSpec)

/-- ITS FALSE NEIGHBOUR: 'it returns false'. Refute it at one input. -/
def worldsGrowWrong : ChangeSpec := { name := "worldsGrow", fn := fun _ => fun
  | [d] => { results := [.lit (.bool false)], args := [d] }
  | _ => none }
def WorldsGrowWrongFalsely : Prop := worldsGrowRow.holds Try.pinned (OpenSpec.ofChange worldsGrowWrong)

/-- 'nestboxlaw10.WorldsFull': WHATEVER THE INPUT: true; the input reads as it did. -/
def worldsFullSpec : ChangeSpec := { name := "worldsFull", fn := fun _ => fun
  | [d1, d2] => { results := [.lit (.bool true)], args := [d1, d2] }
  | _ => none }
def worldsFullRow : OpenClaim := { program := "ytccbejnonmbgnaa", sum := "f0c3c8d51c658443fc14350594ba026be55b719f993a046a7502bdede25467e4", func := "nestbox/nestboxlaw10.WorldsFull", spec := "worldsFull", inPlace := ["sync/atomic.StoreUint64", "sync/atomic.LoadUint64", "sync/atomic.CompareAndSwapUint64", "sync/atomic.SwapUint64"], unfollowed := true, recurses := true, apart := false }
def WorldsFullSaid : Prop := worldsFullRow.holds Try.pinned (OpenSpec.ofChange worldsFullSpec)

/-- ITS FALSE NEIGHBOUR: 'it returns false'. Refute it at one input. -/
def worldsFullWrong : ChangeSpec := { name := "worldsFull", fn := fun _ => fun
  | [d1, d2] => { results := [.lit (.bool false)], args := [d1, d2] }
  | _ => none }
def WorldsFullWrongFalsely : Prop := worldsFullRow.holds Try.pinned (OpenSpec.ofChange worldsFullWrong)

/-- 'nestboxlaw11.TicketsOne': WHATEVER THE INPUT: true; the input reads as it did. -/
def ticketsOneSpec : ChangeSpec := { name := "ticketsOne", fn := fun _ => fun
  | [d1, d2, d3] => { results := [.lit (.bool true)], args := [d1, d2, d3] }
  | _ => none }
def ticketsOneRow : OpenClaim := { program := "ytccbejnonmbgnaa", sum := "f0c3c8d51c658443fc14350594ba026be55b719f993a046a7502bdede25467e4", func := "nestbox/nestboxlaw11.TicketsOne", spec := "ticketsOne", inPlace := ["sync/atomic.StoreUint64", "sync/atomic.SwapUint64", "sync/atomic.LoadUint64", "sync/atomic.CompareAndSwapUint64", "sync/atomic.AddUint64"], unfollowed := true, recurses := true, apart := false }
def TicketsOneSaid : Prop := ticketsOneRow.holds Try.pinned (OpenSpec.ofChange ticketsOneSpec)

/-- ITS FALSE NEIGHBOUR: 'it returns false'. Refute it at one input. -/
def ticketsOneWrong : ChangeSpec := { name := "ticketsOne", fn := fun _ => fun
  | [d1, d2, d3] => { results := [.lit (.bool false)], args := [d1, d2, d3] }
  | _ => none }
def TicketsOneWrongFalsely : Prop := ticketsOneRow.holds Try.pinned (OpenSpec.ofChange ticketsOneWrong)

/-- 'nestboxlaw10.WorldsVoid': WHATEVER THE INPUT: true; the input reads as it did. -/
def worldsVoidSpec : ChangeSpec := { name := "worldsVoid", fn := fun _ => fun
  | [d] => { results := [.lit (.bool true)], args := [d] }
  | _ => none }
def worldsVoidRow : OpenClaim := { program := "ytccbejnonmbgnaa", sum := "f0c3c8d51c658443fc14350594ba026be55b719f993a046a7502bdede25467e4", func := "nestbox/nestboxlaw10.WorldsVoid", spec := "worldsVoid", inPlace := ["sync/atomic.LoadUint64", "sync/atomic.CompareAndSwapUint64", "sync/atomic.StoreUint64"], unfollowed := true, recurses := true, apart := false }
def WorldsVoidSaid : Prop := worldsVoidRow.holds Try.pinned (OpenSpec.ofChange worldsVoidSpec)

/-- ITS FALSE NEIGHBOUR: 'it returns false'. Refute it at one input. -/
def worldsVoidWrong : ChangeSpec := { name := "worldsVoid", fn := fun _ => fun
  | [d] => { results := [.lit (.bool false)], args := [d] }
  | _ => none }
def WorldsVoidWrongFalsely : Prop := worldsVoidRow.holds Try.pinned (OpenSpec.ofChange worldsVoidWrong)

/-- 'nestboxlaw11.TicketsFree': WHATEVER THE INPUT: true; the input reads as it did. -/
def ticketsFreeSpec : ChangeSpec := { name := "ticketsFree", fn := fun _ => fun
  | [d1, d2, d3] => { results := [.lit (.bool true)], args := [d1, d2, d3] }
  | _ => none }
def ticketsFreeRow : OpenClaim := { program := "ytccbejnonmbgnaa", sum := "f0c3c8d51c658443fc14350594ba026be55b719f993a046a7502bdede25467e4", func := "nestbox/nestboxlaw11.TicketsFree", spec := "ticketsFree", inPlace := ["sync/atomic.StoreUint64", "sync/atomic.SwapUint64", "sync/atomic.LoadUint64", "sync/atomic.CompareAndSwapUint64", "sync/atomic.AddUint64"], unfollowed := true, recurses := true, apart := false }
def TicketsFreeSaid : Prop := ticketsFreeRow.holds Try.pinned (OpenSpec.ofChange ticketsFreeSpec)

/-- ITS FALSE NEIGHBOUR: 'it returns false'. Refute it at one input. -/
def ticketsFreeWrong : ChangeSpec := { name := "ticketsFree", fn := fun _ => fun
  | [d1, d2, d3] => { results := [.lit (.bool false)], args := [d1, d2, d3] }
  | _ => none }
def TicketsFreeWrongFalsely : Prop := ticketsFreeRow.holds Try.pinned (OpenSpec.ofChange ticketsFreeWrong)

/-- 'nestboxlaw13.PutsNever': WHATEVER THE INPUT: true; the input reads as it did. -/
def putsNeverSpec : ChangeSpec := { name := "putsNever", fn := fun _ => fun
  | [d1, d2] => { results := [.lit (.bool true)], args := [d1, d2] }
  | _ => none }
def putsNeverRow : OpenClaim := { program := "ytccbejnonmbgnaa", sum := "f0c3c8d51c658443fc14350594ba026be55b719f993a046a7502bdede25467e4", func := "nestbox/nestboxlaw13.PutsNever", spec := "putsNever", inPlace := ["sync/atomic.StoreUint64", "sync/atomic.LoadUint64", "sync/atomic.SwapUint64"], unfollowed := true, recurses := true, apart := false }
def PutsNeverSaid : Prop := putsNeverRow.holds Try.pinned (OpenSpec.ofChange putsNeverSpec)

/-- ITS FALSE NEIGHBOUR: 'it returns false'. Refute it at one input. -/
def putsNeverWrong : ChangeSpec := { name := "putsNever", fn := fun _ => fun
  | [d1, d2] => { results := [.lit (.bool false)], args := [d1, d2] }
  | _ => none }
def PutsNeverWrongFalsely : Prop := putsNeverRow.holds Try.pinned (OpenSpec.ofChange putsNeverWrong)

/-- 'nestboxlaw11.TicketsWaits': WHATEVER THE INPUT: true; the input reads as it did. -/
def ticketsWaitsSpec : ChangeSpec := { name := "ticketsWaits", fn := fun _ => fun
  | [d1, d2] => { results := [.lit (.bool true)], args := [d1, d2] }
  | _ => none }
def ticketsWaitsRow : OpenClaim := { program := "ytccbejnonmbgnaa", sum := "f0c3c8d51c658443fc14350594ba026be55b719f993a046a7502bdede25467e4", func := "nestbox/nestboxlaw11.TicketsWaits", spec := "ticketsWaits", inPlace := ["sync/atomic.StoreUint64", "sync/atomic.SwapUint64", "sync/atomic.LoadUint64", "sync/atomic.CompareAndSwapUint64", "sync/atomic.AddUint64"], unfollowed := true, recurses := true, apart := false }
def TicketsWaitsSaid : Prop := ticketsWaitsRow.holds Try.pinned (OpenSpec.ofChange ticketsWaitsSpec)

/-- ITS FALSE NEIGHBOUR: 'it returns false'. Refute it at one input. -/
def ticketsWaitsWrong : ChangeSpec := { name := "ticketsWaits", fn := fun _ => fun
  | [d1, d2] => { results := [.lit (.bool false)], args := [d1, d2] }
  | _ => none }
def TicketsWaitsWrongFalsely : Prop := ticketsWaitsRow.holds Try.pinned (OpenSpec.ofChange ticketsWaitsWrong)

/-- 'nestboxlaw10.WorldsSteps': WHATEVER THE INPUT: true; the input reads as it did. -/
def worldsStepsSpec : ChangeSpec := { name := "worldsSteps", fn := fun _ => fun
  | [d1, d2, d3] => { results := [.lit (.bool true)], args := [d1, d2, d3] }
  | _ => none }
def worldsStepsRow : OpenClaim := { program := "ytccbejnonmbgnaa", sum := "f0c3c8d51c658443fc14350594ba026be55b719f993a046a7502bdede25467e4", func := "nestbox/nestboxlaw10.WorldsSteps", spec := "worldsSteps", inPlace := ["sync/atomic.StoreUint64", "sync/atomic.LoadUint64", "sync/atomic.CompareAndSwapUint64", "sync/atomic.SwapUint64", "sync/atomic.AddUint64"], unfollowed := true, recurses := true, apart := false }
def WorldsStepsSaid : Prop := worldsStepsRow.holds Try.pinned (OpenSpec.ofChange worldsStepsSpec)

/-- ITS FALSE NEIGHBOUR: 'it returns false'. Refute it at one input. -/
def worldsStepsWrong : ChangeSpec := { name := "worldsSteps", fn := fun _ => fun
  | [d1, d2, d3] => { results := [.lit (.bool false)], args := [d1, d2, d3] }
  | _ => none }
def WorldsStepsWrongFalsely : Prop := worldsStepsRow.holds Try.pinned (OpenSpec.ofChange worldsStepsWrong)

/-- 'nestboxlaw05.CellsVoid': WHATEVER THE INPUT: true; the input reads as it did. -/
def cellsVoidSpec : ChangeSpec := { name := "cellsVoid", fn := fun _ => fun
  | [d] => { results := [.lit (.bool true)], args := [d] }
  | _ => none }
def cellsVoidRow : OpenClaim := { program := "ytccbejnonmbgnaa", sum := "f0c3c8d51c658443fc14350594ba026be55b719f993a046a7502bdede25467e4", func := "nestbox/nestboxlaw05.CellsVoid", spec := "cellsVoid", inPlace := ["sync/atomic.CompareAndSwapUint64", "sync/atomic.LoadUint64", "sync/atomic.SwapUint64", "sync/atomic.AddUint64", "sync/atomic.StoreUint64"], unfollowed := true, recurses := true, apart := false }
def CellsVoidSaid : Prop := cellsVoidRow.holds Try.pinned (OpenSpec.ofChange cellsVoidSpec)

/-- ITS FALSE NEIGHBOUR: 'it returns false'. Refute it at one input. -/
def cellsVoidWrong : ChangeSpec := { name := "cellsVoid", fn := fun _ => fun
  | [d] => { results := [.lit (.bool false)], args := [d] }
  | _ => none }
def CellsVoidWrongFalsely : Prop := cellsVoidRow.holds Try.pinned (OpenSpec.ofChange cellsVoidWrong)

/-- 'nestboxlaw05.CellsPlay': WHATEVER THE INPUT: true; the input reads as it did. -/
def cellsPlaySpec : ChangeSpec := { name := "cellsPlay", fn := fun _ => fun
  | [d1, d2] => { results := [.lit (.bool true)], args := [d1, d2] }
  | _ => none }
def cellsPlayRow : OpenClaim := { program := "ytccbejnonmbgnaa", sum := "f0c3c8d51c658443fc14350594ba026be55b719f993a046a7502bdede25467e4", func := "nestbox/nestboxlaw05.CellsPlay", spec := "cellsPlay", inPlace := ["sync/atomic.StoreUint64", "sync/atomic.SwapUint64", "sync/atomic.LoadUint64", "sync/atomic.CompareAndSwapUint64", "sync/atomic.AddUint64"], unfollowed := true, recurses := true, apart := false }
def CellsPlaySaid : Prop := cellsPlayRow.holds Try.pinned (OpenSpec.ofChange cellsPlaySpec)

/-- ITS FALSE NEIGHBOUR: 'it returns false'. Refute it at one input. -/
def cellsPlayWrong : ChangeSpec := { name := "cellsPlay", fn := fun _ => fun
  | [d1, d2] => { results := [.lit (.bool false)], args := [d1, d2] }
  | _ => none }
def CellsPlayWrongFalsely : Prop := cellsPlayRow.holds Try.pinned (OpenSpec.ofChange cellsPlayWrong)

/- THE SECOND FORM. 'bulk': how many values and letters a reading holds, each counted each time it is reached (what is shared counts as often as it is met; a slice's spare places count too). A statement '..UptoSaid' is the law's where the arguments, and the package variables that the reading takes, are together of bulk at most 1048576: NARROWER than '..Said'. Prove '..Said' where nothing that the law and all that it calls make is longer than what came in: it says more and counts as full. Else prove '..UptoSaid'. A law counts once. -/
mutual
def uptoBulk {H : Type} : DataW H → Nat
  | .lit (.string bytes) => bytes.length + 1
  | .lit _ => 1
  | .nil => 1
  | .ptr d => uptoBulk d + 1
  | .slice elems spare => uptoBulkAll elems + uptoBulkAll spare + 1
  | .agg parts => uptoBulkAll parts + 1
  | .iface _ d => uptoBulk d + 1
  | .map entries => uptoBulkEntries entries + 1
  | .held _ => 1
def uptoBulkAll {H : Type} : List (DataW H) → Nat
  | [] => 0
  | d :: r => uptoBulk d + uptoBulkAll r
def uptoBulkEntries {H : Type} : List (Lit × DataW H) → Nat
  | [] => 0
  | x :: r => uptoBulkEntry x + uptoBulkEntries r
def uptoBulkEntry {H : Type} : Lit × DataW H → Nat
  | (.string bytes, d) => bytes.length + uptoBulk d + 1
  | (_, d) => uptoBulk d + 1
 end
def uptoSmall : (H : Type) → List (DataW H) → Bool := fun _ ds => decide (uptoBulkAll ds ≤ 1048576)
def OpenSpec.upto (s : _root_.Go.ChangeSpec) : _root_.Go.OpenSpec := { _root_.Go.OpenSpec.ofChange s with cond := some uptoSmall }

/-- 'nestboxlaw12.StripesOf', WHERE WHAT IT READS IS OF BULK AT MOST 1048576: true; the input reads as it did. -/
def stripesOfUptoRow : OpenClaim := { program := "ytccbejnonmbgnaa", sum := "f0c3c8d51c658443fc14350594ba026be55b719f993a046a7502bdede25467e4", func := "nestbox/nestboxlaw12.StripesOf", spec := "stripesOf", inPlace := ["sync/atomic.StoreUint64", "sync/atomic.LoadUint64"], unfollowed := true, recurses := true, apart := false, narrowed := true }
def StripesOfUptoSaid : Prop := stripesOfUptoRow.holds Try.pinned (OpenSpec.upto stripesOfSpec)

/-- 'nestboxlaw12.StripesSeen', WHERE WHAT IT READS IS OF BULK AT MOST 1048576: true; the input reads as it did. -/
def stripesSeenUptoRow : OpenClaim := { program := "ytccbejnonmbgnaa", sum := "f0c3c8d51c658443fc14350594ba026be55b719f993a046a7502bdede25467e4", func := "nestbox/nestboxlaw12.StripesSeen", spec := "stripesSeen", inPlace := ["sync/atomic.StoreUint64", "sync/atomic.LoadUint64", "sync/atomic.AddUint64"], unfollowed := true, recurses := true, apart := false, narrowed := true }
def StripesSeenUptoSaid : Prop := stripesSeenUptoRow.holds Try.pinned (OpenSpec.upto stripesSeenSpec)

/-- 'nestboxlaw10.WorldsGrow', WHERE WHAT IT READS IS OF BULK AT MOST 1048576: true; the input reads as it did. -/
def worldsGrowUptoRow : OpenClaim := { program := "ytccbejnonmbgnaa", sum := "f0c3c8d51c658443fc14350594ba026be55b719f993a046a7502bdede25467e4", func := "nestbox/nestboxlaw10.WorldsGrow", spec := "worldsGrow", inPlace := ["sync/atomic.StoreUint64", "sync/atomic.LoadUint64", "sync/atomic.CompareAndSwapUint64", "sync/atomic.SwapUint64"], unfollowed := true, recurses := true, apart := false, narrowed := true }
def WorldsGrowUptoSaid : Prop := worldsGrowUptoRow.holds Try.pinned (OpenSpec.upto worldsGrowSpec)

/-- 'nestboxlaw10.WorldsFull', WHERE WHAT IT READS IS OF BULK AT MOST 1048576: true; the input reads as it did. -/
def worldsFullUptoRow : OpenClaim := { program := "ytccbejnonmbgnaa", sum := "f0c3c8d51c658443fc14350594ba026be55b719f993a046a7502bdede25467e4", func := "nestbox/nestboxlaw10.WorldsFull", spec := "worldsFull", inPlace := ["sync/atomic.StoreUint64", "sync/atomic.LoadUint64", "sync/atomic.CompareAndSwapUint64", "sync/atomic.SwapUint64"], unfollowed := true, recurses := true, apart := false, narrowed := true }
def WorldsFullUptoSaid : Prop := worldsFullUptoRow.holds Try.pinned (OpenSpec.upto worldsFullSpec)

/-- 'nestboxlaw11.TicketsOne', WHERE WHAT IT READS IS OF BULK AT MOST 1048576: true; the input reads as it did. -/
def ticketsOneUptoRow : OpenClaim := { program := "ytccbejnonmbgnaa", sum := "f0c3c8d51c658443fc14350594ba026be55b719f993a046a7502bdede25467e4", func := "nestbox/nestboxlaw11.TicketsOne", spec := "ticketsOne", inPlace := ["sync/atomic.StoreUint64", "sync/atomic.SwapUint64", "sync/atomic.LoadUint64", "sync/atomic.CompareAndSwapUint64", "sync/atomic.AddUint64"], unfollowed := true, recurses := true, apart := false, narrowed := true }
def TicketsOneUptoSaid : Prop := ticketsOneUptoRow.holds Try.pinned (OpenSpec.upto ticketsOneSpec)

/-- 'nestboxlaw10.WorldsVoid', WHERE WHAT IT READS IS OF BULK AT MOST 1048576: true; the input reads as it did. -/
def worldsVoidUptoRow : OpenClaim := { program := "ytccbejnonmbgnaa", sum := "f0c3c8d51c658443fc14350594ba026be55b719f993a046a7502bdede25467e4", func := "nestbox/nestboxlaw10.WorldsVoid", spec := "worldsVoid", inPlace := ["sync/atomic.LoadUint64", "sync/atomic.CompareAndSwapUint64", "sync/atomic.StoreUint64"], unfollowed := true, recurses := true, apart := false, narrowed := true }
def WorldsVoidUptoSaid : Prop := worldsVoidUptoRow.holds Try.pinned (OpenSpec.upto worldsVoidSpec)

/-- 'nestboxlaw11.TicketsFree', WHERE WHAT IT READS IS OF BULK AT MOST 1048576: true; the input reads as it did. -/
def ticketsFreeUptoRow : OpenClaim := { program := "ytccbejnonmbgnaa", sum := "f0c3c8d51c658443fc14350594ba026be55b719f993a046a7502bdede25467e4", func := "nestbox/nestboxlaw11.TicketsFree", spec := "ticketsFree", inPlace := ["sync/atomic.StoreUint64", "sync/atomic.SwapUint64", "sync/atomic.LoadUint64", "sync/atomic.CompareAndSwapUint64", "sync/atomic.AddUint64"], unfollowed := true, recurses := true, apart := false, narrowed := true }
def TicketsFreeUptoSaid : Prop := ticketsFreeUptoRow.holds Try.pinned (OpenSpec.upto ticketsFreeSpec)

/-- 'nestboxlaw13.PutsNever', WHERE WHAT IT READS IS OF BULK AT MOST 1048576: true; the input reads as it did. -/
def putsNeverUptoRow : OpenClaim := { program := "ytccbejnonmbgnaa", sum := "f0c3c8d51c658443fc14350594ba026be55b719f993a046a7502bdede25467e4", func := "nestbox/nestboxlaw13.PutsNever", spec := "putsNever", inPlace := ["sync/atomic.StoreUint64", "sync/atomic.LoadUint64", "sync/atomic.SwapUint64"], unfollowed := true, recurses := true, apart := false, narrowed := true }
def PutsNeverUptoSaid : Prop := putsNeverUptoRow.holds Try.pinned (OpenSpec.upto putsNeverSpec)

/-- 'nestboxlaw11.TicketsWaits', WHERE WHAT IT READS IS OF BULK AT MOST 1048576: true; the input reads as it did. -/
def ticketsWaitsUptoRow : OpenClaim := { program := "ytccbejnonmbgnaa", sum := "f0c3c8d51c658443fc14350594ba026be55b719f993a046a7502bdede25467e4", func := "nestbox/nestboxlaw11.TicketsWaits", spec := "ticketsWaits", inPlace := ["sync/atomic.StoreUint64", "sync/atomic.SwapUint64", "sync/atomic.LoadUint64", "sync/atomic.CompareAndSwapUint64", "sync/atomic.AddUint64"], unfollowed := true, recurses := true, apart := false, narrowed := true }
def TicketsWaitsUptoSaid : Prop := ticketsWaitsUptoRow.holds Try.pinned (OpenSpec.upto ticketsWaitsSpec)

/-- 'nestboxlaw10.WorldsSteps', WHERE WHAT IT READS IS OF BULK AT MOST 1048576: true; the input reads as it did. -/
def worldsStepsUptoRow : OpenClaim := { program := "ytccbejnonmbgnaa", sum := "f0c3c8d51c658443fc14350594ba026be55b719f993a046a7502bdede25467e4", func := "nestbox/nestboxlaw10.WorldsSteps", spec := "worldsSteps", inPlace := ["sync/atomic.StoreUint64", "sync/atomic.LoadUint64", "sync/atomic.CompareAndSwapUint64", "sync/atomic.SwapUint64", "sync/atomic.AddUint64"], unfollowed := true, recurses := true, apart := false, narrowed := true }
def WorldsStepsUptoSaid : Prop := worldsStepsUptoRow.holds Try.pinned (OpenSpec.upto worldsStepsSpec)

/-- 'nestboxlaw05.CellsVoid', WHERE WHAT IT READS IS OF BULK AT MOST 1048576: true; the input reads as it did. -/
def cellsVoidUptoRow : OpenClaim := { program := "ytccbejnonmbgnaa", sum := "f0c3c8d51c658443fc14350594ba026be55b719f993a046a7502bdede25467e4", func := "nestbox/nestboxlaw05.CellsVoid", spec := "cellsVoid", inPlace := ["sync/atomic.CompareAndSwapUint64", "sync/atomic.LoadUint64", "sync/atomic.SwapUint64", "sync/atomic.AddUint64", "sync/atomic.StoreUint64"], unfollowed := true, recurses := true, apart := false, narrowed := true }
def CellsVoidUptoSaid : Prop := cellsVoidUptoRow.holds Try.pinned (OpenSpec.upto cellsVoidSpec)

/-- 'nestboxlaw05.CellsPlay', WHERE WHAT IT READS IS OF BULK AT MOST 1048576: true; the input reads as it did. -/
def cellsPlayUptoRow : OpenClaim := { program := "ytccbejnonmbgnaa", sum := "f0c3c8d51c658443fc14350594ba026be55b719f993a046a7502bdede25467e4", func := "nestbox/nestboxlaw05.CellsPlay", spec := "cellsPlay", inPlace := ["sync/atomic.StoreUint64", "sync/atomic.SwapUint64", "sync/atomic.LoadUint64", "sync/atomic.CompareAndSwapUint64", "sync/atomic.AddUint64"], unfollowed := true, recurses := true, apart := false, narrowed := true }
def CellsPlayUptoSaid : Prop := cellsPlayUptoRow.holds Try.pinned (OpenSpec.upto cellsPlaySpec)

end Rows
end Go.Proofs.Ytccbejnonmbgnaa
