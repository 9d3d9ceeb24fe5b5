/-
  No cell of these rows narrows 'for every input' (looked for: loops, veiled, ifaces, maps, wideKeys, modest, calm, conditions, laid).
  DERIVED. THE GIVEN ROWS OF THIS SEAT. 10 by the template 'for every input the law returns true; each argument reads behind the call as it read before'; 0 by the template 'total and deterministic' (their statements: YtalehdaeekkfiaaTotals.lean).
  GIVEN WITH THE SEED: the statements are not yours to turn. If you find one false, say at which input.
  Laid BY PROGRAM, IN A SANDBOX (cutbox-rows.mjs): the forced cells as the released guide's own fill.sh prints them over the translation 8175187e2df63dfe… (all of the seat's roots in one cut). By AI agents, Wed Nov 11 2026. No macro, syntax, notation, axiom, sorry.
-/
import Derived.Test.YtalehdaeekkfiaaChecked
import GoSem.Claim
import GoSem.ClaimJoined
import GoSem.ClaimMapViews
import Derived.JoinedTies
import Derived.KernelRfl
namespace Go.Proofs.Ytalehdaeekkfiaa
/- THE CELL 'sum', in the pinned program and in every row, IS THE sha256 OF THE DUMP (.gsa) THAT YtalehdaeekkfiaaProg.lean LOADS. Nothing in Lean hashes anything: it is a label: what it is worth is what the hold of that sum in a sandbox is worth. -/
noncomputable def Try.pinned : Pinned := { name := "ytalehdaeekkfiaa", sum := "8175187e2df63dfeb10c2a21f830d9471d73844cabee69f701a48a35ff132627", checked := Try.checked }
namespace Rows
def none {H : Type} : Left H := { results := [], args := [] }

/-- 'nestboxlaw06.ItemsPlay': WHATEVER THE INPUT: true; the input reads as it did. -/
def itemsPlaySpec : ChangeSpec := { name := "itemsPlay", fn := fun _ => fun
  | [d1, d2] => { results := [.lit (.bool true)], args := [d1, d2] }
  | _ => none }
def itemsPlayRow : OpenClaim := { program := "ytalehdaeekkfiaa", sum := "8175187e2df63dfeb10c2a21f830d9471d73844cabee69f701a48a35ff132627", func := "nestbox/nestboxlaw06.ItemsPlay", spec := "itemsPlay", unfollowed := true, recurses := true, apart := false }
def ItemsPlaySaid : Prop := itemsPlayRow.holds Try.pinned (OpenSpec.ofChange itemsPlaySpec)

/-- ITS FALSE NEIGHBOUR: 'it returns false'. Refute it at one input. -/
def itemsPlayWrong : ChangeSpec := { name := "itemsPlay", fn := fun _ => fun
  | [d1, d2] => { results := [.lit (.bool false)], args := [d1, d2] }
  | _ => none }
def ItemsPlayWrongFalsely : Prop := itemsPlayRow.holds Try.pinned (OpenSpec.ofChange itemsPlayWrong)

/-- 'nestboxlaw06.ItemsVoid': WHATEVER THE INPUT: true; the input reads as it did. -/
def itemsVoidSpec : ChangeSpec := { name := "itemsVoid", fn := fun _ => fun
  | [d1, d2] => { results := [.lit (.bool true)], args := [d1, d2] }
  | _ => none }
def itemsVoidRow : OpenClaim := { program := "ytalehdaeekkfiaa", sum := "8175187e2df63dfeb10c2a21f830d9471d73844cabee69f701a48a35ff132627", func := "nestbox/nestboxlaw06.ItemsVoid", spec := "itemsVoid", unfollowed := true, recurses := true, apart := false }
def ItemsVoidSaid : Prop := itemsVoidRow.holds Try.pinned (OpenSpec.ofChange itemsVoidSpec)

/-- ITS FALSE NEIGHBOUR: 'it returns false'. Refute it at one input. -/
def itemsVoidWrong : ChangeSpec := { name := "itemsVoid", fn := fun _ => fun
  | [d1, d2] => { results := [.lit (.bool false)], args := [d1, d2] }
  | _ => none }
def ItemsVoidWrongFalsely : Prop := itemsVoidRow.holds Try.pinned (OpenSpec.ofChange itemsVoidWrong)

/-- 'nestboxlaw06.ItemsStay': WHATEVER THE INPUT: true; the input reads as it did. -/
def itemsStaySpec : ChangeSpec := { name := "itemsStay", fn := fun _ => fun
  | [d1, d2] => { results := [.lit (.bool true)], args := [d1, d2] }
  | _ => none }
def itemsStayRow : OpenClaim := { program := "ytalehdaeekkfiaa", sum := "8175187e2df63dfeb10c2a21f830d9471d73844cabee69f701a48a35ff132627", func := "nestbox/nestboxlaw06.ItemsStay", spec := "itemsStay", unfollowed := true, recurses := true, apart := false }
def ItemsStaySaid : Prop := itemsStayRow.holds Try.pinned (OpenSpec.ofChange itemsStaySpec)

/-- ITS FALSE NEIGHBOUR: 'it returns false'. Refute it at one input. -/
def itemsStayWrong : ChangeSpec := { name := "itemsStay", fn := fun _ => fun
  | [d1, d2] => { results := [.lit (.bool false)], args := [d1, d2] }
  | _ => none }
def ItemsStayWrongFalsely : Prop := itemsStayRow.holds Try.pinned (OpenSpec.ofChange itemsStayWrong)

/-- 'nestboxlaw06.ItemsNone': WHATEVER THE INPUT: true; the input reads as it did. -/
def itemsNoneSpec : ChangeSpec := { name := "itemsNone", fn := fun _ => fun
  | [d1, d2] => { results := [.lit (.bool true)], args := [d1, d2] }
  | _ => none }
def itemsNoneRow : OpenClaim := { program := "ytalehdaeekkfiaa", sum := "8175187e2df63dfeb10c2a21f830d9471d73844cabee69f701a48a35ff132627", func := "nestbox/nestboxlaw06.ItemsNone", spec := "itemsNone", unfollowed := true, recurses := true, apart := false }
def ItemsNoneSaid : Prop := itemsNoneRow.holds Try.pinned (OpenSpec.ofChange itemsNoneSpec)

/-- ITS FALSE NEIGHBOUR: 'it returns false'. Refute it at one input. -/
def itemsNoneWrong : ChangeSpec := { name := "itemsNone", fn := fun _ => fun
  | [d1, d2] => { results := [.lit (.bool false)], args := [d1, d2] }
  | _ => none }
def ItemsNoneWrongFalsely : Prop := itemsNoneRow.holds Try.pinned (OpenSpec.ofChange itemsNoneWrong)

/-- 'nestboxlaw06.ItemsFull': WHATEVER THE INPUT: true; the input reads as it did. -/
def itemsFullSpec : ChangeSpec := { name := "itemsFull", fn := fun _ => fun
  | [] => { results := [.lit (.bool true)], args := [] }
  | _ => none }
def itemsFullRow : OpenClaim := { program := "ytalehdaeekkfiaa", sum := "8175187e2df63dfeb10c2a21f830d9471d73844cabee69f701a48a35ff132627", func := "nestbox/nestboxlaw06.ItemsFull", spec := "itemsFull", unfollowed := true, recurses := true, apart := false }
def ItemsFullSaid : Prop := itemsFullRow.holds Try.pinned (OpenSpec.ofChange itemsFullSpec)

/-- ITS FALSE NEIGHBOUR: 'it returns false'. Refute it at one input. -/
def itemsFullWrong : ChangeSpec := { name := "itemsFull", fn := fun _ => fun
  | [] => { results := [.lit (.bool false)], args := [] }
  | _ => none }
def ItemsFullWrongFalsely : Prop := itemsFullRow.holds Try.pinned (OpenSpec.ofChange itemsFullWrong)

/-- 'nestboxlaw02.TagwordsSlot': WHATEVER THE INPUT: true; the input reads as it did. -/
def tagwordsSlotSpec : ChangeSpec := { name := "tagwordsSlot", fn := fun _ => fun
  | [d1, d2, d3] => { results := [.lit (.bool true)], args := [d1, d2, d3] }
  | _ => none }
def tagwordsSlotRow : OpenClaim := { program := "ytalehdaeekkfiaa", sum := "8175187e2df63dfeb10c2a21f830d9471d73844cabee69f701a48a35ff132627", func := "nestbox/nestboxlaw02.TagwordsSlot", spec := "tagwordsSlot", apart := false }
def TagwordsSlotSaid : Prop := tagwordsSlotRow.holds Try.pinned (OpenSpec.ofChange tagwordsSlotSpec)

/-- ITS FALSE NEIGHBOUR: 'it returns false'. Refute it at one input. -/
def tagwordsSlotWrong : ChangeSpec := { name := "tagwordsSlot", fn := fun _ => fun
  | [d1, d2, d3] => { results := [.lit (.bool false)], args := [d1, d2, d3] }
  | _ => none }
def TagwordsSlotWrongFalsely : Prop := tagwordsSlotRow.holds Try.pinned (OpenSpec.ofChange tagwordsSlotWrong)

/-- 'nestboxlaw02.TagwordsFind': WHATEVER THE INPUT: true; the input reads as it did. -/
def tagwordsFindSpec : ChangeSpec := { name := "tagwordsFind", fn := fun _ => fun
  | [d1, d2] => { results := [.lit (.bool true)], args := [d1, d2] }
  | _ => none }
def tagwordsFindRow : OpenClaim := { program := "ytalehdaeekkfiaa", sum := "8175187e2df63dfeb10c2a21f830d9471d73844cabee69f701a48a35ff132627", func := "nestbox/nestboxlaw02.TagwordsFind", spec := "tagwordsFind", apart := false }
def TagwordsFindSaid : Prop := tagwordsFindRow.holds Try.pinned (OpenSpec.ofChange tagwordsFindSpec)

/-- ITS FALSE NEIGHBOUR: 'it returns false'. Refute it at one input. -/
def tagwordsFindWrong : ChangeSpec := { name := "tagwordsFind", fn := fun _ => fun
  | [d1, d2] => { results := [.lit (.bool false)], args := [d1, d2] }
  | _ => none }
def TagwordsFindWrongFalsely : Prop := tagwordsFindRow.holds Try.pinned (OpenSpec.ofChange tagwordsFindWrong)

/-- 'nestboxlaw02.TagwordsWith': WHATEVER THE INPUT: true; the input reads as it did. -/
def tagwordsWithSpec : ChangeSpec := { name := "tagwordsWith", fn := fun _ => fun
  | [d1, d2, d3] => { results := [.lit (.bool true)], args := [d1, d2, d3] }
  | _ => none }
def tagwordsWithRow : OpenClaim := { program := "ytalehdaeekkfiaa", sum := "8175187e2df63dfeb10c2a21f830d9471d73844cabee69f701a48a35ff132627", func := "nestbox/nestboxlaw02.TagwordsWith", spec := "tagwordsWith", apart := false }
def TagwordsWithSaid : Prop := tagwordsWithRow.holds Try.pinned (OpenSpec.ofChange tagwordsWithSpec)

/-- ITS FALSE NEIGHBOUR: 'it returns false'. Refute it at one input. -/
def tagwordsWithWrong : ChangeSpec := { name := "tagwordsWith", fn := fun _ => fun
  | [d1, d2, d3] => { results := [.lit (.bool false)], args := [d1, d2, d3] }
  | _ => none }
def TagwordsWithWrongFalsely : Prop := tagwordsWithRow.holds Try.pinned (OpenSpec.ofChange tagwordsWithWrong)

/-- 'nestboxlaw02.TagwordsParts': WHATEVER THE INPUT: true; the input reads as it did. -/
def tagwordsPartsSpec : ChangeSpec := { name := "tagwordsParts", fn := fun _ => fun
  | [d1, d2] => { results := [.lit (.bool true)], args := [d1, d2] }
  | _ => none }
def tagwordsPartsRow : OpenClaim := { program := "ytalehdaeekkfiaa", sum := "8175187e2df63dfeb10c2a21f830d9471d73844cabee69f701a48a35ff132627", func := "nestbox/nestboxlaw02.TagwordsParts", spec := "tagwordsParts", apart := false }
def TagwordsPartsSaid : Prop := tagwordsPartsRow.holds Try.pinned (OpenSpec.ofChange tagwordsPartsSpec)

/-- ITS FALSE NEIGHBOUR: 'it returns false'. Refute it at one input. -/
def tagwordsPartsWrong : ChangeSpec := { name := "tagwordsParts", fn := fun _ => fun
  | [d1, d2] => { results := [.lit (.bool false)], args := [d1, d2] }
  | _ => none }
def TagwordsPartsWrongFalsely : Prop := tagwordsPartsRow.holds Try.pinned (OpenSpec.ofChange tagwordsPartsWrong)

/-- 'nestboxlaw02.TagwordsLow': WHATEVER THE INPUT: true; the input reads as it did. -/
def tagwordsLowSpec : ChangeSpec := { name := "tagwordsLow", fn := fun _ => fun
  | [d1, d2, d3] => { results := [.lit (.bool true)], args := [d1, d2, d3] }
  | _ => none }
def tagwordsLowRow : OpenClaim := { program := "ytalehdaeekkfiaa", sum := "8175187e2df63dfeb10c2a21f830d9471d73844cabee69f701a48a35ff132627", func := "nestbox/nestboxlaw02.TagwordsLow", spec := "tagwordsLow", apart := false }
def TagwordsLowSaid : Prop := tagwordsLowRow.holds Try.pinned (OpenSpec.ofChange tagwordsLowSpec)

/-- ITS FALSE NEIGHBOUR: 'it returns false'. Refute it at one input. -/
def tagwordsLowWrong : ChangeSpec := { name := "tagwordsLow", fn := fun _ => fun
  | [d1, d2, d3] => { results := [.lit (.bool false)], args := [d1, d2, d3] }
  | _ => none }
def TagwordsLowWrongFalsely : Prop := tagwordsLowRow.holds Try.pinned (OpenSpec.ofChange tagwordsLowWrong)

/- THE SECOND FORM. 'bulk': how many values and letters a reading holds, each counted each time it is reached (what is shared counts as often as it is met; a slice's spare places count too). A statement '..UptoSaid' is the law's where the arguments, and the package variables that the reading takes, are together of bulk at most 1048576: NARROWER than '..Said'. Prove '..Said' where nothing that the law and all that it calls make is longer than what came in: it says more and counts as full. Else prove '..UptoSaid'. A law counts once. -/
mutual
def uptoBulk {H : Type} : DataW H → Nat
  | .lit (.string bytes) => bytes.length + 1
  | .lit _ => 1
  | .nil => 1
  | .ptr d => uptoBulk d + 1
  | .slice elems spare => uptoBulkAll elems + uptoBulkAll spare + 1
  | .agg parts => uptoBulkAll parts + 1
  | .iface _ d => uptoBulk d + 1
  | .map entries => uptoBulkEntries entries + 1
  | .held _ => 1
def uptoBulkAll {H : Type} : List (DataW H) → Nat
  | [] => 0
  | d :: r => uptoBulk d + uptoBulkAll r
def uptoBulkEntries {H : Type} : List (Lit × DataW H) → Nat
  | [] => 0
  | x :: r => uptoBulkEntry x + uptoBulkEntries r
def uptoBulkEntry {H : Type} : Lit × DataW H → Nat
  | (.string bytes, d) => bytes.length + uptoBulk d + 1
  | (_, d) => uptoBulk d + 1
 end
def uptoSmall : (H : Type) → List (DataW H) → Bool := fun _ ds => decide (uptoBulkAll ds ≤ 1048576)
def OpenSpec.upto (s : _root_.Go.ChangeSpec) : _root_.Go.OpenSpec := { _root_.Go.OpenSpec.ofChange s with cond := some uptoSmall }

/-- 'nestboxlaw06.ItemsPlay', WHERE WHAT IT READS IS OF BULK AT MOST 1048576: true; the input reads as it did. -/
def itemsPlayUptoRow : OpenClaim := { program := "ytalehdaeekkfiaa", sum := "8175187e2df63dfeb10c2a21f830d9471d73844cabee69f701a48a35ff132627", func := "nestbox/nestboxlaw06.ItemsPlay", spec := "itemsPlay", unfollowed := true, recurses := true, apart := false, narrowed := true }
def ItemsPlayUptoSaid : Prop := itemsPlayUptoRow.holds Try.pinned (OpenSpec.upto itemsPlaySpec)

/-- 'nestboxlaw06.ItemsVoid', WHERE WHAT IT READS IS OF BULK AT MOST 1048576: true; the input reads as it did. -/
def itemsVoidUptoRow : OpenClaim := { program := "ytalehdaeekkfiaa", sum := "8175187e2df63dfeb10c2a21f830d9471d73844cabee69f701a48a35ff132627", func := "nestbox/nestboxlaw06.ItemsVoid", spec := "itemsVoid", unfollowed := true, recurses := true, apart := false, narrowed := true }
def ItemsVoidUptoSaid : Prop := itemsVoidUptoRow.holds Try.pinned (OpenSpec.upto itemsVoidSpec)

/-- 'nestboxlaw06.ItemsStay', WHERE WHAT IT READS IS OF BULK AT MOST 1048576: true; the input reads as it did. -/
def itemsStayUptoRow : OpenClaim := { program := "ytalehdaeekkfiaa", sum := "8175187e2df63dfeb10c2a21f830d9471d73844cabee69f701a48a35ff132627", func := "nestbox/nestboxlaw06.ItemsStay", spec := "itemsStay", unfollowed := true, recurses := true, apart := false, narrowed := true }
def ItemsStayUptoSaid : Prop := itemsStayUptoRow.holds Try.pinned (OpenSpec.upto itemsStaySpec)

/-- 'nestboxlaw06.ItemsNone', WHERE WHAT IT READS IS OF BULK AT MOST 1048576: true; the input reads as it did. -/
def itemsNoneUptoRow : OpenClaim := { program := "ytalehdaeekkfiaa", sum := "8175187e2df63dfeb10c2a21f830d9471d73844cabee69f701a48a35ff132627", func := "nestbox/nestboxlaw06.ItemsNone", spec := "itemsNone", unfollowed := true, recurses := true, apart := false, narrowed := true }
def ItemsNoneUptoSaid : Prop := itemsNoneUptoRow.holds Try.pinned (OpenSpec.upto itemsNoneSpec)

/-- 'nestboxlaw06.ItemsFull', WHERE WHAT IT READS IS OF BULK AT MOST 1048576: true; the input reads as it did. -/
def itemsFullUptoRow : OpenClaim := { program := "ytalehdaeekkfiaa", sum := "8175187e2df63dfeb10c2a21f830d9471d73844cabee69f701a48a35ff132627", func := "nestbox/nestboxlaw06.ItemsFull", spec := "itemsFull", unfollowed := true, recurses := true, apart := false, narrowed := true }
def ItemsFullUptoSaid : Prop := itemsFullUptoRow.holds Try.pinned (OpenSpec.upto itemsFullSpec)

/-- 'nestboxlaw02.TagwordsSlot', WHERE WHAT IT READS IS OF BULK AT MOST 1048576: true; the input reads as it did. -/
def tagwordsSlotUptoRow : OpenClaim := { program := "ytalehdaeekkfiaa", sum := "8175187e2df63dfeb10c2a21f830d9471d73844cabee69f701a48a35ff132627", func := "nestbox/nestboxlaw02.TagwordsSlot", spec := "tagwordsSlot", apart := false, narrowed := true }
def TagwordsSlotUptoSaid : Prop := tagwordsSlotUptoRow.holds Try.pinned (OpenSpec.upto tagwordsSlotSpec)

/-- 'nestboxlaw02.TagwordsFind', WHERE WHAT IT READS IS OF BULK AT MOST 1048576: true; the input reads as it did. -/
def tagwordsFindUptoRow : OpenClaim := { program := "ytalehdaeekkfiaa", sum := "8175187e2df63dfeb10c2a21f830d9471d73844cabee69f701a48a35ff132627", func := "nestbox/nestboxlaw02.TagwordsFind", spec := "tagwordsFind", apart := false, narrowed := true }
def TagwordsFindUptoSaid : Prop := tagwordsFindUptoRow.holds Try.pinned (OpenSpec.upto tagwordsFindSpec)

/-- 'nestboxlaw02.TagwordsWith', WHERE WHAT IT READS IS OF BULK AT MOST 1048576: true; the input reads as it did. -/
def tagwordsWithUptoRow : OpenClaim := { program := "ytalehdaeekkfiaa", sum := "8175187e2df63dfeb10c2a21f830d9471d73844cabee69f701a48a35ff132627", func := "nestbox/nestboxlaw02.TagwordsWith", spec := "tagwordsWith", apart := false, narrowed := true }
def TagwordsWithUptoSaid : Prop := tagwordsWithUptoRow.holds Try.pinned (OpenSpec.upto tagwordsWithSpec)

/-- 'nestboxlaw02.TagwordsParts', WHERE WHAT IT READS IS OF BULK AT MOST 1048576: true; the input reads as it did. -/
def tagwordsPartsUptoRow : OpenClaim := { program := "ytalehdaeekkfiaa", sum := "8175187e2df63dfeb10c2a21f830d9471d73844cabee69f701a48a35ff132627", func := "nestbox/nestboxlaw02.TagwordsParts", spec := "tagwordsParts", apart := false, narrowed := true }
def TagwordsPartsUptoSaid : Prop := tagwordsPartsUptoRow.holds Try.pinned (OpenSpec.upto tagwordsPartsSpec)

/-- 'nestboxlaw02.TagwordsLow', WHERE WHAT IT READS IS OF BULK AT MOST 1048576: true; the input reads as it did. -/
def tagwordsLowUptoRow : OpenClaim := { program := "ytalehdaeekkfiaa", sum := "8175187e2df63dfeb10c2a21f830d9471d73844cabee69f701a48a35ff132627", func := "nestbox/nestboxlaw02.TagwordsLow", spec := "tagwordsLow", apart := false, narrowed := true }
def TagwordsLowUptoSaid : Prop := tagwordsLowUptoRow.holds Try.pinned (OpenSpec.upto tagwordsLowSpec)

end Rows
end Go.Proofs.Ytalehdaeekkfiaa
