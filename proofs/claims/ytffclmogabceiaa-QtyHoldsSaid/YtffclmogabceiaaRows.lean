/-
  No cell of these rows narrows 'for every input' (looked for: loops, veiled, ifaces, maps, wideKeys, modest, calm, conditions, laid).
  DERIVED. THE GIVEN ROWS OF THIS SEAT. 5 by the template 'for every input the law returns true; each argument reads behind the call as it read before'; 0 by the template 'total and deterministic' (their statements: YtffclmogabceiaaTotals.lean).
  GIVEN WITH THE SEED: the statements are not yours to turn. If you find one false, say at which input.
  Laid BY PROGRAM, IN A SANDBOX (cutbox-rows.mjs): the forced cells as the released guide's own fill.sh prints them over the translation ea560290da57d5a9… (all of the seat's roots in one cut). By AI agents, Wed Nov 11 2026. No macro, syntax, notation, axiom, sorry.
-/
import Derived.Test.YtffclmogabceiaaChecked
import GoSem.Claim
import GoSem.ClaimJoined
import GoSem.ClaimMapViews
import Derived.JoinedTies
import Derived.KernelRfl
namespace Go.Proofs.Ytffclmogabceiaa
/- THE CELL 'sum', in the pinned program and in every row, IS THE sha256 OF THE DUMP (.gsa) THAT YtffclmogabceiaaProg.lean LOADS. Nothing in Lean hashes anything: it is a label: what it is worth is what the hold of that sum in a sandbox is worth. -/
noncomputable def Try.pinned : Pinned := { name := "ytffclmogabceiaa", sum := "ea560290da57d5a99931e0f3cc5dd3fb177e84d542ce43f1b31e3dec251b235c", checked := Try.checked }
namespace Rows
def none {H : Type} : Left H := { results := [], args := [] }

/-- 'pannierlaw08.QtyValid': WHATEVER THE INPUT: true; the input reads as it did. -/
def qtyValidSpec : ChangeSpec := { name := "qtyValid", fn := fun _ => fun
  | [d1, d2, d3] => { results := [.lit (.bool true)], args := [d1, d2, d3] }
  | _ => none }
def qtyValidRow : OpenClaim := { program := "ytffclmogabceiaa", sum := "ea560290da57d5a99931e0f3cc5dd3fb177e84d542ce43f1b31e3dec251b235c", func := "pannier/pannierlaw08.QtyValid", spec := "qtyValid", unfollowed := true, recurses := true, apart := false }
def QtyValidSaid : Prop := qtyValidRow.holds Try.pinned (OpenSpec.ofChange qtyValidSpec)

/-- ITS FALSE NEIGHBOUR: 'it returns false'. Refute it at one input. -/
def qtyValidWrong : ChangeSpec := { name := "qtyValid", fn := fun _ => fun
  | [d1, d2, d3] => { results := [.lit (.bool false)], args := [d1, d2, d3] }
  | _ => none }
def QtyValidWrongFalsely : Prop := qtyValidRow.holds Try.pinned (OpenSpec.ofChange qtyValidWrong)

/-- 'pannierlaw08.QtyOrders': WHATEVER THE INPUT: true; the input reads as it did. -/
def qtyOrdersSpec : ChangeSpec := { name := "qtyOrders", fn := fun _ => fun
  | [d1, d2] => { results := [.lit (.bool true)], args := [d1, d2] }
  | _ => none }
def qtyOrdersRow : OpenClaim := { program := "ytffclmogabceiaa", sum := "ea560290da57d5a99931e0f3cc5dd3fb177e84d542ce43f1b31e3dec251b235c", func := "pannier/pannierlaw08.QtyOrders", spec := "qtyOrders", unfollowed := true, recurses := true, apart := false }
def QtyOrdersSaid : Prop := qtyOrdersRow.holds Try.pinned (OpenSpec.ofChange qtyOrdersSpec)

/-- ITS FALSE NEIGHBOUR: 'it returns false'. Refute it at one input. -/
def qtyOrdersWrong : ChangeSpec := { name := "qtyOrders", fn := fun _ => fun
  | [d1, d2] => { results := [.lit (.bool false)], args := [d1, d2] }
  | _ => none }
def QtyOrdersWrongFalsely : Prop := qtyOrdersRow.holds Try.pinned (OpenSpec.ofChange qtyOrdersWrong)

/-- 'pannierlaw08.QtyNewest': WHATEVER THE INPUT: true; the input reads as it did. -/
def qtyNewestSpec : ChangeSpec := { name := "qtyNewest", fn := fun _ => fun
  | [d] => { results := [.lit (.bool true)], args := [d] }
  | _ => none }
def qtyNewestRow : OpenClaim := { program := "ytffclmogabceiaa", sum := "ea560290da57d5a99931e0f3cc5dd3fb177e84d542ce43f1b31e3dec251b235c", func := "pannier/pannierlaw08.QtyNewest", spec := "qtyNewest", unfollowed := true, recurses := true, apart := false }
def QtyNewestSaid : Prop := qtyNewestRow.holds Try.pinned (OpenSpec.ofChange qtyNewestSpec)

/-- ITS FALSE NEIGHBOUR: 'it returns false'. Refute it at one input. -/
def qtyNewestWrong : ChangeSpec := { name := "qtyNewest", fn := fun _ => fun
  | [d] => { results := [.lit (.bool false)], args := [d] }
  | _ => none }
def QtyNewestWrongFalsely : Prop := qtyNewestRow.holds Try.pinned (OpenSpec.ofChange qtyNewestWrong)

/-- 'pannierlaw08.QtyLists': WHATEVER THE INPUT: true; the input reads as it did. -/
def qtyListsSpec : ChangeSpec := { name := "qtyLists", fn := fun _ => fun
  | [d] => { results := [.lit (.bool true)], args := [d] }
  | _ => none }
def qtyListsRow : OpenClaim := { program := "ytffclmogabceiaa", sum := "ea560290da57d5a99931e0f3cc5dd3fb177e84d542ce43f1b31e3dec251b235c", func := "pannier/pannierlaw08.QtyLists", spec := "qtyLists", unfollowed := true, recurses := true, apart := false }
def QtyListsSaid : Prop := qtyListsRow.holds Try.pinned (OpenSpec.ofChange qtyListsSpec)

/-- ITS FALSE NEIGHBOUR: 'it returns false'. Refute it at one input. -/
def qtyListsWrong : ChangeSpec := { name := "qtyLists", fn := fun _ => fun
  | [d] => { results := [.lit (.bool false)], args := [d] }
  | _ => none }
def QtyListsWrongFalsely : Prop := qtyListsRow.holds Try.pinned (OpenSpec.ofChange qtyListsWrong)

/-- 'pannierlaw08.QtyHolds': WHATEVER THE INPUT: true; the input reads as it did. -/
def qtyHoldsSpec : ChangeSpec := { name := "qtyHolds", fn := fun _ => fun
  | [d1, d2, d3, d4, d5, d6] => { results := [.lit (.bool true)], args := [d1, d2, d3, d4, d5, d6] }
  | _ => none }
def qtyHoldsRow : OpenClaim := { program := "ytffclmogabceiaa", sum := "ea560290da57d5a99931e0f3cc5dd3fb177e84d542ce43f1b31e3dec251b235c", func := "pannier/pannierlaw08.QtyHolds", spec := "qtyHolds", unfollowed := true, recurses := true, apart := false }
def QtyHoldsSaid : Prop := qtyHoldsRow.holds Try.pinned (OpenSpec.ofChange qtyHoldsSpec)

/-- ITS FALSE NEIGHBOUR: 'it returns false'. Refute it at one input. -/
def qtyHoldsWrong : ChangeSpec := { name := "qtyHolds", fn := fun _ => fun
  | [d1, d2, d3, d4, d5, d6] => { results := [.lit (.bool false)], args := [d1, d2, d3, d4, d5, d6] }
  | _ => none }
def QtyHoldsWrongFalsely : Prop := qtyHoldsRow.holds Try.pinned (OpenSpec.ofChange qtyHoldsWrong)

/- THE SECOND FORM. 'bulk': how many values and letters a reading holds, each counted each time it is reached (what is shared counts as often as it is met; a slice's spare places count too). A statement '..UptoSaid' is the law's where the arguments, and the package variables that the reading takes, are together of bulk at most 1048576: NARROWER than '..Said'. Prove '..Said' where nothing that the law and all that it calls make is longer than what came in: it says more and counts as full. Else prove '..UptoSaid'. A law counts once. -/
mutual
def uptoBulk {H : Type} : DataW H → Nat
  | .lit (.string bytes) => bytes.length + 1
  | .lit _ => 1
  | .nil => 1
  | .ptr d => uptoBulk d + 1
  | .slice elems spare => uptoBulkAll elems + uptoBulkAll spare + 1
  | .agg parts => uptoBulkAll parts + 1
  | .iface _ d => uptoBulk d + 1
  | .map entries => uptoBulkEntries entries + 1
  | .held _ => 1
def uptoBulkAll {H : Type} : List (DataW H) → Nat
  | [] => 0
  | d :: r => uptoBulk d + uptoBulkAll r
def uptoBulkEntries {H : Type} : List (Lit × DataW H) → Nat
  | [] => 0
  | x :: r => uptoBulkEntry x + uptoBulkEntries r
def uptoBulkEntry {H : Type} : Lit × DataW H → Nat
  | (.string bytes, d) => bytes.length + uptoBulk d + 1
  | (_, d) => uptoBulk d + 1
 end
def uptoSmall : (H : Type) → List (DataW H) → Bool := fun _ ds => decide (uptoBulkAll ds ≤ 1048576)
def OpenSpec.upto (s : _root_.Go.ChangeSpec) : _root_.Go.OpenSpec := { _root_.Go.OpenSpec.ofChange s with cond := some uptoSmall }

/-- 'pannierlaw08.QtyValid', WHERE WHAT IT READS IS OF BULK AT MOST 1048576: true; the input reads as it did. -/
def qtyValidUptoRow : OpenClaim := { program := "ytffclmogabceiaa", sum := "ea560290da57d5a99931e0f3cc5dd3fb177e84d542ce43f1b31e3dec251b235c", func := "pannier/pannierlaw08.QtyValid", spec := "qtyValid", unfollowed := true, recurses := true, apart := false, narrowed := true }
def QtyValidUptoSaid : Prop := qtyValidUptoRow.holds Try.pinned (OpenSpec.upto qtyValidSpec)

/-- 'pannierlaw08.QtyOrders', WHERE WHAT IT READS IS OF BULK AT MOST 1048576: true; the input reads as it did. -/
def qtyOrdersUptoRow : OpenClaim := { program := "ytffclmogabceiaa", sum := "ea560290da57d5a99931e0f3cc5dd3fb177e84d542ce43f1b31e3dec251b235c", func := "pannier/pannierlaw08.QtyOrders", spec := "qtyOrders", unfollowed := true, recurses := true, apart := false, narrowed := true }
def QtyOrdersUptoSaid : Prop := qtyOrdersUptoRow.holds Try.pinned (OpenSpec.upto qtyOrdersSpec)

/-- 'pannierlaw08.QtyNewest', WHERE WHAT IT READS IS OF BULK AT MOST 1048576: true; the input reads as it did. -/
def qtyNewestUptoRow : OpenClaim := { program := "ytffclmogabceiaa", sum := "ea560290da57d5a99931e0f3cc5dd3fb177e84d542ce43f1b31e3dec251b235c", func := "pannier/pannierlaw08.QtyNewest", spec := "qtyNewest", unfollowed := true, recurses := true, apart := false, narrowed := true }
def QtyNewestUptoSaid : Prop := qtyNewestUptoRow.holds Try.pinned (OpenSpec.upto qtyNewestSpec)

/-- 'pannierlaw08.QtyLists', WHERE WHAT IT READS IS OF BULK AT MOST 1048576: true; the input reads as it did. -/
def qtyListsUptoRow : OpenClaim := { program := "ytffclmogabceiaa", sum := "ea560290da57d5a99931e0f3cc5dd3fb177e84d542ce43f1b31e3dec251b235c", func := "pannier/pannierlaw08.QtyLists", spec := "qtyLists", unfollowed := true, recurses := true, apart := false, narrowed := true }
def QtyListsUptoSaid : Prop := qtyListsUptoRow.holds Try.pinned (OpenSpec.upto qtyListsSpec)

/-- 'pannierlaw08.QtyHolds', WHERE WHAT IT READS IS OF BULK AT MOST 1048576: true; the input reads as it did. -/
def qtyHoldsUptoRow : OpenClaim := { program := "ytffclmogabceiaa", sum := "ea560290da57d5a99931e0f3cc5dd3fb177e84d542ce43f1b31e3dec251b235c", func := "pannier/pannierlaw08.QtyHolds", spec := "qtyHolds", unfollowed := true, recurses := true, apart := false, narrowed := true }
def QtyHoldsUptoSaid : Prop := qtyHoldsUptoRow.holds Try.pinned (OpenSpec.upto qtyHoldsSpec)

end Rows
end Go.Proofs.Ytffclmogabceiaa
