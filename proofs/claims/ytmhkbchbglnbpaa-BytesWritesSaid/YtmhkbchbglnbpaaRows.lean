/-
  No cell of these rows narrows 'for every input' (looked for: loops, veiled, ifaces, maps, wideKeys, modest, calm, conditions, laid).
  DERIVED. THE GIVEN ROWS OF THIS SEAT. 5 by the template 'for every input the law returns true; each argument reads behind the call as it read before'; 0 by the template 'total and deterministic' (their statements: YtmhkbchbglnbpaaTotals.lean).
  GIVEN WITH THE SEED: the statements are not yours to turn. If you find one false, say at which input.
  Laid BY PROGRAM, IN A SANDBOX (cutbox-rows.mjs): the forced cells as the released guide's own fill.sh prints them over the translation 2bed6d0fd0d5c413… (all of the seat's roots in one cut). By AI agents, Wed Nov 11 2026. No macro, syntax, notation, axiom, sorry.
-/
import Derived.Test.YtmhkbchbglnbpaaChecked
import GoSem.Claim
import GoSem.ClaimJoined
import GoSem.ClaimMapViews
import Derived.JoinedTies
import Derived.KernelRfl
namespace Go.Proofs.Ytmhkbchbglnbpaa
/- THE CELL 'sum', in the pinned program and in every row, IS THE sha256 OF THE DUMP (.gsa) THAT YtmhkbchbglnbpaaProg.lean LOADS. Nothing in Lean hashes anything: it is a label: what it is worth is what the hold of that sum in a sandbox is worth. -/
noncomputable def Try.pinned : Pinned := { name := "ytmhkbchbglnbpaa", sum := "2bed6d0fd0d5c41334a9f71b3e3329b535db8f93051a9cdd57aaf2591e9a4510", checked := Try.checked }
namespace Rows
def none {H : Type} : Left H := { results := [], args := [] }

/-- 'pannierlaw04.BytesNumbers': WHATEVER THE INPUT: true; the input reads as it did. -/
def bytesNumbersSpec : ChangeSpec := { name := "bytesNumbers", fn := fun _ => fun
  | [d] => { results := [.lit (.bool true)], args := [d] }
  | _ => none }
def bytesNumbersRow : OpenClaim := { program := "ytmhkbchbglnbpaa", sum := "2bed6d0fd0d5c41334a9f71b3e3329b535db8f93051a9cdd57aaf2591e9a4510", func := "pannier/pannierlaw04.BytesNumbers", spec := "bytesNumbers", unfollowed := true, recurses := true, apart := false }
def BytesNumbersSaid : Prop := bytesNumbersRow.holds Try.pinned (OpenSpec.ofChange bytesNumbersSpec)

/-- ITS FALSE NEIGHBOUR: 'it returns false'. Refute it at one input. -/
def bytesNumbersWrong : ChangeSpec := { name := "bytesNumbers", fn := fun _ => fun
  | [d] => { results := [.lit (.bool false)], args := [d] }
  | _ => none }
def BytesNumbersWrongFalsely : Prop := bytesNumbersRow.holds Try.pinned (OpenSpec.ofChange bytesNumbersWrong)

/-- 'pannierlaw04.BytesHolds': WHATEVER THE INPUT: true; the input reads as it did. -/
def bytesHoldsSpec : ChangeSpec := { name := "bytesHolds", fn := fun _ => fun
  | [d1, d2] => { results := [.lit (.bool true)], args := [d1, d2] }
  | _ => none }
def bytesHoldsRow : OpenClaim := { program := "ytmhkbchbglnbpaa", sum := "2bed6d0fd0d5c41334a9f71b3e3329b535db8f93051a9cdd57aaf2591e9a4510", func := "pannier/pannierlaw04.BytesHolds", spec := "bytesHolds", unfollowed := true, recurses := true, apart := false }
def BytesHoldsSaid : Prop := bytesHoldsRow.holds Try.pinned (OpenSpec.ofChange bytesHoldsSpec)

/-- ITS FALSE NEIGHBOUR: 'it returns false'. Refute it at one input. -/
def bytesHoldsWrong : ChangeSpec := { name := "bytesHolds", fn := fun _ => fun
  | [d1, d2] => { results := [.lit (.bool false)], args := [d1, d2] }
  | _ => none }
def BytesHoldsWrongFalsely : Prop := bytesHoldsRow.holds Try.pinned (OpenSpec.ofChange bytesHoldsWrong)

/-- 'pannierlaw04.BytesWrites': WHATEVER THE INPUT: true; the input reads as it did. -/
def bytesWritesSpec : ChangeSpec := { name := "bytesWrites", fn := fun _ => fun
  | [d] => { results := [.lit (.bool true)], args := [d] }
  | _ => none }
def bytesWritesRow : OpenClaim := { program := "ytmhkbchbglnbpaa", sum := "2bed6d0fd0d5c41334a9f71b3e3329b535db8f93051a9cdd57aaf2591e9a4510", func := "pannier/pannierlaw04.BytesWrites", spec := "bytesWrites", unfollowed := true, recurses := true, apart := false }
def BytesWritesSaid : Prop := bytesWritesRow.holds Try.pinned (OpenSpec.ofChange bytesWritesSpec)

/-- ITS FALSE NEIGHBOUR: 'it returns false'. Refute it at one input. -/
def bytesWritesWrong : ChangeSpec := { name := "bytesWrites", fn := fun _ => fun
  | [d] => { results := [.lit (.bool false)], args := [d] }
  | _ => none }
def BytesWritesWrongFalsely : Prop := bytesWritesRow.holds Try.pinned (OpenSpec.ofChange bytesWritesWrong)

/-- 'pannierlaw04.BytesReads': WHATEVER THE INPUT: true; the input reads as it did. -/
def bytesReadsSpec : ChangeSpec := { name := "bytesReads", fn := fun _ => fun
  | [d1, d2] => { results := [.lit (.bool true)], args := [d1, d2] }
  | _ => none }
def bytesReadsRow : OpenClaim := { program := "ytmhkbchbglnbpaa", sum := "2bed6d0fd0d5c41334a9f71b3e3329b535db8f93051a9cdd57aaf2591e9a4510", func := "pannier/pannierlaw04.BytesReads", spec := "bytesReads", unfollowed := true, recurses := true, apart := false }
def BytesReadsSaid : Prop := bytesReadsRow.holds Try.pinned (OpenSpec.ofChange bytesReadsSpec)

/-- ITS FALSE NEIGHBOUR: 'it returns false'. Refute it at one input. -/
def bytesReadsWrong : ChangeSpec := { name := "bytesReads", fn := fun _ => fun
  | [d1, d2] => { results := [.lit (.bool false)], args := [d1, d2] }
  | _ => none }
def BytesReadsWrongFalsely : Prop := bytesReadsRow.holds Try.pinned (OpenSpec.ofChange bytesReadsWrong)

/-- 'pannierlaw04.BytesNil': WHATEVER THE INPUT: true; the input reads as it did. -/
def bytesNilSpec : ChangeSpec := { name := "bytesNil", fn := fun _ => fun
  | [d1, d2, d3] => { results := [.lit (.bool true)], args := [d1, d2, d3] }
  | _ => none }
def bytesNilRow : OpenClaim := { program := "ytmhkbchbglnbpaa", sum := "2bed6d0fd0d5c41334a9f71b3e3329b535db8f93051a9cdd57aaf2591e9a4510", func := "pannier/pannierlaw04.BytesNil", spec := "bytesNil", unfollowed := true, recurses := true, apart := false }
def BytesNilSaid : Prop := bytesNilRow.holds Try.pinned (OpenSpec.ofChange bytesNilSpec)

/-- ITS FALSE NEIGHBOUR: 'it returns false'. Refute it at one input. -/
def bytesNilWrong : ChangeSpec := { name := "bytesNil", fn := fun _ => fun
  | [d1, d2, d3] => { results := [.lit (.bool false)], args := [d1, d2, d3] }
  | _ => none }
def BytesNilWrongFalsely : Prop := bytesNilRow.holds Try.pinned (OpenSpec.ofChange bytesNilWrong)

/- THE SECOND FORM. 'bulk': how many values and letters a reading holds, each counted each time it is reached (what is shared counts as often as it is met; a slice's spare places count too). A statement '..UptoSaid' is the law's where the arguments, and the package variables that the reading takes, are together of bulk at most 1048576: NARROWER than '..Said'. Prove '..Said' where nothing that the law and all that it calls make is longer than what came in: it says more and counts as full. Else prove '..UptoSaid'. A law counts once. -/
mutual
def uptoBulk {H : Type} : DataW H → Nat
  | .lit (.string bytes) => bytes.length + 1
  | .lit _ => 1
  | .nil => 1
  | .ptr d => uptoBulk d + 1
  | .slice elems spare => uptoBulkAll elems + uptoBulkAll spare + 1
  | .agg parts => uptoBulkAll parts + 1
  | .iface _ d => uptoBulk d + 1
  | .map entries => uptoBulkEntries entries + 1
  | .held _ => 1
def uptoBulkAll {H : Type} : List (DataW H) → Nat
  | [] => 0
  | d :: r => uptoBulk d + uptoBulkAll r
def uptoBulkEntries {H : Type} : List (Lit × DataW H) → Nat
  | [] => 0
  | x :: r => uptoBulkEntry x + uptoBulkEntries r
def uptoBulkEntry {H : Type} : Lit × DataW H → Nat
  | (.string bytes, d) => bytes.length + uptoBulk d + 1
  | (_, d) => uptoBulk d + 1
 end
def uptoSmall : (H : Type) → List (DataW H) → Bool := fun _ ds => decide (uptoBulkAll ds ≤ 1048576)
def OpenSpec.upto (s : _root_.Go.ChangeSpec) : _root_.Go.OpenSpec := { _root_.Go.OpenSpec.ofChange s with cond := some uptoSmall }

/-- 'pannierlaw04.BytesNumbers', WHERE WHAT IT READS IS OF BULK AT MOST 1048576: true; the input reads as it did. -/
def bytesNumbersUptoRow : OpenClaim := { program := "ytmhkbchbglnbpaa", sum := "2bed6d0fd0d5c41334a9f71b3e3329b535db8f93051a9cdd57aaf2591e9a4510", func := "pannier/pannierlaw04.BytesNumbers", spec := "bytesNumbers", unfollowed := true, recurses := true, apart := false, narrowed := true }
def BytesNumbersUptoSaid : Prop := bytesNumbersUptoRow.holds Try.pinned (OpenSpec.upto bytesNumbersSpec)

/-- 'pannierlaw04.BytesHolds', WHERE WHAT IT READS IS OF BULK AT MOST 1048576: true; the input reads as it did. -/
def bytesHoldsUptoRow : OpenClaim := { program := "ytmhkbchbglnbpaa", sum := "2bed6d0fd0d5c41334a9f71b3e3329b535db8f93051a9cdd57aaf2591e9a4510", func := "pannier/pannierlaw04.BytesHolds", spec := "bytesHolds", unfollowed := true, recurses := true, apart := false, narrowed := true }
def BytesHoldsUptoSaid : Prop := bytesHoldsUptoRow.holds Try.pinned (OpenSpec.upto bytesHoldsSpec)

/-- 'pannierlaw04.BytesWrites', WHERE WHAT IT READS IS OF BULK AT MOST 1048576: true; the input reads as it did. -/
def bytesWritesUptoRow : OpenClaim := { program := "ytmhkbchbglnbpaa", sum := "2bed6d0fd0d5c41334a9f71b3e3329b535db8f93051a9cdd57aaf2591e9a4510", func := "pannier/pannierlaw04.BytesWrites", spec := "bytesWrites", unfollowed := true, recurses := true, apart := false, narrowed := true }
def BytesWritesUptoSaid : Prop := bytesWritesUptoRow.holds Try.pinned (OpenSpec.upto bytesWritesSpec)

/-- 'pannierlaw04.BytesReads', WHERE WHAT IT READS IS OF BULK AT MOST 1048576: true; the input reads as it did. -/
def bytesReadsUptoRow : OpenClaim := { program := "ytmhkbchbglnbpaa", sum := "2bed6d0fd0d5c41334a9f71b3e3329b535db8f93051a9cdd57aaf2591e9a4510", func := "pannier/pannierlaw04.BytesReads", spec := "bytesReads", unfollowed := true, recurses := true, apart := false, narrowed := true }
def BytesReadsUptoSaid : Prop := bytesReadsUptoRow.holds Try.pinned (OpenSpec.upto bytesReadsSpec)

/-- 'pannierlaw04.BytesNil', WHERE WHAT IT READS IS OF BULK AT MOST 1048576: true; the input reads as it did. -/
def bytesNilUptoRow : OpenClaim := { program := "ytmhkbchbglnbpaa", sum := "2bed6d0fd0d5c41334a9f71b3e3329b535db8f93051a9cdd57aaf2591e9a4510", func := "pannier/pannierlaw04.BytesNil", spec := "bytesNil", unfollowed := true, recurses := true, apart := false, narrowed := true }
def BytesNilUptoSaid : Prop := bytesNilUptoRow.holds Try.pinned (OpenSpec.upto bytesNilSpec)

end Rows
end Go.Proofs.Ytmhkbchbglnbpaa
