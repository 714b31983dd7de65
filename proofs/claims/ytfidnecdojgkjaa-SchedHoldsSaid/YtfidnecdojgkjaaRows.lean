/-
  No cell of these rows narrows 'for every input' (looked for: loops, veiled, ifaces, maps, wideKeys, modest, calm, conditions, laid).
  DERIVED. THE GIVEN ROWS OF THIS SEAT. 7 by the template 'for every input the law returns true; each argument reads behind the call as it read before'; 0 by the template 'total and deterministic' (their statements: YtfidnecdojgkjaaTotals.lean).
  GIVEN WITH THE SEED: the statements are not yours to turn. If you find one false, say at which input.
  Laid BY PROGRAM, IN A SANDBOX (cutbox-rows.mjs): the forced cells as the released guide's own fill.sh prints them over the translation 29a2b30def150a0e… (all of the seat's roots in one cut). By AI agents, Wed Nov 11 2026. No macro, syntax, notation, axiom, sorry.
-/
import Derived.Test.YtfidnecdojgkjaaChecked
import GoSem.Claim
import GoSem.ClaimJoined
import GoSem.ClaimMapViews
import Derived.JoinedTies
import Derived.KernelRfl
namespace Go.Proofs.Ytfidnecdojgkjaa
/- THE CELL 'sum', in the pinned program and in every row, IS THE sha256 OF THE DUMP (.gsa) THAT YtfidnecdojgkjaaProg.lean LOADS. Nothing in Lean hashes anything: it is a label: what it is worth is what the hold of that sum in a sandbox is worth. -/
noncomputable def Try.pinned : Pinned := { name := "ytfidnecdojgkjaa", sum := "29a2b30def150a0efd0acdbd1a0f1c51e19a17a367f36c99088d21a7796a72f0", checked := Try.checked }
namespace Rows
def none {H : Type} : Left H := { results := [], args := [] }

/-- 'pannierlaw28.SchedNew': WHATEVER THE INPUT: true; the input reads as it did. -/
def schedNewSpec : ChangeSpec := { name := "schedNew", fn := fun _ => fun
  | [d1, d2, d3] => { results := [.lit (.bool true)], args := [d1, d2, d3] }
  | _ => none }
def schedNewRow : OpenClaim := { program := "ytfidnecdojgkjaa", sum := "29a2b30def150a0efd0acdbd1a0f1c51e19a17a367f36c99088d21a7796a72f0", func := "pannier/pannierlaw28.SchedNew", spec := "schedNew", unfollowed := true, recurses := true, apart := false }
def SchedNewSaid : Prop := schedNewRow.holds Try.pinned (OpenSpec.ofChange schedNewSpec)

/-- ITS FALSE NEIGHBOUR: 'it returns false'. Refute it at one input. -/
def schedNewWrong : ChangeSpec := { name := "schedNew", fn := fun _ => fun
  | [d1, d2, d3] => { results := [.lit (.bool false)], args := [d1, d2, d3] }
  | _ => none }
def SchedNewWrongFalsely : Prop := schedNewRow.holds Try.pinned (OpenSpec.ofChange schedNewWrong)

/-- 'pannierlaw28.SchedWorst': WHATEVER THE INPUT: true; the input reads as it did. -/
def schedWorstSpec : ChangeSpec := { name := "schedWorst", fn := fun _ => fun
  | [d] => { results := [.lit (.bool true)], args := [d] }
  | _ => none }
def schedWorstRow : OpenClaim := { program := "ytfidnecdojgkjaa", sum := "29a2b30def150a0efd0acdbd1a0f1c51e19a17a367f36c99088d21a7796a72f0", func := "pannier/pannierlaw28.SchedWorst", spec := "schedWorst", unfollowed := true, recurses := true, apart := false }
def SchedWorstSaid : Prop := schedWorstRow.holds Try.pinned (OpenSpec.ofChange schedWorstSpec)

/-- ITS FALSE NEIGHBOUR: 'it returns false'. Refute it at one input. -/
def schedWorstWrong : ChangeSpec := { name := "schedWorst", fn := fun _ => fun
  | [d] => { results := [.lit (.bool false)], args := [d] }
  | _ => none }
def SchedWorstWrongFalsely : Prop := schedWorstRow.holds Try.pinned (OpenSpec.ofChange schedWorstWrong)

/-- 'pannierlaw28.SchedFair': WHATEVER THE INPUT: true; the input reads as it did. -/
def schedFairSpec : ChangeSpec := { name := "schedFair", fn := fun _ => fun
  | [d1, d2] => { results := [.lit (.bool true)], args := [d1, d2] }
  | _ => none }
def schedFairRow : OpenClaim := { program := "ytfidnecdojgkjaa", sum := "29a2b30def150a0efd0acdbd1a0f1c51e19a17a367f36c99088d21a7796a72f0", func := "pannier/pannierlaw28.SchedFair", spec := "schedFair", unfollowed := true, recurses := true, apart := false }
def SchedFairSaid : Prop := schedFairRow.holds Try.pinned (OpenSpec.ofChange schedFairSpec)

/-- ITS FALSE NEIGHBOUR: 'it returns false'. Refute it at one input. -/
def schedFairWrong : ChangeSpec := { name := "schedFair", fn := fun _ => fun
  | [d1, d2] => { results := [.lit (.bool false)], args := [d1, d2] }
  | _ => none }
def SchedFairWrongFalsely : Prop := schedFairRow.holds Try.pinned (OpenSpec.ofChange schedFairWrong)

/-- 'pannierlaw28.SchedLongs': WHATEVER THE INPUT: true; the input reads as it did. -/
def schedLongsSpec : ChangeSpec := { name := "schedLongs", fn := fun _ => fun
  | [d1, d2] => { results := [.lit (.bool true)], args := [d1, d2] }
  | _ => none }
def schedLongsRow : OpenClaim := { program := "ytfidnecdojgkjaa", sum := "29a2b30def150a0efd0acdbd1a0f1c51e19a17a367f36c99088d21a7796a72f0", func := "pannier/pannierlaw28.SchedLongs", spec := "schedLongs", unfollowed := true, recurses := true, apart := false }
def SchedLongsSaid : Prop := schedLongsRow.holds Try.pinned (OpenSpec.ofChange schedLongsSpec)

/-- ITS FALSE NEIGHBOUR: 'it returns false'. Refute it at one input. -/
def schedLongsWrong : ChangeSpec := { name := "schedLongs", fn := fun _ => fun
  | [d1, d2] => { results := [.lit (.bool false)], args := [d1, d2] }
  | _ => none }
def SchedLongsWrongFalsely : Prop := schedLongsRow.holds Try.pinned (OpenSpec.ofChange schedLongsWrong)

/-- 'pannierlaw28.SchedHolds': WHATEVER THE INPUT: true; the input reads as it did. -/
def schedHoldsSpec : ChangeSpec := { name := "schedHolds", fn := fun _ => fun
  | [d1, d2, d3, d4] => { results := [.lit (.bool true)], args := [d1, d2, d3, d4] }
  | _ => none }
def schedHoldsRow : OpenClaim := { program := "ytfidnecdojgkjaa", sum := "29a2b30def150a0efd0acdbd1a0f1c51e19a17a367f36c99088d21a7796a72f0", func := "pannier/pannierlaw28.SchedHolds", spec := "schedHolds", unfollowed := true, recurses := true, apart := false }
def SchedHoldsSaid : Prop := schedHoldsRow.holds Try.pinned (OpenSpec.ofChange schedHoldsSpec)

/-- ITS FALSE NEIGHBOUR: 'it returns false'. Refute it at one input. -/
def schedHoldsWrong : ChangeSpec := { name := "schedHolds", fn := fun _ => fun
  | [d1, d2, d3, d4] => { results := [.lit (.bool false)], args := [d1, d2, d3, d4] }
  | _ => none }
def SchedHoldsWrongFalsely : Prop := schedHoldsRow.holds Try.pinned (OpenSpec.ofChange schedHoldsWrong)

/-- 'pannierlaw28.SchedPlays': WHATEVER THE INPUT: true; the input reads as it did. -/
def schedPlaysSpec : ChangeSpec := { name := "schedPlays", fn := fun _ => fun
  | [d1, d2, d3] => { results := [.lit (.bool true)], args := [d1, d2, d3] }
  | _ => none }
def schedPlaysRow : OpenClaim := { program := "ytfidnecdojgkjaa", sum := "29a2b30def150a0efd0acdbd1a0f1c51e19a17a367f36c99088d21a7796a72f0", func := "pannier/pannierlaw28.SchedPlays", spec := "schedPlays", inPlace := ["maps.clone"], unfollowed := true, recurses := true, apart := false }
def SchedPlaysSaid : Prop := schedPlaysRow.holds Try.pinned (OpenSpec.ofChange schedPlaysSpec)

/-- ITS FALSE NEIGHBOUR: 'it returns false'. Refute it at one input. -/
def schedPlaysWrong : ChangeSpec := { name := "schedPlays", fn := fun _ => fun
  | [d1, d2, d3] => { results := [.lit (.bool false)], args := [d1, d2, d3] }
  | _ => none }
def SchedPlaysWrongFalsely : Prop := schedPlaysRow.holds Try.pinned (OpenSpec.ofChange schedPlaysWrong)

/-- 'pannierlaw28.SchedNil': WHATEVER THE INPUT: true; the input reads as it did. -/
def schedNilSpec : ChangeSpec := { name := "schedNil", fn := fun _ => fun
  | [d] => { results := [.lit (.bool true)], args := [d] }
  | _ => none }
def schedNilRow : OpenClaim := { program := "ytfidnecdojgkjaa", sum := "29a2b30def150a0efd0acdbd1a0f1c51e19a17a367f36c99088d21a7796a72f0", func := "pannier/pannierlaw28.SchedNil", spec := "schedNil", inPlace := ["maps.clone"], unfollowed := true, recurses := true, apart := false }
def SchedNilSaid : Prop := schedNilRow.holds Try.pinned (OpenSpec.ofChange schedNilSpec)

/-- ITS FALSE NEIGHBOUR: 'it returns false'. Refute it at one input. -/
def schedNilWrong : ChangeSpec := { name := "schedNil", fn := fun _ => fun
  | [d] => { results := [.lit (.bool false)], args := [d] }
  | _ => none }
def SchedNilWrongFalsely : Prop := schedNilRow.holds Try.pinned (OpenSpec.ofChange schedNilWrong)

/- THE SECOND FORM. 'bulk': how many values and letters a reading holds, each counted each time it is reached (what is shared counts as often as it is met; a slice's spare places count too). A statement '..UptoSaid' is the law's where the arguments, and the package variables that the reading takes, are together of bulk at most 1048576: NARROWER than '..Said'. Prove '..Said' where nothing that the law and all that it calls make is longer than what came in: it says more and counts as full. Else prove '..UptoSaid'. A law counts once. -/
mutual
def uptoBulk {H : Type} : DataW H → Nat
  | .lit (.string bytes) => bytes.length + 1
  | .lit _ => 1
  | .nil => 1
  | .ptr d => uptoBulk d + 1
  | .slice elems spare => uptoBulkAll elems + uptoBulkAll spare + 1
  | .agg parts => uptoBulkAll parts + 1
  | .iface _ d => uptoBulk d + 1
  | .map entries => uptoBulkEntries entries + 1
  | .held _ => 1
def uptoBulkAll {H : Type} : List (DataW H) → Nat
  | [] => 0
  | d :: r => uptoBulk d + uptoBulkAll r
def uptoBulkEntries {H : Type} : List (Lit × DataW H) → Nat
  | [] => 0
  | x :: r => uptoBulkEntry x + uptoBulkEntries r
def uptoBulkEntry {H : Type} : Lit × DataW H → Nat
  | (.string bytes, d) => bytes.length + uptoBulk d + 1
  | (_, d) => uptoBulk d + 1
 end
def uptoSmall : (H : Type) → List (DataW H) → Bool := fun _ ds => decide (uptoBulkAll ds ≤ 1048576)
def OpenSpec.upto (s : _root_.Go.ChangeSpec) : _root_.Go.OpenSpec := { _root_.Go.OpenSpec.ofChange s with cond := some uptoSmall }

/-- 'pannierlaw28.SchedNew', WHERE WHAT IT READS IS OF BULK AT MOST 1048576: true; the input reads as it did. -/
def schedNewUptoRow : OpenClaim := { program := "ytfidnecdojgkjaa", sum := "29a2b30def150a0efd0acdbd1a0f1c51e19a17a367f36c99088d21a7796a72f0", func := "pannier/pannierlaw28.SchedNew", spec := "schedNew", unfollowed := true, recurses := true, apart := false, narrowed := true }
def SchedNewUptoSaid : Prop := schedNewUptoRow.holds Try.pinned (OpenSpec.upto schedNewSpec)

/-- 'pannierlaw28.SchedWorst', WHERE WHAT IT READS IS OF BULK AT MOST 1048576: true; the input reads as it did. -/
def schedWorstUptoRow : OpenClaim := { program := "ytfidnecdojgkjaa", sum := "29a2b30def150a0efd0acdbd1a0f1c51e19a17a367f36c99088d21a7796a72f0", func := "pannier/pannierlaw28.SchedWorst", spec := "schedWorst", unfollowed := true, recurses := true, apart := false, narrowed := true }
def SchedWorstUptoSaid : Prop := schedWorstUptoRow.holds Try.pinned (OpenSpec.upto schedWorstSpec)

/-- 'pannierlaw28.SchedFair', WHERE WHAT IT READS IS OF BULK AT MOST 1048576: true; the input reads as it did. -/
def schedFairUptoRow : OpenClaim := { program := "ytfidnecdojgkjaa", sum := "29a2b30def150a0efd0acdbd1a0f1c51e19a17a367f36c99088d21a7796a72f0", func := "pannier/pannierlaw28.SchedFair", spec := "schedFair", unfollowed := true, recurses := true, apart := false, narrowed := true }
def SchedFairUptoSaid : Prop := schedFairUptoRow.holds Try.pinned (OpenSpec.upto schedFairSpec)

/-- 'pannierlaw28.SchedLongs', WHERE WHAT IT READS IS OF BULK AT MOST 1048576: true; the input reads as it did. -/
def schedLongsUptoRow : OpenClaim := { program := "ytfidnecdojgkjaa", sum := "29a2b30def150a0efd0acdbd1a0f1c51e19a17a367f36c99088d21a7796a72f0", func := "pannier/pannierlaw28.SchedLongs", spec := "schedLongs", unfollowed := true, recurses := true, apart := false, narrowed := true }
def SchedLongsUptoSaid : Prop := schedLongsUptoRow.holds Try.pinned (OpenSpec.upto schedLongsSpec)

/-- 'pannierlaw28.SchedHolds', WHERE WHAT IT READS IS OF BULK AT MOST 1048576: true; the input reads as it did. -/
def schedHoldsUptoRow : OpenClaim := { program := "ytfidnecdojgkjaa", sum := "29a2b30def150a0efd0acdbd1a0f1c51e19a17a367f36c99088d21a7796a72f0", func := "pannier/pannierlaw28.SchedHolds", spec := "schedHolds", unfollowed := true, recurses := true, apart := false, narrowed := true }
def SchedHoldsUptoSaid : Prop := schedHoldsUptoRow.holds Try.pinned (OpenSpec.upto schedHoldsSpec)

/-- 'pannierlaw28.SchedPlays', WHERE WHAT IT READS IS OF BULK AT MOST 1048576: true; the input reads as it did. -/
def schedPlaysUptoRow : OpenClaim := { program := "ytfidnecdojgkjaa", sum := "29a2b30def150a0efd0acdbd1a0f1c51e19a17a367f36c99088d21a7796a72f0", func := "pannier/pannierlaw28.SchedPlays", spec := "schedPlays", inPlace := ["maps.clone"], unfollowed := true, recurses := true, apart := false, narrowed := true }
def SchedPlaysUptoSaid : Prop := schedPlaysUptoRow.holds Try.pinned (OpenSpec.upto schedPlaysSpec)

/-- 'pannierlaw28.SchedNil', WHERE WHAT IT READS IS OF BULK AT MOST 1048576: true; the input reads as it did. -/
def schedNilUptoRow : OpenClaim := { program := "ytfidnecdojgkjaa", sum := "29a2b30def150a0efd0acdbd1a0f1c51e19a17a367f36c99088d21a7796a72f0", func := "pannier/pannierlaw28.SchedNil", spec := "schedNil", inPlace := ["maps.clone"], unfollowed := true, recurses := true, apart := false, narrowed := true }
def SchedNilUptoSaid : Prop := schedNilUptoRow.holds Try.pinned (OpenSpec.upto schedNilSpec)

end Rows
end Go.Proofs.Ytfidnecdojgkjaa
