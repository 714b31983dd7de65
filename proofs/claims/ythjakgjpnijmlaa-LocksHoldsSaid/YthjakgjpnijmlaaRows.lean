/-
  No cell of these rows narrows 'for every input' (looked for: loops, veiled, ifaces, maps, wideKeys, modest, calm, conditions, laid).
  DERIVED. THE GIVEN ROWS OF THIS SEAT. 5 by the template 'for every input the law returns true; each argument reads behind the call as it read before'; 0 by the template 'total and deterministic' (their statements: YthjakgjpnijmlaaTotals.lean).
  GIVEN WITH THE SEED: the statements are not yours to turn. If you find one false, say at which input.
  Laid BY PROGRAM, IN A SANDBOX (cutbox-rows.mjs): the forced cells as the released guide's own fill.sh prints them over the translation f21925960f4574f3… (all of the seat's roots in one cut). By AI agents, Wed Nov 11 2026. No macro, syntax, notation, axiom, sorry.
-/
import Derived.Test.YthjakgjpnijmlaaChecked
import GoSem.Claim
import GoSem.ClaimJoined
import GoSem.ClaimMapViews
import Derived.JoinedTies
import Derived.KernelRfl
namespace Go.Proofs.Ythjakgjpnijmlaa
/- THE CELL 'sum', in the pinned program and in every row, IS THE sha256 OF THE DUMP (.gsa) THAT YthjakgjpnijmlaaProg.lean LOADS. Nothing in Lean hashes anything: it is a label: what it is worth is what the hold of that sum in a sandbox is worth. -/
noncomputable def Try.pinned : Pinned := { name := "ythjakgjpnijmlaa", sum := "f21925960f4574f39e66c077bddafb418eecd96243aabca47480cf2f258db32a", checked := Try.checked }
namespace Rows
def none {H : Type} : Left H := { results := [], args := [] }

/-- 'pannierlaw19.LocksQueues': WHATEVER THE INPUT: true; the input reads as it did. -/
def locksQueuesSpec : ChangeSpec := { name := "locksQueues", fn := fun _ => fun
  | [d1, d2] => { results := [.lit (.bool true)], args := [d1, d2] }
  | _ => none }
def locksQueuesRow : OpenClaim := { program := "ythjakgjpnijmlaa", sum := "f21925960f4574f39e66c077bddafb418eecd96243aabca47480cf2f258db32a", func := "pannier/pannierlaw19.LocksQueues", spec := "locksQueues", unfollowed := true, recurses := true, apart := false }
def LocksQueuesSaid : Prop := locksQueuesRow.holds Try.pinned (OpenSpec.ofChange locksQueuesSpec)

/-- ITS FALSE NEIGHBOUR: 'it returns false'. Refute it at one input. -/
def locksQueuesWrong : ChangeSpec := { name := "locksQueues", fn := fun _ => fun
  | [d1, d2] => { results := [.lit (.bool false)], args := [d1, d2] }
  | _ => none }
def LocksQueuesWrongFalsely : Prop := locksQueuesRow.holds Try.pinned (OpenSpec.ofChange locksQueuesWrong)

/-- 'pannierlaw19.LocksHolds': WHATEVER THE INPUT: true; the input reads as it did. -/
def locksHoldsSpec : ChangeSpec := { name := "locksHolds", fn := fun _ => fun
  | [d1, d2] => { results := [.lit (.bool true)], args := [d1, d2] }
  | _ => none }
def locksHoldsRow : OpenClaim := { program := "ythjakgjpnijmlaa", sum := "f21925960f4574f39e66c077bddafb418eecd96243aabca47480cf2f258db32a", func := "pannier/pannierlaw19.LocksHolds", spec := "locksHolds", unfollowed := true, recurses := true, apart := false }
def LocksHoldsSaid : Prop := locksHoldsRow.holds Try.pinned (OpenSpec.ofChange locksHoldsSpec)

/-- ITS FALSE NEIGHBOUR: 'it returns false'. Refute it at one input. -/
def locksHoldsWrong : ChangeSpec := { name := "locksHolds", fn := fun _ => fun
  | [d1, d2] => { results := [.lit (.bool false)], args := [d1, d2] }
  | _ => none }
def LocksHoldsWrongFalsely : Prop := locksHoldsRow.holds Try.pinned (OpenSpec.ofChange locksHoldsWrong)

/-- 'pannierlaw19.LocksNew': WHATEVER THE INPUT: true; the input reads as it did. -/
def locksNewSpec : ChangeSpec := { name := "locksNew", fn := fun _ => fun
  | [d] => { results := [.lit (.bool true)], args := [d] }
  | _ => none }
def locksNewRow : OpenClaim := { program := "ythjakgjpnijmlaa", sum := "f21925960f4574f39e66c077bddafb418eecd96243aabca47480cf2f258db32a", func := "pannier/pannierlaw19.LocksNew", spec := "locksNew", unfollowed := true, recurses := true, apart := false }
def LocksNewSaid : Prop := locksNewRow.holds Try.pinned (OpenSpec.ofChange locksNewSpec)

/-- ITS FALSE NEIGHBOUR: 'it returns false'. Refute it at one input. -/
def locksNewWrong : ChangeSpec := { name := "locksNew", fn := fun _ => fun
  | [d] => { results := [.lit (.bool false)], args := [d] }
  | _ => none }
def LocksNewWrongFalsely : Prop := locksNewRow.holds Try.pinned (OpenSpec.ofChange locksNewWrong)

/-- 'pannierlaw19.LocksPlays': WHATEVER THE INPUT: true; the input reads as it did. -/
def locksPlaysSpec : ChangeSpec := { name := "locksPlays", fn := fun _ => fun
  | [d1, d2] => { results := [.lit (.bool true)], args := [d1, d2] }
  | _ => none }
def locksPlaysRow : OpenClaim := { program := "ythjakgjpnijmlaa", sum := "f21925960f4574f39e66c077bddafb418eecd96243aabca47480cf2f258db32a", func := "pannier/pannierlaw19.LocksPlays", spec := "locksPlays", unfollowed := true, recurses := true, apart := false }
def LocksPlaysSaid : Prop := locksPlaysRow.holds Try.pinned (OpenSpec.ofChange locksPlaysSpec)

/-- ITS FALSE NEIGHBOUR: 'it returns false'. Refute it at one input. -/
def locksPlaysWrong : ChangeSpec := { name := "locksPlays", fn := fun _ => fun
  | [d1, d2] => { results := [.lit (.bool false)], args := [d1, d2] }
  | _ => none }
def LocksPlaysWrongFalsely : Prop := locksPlaysRow.holds Try.pinned (OpenSpec.ofChange locksPlaysWrong)

/-- 'pannierlaw19.LocksNil': WHATEVER THE INPUT: true; the input reads as it did. -/
def locksNilSpec : ChangeSpec := { name := "locksNil", fn := fun _ => fun
  | [d1, d2] => { results := [.lit (.bool true)], args := [d1, d2] }
  | _ => none }
def locksNilRow : OpenClaim := { program := "ythjakgjpnijmlaa", sum := "f21925960f4574f39e66c077bddafb418eecd96243aabca47480cf2f258db32a", func := "pannier/pannierlaw19.LocksNil", spec := "locksNil", unfollowed := true, recurses := true, apart := false }
def LocksNilSaid : Prop := locksNilRow.holds Try.pinned (OpenSpec.ofChange locksNilSpec)

/-- ITS FALSE NEIGHBOUR: 'it returns false'. Refute it at one input. -/
def locksNilWrong : ChangeSpec := { name := "locksNil", fn := fun _ => fun
  | [d1, d2] => { results := [.lit (.bool false)], args := [d1, d2] }
  | _ => none }
def LocksNilWrongFalsely : Prop := locksNilRow.holds Try.pinned (OpenSpec.ofChange locksNilWrong)

/- THE SECOND FORM. 'bulk': how many values and letters a reading holds, each counted each time it is reached (what is shared counts as often as it is met; a slice's spare places count too). A statement '..UptoSaid' is the law's where the arguments, and the package variables that the reading takes, are together of bulk at most 1048576: NARROWER than '..Said'. Prove '..Said' where nothing that the law and all that it calls make is longer than what came in: it says more and counts as full. Else prove '..UptoSaid'. A law counts once. -/
mutual
def uptoBulk {H : Type} : DataW H → Nat
  | .lit (.string bytes) => bytes.length + 1
  | .lit _ => 1
  | .nil => 1
  | .ptr d => uptoBulk d + 1
  | .slice elems spare => uptoBulkAll elems + uptoBulkAll spare + 1
  | .agg parts => uptoBulkAll parts + 1
  | .iface _ d => uptoBulk d + 1
  | .map entries => uptoBulkEntries entries + 1
  | .held _ => 1
def uptoBulkAll {H : Type} : List (DataW H) → Nat
  | [] => 0
  | d :: r => uptoBulk d + uptoBulkAll r
def uptoBulkEntries {H : Type} : List (Lit × DataW H) → Nat
  | [] => 0
  | x :: r => uptoBulkEntry x + uptoBulkEntries r
def uptoBulkEntry {H : Type} : Lit × DataW H → Nat
  | (.string bytes, d) => bytes.length + uptoBulk d + 1
  | (_, d) => uptoBulk d + 1
 end
def uptoSmall : (H : Type) → List (DataW H) → Bool := fun _ ds => decide (uptoBulkAll ds ≤ 1048576)
def OpenSpec.upto (s : _root_.Go.ChangeSpec) : _root_.Go.OpenSpec := { _root_.Go.OpenSpec.ofChange s with cond := some uptoSmall }

/-- 'pannierlaw19.LocksQueues', WHERE WHAT IT READS IS OF BULK AT MOST 1048576: true; the input reads as it did. -/
def locksQueuesUptoRow : OpenClaim := { program := "ythjakgjpnijmlaa", sum := "f21925960f4574f39e66c077bddafb418eecd96243aabca47480cf2f258db32a", func := "pannier/pannierlaw19.LocksQueues", spec := "locksQueues", unfollowed := true, recurses := true, apart := false, narrowed := true }
def LocksQueuesUptoSaid : Prop := locksQueuesUptoRow.holds Try.pinned (OpenSpec.upto locksQueuesSpec)

/-- 'pannierlaw19.LocksHolds', WHERE WHAT IT READS IS OF BULK AT MOST 1048576: true; the input reads as it did. -/
def locksHoldsUptoRow : OpenClaim := { program := "ythjakgjpnijmlaa", sum := "f21925960f4574f39e66c077bddafb418eecd96243aabca47480cf2f258db32a", func := "pannier/pannierlaw19.LocksHolds", spec := "locksHolds", unfollowed := true, recurses := true, apart := false, narrowed := true }
def LocksHoldsUptoSaid : Prop := locksHoldsUptoRow.holds Try.pinned (OpenSpec.upto locksHoldsSpec)

/-- 'pannierlaw19.LocksNew', WHERE WHAT IT READS IS OF BULK AT MOST 1048576: true; the input reads as it did. -/
def locksNewUptoRow : OpenClaim := { program := "ythjakgjpnijmlaa", sum := "f21925960f4574f39e66c077bddafb418eecd96243aabca47480cf2f258db32a", func := "pannier/pannierlaw19.LocksNew", spec := "locksNew", unfollowed := true, recurses := true, apart := false, narrowed := true }
def LocksNewUptoSaid : Prop := locksNewUptoRow.holds Try.pinned (OpenSpec.upto locksNewSpec)

/-- 'pannierlaw19.LocksPlays', WHERE WHAT IT READS IS OF BULK AT MOST 1048576: true; the input reads as it did. -/
def locksPlaysUptoRow : OpenClaim := { program := "ythjakgjpnijmlaa", sum := "f21925960f4574f39e66c077bddafb418eecd96243aabca47480cf2f258db32a", func := "pannier/pannierlaw19.LocksPlays", spec := "locksPlays", unfollowed := true, recurses := true, apart := false, narrowed := true }
def LocksPlaysUptoSaid : Prop := locksPlaysUptoRow.holds Try.pinned (OpenSpec.upto locksPlaysSpec)

/-- 'pannierlaw19.LocksNil', WHERE WHAT IT READS IS OF BULK AT MOST 1048576: true; the input reads as it did. -/
def locksNilUptoRow : OpenClaim := { program := "ythjakgjpnijmlaa", sum := "f21925960f4574f39e66c077bddafb418eecd96243aabca47480cf2f258db32a", func := "pannier/pannierlaw19.LocksNil", spec := "locksNil", unfollowed := true, recurses := true, apart := false, narrowed := true }
def LocksNilUptoSaid : Prop := locksNilUptoRow.holds Try.pinned (OpenSpec.upto locksNilSpec)

end Rows
end Go.Proofs.Ythjakgjpnijmlaa
