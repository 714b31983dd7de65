/-
  NARROWER THAN 'FOR EVERY INPUT', by the rows' own cells (each row's printed sentence says how): HashSums: laid · HashStripes: laid · HashOrders: laid · HashBytes: laid · HashHolds: laid.
  DERIVED. THE GIVEN ROWS OF THIS SEAT. 5 by the template 'for every input the law returns true; each argument reads behind the call as it read before'; 0 by the template 'total and deterministic' (their statements: YtflpcolpklnipaaDoorTotals.lean).
  GIVEN WITH THE SEED: the statements are not yours to turn. If you find one false, say at which input.
  Laid BY PROGRAM, IN A SANDBOX (cutbox-rows.mjs): the forced cells as the released guide's own fill.sh prints them over the translation a3e53c03a61df239… (all of the seat's roots in one cut). By AI agents, Wed Nov 11 2026. No macro, syntax, notation, axiom, sorry.
-/
import Derived.Test.YtflpcolpklnipaaDoorChecked
import GoSem.Claim
import GoSem.ClaimJoined
import GoSem.ClaimMapViews
import Derived.JoinedTies
import Derived.KernelRfl
namespace Go.Proofs.YtflpcolpklnipaaDoor
/- THE CELL 'sum', in the pinned program and in every row, IS THE sha256 OF THE DUMP (.gsa) THAT YtflpcolpklnipaaDoorProg.lean LOADS. Nothing in Lean hashes anything: it is a label: what it is worth is what the hold of that sum in a sandbox is worth. -/
noncomputable def Tryd.pinned : Pinned := { name := "ytflpcolpklnipaadoor", sum := "a3e53c03a61df2391201c257fc08e137d24d8b601b990e770745f176ae8d9bd6", checked := Tryd.checked }
namespace Rows
def none {H : Type} : Left H := { results := [], args := [] }

/- WHAT THE LISTED PACKAGE-LEVEL VARIABLES READ AS WHEN THE CALL BEGINS. Each datum BY PROGRAM (the guide's laid-datum.mjs) off the statement by which the dump's own 'gosem.cut.vars' lays the variable. In a bare row this is a premise. The card (YtflpcolpklnipaaDoorCards.lean) ties it to the program's text. -/
def laid_pannier_hash_small {H : Type} : DataW H := .agg [.lit (.int .u32 2166136261), .lit (.int .u32 16777619)]
def laid_pannier_hash_great {H : Type} : DataW H := .agg [.lit (.int .u64 14695981039346656037), .lit (.int .u64 1099511628211)]

/-- 'pannierlaw06.HashSums': WHATEVER THE INPUT: true; the input reads as it did. -/
def hashSumsSpec : ChangeSpec := { name := "hashSums", fn := fun _ => fun
  | [d] => { results := [.lit (.bool true)], args := [d] }
  | _ => none }
def hashSumsRow : OpenClaim := { program := "ytflpcolpklnipaadoor", sum := "a3e53c03a61df2391201c257fc08e137d24d8b601b990e770745f176ae8d9bd6", func := "pannier/pannierlaw06.HashSums", spec := "hashSums", named := ["pannier/hash.small", "pannier/hash.great"], apart := false, laid := [("pannier/hash.small", laid_pannier_hash_small), ("pannier/hash.great", laid_pannier_hash_great)] }
def HashSumsSaid : Prop := hashSumsRow.holds Tryd.pinned (OpenSpec.ofChange hashSumsSpec)

/-- ITS FALSE NEIGHBOUR: 'it returns false'. Refute it at one input. -/
def hashSumsWrong : ChangeSpec := { name := "hashSums", fn := fun _ => fun
  | [d] => { results := [.lit (.bool false)], args := [d] }
  | _ => none }
def HashSumsWrongFalsely : Prop := hashSumsRow.holds Tryd.pinned (OpenSpec.ofChange hashSumsWrong)

/-- 'pannierlaw06.HashStripes': WHATEVER THE INPUT: true; the input reads as it did. -/
def hashStripesSpec : ChangeSpec := { name := "hashStripes", fn := fun _ => fun
  | [d1, d2] => { results := [.lit (.bool true)], args := [d1, d2] }
  | _ => none }
def hashStripesRow : OpenClaim := { program := "ytflpcolpklnipaadoor", sum := "a3e53c03a61df2391201c257fc08e137d24d8b601b990e770745f176ae8d9bd6", func := "pannier/pannierlaw06.HashStripes", spec := "hashStripes", named := ["pannier/hash.small", "pannier/hash.great"], apart := false, laid := [("pannier/hash.small", laid_pannier_hash_small), ("pannier/hash.great", laid_pannier_hash_great)] }
def HashStripesSaid : Prop := hashStripesRow.holds Tryd.pinned (OpenSpec.ofChange hashStripesSpec)

/-- ITS FALSE NEIGHBOUR: 'it returns false'. Refute it at one input. -/
def hashStripesWrong : ChangeSpec := { name := "hashStripes", fn := fun _ => fun
  | [d1, d2] => { results := [.lit (.bool false)], args := [d1, d2] }
  | _ => none }
def HashStripesWrongFalsely : Prop := hashStripesRow.holds Tryd.pinned (OpenSpec.ofChange hashStripesWrong)

/-- 'pannierlaw06.HashOrders': WHATEVER THE INPUT: true; the input reads as it did. -/
def hashOrdersSpec : ChangeSpec := { name := "hashOrders", fn := fun _ => fun
  | [d1, d2] => { results := [.lit (.bool true)], args := [d1, d2] }
  | _ => none }
def hashOrdersRow : OpenClaim := { program := "ytflpcolpklnipaadoor", sum := "a3e53c03a61df2391201c257fc08e137d24d8b601b990e770745f176ae8d9bd6", func := "pannier/pannierlaw06.HashOrders", spec := "hashOrders", named := ["pannier/hash.small", "pannier/hash.great"], apart := false, laid := [("pannier/hash.small", laid_pannier_hash_small), ("pannier/hash.great", laid_pannier_hash_great)] }
def HashOrdersSaid : Prop := hashOrdersRow.holds Tryd.pinned (OpenSpec.ofChange hashOrdersSpec)

/-- ITS FALSE NEIGHBOUR: 'it returns false'. Refute it at one input. -/
def hashOrdersWrong : ChangeSpec := { name := "hashOrders", fn := fun _ => fun
  | [d1, d2] => { results := [.lit (.bool false)], args := [d1, d2] }
  | _ => none }
def HashOrdersWrongFalsely : Prop := hashOrdersRow.holds Tryd.pinned (OpenSpec.ofChange hashOrdersWrong)

/-- 'pannierlaw06.HashBytes': WHATEVER THE INPUT: true; the input reads as it did. -/
def hashBytesSpec : ChangeSpec := { name := "hashBytes", fn := fun _ => fun
  | [d1, d2, d3] => { results := [.lit (.bool true)], args := [d1, d2, d3] }
  | _ => none }
def hashBytesRow : OpenClaim := { program := "ytflpcolpklnipaadoor", sum := "a3e53c03a61df2391201c257fc08e137d24d8b601b990e770745f176ae8d9bd6", func := "pannier/pannierlaw06.HashBytes", spec := "hashBytes", named := ["pannier/hash.small", "pannier/hash.great"], apart := false, laid := [("pannier/hash.small", laid_pannier_hash_small), ("pannier/hash.great", laid_pannier_hash_great)] }
def HashBytesSaid : Prop := hashBytesRow.holds Tryd.pinned (OpenSpec.ofChange hashBytesSpec)

/-- ITS FALSE NEIGHBOUR: 'it returns false'. Refute it at one input. -/
def hashBytesWrong : ChangeSpec := { name := "hashBytes", fn := fun _ => fun
  | [d1, d2, d3] => { results := [.lit (.bool false)], args := [d1, d2, d3] }
  | _ => none }
def HashBytesWrongFalsely : Prop := hashBytesRow.holds Tryd.pinned (OpenSpec.ofChange hashBytesWrong)

/-- 'pannierlaw06.HashHolds': WHATEVER THE INPUT: true; the input reads as it did. -/
def hashHoldsSpec : ChangeSpec := { name := "hashHolds", fn := fun _ => fun
  | [d1, d2] => { results := [.lit (.bool true)], args := [d1, d2] }
  | _ => none }
def hashHoldsRow : OpenClaim := { program := "ytflpcolpklnipaadoor", sum := "a3e53c03a61df2391201c257fc08e137d24d8b601b990e770745f176ae8d9bd6", func := "pannier/pannierlaw06.HashHolds", spec := "hashHolds", named := ["pannier/hash.small", "pannier/hash.great"], apart := false, laid := [("pannier/hash.small", laid_pannier_hash_small), ("pannier/hash.great", laid_pannier_hash_great)] }
def HashHoldsSaid : Prop := hashHoldsRow.holds Tryd.pinned (OpenSpec.ofChange hashHoldsSpec)

/-- ITS FALSE NEIGHBOUR: 'it returns false'. Refute it at one input. -/
def hashHoldsWrong : ChangeSpec := { name := "hashHolds", fn := fun _ => fun
  | [d1, d2] => { results := [.lit (.bool false)], args := [d1, d2] }
  | _ => none }
def HashHoldsWrongFalsely : Prop := hashHoldsRow.holds Tryd.pinned (OpenSpec.ofChange hashHoldsWrong)

/- THE SECOND FORM. 'bulk': how many values and letters a reading holds, each counted each time it is reached (what is shared counts as often as it is met; a slice's spare places count too). A statement '..UptoSaid' is the law's where the arguments, and the package variables that the reading takes, are together of bulk at most 1048576: NARROWER than '..Said'. Prove '..Said' where nothing that the law and all that it calls make is longer than what came in: it says more and counts as full. Else prove '..UptoSaid'. A law counts once. -/
mutual
def uptoBulk {H : Type} : DataW H → Nat
  | .lit (.string bytes) => bytes.length + 1
  | .lit _ => 1
  | .nil => 1
  | .ptr d => uptoBulk d + 1
  | .slice elems spare => uptoBulkAll elems + uptoBulkAll spare + 1
  | .agg parts => uptoBulkAll parts + 1
  | .iface _ d => uptoBulk d + 1
  | .map entries => uptoBulkEntries entries + 1
  | .held _ => 1
def uptoBulkAll {H : Type} : List (DataW H) → Nat
  | [] => 0
  | d :: r => uptoBulk d + uptoBulkAll r
def uptoBulkEntries {H : Type} : List (Lit × DataW H) → Nat
  | [] => 0
  | x :: r => uptoBulkEntry x + uptoBulkEntries r
def uptoBulkEntry {H : Type} : Lit × DataW H → Nat
  | (.string bytes, d) => bytes.length + uptoBulk d + 1
  | (_, d) => uptoBulk d + 1
 end
def uptoSmall : (H : Type) → List (DataW H) → Bool := fun _ ds => decide (uptoBulkAll ds ≤ 1048576)
def OpenSpec.upto (s : _root_.Go.ChangeSpec) : _root_.Go.OpenSpec := { _root_.Go.OpenSpec.ofChange s with cond := some uptoSmall }

/-- 'pannierlaw06.HashSums', WHERE WHAT IT READS IS OF BULK AT MOST 1048576: true; the input reads as it did. -/
def hashSumsUptoRow : OpenClaim := { program := "ytflpcolpklnipaadoor", sum := "a3e53c03a61df2391201c257fc08e137d24d8b601b990e770745f176ae8d9bd6", func := "pannier/pannierlaw06.HashSums", spec := "hashSums", named := ["pannier/hash.small", "pannier/hash.great"], apart := false, laid := [("pannier/hash.small", laid_pannier_hash_small), ("pannier/hash.great", laid_pannier_hash_great)], narrowed := true }
def HashSumsUptoSaid : Prop := hashSumsUptoRow.holds Tryd.pinned (OpenSpec.upto hashSumsSpec)

/-- 'pannierlaw06.HashStripes', WHERE WHAT IT READS IS OF BULK AT MOST 1048576: true; the input reads as it did. -/
def hashStripesUptoRow : OpenClaim := { program := "ytflpcolpklnipaadoor", sum := "a3e53c03a61df2391201c257fc08e137d24d8b601b990e770745f176ae8d9bd6", func := "pannier/pannierlaw06.HashStripes", spec := "hashStripes", named := ["pannier/hash.small", "pannier/hash.great"], apart := false, laid := [("pannier/hash.small", laid_pannier_hash_small), ("pannier/hash.great", laid_pannier_hash_great)], narrowed := true }
def HashStripesUptoSaid : Prop := hashStripesUptoRow.holds Tryd.pinned (OpenSpec.upto hashStripesSpec)

/-- 'pannierlaw06.HashOrders', WHERE WHAT IT READS IS OF BULK AT MOST 1048576: true; the input reads as it did. -/
def hashOrdersUptoRow : OpenClaim := { program := "ytflpcolpklnipaadoor", sum := "a3e53c03a61df2391201c257fc08e137d24d8b601b990e770745f176ae8d9bd6", func := "pannier/pannierlaw06.HashOrders", spec := "hashOrders", named := ["pannier/hash.small", "pannier/hash.great"], apart := false, laid := [("pannier/hash.small", laid_pannier_hash_small), ("pannier/hash.great", laid_pannier_hash_great)], narrowed := true }
def HashOrdersUptoSaid : Prop := hashOrdersUptoRow.holds Tryd.pinned (OpenSpec.upto hashOrdersSpec)

/-- 'pannierlaw06.HashBytes', WHERE WHAT IT READS IS OF BULK AT MOST 1048576: true; the input reads as it did. -/
def hashBytesUptoRow : OpenClaim := { program := "ytflpcolpklnipaadoor", sum := "a3e53c03a61df2391201c257fc08e137d24d8b601b990e770745f176ae8d9bd6", func := "pannier/pannierlaw06.HashBytes", spec := "hashBytes", named := ["pannier/hash.small", "pannier/hash.great"], apart := false, laid := [("pannier/hash.small", laid_pannier_hash_small), ("pannier/hash.great", laid_pannier_hash_great)], narrowed := true }
def HashBytesUptoSaid : Prop := hashBytesUptoRow.holds Tryd.pinned (OpenSpec.upto hashBytesSpec)

/-- 'pannierlaw06.HashHolds', WHERE WHAT IT READS IS OF BULK AT MOST 1048576: true; the input reads as it did. -/
def hashHoldsUptoRow : OpenClaim := { program := "ytflpcolpklnipaadoor", sum := "a3e53c03a61df2391201c257fc08e137d24d8b601b990e770745f176ae8d9bd6", func := "pannier/pannierlaw06.HashHolds", spec := "hashHolds", named := ["pannier/hash.small", "pannier/hash.great"], apart := false, laid := [("pannier/hash.small", laid_pannier_hash_small), ("pannier/hash.great", laid_pannier_hash_great)], narrowed := true }
def HashHoldsUptoSaid : Prop := hashHoldsUptoRow.holds Tryd.pinned (OpenSpec.upto hashHoldsSpec)

end Rows
end Go.Proofs.YtflpcolpklnipaaDoor
