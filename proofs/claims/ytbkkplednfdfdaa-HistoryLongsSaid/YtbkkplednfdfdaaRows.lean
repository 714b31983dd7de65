/-
  No cell of these rows narrows 'for every input' (looked for: loops, veiled, ifaces, maps, wideKeys, modest, calm, conditions, laid).
  DERIVED. THE GIVEN ROWS OF THIS SEAT. 4 by the template 'for every input the law returns true; each argument reads behind the call as it read before'; 0 by the template 'total and deterministic' (their statements: YtbkkplednfdfdaaTotals.lean).
  GIVEN WITH THE SEED: the statements are not yours to turn. If you find one false, say at which input.
  Laid BY PROGRAM, IN A SANDBOX (cutbox-rows.mjs): the forced cells as the released guide's own fill.sh prints them over the translation d23078a119870b79… (all of the seat's roots in one cut). By AI agents, Wed Nov 11 2026. No macro, syntax, notation, axiom, sorry.
-/
import Derived.Test.YtbkkplednfdfdaaChecked
import GoSem.Claim
import GoSem.ClaimJoined
import GoSem.ClaimMapViews
import Derived.JoinedTies
import Derived.KernelRfl
namespace Go.Proofs.Ytbkkplednfdfdaa
/- THE CELL 'sum', in the pinned program and in every row, IS THE sha256 OF THE DUMP (.gsa) THAT YtbkkplednfdfdaaProg.lean LOADS. Nothing in Lean hashes anything: it is a label: what it is worth is what the hold of that sum in a sandbox is worth. -/
noncomputable def Try.pinned : Pinned := { name := "ytbkkplednfdfdaa", sum := "d23078a119870b79a75d49e5e7edc0bd9efcdcbdc6e4cbecfecd4713b0b051aa", checked := Try.checked }
namespace Rows
def none {H : Type} : Left H := { results := [], args := [] }

/-- 'pannierlaw31.HistoryOf': WHATEVER THE INPUT: true; the input reads as it did. -/
def historyOfSpec : ChangeSpec := { name := "historyOf", fn := fun _ => fun
  | [d] => { results := [.lit (.bool true)], args := [d] }
  | _ => none }
def historyOfRow : OpenClaim := { program := "ytbkkplednfdfdaa", sum := "d23078a119870b79a75d49e5e7edc0bd9efcdcbdc6e4cbecfecd4713b0b051aa", func := "pannier/pannierlaw31.HistoryOf", spec := "historyOf", apart := false }
def HistoryOfSaid : Prop := historyOfRow.holds Try.pinned (OpenSpec.ofChange historyOfSpec)

/-- ITS FALSE NEIGHBOUR: 'it returns false'. Refute it at one input. -/
def historyOfWrong : ChangeSpec := { name := "historyOf", fn := fun _ => fun
  | [d] => { results := [.lit (.bool false)], args := [d] }
  | _ => none }
def HistoryOfWrongFalsely : Prop := historyOfRow.holds Try.pinned (OpenSpec.ofChange historyOfWrong)

/-- 'pannierlaw31.HistoryOverlaps': WHATEVER THE INPUT: true; the input reads as it did. -/
def historyOverlapsSpec : ChangeSpec := { name := "historyOverlaps", fn := fun _ => fun
  | [d] => { results := [.lit (.bool true)], args := [d] }
  | _ => none }
def historyOverlapsRow : OpenClaim := { program := "ytbkkplednfdfdaa", sum := "d23078a119870b79a75d49e5e7edc0bd9efcdcbdc6e4cbecfecd4713b0b051aa", func := "pannier/pannierlaw31.HistoryOverlaps", spec := "historyOverlaps", apart := false }
def HistoryOverlapsSaid : Prop := historyOverlapsRow.holds Try.pinned (OpenSpec.ofChange historyOverlapsSpec)

/-- ITS FALSE NEIGHBOUR: 'it returns false'. Refute it at one input. -/
def historyOverlapsWrong : ChangeSpec := { name := "historyOverlaps", fn := fun _ => fun
  | [d] => { results := [.lit (.bool false)], args := [d] }
  | _ => none }
def HistoryOverlapsWrongFalsely : Prop := historyOverlapsRow.holds Try.pinned (OpenSpec.ofChange historyOverlapsWrong)

/-- 'pannierlaw31.HistoryLongs': WHATEVER THE INPUT: true; the input reads as it did. -/
def historyLongsSpec : ChangeSpec := { name := "historyLongs", fn := fun _ => fun
  | [d1, d2] => { results := [.lit (.bool true)], args := [d1, d2] }
  | _ => none }
def historyLongsRow : OpenClaim := { program := "ytbkkplednfdfdaa", sum := "d23078a119870b79a75d49e5e7edc0bd9efcdcbdc6e4cbecfecd4713b0b051aa", func := "pannier/pannierlaw31.HistoryLongs", spec := "historyLongs", apart := false }
def HistoryLongsSaid : Prop := historyLongsRow.holds Try.pinned (OpenSpec.ofChange historyLongsSpec)

/-- ITS FALSE NEIGHBOUR: 'it returns false'. Refute it at one input. -/
def historyLongsWrong : ChangeSpec := { name := "historyLongs", fn := fun _ => fun
  | [d1, d2] => { results := [.lit (.bool false)], args := [d1, d2] }
  | _ => none }
def HistoryLongsWrongFalsely : Prop := historyLongsRow.holds Try.pinned (OpenSpec.ofChange historyLongsWrong)

/-- 'pannierlaw31.HistoryValid': WHATEVER THE INPUT: true; the input reads as it did. -/
def historyValidSpec : ChangeSpec := { name := "historyValid", fn := fun _ => fun
  | [d1, d2, d3] => { results := [.lit (.bool true)], args := [d1, d2, d3] }
  | _ => none }
def historyValidRow : OpenClaim := { program := "ytbkkplednfdfdaa", sum := "d23078a119870b79a75d49e5e7edc0bd9efcdcbdc6e4cbecfecd4713b0b051aa", func := "pannier/pannierlaw31.HistoryValid", spec := "historyValid", unfollowed := true, recurses := true, apart := false }
def HistoryValidSaid : Prop := historyValidRow.holds Try.pinned (OpenSpec.ofChange historyValidSpec)

/-- ITS FALSE NEIGHBOUR: 'it returns false'. Refute it at one input. -/
def historyValidWrong : ChangeSpec := { name := "historyValid", fn := fun _ => fun
  | [d1, d2, d3] => { results := [.lit (.bool false)], args := [d1, d2, d3] }
  | _ => none }
def HistoryValidWrongFalsely : Prop := historyValidRow.holds Try.pinned (OpenSpec.ofChange historyValidWrong)

/- THE SECOND FORM. 'bulk': how many values and letters a reading holds, each counted each time it is reached (what is shared counts as often as it is met; a slice's spare places count too). A statement '..UptoSaid' is the law's where the arguments, and the package variables that the reading takes, are together of bulk at most 1048576: NARROWER than '..Said'. Prove '..Said' where nothing that the law and all that it calls make is longer than what came in: it says more and counts as full. Else prove '..UptoSaid'. A law counts once. -/
mutual
def uptoBulk {H : Type} : DataW H → Nat
  | .lit (.string bytes) => bytes.length + 1
  | .lit _ => 1
  | .nil => 1
  | .ptr d => uptoBulk d + 1
  | .slice elems spare => uptoBulkAll elems + uptoBulkAll spare + 1
  | .agg parts => uptoBulkAll parts + 1
  | .iface _ d => uptoBulk d + 1
  | .map entries => uptoBulkEntries entries + 1
  | .held _ => 1
def uptoBulkAll {H : Type} : List (DataW H) → Nat
  | [] => 0
  | d :: r => uptoBulk d + uptoBulkAll r
def uptoBulkEntries {H : Type} : List (Lit × DataW H) → Nat
  | [] => 0
  | x :: r => uptoBulkEntry x + uptoBulkEntries r
def uptoBulkEntry {H : Type} : Lit × DataW H → Nat
  | (.string bytes, d) => bytes.length + uptoBulk d + 1
  | (_, d) => uptoBulk d + 1
 end
def uptoSmall : (H : Type) → List (DataW H) → Bool := fun _ ds => decide (uptoBulkAll ds ≤ 1048576)
def OpenSpec.upto (s : _root_.Go.ChangeSpec) : _root_.Go.OpenSpec := { _root_.Go.OpenSpec.ofChange s with cond := some uptoSmall }

/-- 'pannierlaw31.HistoryOf', WHERE WHAT IT READS IS OF BULK AT MOST 1048576: true; the input reads as it did. -/
def historyOfUptoRow : OpenClaim := { program := "ytbkkplednfdfdaa", sum := "d23078a119870b79a75d49e5e7edc0bd9efcdcbdc6e4cbecfecd4713b0b051aa", func := "pannier/pannierlaw31.HistoryOf", spec := "historyOf", apart := false, narrowed := true }
def HistoryOfUptoSaid : Prop := historyOfUptoRow.holds Try.pinned (OpenSpec.upto historyOfSpec)

/-- 'pannierlaw31.HistoryOverlaps', WHERE WHAT IT READS IS OF BULK AT MOST 1048576: true; the input reads as it did. -/
def historyOverlapsUptoRow : OpenClaim := { program := "ytbkkplednfdfdaa", sum := "d23078a119870b79a75d49e5e7edc0bd9efcdcbdc6e4cbecfecd4713b0b051aa", func := "pannier/pannierlaw31.HistoryOverlaps", spec := "historyOverlaps", apart := false, narrowed := true }
def HistoryOverlapsUptoSaid : Prop := historyOverlapsUptoRow.holds Try.pinned (OpenSpec.upto historyOverlapsSpec)

/-- 'pannierlaw31.HistoryLongs', WHERE WHAT IT READS IS OF BULK AT MOST 1048576: true; the input reads as it did. -/
def historyLongsUptoRow : OpenClaim := { program := "ytbkkplednfdfdaa", sum := "d23078a119870b79a75d49e5e7edc0bd9efcdcbdc6e4cbecfecd4713b0b051aa", func := "pannier/pannierlaw31.HistoryLongs", spec := "historyLongs", apart := false, narrowed := true }
def HistoryLongsUptoSaid : Prop := historyLongsUptoRow.holds Try.pinned (OpenSpec.upto historyLongsSpec)

/-- 'pannierlaw31.HistoryValid', WHERE WHAT IT READS IS OF BULK AT MOST 1048576: true; the input reads as it did. -/
def historyValidUptoRow : OpenClaim := { program := "ytbkkplednfdfdaa", sum := "d23078a119870b79a75d49e5e7edc0bd9efcdcbdc6e4cbecfecd4713b0b051aa", func := "pannier/pannierlaw31.HistoryValid", spec := "historyValid", unfollowed := true, recurses := true, apart := false, narrowed := true }
def HistoryValidUptoSaid : Prop := historyValidUptoRow.holds Try.pinned (OpenSpec.upto historyValidSpec)

end Rows
end Go.Proofs.Ytbkkplednfdfdaa
