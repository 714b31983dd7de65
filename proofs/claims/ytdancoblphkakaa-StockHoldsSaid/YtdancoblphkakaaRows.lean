/-
  No cell of these rows narrows 'for every input' (looked for: loops, veiled, ifaces, maps, wideKeys, modest, calm, conditions, laid).
  DERIVED. THE GIVEN ROWS OF THIS SEAT. 5 by the template 'for every input the law returns true; each argument reads behind the call as it read before'; 0 by the template 'total and deterministic' (their statements: YtdancoblphkakaaTotals.lean).
  GIVEN WITH THE SEED: the statements are not yours to turn. If you find one false, say at which input.
  Laid BY PROGRAM, IN A SANDBOX (cutbox-rows.mjs): the forced cells as the released guide's own fill.sh prints them over the translation d3bcda9cde8e7853… (all of the seat's roots in one cut). By AI agents, Wed Nov 11 2026. No macro, syntax, notation, axiom, sorry.
-/
import Derived.Test.YtdancoblphkakaaChecked
import GoSem.Claim
import GoSem.ClaimJoined
import GoSem.ClaimMapViews
import Derived.JoinedTies
import Derived.KernelRfl
namespace Go.Proofs.Ytdancoblphkakaa
/- THE CELL 'sum', in the pinned program and in every row, IS THE sha256 OF THE DUMP (.gsa) THAT YtdancoblphkakaaProg.lean LOADS. Nothing in Lean hashes anything: it is a label: what it is worth is what the hold of that sum in a sandbox is worth. -/
noncomputable def Try.pinned : Pinned := { name := "ytdancoblphkakaa", sum := "d3bcda9cde8e7853b68d8bdbc1a56d500c6a4efc9b0250649bcb6f5583d3f868", checked := Try.checked }
namespace Rows
def none {H : Type} : Left H := { results := [], args := [] }

/-- 'pannierlaw45.StockJoins': WHATEVER THE INPUT: true; the input reads as it did. -/
def stockJoinsSpec : ChangeSpec := { name := "stockJoins", fn := fun _ => fun
  | [d1, d2] => { results := [.lit (.bool true)], args := [d1, d2] }
  | _ => none }
def stockJoinsRow : OpenClaim := { program := "ytdancoblphkakaa", sum := "d3bcda9cde8e7853b68d8bdbc1a56d500c6a4efc9b0250649bcb6f5583d3f868", func := "pannier/pannierlaw45.StockJoins", spec := "stockJoins", unfollowed := true, recurses := true, apart := false }
def StockJoinsSaid : Prop := stockJoinsRow.holds Try.pinned (OpenSpec.ofChange stockJoinsSpec)

/-- ITS FALSE NEIGHBOUR: 'it returns false'. Refute it at one input. -/
def stockJoinsWrong : ChangeSpec := { name := "stockJoins", fn := fun _ => fun
  | [d1, d2] => { results := [.lit (.bool false)], args := [d1, d2] }
  | _ => none }
def StockJoinsWrongFalsely : Prop := stockJoinsRow.holds Try.pinned (OpenSpec.ofChange stockJoinsWrong)

/-- 'pannierlaw45.StockNone': WHATEVER THE INPUT: true; the input reads as it did. -/
def stockNoneSpec : ChangeSpec := { name := "stockNone", fn := fun _ => fun
  | [d] => { results := [.lit (.bool true)], args := [d] }
  | _ => none }
def stockNoneRow : OpenClaim := { program := "ytdancoblphkakaa", sum := "d3bcda9cde8e7853b68d8bdbc1a56d500c6a4efc9b0250649bcb6f5583d3f868", func := "pannier/pannierlaw45.StockNone", spec := "stockNone", unfollowed := true, recurses := true, apart := false }
def StockNoneSaid : Prop := stockNoneRow.holds Try.pinned (OpenSpec.ofChange stockNoneSpec)

/-- ITS FALSE NEIGHBOUR: 'it returns false'. Refute it at one input. -/
def stockNoneWrong : ChangeSpec := { name := "stockNone", fn := fun _ => fun
  | [d] => { results := [.lit (.bool false)], args := [d] }
  | _ => none }
def StockNoneWrongFalsely : Prop := stockNoneRow.holds Try.pinned (OpenSpec.ofChange stockNoneWrong)

/-- 'pannierlaw45.StockHolds': WHATEVER THE INPUT: true; the input reads as it did. -/
def stockHoldsSpec : ChangeSpec := { name := "stockHolds", fn := fun _ => fun
  | [d1, d2] => { results := [.lit (.bool true)], args := [d1, d2] }
  | _ => none }
def stockHoldsRow : OpenClaim := { program := "ytdancoblphkakaa", sum := "d3bcda9cde8e7853b68d8bdbc1a56d500c6a4efc9b0250649bcb6f5583d3f868", func := "pannier/pannierlaw45.StockHolds", spec := "stockHolds", unfollowed := true, recurses := true, apart := false }
def StockHoldsSaid : Prop := stockHoldsRow.holds Try.pinned (OpenSpec.ofChange stockHoldsSpec)

/-- ITS FALSE NEIGHBOUR: 'it returns false'. Refute it at one input. -/
def stockHoldsWrong : ChangeSpec := { name := "stockHolds", fn := fun _ => fun
  | [d1, d2] => { results := [.lit (.bool false)], args := [d1, d2] }
  | _ => none }
def StockHoldsWrongFalsely : Prop := stockHoldsRow.holds Try.pinned (OpenSpec.ofChange stockHoldsWrong)

/-- 'pannierlaw45.StockNew': WHATEVER THE INPUT: true; the input reads as it did. -/
def stockNewSpec : ChangeSpec := { name := "stockNew", fn := fun _ => fun
  | [d1, d2] => { results := [.lit (.bool true)], args := [d1, d2] }
  | _ => none }
def stockNewRow : OpenClaim := { program := "ytdancoblphkakaa", sum := "d3bcda9cde8e7853b68d8bdbc1a56d500c6a4efc9b0250649bcb6f5583d3f868", func := "pannier/pannierlaw45.StockNew", spec := "stockNew", unfollowed := true, recurses := true, apart := false }
def StockNewSaid : Prop := stockNewRow.holds Try.pinned (OpenSpec.ofChange stockNewSpec)

/-- ITS FALSE NEIGHBOUR: 'it returns false'. Refute it at one input. -/
def stockNewWrong : ChangeSpec := { name := "stockNew", fn := fun _ => fun
  | [d1, d2] => { results := [.lit (.bool false)], args := [d1, d2] }
  | _ => none }
def StockNewWrongFalsely : Prop := stockNewRow.holds Try.pinned (OpenSpec.ofChange stockNewWrong)

/-- 'pannierlaw45.StockPlays': WHATEVER THE INPUT: true; the input reads as it did. -/
def stockPlaysSpec : ChangeSpec := { name := "stockPlays", fn := fun _ => fun
  | [d1, d2] => { results := [.lit (.bool true)], args := [d1, d2] }
  | _ => none }
def stockPlaysRow : OpenClaim := { program := "ytdancoblphkakaa", sum := "d3bcda9cde8e7853b68d8bdbc1a56d500c6a4efc9b0250649bcb6f5583d3f868", func := "pannier/pannierlaw45.StockPlays", spec := "stockPlays", unfollowed := true, recurses := true, apart := false }
def StockPlaysSaid : Prop := stockPlaysRow.holds Try.pinned (OpenSpec.ofChange stockPlaysSpec)

/-- ITS FALSE NEIGHBOUR: 'it returns false'. Refute it at one input. -/
def stockPlaysWrong : ChangeSpec := { name := "stockPlays", fn := fun _ => fun
  | [d1, d2] => { results := [.lit (.bool false)], args := [d1, d2] }
  | _ => none }
def StockPlaysWrongFalsely : Prop := stockPlaysRow.holds Try.pinned (OpenSpec.ofChange stockPlaysWrong)

/- THE SECOND FORM. 'bulk': how many values and letters a reading holds, each counted each time it is reached (what is shared counts as often as it is met; a slice's spare places count too). A statement '..UptoSaid' is the law's where the arguments, and the package variables that the reading takes, are together of bulk at most 1048576: NARROWER than '..Said'. Prove '..Said' where nothing that the law and all that it calls make is longer than what came in: it says more and counts as full. Else prove '..UptoSaid'. A law counts once. -/
mutual
def uptoBulk {H : Type} : DataW H → Nat
  | .lit (.string bytes) => bytes.length + 1
  | .lit _ => 1
  | .nil => 1
  | .ptr d => uptoBulk d + 1
  | .slice elems spare => uptoBulkAll elems + uptoBulkAll spare + 1
  | .agg parts => uptoBulkAll parts + 1
  | .iface _ d => uptoBulk d + 1
  | .map entries => uptoBulkEntries entries + 1
  | .held _ => 1
def uptoBulkAll {H : Type} : List (DataW H) → Nat
  | [] => 0
  | d :: r => uptoBulk d + uptoBulkAll r
def uptoBulkEntries {H : Type} : List (Lit × DataW H) → Nat
  | [] => 0
  | x :: r => uptoBulkEntry x + uptoBulkEntries r
def uptoBulkEntry {H : Type} : Lit × DataW H → Nat
  | (.string bytes, d) => bytes.length + uptoBulk d + 1
  | (_, d) => uptoBulk d + 1
 end
def uptoSmall : (H : Type) → List (DataW H) → Bool := fun _ ds => decide (uptoBulkAll ds ≤ 1048576)
def OpenSpec.upto (s : _root_.Go.ChangeSpec) : _root_.Go.OpenSpec := { _root_.Go.OpenSpec.ofChange s with cond := some uptoSmall }

/-- 'pannierlaw45.StockJoins', WHERE WHAT IT READS IS OF BULK AT MOST 1048576: true; the input reads as it did. -/
def stockJoinsUptoRow : OpenClaim := { program := "ytdancoblphkakaa", sum := "d3bcda9cde8e7853b68d8bdbc1a56d500c6a4efc9b0250649bcb6f5583d3f868", func := "pannier/pannierlaw45.StockJoins", spec := "stockJoins", unfollowed := true, recurses := true, apart := false, narrowed := true }
def StockJoinsUptoSaid : Prop := stockJoinsUptoRow.holds Try.pinned (OpenSpec.upto stockJoinsSpec)

/-- 'pannierlaw45.StockNone', WHERE WHAT IT READS IS OF BULK AT MOST 1048576: true; the input reads as it did. -/
def stockNoneUptoRow : OpenClaim := { program := "ytdancoblphkakaa", sum := "d3bcda9cde8e7853b68d8bdbc1a56d500c6a4efc9b0250649bcb6f5583d3f868", func := "pannier/pannierlaw45.StockNone", spec := "stockNone", unfollowed := true, recurses := true, apart := false, narrowed := true }
def StockNoneUptoSaid : Prop := stockNoneUptoRow.holds Try.pinned (OpenSpec.upto stockNoneSpec)

/-- 'pannierlaw45.StockHolds', WHERE WHAT IT READS IS OF BULK AT MOST 1048576: true; the input reads as it did. -/
def stockHoldsUptoRow : OpenClaim := { program := "ytdancoblphkakaa", sum := "d3bcda9cde8e7853b68d8bdbc1a56d500c6a4efc9b0250649bcb6f5583d3f868", func := "pannier/pannierlaw45.StockHolds", spec := "stockHolds", unfollowed := true, recurses := true, apart := false, narrowed := true }
def StockHoldsUptoSaid : Prop := stockHoldsUptoRow.holds Try.pinned (OpenSpec.upto stockHoldsSpec)

/-- 'pannierlaw45.StockNew', WHERE WHAT IT READS IS OF BULK AT MOST 1048576: true; the input reads as it did. -/
def stockNewUptoRow : OpenClaim := { program := "ytdancoblphkakaa", sum := "d3bcda9cde8e7853b68d8bdbc1a56d500c6a4efc9b0250649bcb6f5583d3f868", func := "pannier/pannierlaw45.StockNew", spec := "stockNew", unfollowed := true, recurses := true, apart := false, narrowed := true }
def StockNewUptoSaid : Prop := stockNewUptoRow.holds Try.pinned (OpenSpec.upto stockNewSpec)

/-- 'pannierlaw45.StockPlays', WHERE WHAT IT READS IS OF BULK AT MOST 1048576: true; the input reads as it did. -/
def stockPlaysUptoRow : OpenClaim := { program := "ytdancoblphkakaa", sum := "d3bcda9cde8e7853b68d8bdbc1a56d500c6a4efc9b0250649bcb6f5583d3f868", func := "pannier/pannierlaw45.StockPlays", spec := "stockPlays", unfollowed := true, recurses := true, apart := false, narrowed := true }
def StockPlaysUptoSaid : Prop := stockPlaysUptoRow.holds Try.pinned (OpenSpec.upto stockPlaysSpec)

end Rows
end Go.Proofs.Ytdancoblphkakaa
