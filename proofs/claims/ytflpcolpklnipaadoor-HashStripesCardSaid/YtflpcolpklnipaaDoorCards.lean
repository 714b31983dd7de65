/-
  DERIVED. GIVEN WITH THE SEED: THE CARDS: each row of YtflpcolpklnipaaDoorRows.lean that lists a variable, with what it lists TIED to the program's text (the seventh form; the later family's looks); each row that meets fmt, with fmt's text TOLD by the authors' own Lean function (tested against real Go, not proved from fmt's source: count such statements apart). THE CARD IS WHAT COUNTS. Prove the row's statement (the work); the ties are given (YtflpcolpklnipaaDoorTie.lean); close each card by the builder's one call (the guide's Derived/Test/ToyasCard.lean, 'card_holds'). Laid BY PROGRAM, IN A SANDBOX (cutbox-door.mjs). By AI agents, Wed Nov 11 2026. No macro, syntax, notation, axiom, sorry.
-/
import Derived.Test.YtflpcolpklnipaaDoorRows
import GoSem.ClaimSeven
namespace Go.Proofs.YtflpcolpklnipaaDoor
namespace Rows

/-- THE TIED CARD OF 'pannierlaw06.HashSums'. -/
def hashSumsCard : Claim7 := { stood := { row := hashSumsRow, standIns := [], harness := (true, "696a38e6a9ef09a63882acf779fc28ccd4b9ded176348a5280cb0544f4ee0981"), looks := false }, kinds := [], alts := [], laidByText := true, laidKinds := [.data, .data], laidTests := true, laidLooks := .later }
def HashSumsCardSaid : Prop := Claim7.holds Tryd.pinned (.plain (OpenSpec.ofChange hashSumsSpec)) hashSumsCard

/-- THE TIED CARD OF 'pannierlaw06.HashStripes'. -/
def hashStripesCard : Claim7 := { stood := { row := hashStripesRow, standIns := [], harness := (true, "696a38e6a9ef09a63882acf779fc28ccd4b9ded176348a5280cb0544f4ee0981"), looks := false }, kinds := [], alts := [], laidByText := true, laidKinds := [.data, .data], laidTests := true, laidLooks := .later }
def HashStripesCardSaid : Prop := Claim7.holds Tryd.pinned (.plain (OpenSpec.ofChange hashStripesSpec)) hashStripesCard

/-- THE TIED CARD OF 'pannierlaw06.HashOrders'. -/
def hashOrdersCard : Claim7 := { stood := { row := hashOrdersRow, standIns := [], harness := (true, "696a38e6a9ef09a63882acf779fc28ccd4b9ded176348a5280cb0544f4ee0981"), looks := false }, kinds := [], alts := [], laidByText := true, laidKinds := [.data, .data], laidTests := true, laidLooks := .later }
def HashOrdersCardSaid : Prop := Claim7.holds Tryd.pinned (.plain (OpenSpec.ofChange hashOrdersSpec)) hashOrdersCard

/-- THE TIED CARD OF 'pannierlaw06.HashBytes'. -/
def hashBytesCard : Claim7 := { stood := { row := hashBytesRow, standIns := [], harness := (true, "696a38e6a9ef09a63882acf779fc28ccd4b9ded176348a5280cb0544f4ee0981"), looks := false }, kinds := [], alts := [], laidByText := true, laidKinds := [.data, .data], laidTests := true, laidLooks := .later }
def HashBytesCardSaid : Prop := Claim7.holds Tryd.pinned (.plain (OpenSpec.ofChange hashBytesSpec)) hashBytesCard

/-- THE TIED CARD OF 'pannierlaw06.HashHolds'. -/
def hashHoldsCard : Claim7 := { stood := { row := hashHoldsRow, standIns := [], harness := (true, "696a38e6a9ef09a63882acf779fc28ccd4b9ded176348a5280cb0544f4ee0981"), looks := false }, kinds := [], alts := [], laidByText := true, laidKinds := [.data, .data], laidTests := true, laidLooks := .later }
def HashHoldsCardSaid : Prop := Claim7.holds Tryd.pinned (.plain (OpenSpec.ofChange hashHoldsSpec)) hashHoldsCard

/-- THE SECOND FORM's CARD OF 'pannierlaw06.HashSums'. -/
def hashSumsUptoCard : Claim7 := { stood := { row := hashSumsUptoRow, standIns := [], harness := (true, "696a38e6a9ef09a63882acf779fc28ccd4b9ded176348a5280cb0544f4ee0981"), looks := false }, kinds := [], alts := [], laidByText := true, laidKinds := [.data, .data], laidTests := true, laidLooks := .later }
def HashSumsUptoCardSaid : Prop := Claim7.holds Tryd.pinned (.plain (OpenSpec.upto hashSumsSpec)) hashSumsUptoCard

/-- THE SECOND FORM's CARD OF 'pannierlaw06.HashStripes'. -/
def hashStripesUptoCard : Claim7 := { stood := { row := hashStripesUptoRow, standIns := [], harness := (true, "696a38e6a9ef09a63882acf779fc28ccd4b9ded176348a5280cb0544f4ee0981"), looks := false }, kinds := [], alts := [], laidByText := true, laidKinds := [.data, .data], laidTests := true, laidLooks := .later }
def HashStripesUptoCardSaid : Prop := Claim7.holds Tryd.pinned (.plain (OpenSpec.upto hashStripesSpec)) hashStripesUptoCard

/-- THE SECOND FORM's CARD OF 'pannierlaw06.HashOrders'. -/
def hashOrdersUptoCard : Claim7 := { stood := { row := hashOrdersUptoRow, standIns := [], harness := (true, "696a38e6a9ef09a63882acf779fc28ccd4b9ded176348a5280cb0544f4ee0981"), looks := false }, kinds := [], alts := [], laidByText := true, laidKinds := [.data, .data], laidTests := true, laidLooks := .later }
def HashOrdersUptoCardSaid : Prop := Claim7.holds Tryd.pinned (.plain (OpenSpec.upto hashOrdersSpec)) hashOrdersUptoCard

/-- THE SECOND FORM's CARD OF 'pannierlaw06.HashBytes'. -/
def hashBytesUptoCard : Claim7 := { stood := { row := hashBytesUptoRow, standIns := [], harness := (true, "696a38e6a9ef09a63882acf779fc28ccd4b9ded176348a5280cb0544f4ee0981"), looks := false }, kinds := [], alts := [], laidByText := true, laidKinds := [.data, .data], laidTests := true, laidLooks := .later }
def HashBytesUptoCardSaid : Prop := Claim7.holds Tryd.pinned (.plain (OpenSpec.upto hashBytesSpec)) hashBytesUptoCard

/-- THE SECOND FORM's CARD OF 'pannierlaw06.HashHolds'. -/
def hashHoldsUptoCard : Claim7 := { stood := { row := hashHoldsUptoRow, standIns := [], harness := (true, "696a38e6a9ef09a63882acf779fc28ccd4b9ded176348a5280cb0544f4ee0981"), looks := false }, kinds := [], alts := [], laidByText := true, laidKinds := [.data, .data], laidTests := true, laidLooks := .later }
def HashHoldsUptoCardSaid : Prop := Claim7.holds Tryd.pinned (.plain (OpenSpec.upto hashHoldsSpec)) hashHoldsUptoCard
end Rows
end Go.Proofs.YtflpcolpklnipaaDoor
