/- The two tables of package hash as the rows list them: their cells; a world that holds them, for the witness. -/
import Derived.Test.YtflpcolpklnipaaDoorCards
import Derived.Test.YtflpcolpklnipaaDoorTie
import Derived.Test.YtflpcolpklnipaaDoorSums
import Derived.Test.YtflpcolpklnipaaDoorOpen
import Derived.Deep.DeepHandedRow
import Derived.Lib.LaidTab
import Derived.Stop.LaidErr
namespace Go.Proofs.YtflpcolpklnipaaDoor
open Go.ChangeShapes Go.WideShapes Go.ChangeAt Go.RowKit

theorem own : ownKnob Tryd.prog.godebug = none := by kernel_rfl
theorem laidOut : laidOutB Tryd.prog = true := by kernel_rfl
theorem gSmall : Tryd.prog.globalNamed "pannier/hash.small" = some 0 := by kernel_rfl
theorem tSmall : (Tryd.prog.globals[0]?).map (·.type) = some 46 := by kernel_rfl
theorem gGreat : Tryd.prog.globalNamed "pannier/hash.great" = some 1 := by kernel_rfl
theorem tGreat : (Tryd.prog.globals[1]?).map (·.type) = some 47 := by kernel_rfl
theorem cells46 : Tryd.prog.cellsOf 46 = 2 := by kernel_rfl
theorem cells47 : Tryd.prog.cellsOf 47 = 2 := by kernel_rfl
theorem cells23 : Tryd.prog.cellsOf 23 = 1 := by kernel_rfl
theorem cells25 : Tryd.prog.cellsOf 25 = 1 := by kernel_rfl

def laidList : List (String × DataW Unit) := [("pannier/hash.small", Rows.laid_pannier_hash_small), ("pannier/hash.great", Rows.laid_pannier_hash_great)]
theorem tabs_of_laid {W : World} (h : laidMetH Tryd.prog laidList W) : Tabs W := by
  have h' : laidMet Tryd.prog laidList W := h
  have a : Lib.TabIs Tryd.prog W "pannier/hash.small" .u32 [2166136261, 16777619] :=
    Lib.tabIs_of_head (rest := [("pannier/hash.great", Rows.laid_pannier_hash_great)]) gSmall tSmall Tryd.underlying46 Tryd.underlying23 cells23 cells46 h'
  have b : Lib.TabIs Tryd.prog W "pannier/hash.great" .u64 [14695981039346656037, 1099511628211] :=
    Lib.tabIs_of_head (rest := []) gGreat tGreat Tryd.underlying47 Tryd.underlying25 cells25 cells47 (laidMet.tail h')
  exact ⟨a.cell gSmall 0 (by decide), a.cell gSmall 1 (by decide), b.cell gGreat 0 (by decide), b.cell gGreat 1 (by decide)⟩

/-- A world for the witness: the settled one, the tables holding what their initialisers lay. -/
def putCells (l : Array Value) : Obj → Obj
  | .cells _ t frozen => .cells l t frozen
  | o => o
noncomputable def laidWorld (os : Os) : World :=
  { World.holding Tryd.prog os ⟨#[], #[], []⟩ with heap := ((World.holding Tryd.prog os ⟨#[], #[], []⟩).heap.modify 0 (putCells #[.int .u32 2166136261, .int .u32 16777619])).modify 1 (putCells #[.int .u64 14695981039346656037, .int .u64 1099511628211]) }
end Go.Proofs.YtflpcolpklnipaaDoor
