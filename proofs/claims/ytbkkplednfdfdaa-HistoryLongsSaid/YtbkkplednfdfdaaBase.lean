/- Two closed facts on the program that every statement's last step wants. -/
import Derived.Test.YtbkkplednfdfdaaRows
import Derived.Test.YtbkkplednfdfdaaOpen
namespace Go.Proofs.Ytbkkplednfdfdaa
theorem own : ownKnob Try.prog.godebug = none := by kernel_rfl
theorem laidOut : laidOutB Try.prog = true := by kernel_rfl
end Go.Proofs.Ytbkkplednfdfdaa
