/- Two closed facts on the program that every statement's last step wants. -/
import Derived.Test.YtmhkbchbglnbpaaRows
import Derived.Test.YtmhkbchbglnbpaaOpen
namespace Go.Proofs.Ytmhkbchbglnbpaa
theorem own : ownKnob Try.prog.godebug = none := by kernel_rfl
theorem laidOut : laidOutB Try.prog = true := by kernel_rfl
end Go.Proofs.Ytmhkbchbglnbpaa
