/- The list of calls of CounterPlays, as it comes in. -/
import Derived.Test.YtloomdanpnkbmaaDots
namespace Go.Proofs.Ytloomdanpnkbmaa
open Go.RowKit Go.ChangeShapes Go.WideShapes Go.ChangeAt

theorem arg_acts {H : Type} {enc : TypeId × Value → H} {W : World} {v : Value} {d : DataW H} {ps : List MemPlace} {b0 : Nat} (hv : Value.okWide Try.prog W .any b0 47 v) (h : DataW.Trod enc Try.prog W 0 (fun _ => true) true 47 v d ps) :
    ∃ p c, ∃ xs : List (Int × Int), v = .slice p xs.length c ∧ Rd W W.heap.size p (dotCells xs) ∧ xs.length ≤ c ∧ c ≤ maxLen ∧ ∀ x ∈ xs, True := by
  refine arg_slice (fun d : Int × Int => [.int .i64 d.1, .int .i64 d.2]) (fun _ => True) 2 (by kernel_rfl) (by omega) (fun _ => rfl) Try.underlying47 ?_ hv h
  intro n cs y hy
  obtain ⟨zs, hl, hcs, _⟩ := el_ints Try.underlying49 (by kernel_rfl) (by
    intro i f hf
    match i, hf with
    | 0, hf => cases hf; exact ⟨rfl, Try.underlying3, by kernel_rfl⟩
    | 1, hf => cases hf; exact ⟨rfl, Try.underlying3, by kernel_rfl⟩) hy
  match zs, hl with
  | [a, b], _ => exact ⟨(a, b), hcs, trivial⟩
end Go.Proofs.Ytloomdanpnkbmaa
