/- BytesHolds for what comes in. -/
import Derived.Test.YtmhkbchbglnbpaaLawH
namespace Go.Proofs.Ytmhkbchbglnbpaa
open Go.RowKit

theorem parts_in {p : Option Addr} {l : List Pt} {W : World} (hr : Rd W W.heap.size p (pts l)) (hw : ∀ x ∈ l, x.ok W) : PtR W p l ∧ (∀ x ∈ l, 0 ≤ x.n ∧ x.n < 18446744073709551616) ∧ ∀ x ∈ l, Bs x.d :=
  ⟨⟨hr, fun x hx => (hw x hx).2.2.1⟩, fun x hx => wf_u64 (hw x hx).2.1, fun x hx y hy => wf_u8 ((hw x hx).2.2.2.1 y hy)⟩
theorem bytesHolds_walk (p pb : Option Addr) (c cb : Nat) (l : List Pt) (b : List Int) (W : World) (hr : Rd W W.heap.size p (pts l)) (hl : l.length ≤ c) (hc : c ≤ maxLen) (hw : ∀ x ∈ l, x.ok W)
    (hrb : Rd W W.heap.size pb (b.map (Value.int .u8))) (hlb : b.length ≤ cb) (hwb : ∀ x ∈ b, (Lit.int .u8 x).wf = true) :
    Calls Try.prog 4 #[.slice p l.length c, .slice pb b.length cb] W fun e w' => e = .returned (.bool true) ∧ Below W.heap.size W w' := by
  obtain ⟨h1, h2, h3⟩ := parts_in hr hw
  have : maxLen ≤ 9223372036854775807 := by unfold maxLen; omega
  exact holds_any p pb c cb l b W h1 h2 h3 (by omega) hrb (fun x hx => wf_u8 (hwb x hx)) hlb
end Go.Proofs.Ytmhkbchbglnbpaa
