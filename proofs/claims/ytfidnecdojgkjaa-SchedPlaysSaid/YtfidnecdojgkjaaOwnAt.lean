/- A row of the call's own, with at least one element. -/
import Derived.Test.YtfidnecdojgkjaaFr
namespace Go.Proofs.Ytfidnecdojgkjaa
open Go.RowKit

theorem own_store {w : World} {base : Nat} {e : TypeId} {g n c : Nat} {xs : List Value} (h : w.ownsRow base e 1 (.slice (some ⟨g, 0, none⟩) n c) n xs) (i : Nat) (u : Value) : (w.setCell ⟨g, i, none⟩ u).ownsRow base e 1 (.slice (some ⟨g, 0, none⟩) n c) n (xs.set i u) := by
  rcases h.2 with ⟨h1, _⟩ | ⟨g', cap, cur, hv, hb, hh, hn, hm, hs, ht⟩
  · cases h1
  · injection hv with hv hn' hc'
    injection hv with hv
    injection hv with hv
    subst hv hc'
    refine ⟨by rw [List.length_set]; exact h.1, .inr ⟨g, c, (cur.toList.set i u).toArray, rfl, hb, ?_, hn, hm, by simpa using hs, ?_⟩⟩
    · have hB : Blk w g e cur.toList := by unfold Blk; simpa using hh
      exact hB.set_ i u
    · simp only [List.take_set]
      rw [ht]
theorem own_at {w : World} {base n : Nat} {e : TypeId} {v : Value} {xs : List Value} (h : w.ownsRow base e 1 v n xs) (h0 : 0 < n) :
    ∃ g c, v = .slice (some ⟨g, 0, none⟩) n c ∧ base ≤ g ∧ g < w.heap.size ∧ n ≤ c ∧ c ≤ maxLen ∧ (∀ (i : Nat) (u : Value), xs[i]? = some u → w.cell? ⟨g, i, none⟩ = some u) ∧ ∀ i, w.frozen? ⟨g, i, none⟩ = false := by
  rcases h.2 with ⟨h1, h2⟩ | ⟨g, cap, cur, hv, hg, hh, hn, hc, hs, ht⟩
  · omega
  · refine ⟨g, cap, hv, hg, (Array.getElem?_eq_some_iff.1 hh).1, hn, hc, fun i u hu => ?_, fun i => by simp [World.frozen?, hh]⟩
    rw [cell_of_row w g i cur e (0, 0) hh]
    rw [← ht, List.getElem?_take] at hu
    split at hu
    · simpa using hu
    · cases hu
end Go.Proofs.Ytfidnecdojgkjaa
