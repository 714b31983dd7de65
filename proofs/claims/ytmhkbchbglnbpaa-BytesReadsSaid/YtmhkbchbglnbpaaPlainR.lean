/- Plain words for the reference's Read. -/
import Derived.Test.YtmhkbchbglnbpaaPlainN
namespace Go.Proofs.Ytmhkbchbglnbpaa
open Go.RowKit

theorem hi_take {l : List Int} {i : Nat} (h : Hi (l.take i)) (hi : i < l.length) (hx : ¬ l[i] < 128) : Hi (l.take (i + 1)) := by
  rw [List.take_succ_eq_append_getElem hi]
  intro x hm
  rcases List.mem_append.1 hm with hm | hm
  · exact h x hm
  · simp at hm; subst hm; exact hx
theorem fI_low {l : List Int} {i : Nat} (h : Hi (l.take i)) (hi : i < l.length) (hx : l[i] < 128) : fI l = i := by
  refine fI_stop hi ?_ hx
  rcases Nat.lt_or_ge (fI l) i with h1 | h1
  · exfalso
    have h2 := fI_at l (by omega)
    exact h _ (List.mem_take_iff_getElem.2 ⟨fI l, by omega, rfl⟩) h2
  · exact h1
theorem endR_low {l : List Int} {i : Nat} (h : Hi (l.take i)) (hi : i < l.length) (h10 : i < 10) (hx : l[i] < 128) : endR l = i ∧ fndR l = true := by
  have e1 : (l.take 10).take i = l.take i := by rw [List.take_take, Nat.min_eq_left (by omega)]
  have e2 : (l.take 10)[i]'(by simp; omega) = l[i] := List.getElem_take
  have e : endR l = i := fI_low (l := l.take 10) (i := i) (by rw [e1]; exact h) (by simp; omega) (by rw [e2]; exact hx)
  refine ⟨e, ?_⟩
  simp only [fndR, e, decide_eq_true_eq, List.length_take]; omega
/-- What Read answers at a byte that ends a number. -/
theorem read_low {l : List Int} {i : Nat} (h : Hi (l.take i)) (hi : i < l.length) (h10 : i < 10) (hx : l[i] < 128) :
    readE l = (if (0 < i ∧ l[i] = 0) ∨ (i = 9 ∧ 1 < l[i]) then 12 else 0) := by
  obtain ⟨e1, e2⟩ := endR_low h hi h10 hx
  have e3 : badR l i = decide ((0 < i ∧ l[i] = 0) ∨ (i = 9 ∧ 1 < l[i])) := by
    simp [badR, List.getD, List.getElem?_eq_getElem hi]
  rw [readE, if_pos e2, e1, e3]
  simp only [decide_eq_true_eq]
theorem read_ten {l : List Int} (h : Hi (l.take 10)) (hl : 10 ≤ l.length) : readE l = 12 := by
  have f : fndR l = false := by
    have := fI_hi (l.take 10) [] h
    simp only [List.append_nil, fI, Nat.add_zero] at this
    simp only [fndR, endR, this, decide_eq_false_iff_not]
    omega
  simp [readE, f]; omega
theorem read_end {l : List Int} (h : Hi l) (hl : l.length < 10) : readE l = 4 := readE_short h hl
end Go.Proofs.Ytmhkbchbglnbpaa
