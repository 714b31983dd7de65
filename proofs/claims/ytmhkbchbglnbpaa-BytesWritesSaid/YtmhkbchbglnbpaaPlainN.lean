/- Plain words for BytesNumbers: bytes that end no number. -/
import Derived.Test.YtmhkbchbglnbpaaPlain
namespace Go.Proofs.Ytmhkbchbglnbpaa
open Go.RowKit

def Hi (l : List Int) : Prop := ∀ x ∈ l, ¬ x < 128
theorem fI_hi : ∀ (l r : List Int), Hi l → fI (l ++ r) = l.length + fI r
  | [], r, _ => by simp
  | x :: xs, r, h => by
    have h1 : ¬ x < 128 := h x (by simp)
    have h2 := fI_hi xs r (fun y hy => h y (by simp [hy]))
    simp only [List.cons_append, fI, h1, if_false, h2, List.length_cons]
    omega
theorem numB_split : ∀ n : Nat, ∃ a y, numB n = a ++ [y] ∧ Hi a ∧ 0 ≤ y ∧ y < 128 := by
  intro n
  induction n using Nat.strongRecOn with
  | ind n ih =>
    by_cases h : n < 128
    · exact ⟨[], n, by rw [numB_lo h]; rfl, by simp [Hi], by omega, by omega⟩
    · obtain ⟨a, y, h1, h2, h3, h4⟩ := ih (n / 128) (by omega)
      refine ⟨((n % 128 + 128 : Nat) : Int) :: a, y, by rw [numB_hi h, h1]; rfl, ?_, h3, h4⟩
      intro x hx
      rcases List.mem_cons.1 hx with rfl | hx
      · omega
      · exact h2 x hx
theorem readE_short {l : List Int} (h : Hi l) (hl : l.length < 10) : readE l = 4 := by
  have e : l.take 10 = l := List.take_of_length_le (by omega)
  have f : fndR l = false := by
    have := fI_hi l [] h
    simp only [List.append_nil, fI, Nat.add_zero] at this
    simp only [fndR, endR, e, this, decide_eq_false_iff_not]
    omega
  simp [readE, f, hl]
theorem readE_over {l : List Int} (h : Hi l) (h0 : 1 ≤ l.length) (hl : l.length ≤ 10) : readE (l ++ [0]) = 12 := by
  by_cases h10 : l.length = 10
  · have e : (l ++ [0]).take 10 = l := by rw [← h10, List.take_left]
    have f : fndR (l ++ [0]) = false := by
      have := fI_hi l [] h
      simp only [List.append_nil, fI, Nat.add_zero] at this
      simp only [fndR, endR, e, this, decide_eq_false_iff_not]
      omega
    simp only [readE, f, List.length_append, List.length_cons, List.length_nil]
    rw [if_neg (by simp), if_neg (by omega)]
  · have e : (l ++ [0]).take 10 = l ++ [0] := List.take_of_length_le (by simp; omega)
    have g : endR (l ++ [0]) = l.length := by rw [endR, e, fI_hi l [0] h]; simp [fI]
    have f : fndR (l ++ [0]) = true := by
      simp only [fndR, g, e, List.length_append, List.length_cons, List.length_nil, decide_eq_true_eq]
      omega
    have b : badR (l ++ [0]) (endR (l ++ [0])) = true := by
      rw [g]
      simp only [badR, List.getD, List.getElem?_append_right (Nat.le_refl _), Nat.sub_self, Bool.or_eq_true, decide_eq_true_eq]
      exact .inl ⟨by omega, rfl⟩
    simp [readE, f, b]
theorem nE_own {n : Nat} (hn : n < 18446744073709551616) (most : Nat) : nE (numB n) most = (if most < n then 3 else 0) ∧ nV (numB n) most = (if most < n then 0 else n) ∧ nS (numB n) most = (if most < n then 0 else (numB n).length) := by
  obtain ⟨h1, h2, h3⟩ := read_numB hn []
  rw [List.append_nil] at h1 h2 h3
  have e : nE (numB n) most = (if most < n then 3 else 0) := by rw [nE, if_pos h1, h3]
  refine ⟨e, ?_, ?_⟩
  · rw [nV, e]; split <;> simp [h3]
  · rw [nS, e]; split <;> simp [h2]
end Go.Proofs.Ytmhkbchbglnbpaa
