/- Join: the plain words. -/
import Derived.Test.YtdancoblphkakaaOfA
namespace Go.Proofs.Ytdancoblphkakaa
open Go.RowKit

/-- While rows are joined: up to row i, in row i up to number k. -/
def mixG (G H : List (List Int)) (i k : Nat) (a b : Nat) : Int := if a < i ∨ (a = i ∧ b < k) then max (ga G a b) (ga H a b) else ga G a b
def mixD (D E : List Int) (i : Nat) (a : Nat) : Int := if a < i then max (da D a) (da E a) else da D a
/-- The join of two states of one size. -/
def joinG (G H : List (List Int)) : List (List Int) := (List.range G.length).map fun i => (List.range G.length).map fun k => max (ga G i k) (ga H i k)
def joinD (D E : List Int) (n : Nat) : List Int := (List.range n).map fun i => max (da D i) (da E i)
theorem joinG_len (G H : List (List Int)) : (joinG G H).length = G.length := by simp [joinG]
theorem joinG_row (G H : List (List Int)) {i : Nat} (h : i < (joinG G H).length) : ((joinG G H)[i]).length = G.length := by simp [joinG]
theorem ga_joinG (G H : List (List Int)) {i k : Nat} (hi : i < G.length) (hk : k < G.length) : ga (joinG G H) i k = max (ga G i k) (ga H i k) := by
  have h1 : i < (joinG G H).length := by rw [joinG_len]; exact hi
  have h2 : k < ((joinG G H)[i]).length := by rw [joinG_row]; exact hk
  rw [ga_at h1 h2]
  simp [joinG]
theorem da_joinD (D E : List Int) {n i : Nat} (hi : i < n) : da (joinD D E n) i = max (da D i) (da E i) := by
  have h1 : i < (joinD D E n).length := by simp [joinD]; exact hi
  rw [da_at h1]
  simp [joinD]
/-- States of one size are equal if their numbers are. -/
theorem mat_ext {n : Nat} {G H : List (List Int)} (h1 : G.length = n) (h2 : H.length = n) (r1 : ∀ i (_ : i < G.length), (G[i]).length = n) (r2 : ∀ i (_ : i < H.length), (H[i]).length = n) (h : ∀ i k, i < n → k < n → ga G i k = ga H i k) : G = H := by
  refine List.ext_getElem (by omega) fun i hi hi2 => ?_
  refine List.ext_getElem (by rw [r1 i hi, r2 i hi2]) fun k hk hk2 => ?_
  have hk3 : k < n := by rw [r1 i hi] at hk; exact hk
  have := h i k (by omega) hk3
  rw [ga_at hi hk, ga_at hi2 hk2] at this
  exact this
theorem row_ext {n : Nat} {D E : List Int} (h1 : D.length = n) (h2 : E.length = n) (h : ∀ i, i < n → da D i = da E i) : D = E := by
  refine List.ext_getElem (by omega) fun i hi hi2 => ?_
  have := h i (by omega)
  rw [da_at hi, da_at hi2] at this
  exact this
theorem num_out {G : List (List Int)} {n : Nat} (h1 : G.length = n) (r1 : ∀ i (_ : i < G.length), (G[i]).length = n) {i k : Nat} (h : ¬ (i < n ∧ k < n)) : ga G i k = 0 := by
  unfold ga
  by_cases hi : i < n
  · have hk : ¬ k < n := fun e => h ⟨hi, e⟩
    have hi2 : i < G.length := by omega
    have e : G.getD i [] = G[i] := by simp [hi2]
    rw [e, List.getD_eq_getElem?_getD, List.getElem?_eq_none (by rw [r1 i hi2]; omega)]
    rfl
  · have e : G.getD i [] = [] := by rw [List.getD_eq_getElem?_getD, List.getElem?_eq_none (by omega)]; rfl
    rw [e]
    simp
end Go.Proofs.Ytdancoblphkakaa
