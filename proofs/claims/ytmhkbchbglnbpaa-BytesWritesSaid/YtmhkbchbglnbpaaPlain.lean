/- Plain words: reading a number. -/
import Derived.Test.YtmhkbchbglnbpaaWords
namespace Go.Proofs.Ytmhkbchbglnbpaa
open Go.RowKit

/-- Where the first byte stands that ends a number. -/
def fI : List Int → Nat
  | [] => 0
  | x :: xs => if x < 128 then 0 else fI xs + 1
theorem fI_le : ∀ l : List Int, fI l ≤ l.length
  | [] => Nat.le_refl _
  | x :: xs => by
    have := fI_le xs
    simp only [fI, List.length_cons]
    split <;> omega
theorem fI_at : ∀ (l : List Int) (h : fI l < l.length), l[fI l] < 128
  | [], h => by simp at h
  | x :: xs, h => by
    by_cases hx : x < 128
    · simp [fI, hx]
    · have e : fI (x :: xs) = fI xs + 1 := by simp [fI, hx]
      simp only [e, List.getElem_cons_succ]
      exact fI_at xs (by simp [e] at h; exact h)
theorem fI_before : ∀ (l : List Int) (j : Nat) (h : j < l.length), j < fI l → ¬ l[j] < 128
  | [], j, h, _ => by simp at h
  | x :: xs, j, h, hj => by
    by_cases hx : x < 128
    · simp [fI, hx] at hj
    · have e : fI (x :: xs) = fI xs + 1 := by simp [fI, hx]
      rcases j with _ | j
      · simpa using hx
      · simp only [List.getElem_cons_succ]
        exact fI_before xs j (by simpa using h) (by omega)
theorem fI_stop {l : List Int} {k : Nat} (h : k < l.length) (hk : k ≤ fI l) (hx : l[k] < 128) : fI l = k := by
  rcases Nat.lt_or_ge k (fI l) with h1 | h1
  · exact absurd hx (fI_before l k h h1)
  · omega
theorem fI_go {l : List Int} {k : Nat} (h : k < l.length) (hk : k ≤ fI l) (hx : ¬ l[k] < 128) : k + 1 ≤ fI l := by
  rcases Nat.lt_or_ge k (fI l) with h1 | h1
  · exact h1
  · have e : fI l = k := by omega
    have := fI_at l (by omega)
    simp only [e] at this
    exact absurd this hx
/-- The groups' value, the first one the least. -/
def val : List Int → Nat
  | [] => 0
  | x :: xs => x.toNat % 128 + 128 * val xs
theorem val_drop (l : List Int) : ∀ k, val (l.drop k) ≤ val l := by
  intro k
  induction l generalizing k with
  | nil => simp [val]
  | cons x xs ih =>
    rcases k with _ | k
    · exact Nat.le_refl _
    · have := ih k
      simp only [List.drop_succ_cons, val]
      omega
theorem val_step (l : List Int) {k : Nat} (h : k < l.length) : val (l.drop k) = l[k].toNat % 128 + 128 * val (l.drop (k + 1)) := by
  rw [List.drop_eq_getElem_cons h]; rfl
theorem val_lt : ∀ l : List Int, val l < 128 ^ l.length
  | [] => by simp [val]
  | x :: xs => by
    have := val_lt xs
    simp only [val, List.length_cons, Nat.pow_succ]
    omega
theorem val_snoc : ∀ (l : List Int) (x : Int), val (l ++ [x]) = val l + 128 ^ l.length * (x.toNat % 128)
  | [], x => by simp [val]
  | y :: ys, x => by
    have := val_snoc ys x
    simp only [List.cons_append, val, this, List.length_cons, Nat.pow_succ]
    rw [Nat.mul_add, ← Nat.mul_assoc, Nat.mul_comm 128 (128 ^ ys.length)]
    omega

/-- Is the group's place that ends a number bad? -/
def badR (l : List Int) (e : Nat) : Bool := decide (0 < e ∧ l.getD e 0 = 0) || decide (e = 9 ∧ 1 < l.getD e 0)
def endR (l : List Int) : Nat := fI (l.take 10)
def fndR (l : List Int) : Bool := decide (endR l < (l.take 10).length)
/-- The error of reading a number. -/
def readE (l : List Int) : Int := if fndR l then (if badR l (endR l) then 12 else 0) else if l.length < 10 then 4 else 12
def readS (l : List Int) : Nat := if readE l = 0 then endR l + 1 else 0
def readV (l : List Int) : Nat := if readE l = 0 then val (l.take (endR l + 1)) else 0
theorem readE_fnd {l : List Int} (h : readE l = 0) : fndR l = true ∧ badR l (endR l) = false := by
  unfold readE at h
  split at h
  · rename_i h1
    refine ⟨h1, ?_⟩
    split at h
    · cases h
    · rename_i h2; simpa using h2
  · split at h <;> cases h
theorem endR_lt {l : List Int} (h : fndR l = true) : endR l < l.length ∧ endR l < 10 := by
  simp [fndR] at h; omega
theorem readS_le (l : List Int) : readS l ≤ l.length := by
  unfold readS
  split
  · rename_i h
    have := (endR_lt (readE_fnd h).1).1
    omega
  · omega
/-- A number that is read fits. -/
theorem val_fit {l : List Int} (hb : Bs l) (h : readE l = 0) : val (l.take (endR l + 1)) < 18446744073709551616 := by
  obtain ⟨h1, h2⟩ := readE_fnd h
  obtain ⟨h3, h4⟩ := endR_lt h1
  rw [List.take_succ_eq_append_getElem h3, val_snoc]
  have h5 := val_lt (l.take (endR l))
  rw [List.length_take, Nat.min_eq_left (by omega)] at h5 ⊢
  have h6 : l[endR l].toNat % 128 < 128 := Nat.mod_lt _ (by omega)
  by_cases h9 : endR l = 9
  · have h7 : l[endR l].toNat % 128 ≤ 1 := by
      have := hb.at_ h3
      simp [badR, h9, List.getD, List.getElem?_eq_getElem (show 9 < l.length by omega)] at h2
      simp only [h9]
      omega
    generalize l[endR l].toNat % 128 = g at h7 ⊢
    rw [h9] at h5 ⊢
    have : g = 0 ∨ g = 1 := by omega
    rcases this with rfl | rfl
    · omega
    · omega
  · have h8 : 128 ^ (endR l) ≤ 128 ^ 8 := Nat.pow_le_pow_right (by omega) (by omega)
    have h10 := Nat.mul_le_mul h8 (Nat.le_of_lt_succ h6)
    omega
theorem readV_fit {l : List Int} (hb : Bs l) : readV l < 18446744073709551616 := by
  unfold readV
  split
  · rename_i h; exact val_fit hb h
  · omega

/-! ### what was written is read again -/
theorem fI_numB : ∀ (n : Nat) (r : List Int), fI (numB n ++ r) = (numB n).length - 1 := by
  intro n
  induction n using Nat.strongRecOn with
  | ind n ih =>
    intro r
    by_cases h : n < 128
    · rw [numB_lo h]
      have : (n : Int) < 128 := by omega
      simp [fI, this]
    · rw [numB_hi h]
      have h2 : ¬ ((n % 128 + 128 : Nat) : Int) < 128 := by omega
      have h3 := numB_len_pos (n / 128)
      simp only [List.cons_append, fI, h2, if_false, ih (n / 128) (by omega) r, List.length_cons]
      omega
theorem val_numB : ∀ n : Nat, val (numB n) = n := by
  intro n
  induction n using Nat.strongRecOn with
  | ind n ih =>
    by_cases h : n < 128
    · rw [numB_lo h]; simp [val]; omega
    · rw [numB_hi h]
      simp only [val, ih (n / 128) (by omega), Int.toNat_natCast]
      omega
theorem last_numB : ∀ n : Nat, (numB n).length ≠ 1 → (numB n).getD ((numB n).length - 1) 0 ≠ 0 := by
  intro n
  induction n using Nat.strongRecOn with
  | ind n ih =>
    by_cases h : n < 128
    · rw [numB_lo h]; simp
    · rw [numB_hi h]
      intro _
      have h3 := numB_len_pos (n / 128)
      rw [List.length_cons, show (numB (n / 128)).length + 1 - 1 = (numB (n / 128)).length - 1 + 1 by omega, List.getD_cons_succ]
      by_cases h4 : (numB (n / 128)).length = 1
      · by_cases h5 : n / 128 < 128
        · rw [numB_lo h5]; simp; omega
        · rw [numB_hi h5] at h4
          have := numB_len_pos (n / 128 / 128)
          rw [List.length_cons] at h4; omega
      · exact ih (n / 128) (by omega) h4
theorem get_numB_ge : ∀ (k n : Nat), (numB n).length = k + 1 → (n : Int) ≥ 128 ^ k * (numB n).getD k 0 := by
  intro k
  induction k with
  | zero =>
    intro n h
    by_cases h1 : n < 128
    · rw [numB_lo h1]; simp
    · rw [numB_hi h1, List.length_cons] at h
      have := numB_len_pos (n / 128)
      omega
  | succ k ih =>
    intro n h
    by_cases h1 : n < 128
    · rw [numB_lo h1] at h; simp at h
    · rw [numB_hi h1] at h ⊢
      have h2 := ih (n / 128) (by simpa using h)
      rw [List.getD_cons_succ]
      have h3 : (n : Int) ≥ 128 * ((n / 128 : Nat) : Int) := by omega
      rw [Int.pow_succ, Int.mul_comm (128 ^ k) 128, Int.mul_assoc]
      omega
theorem read_numB {n : Nat} (hn : n < 18446744073709551616) (r : List Int) : readE (numB n ++ r) = 0 ∧ readS (numB n ++ r) = (numB n).length ∧ readV (numB n ++ r) = n := by
  have h1 := numB_10 hn
  have h2 := numB_len_pos n
  have ht : (numB n ++ r).take 10 = numB n ++ r.take (10 - (numB n).length) := by rw [List.take_append, List.take_of_length_le h1]
  have e : endR (numB n ++ r) = (numB n).length - 1 := by rw [endR, ht, fI_numB]
  have f : fndR (numB n ++ r) = true := by
    simp only [fndR, e, ht, List.length_append, decide_eq_true_eq]; omega
  have g : (numB n ++ r).getD ((numB n).length - 1) 0 = (numB n).getD ((numB n).length - 1) 0 := by
    simp only [List.getD]
    rw [List.getElem?_append_left (by omega)]
  have b : badR (numB n ++ r) (endR (numB n ++ r)) = false := by
    rw [e]
    simp only [badR, g, Bool.or_eq_false_iff, decide_eq_false_iff_not]
    refine ⟨fun hh => last_numB n (by omega) hh.2, fun hh => ?_⟩
    have h3 := get_numB_ge 9 n (by omega)
    rw [hh.1] at hh
    have h4 := hh.2
    generalize (numB n).getD 9 0 = y at h3 h4
    omega
  have hE : readE (numB n ++ r) = 0 := by simp [readE, f, b]
  refine ⟨hE, ?_, ?_⟩
  · rw [readS, if_pos hE, e]; omega
  · rw [readV, if_pos hE, e, show (numB n).length - 1 + 1 = (numB n).length by omega, List.take_left, val_numB]

/-! ### what was read is written again -/
theorem numB_val : ∀ (l : List Int), Bs l → (hf : fI l + 1 = l.length) → (0 < fI l → l.getD (fI l) 0 ≠ 0) → numB (val l) = l
  | [], _, hf, _ => by simp [fI] at hf
  | x :: xs, hb, hf, h0 => by
    have hx := hb x (by simp)
    by_cases h1 : x < 128
    · have : xs = [] := by
        simp [fI, h1] at hf
        exact hf
      subst this
      simp only [val]
      rw [numB_lo (by omega)]
      congr 1
      omega
    · have e : fI (x :: xs) = fI xs + 1 := by simp [fI, h1]
      rw [e] at hf h0
      have hf2 : fI xs + 1 = xs.length := by simpa using hf
      have h2 : xs.getD (fI xs) 0 ≠ 0 := by simpa using h0 (by omega)
      have hbx : Bs xs := fun y hy => hb y (by simp [hy])
      have ih := numB_val xs hbx hf2 (fun _ => h2)
      have hv : val xs ≠ 0 := by
        intro h3
        rw [h3, numB_lo (by omega)] at ih
        rw [← ih] at h2
        simp [fI] at h2
      simp only [val]
      rw [numB_hi (by omega)]
      congr 1
      · omega
      · rw [show (x.toNat % 128 + 128 * val xs) / 128 = val xs by omega, ih]
theorem read_back {l : List Int} (hb : Bs l) (h : readE l = 0) : numB (readV l) = l.take (readS l) := by
  obtain ⟨h1, h2⟩ := readE_fnd h
  obtain ⟨h3, h4⟩ := endR_lt h1
  rw [readV, readS, if_pos h, if_pos h]
  have hle : fI (l.take (endR l + 1)) = endR l := by
    have hlt : endR l < (l.take 10).length := by simpa [fndR] using h1
    have ha := fI_at (l.take 10) hlt
    refine fI_stop (k := endR l) (by simp; omega) ?_ ?_
    · rcases Nat.lt_or_ge (fI (l.take (endR l + 1))) (endR l) with h5 | h5
      · exfalso
        have h6 := fI_at (l.take (endR l + 1)) (by simp; omega)
        have h7 := fI_before (l.take 10) (fI (l.take (endR l + 1))) (by simp; omega) h5
        simp only [List.getElem_take] at h6 h7
        exact h7 h6
      · exact h5
    · have e : (l.take 10)[fI (l.take 10)]'hlt = l[endR l] := List.getElem_take
      rw [List.getElem_take, ← e]
      exact ha
  refine numB_val _ (hb.take _) ?_ ?_
  · rw [hle]; simp; omega
  · intro hpos
    rw [hle] at hpos ⊢
    simp only [badR, Bool.or_eq_false_iff, decide_eq_false_iff_not] at h2
    have h6 := h2.1
    simp only [List.getD, List.getElem?_take] at h6 ⊢
    rw [if_pos (by omega)]
    exact fun e => h6 ⟨hpos, e⟩
/-- What Num gives. -/
def nE (l : List Int) (most : Nat) : Int := if readE l = 0 then (if most < readV l then 3 else 0) else readE l
def nV (l : List Int) (most : Nat) : Nat := if nE l most = 0 then readV l else 0
def nS (l : List Int) (most : Nat) : Nat := if nE l most = 0 then readS l else 0
theorem nE_ok {l : List Int} {most : Nat} (h : nE l most = 0) : readE l = 0 ∧ ¬ most < readV l := by
  unfold nE at h
  split at h
  · rename_i h1
    refine ⟨h1, ?_⟩
    split at h
    · cases h
    · assumption
  · exact absurd h (by assumption)
end Go.Proofs.Ytmhkbchbglnbpaa
