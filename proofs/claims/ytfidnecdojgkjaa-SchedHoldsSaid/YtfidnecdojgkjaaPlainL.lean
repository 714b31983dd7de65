/- Sched: the long run. Nothing of the program stands here. -/
import Derived.Test.YtfidnecdojgkjaaPlainW
namespace Go.Proofs.Ytfidnecdojgkjaa
open Go.RowKit

/-- The tasks that are enabled: 0 and those that wait. -/
def allE (m : Nat) : List Int := (List.range (m + 1)).map fun (k : Nat) => (k : Int)
theorem allE_mem {m : Nat} {x : Int} : x ∈ allE m ↔ 0 ≤ x ∧ x ≤ m := by
  simp only [allE, List.mem_map, List.mem_range]
  constructor
  · rintro ⟨k, hk, rfl⟩; omega
  · rintro ⟨h1, h2⟩; exact ⟨x.toNat, by omega, by omega⟩
theorem allE_len (m : Nat) : (allE m).length = m + 1 := by simp [allE]
theorem allE_get {m k : Nat} (h : k < (allE m).length) : (allE m)[k] = k := by simp [allE]
theorem allE_en {m : Nat} (h : m ≤ 9999) : enB (allE m) = true := by
  rw [enB_iff]
  intro j hj
  have hj' := hj
  rw [allE_len] at hj'
  unfold okAt
  rw [getD_get _ _ hj, allE_get]
  refine ⟨by omega, fun h0 => ?_⟩
  rw [getD_get _ _ (by omega), allE_get]
  omega
/-- A run in which 0 is picked in each turn. -/
def longT (m n : Nat) : List Tn := List.replicate n ⟨allE m, 0⟩
theorem longT_len (m n : Nat) : (longT m n).length = n := by simp [longT]
theorem longT_gAt (m : Nat) : ∀ n x, gAt (longT m n) x = if 1 ≤ x ∧ x ≤ m then n else 0
  | 0, x => by simp [longT, gAt]
  | n + 1, x => by
    rw [longT, List.replicate_succ', gAt_snoc, gN]
    have ih := longT_gAt m n x
    unfold longT at ih
    rw [ih]
    simp only [allE_mem]
    by_cases h : 1 ≤ x ∧ x ≤ m
    · rw [if_pos h, if_pos h, if_pos ⟨⟨by omega, h.2⟩, by omega⟩]
    · rw [if_neg h, if_neg (fun h' => h ⟨by omega, h'.1.2⟩), if_neg h]
theorem longT_take (m n k : Nat) (h : k ≤ n) : (longT m n).take k = longT m k := by simp [longT, List.take_replicate, Nat.min_eq_left h]
theorem longT_getD (m n k : Nat) (h : k < n) : (longT m n).getD k ⟨[], 0⟩ = ⟨allE m, 0⟩ := by rw [getD_tn (by rw [longT_len]; exact h)]; simp [longT]
theorem runE_longT {m n : Nat} (hm : m ≤ 9999) (hn : n ≤ 100000) : runE (longT m n) = 0 := by
  refine runE_ok (by rw [longT_len]; omega) (fun k hk => ?_)
  simp only [longT, List.getElem_replicate, okT, allE_en hm, Bool.true_and, decide_eq_true_eq, allE_mem]
  omega
/-- The greatest wait in one turn. -/
theorem turn_worst {m n : Nat} (s : Int × Nat) : (allE m).foldl (wS (gAt (longT m n))) s = if m = 0 ∨ n ≤ s.2 then s else (1, n) := by
  have hg : ∀ x, gAt (longT m n) x = if 1 ≤ x ∧ x ≤ m then n else 0 := longT_gAt m n
  generalize gAt (longT m n) = g at *
  have key : ∀ j, j ≤ m + 1 → ((allE m).take j).foldl (wS g) s = if j ≤ 1 ∨ n ≤ s.2 then s else (1, n) := by
    intro j
    induction j with
    | zero => intro _; simp
    | succ j ih =>
      intro hj
      have hjl : j < (allE m).length := by rw [allE_len]; omega
      rw [List.take_succ_eq_append_getElem hjl, List.foldl_append, ih (by omega), allE_get]
      simp only [List.foldl_cons, List.foldl_nil]
      unfold wS
      rw [hg]
      by_cases h0 : j = 0
      · subst h0
        rw [if_pos (show 0 ≤ 1 ∨ n ≤ s.2 from .inl (by omega)), if_neg (show ¬ (1 ≤ ((0 : Nat) : Int) ∧ ((0 : Nat) : Int) ≤ m) by omega), if_neg (Nat.not_lt_zero _), if_pos (show 0 + 1 ≤ 1 ∨ n ≤ s.2 from .inl (by omega))]
      · rw [if_pos (show 1 ≤ (j : Int) ∧ (j : Int) ≤ m by omega)]
        by_cases h1 : j = 1
        · subst h1
          rw [if_pos (show 1 ≤ 1 ∨ n ≤ s.2 from .inl (by omega))]
          by_cases h2 : n ≤ s.2
          · rw [if_neg (show ¬ s.2 < n by omega), if_pos (show 1 + 1 ≤ 1 ∨ n ≤ s.2 from .inr h2)]
          · rw [if_pos (show s.2 < n by omega), if_neg (show ¬ (1 + 1 ≤ 1 ∨ n ≤ s.2) by omega)]; rfl
        · by_cases h2 : n ≤ s.2
          · rw [if_pos (show j ≤ 1 ∨ n ≤ s.2 from .inr h2), if_neg (show ¬ s.2 < n by omega), if_pos (show j + 1 ≤ 1 ∨ n ≤ s.2 from .inr h2)]
          · rw [if_neg (show ¬ (j ≤ 1 ∨ n ≤ s.2) by omega), if_neg (show ¬ n < n by omega), if_neg (show ¬ (j + 1 ≤ 1 ∨ n ≤ s.2) by omega)]
  have := key (m + 1) (Nat.le_refl _)
  rw [← allE_len m, List.take_length, allE_len] at this
  rw [this]
  by_cases h : m = 0 ∨ n ≤ s.2
  · rw [if_pos h, if_pos (by omega)]
  · rw [if_neg h, if_neg (by omega)]
theorem worst_longT0 (n : Nat) : worstF (longT 0 n) = (0, 0) := by
  have : ∀ k, k ≤ n → wUp (longT 0 n) k = (0, 0) := by
    intro k
    induction k with
    | zero => intro _; rfl
    | succ k ih =>
      intro hk
      rw [wUp_succ, longT_getD 0 n k (by omega), longT_take 0 n (k + 1) hk, turn_worst, if_pos (.inl rfl), ih (by omega)]
  rw [worstF, longT_len, this n (Nat.le_refl _)]
theorem worst_longT {m n : Nat} (hm : 0 < m) (hn : 0 < n) : worstF (longT m n) = (1, n) := by
  have : ∀ k, k ≤ n → wUp (longT m n) k = if k = 0 then (0, 0) else (1, k) := by
    intro k
    induction k with
    | zero => intro _; rfl
    | succ k ih =>
      intro hk
      rw [wUp_succ, longT_getD m n k (by omega), longT_take m n (k + 1) hk, turn_worst, ih (by omega), if_neg (Nat.succ_ne_zero k), if_neg]
      split <;> simp <;> omega
  rw [worstF, longT_len, this n (Nat.le_refl _), if_neg (by omega)]
theorem hit_longT {m n k : Nat} {b : Int} (hk : k < n) (hb : 1 ≤ b) : hit (longT m n) b k = decide (0 < m ∧ b ≤ k + 1) := by
  rw [hit, longT_getD m n k hk, longT_take m n (k + 1) hk]
  rw [Bool.eq_iff_iff, List.any_eq_true, decide_eq_true_eq]
  constructor
  · rintro ⟨x, hx, h⟩
    rw [allE_mem] at hx
    rw [longT_gAt] at h
    simp only [decide_eq_true_eq] at h
    split at h <;> omega
  · rintro ⟨h1, h2⟩
    refine ⟨1, by rw [allE_mem]; omega, ?_⟩
    rw [longT_gAt, if_pos (by omega)]
    simp; omega
theorem fUp_longT {m n : Nat} {b : Int} (hb : 1 ≤ b) (k : Nat) (hk : k ≤ n) (h : m = 0 ∨ (k : Int) < b) : fUp (longT m n) b k = none := by
  induction k with
  | zero => rfl
  | succ k ih =>
    rw [fUp_succ, ih (by omega) (by omega), hit_longT (by omega) hb]
    rw [decide_eq_false (by omega)]
    rfl
end Go.Proofs.Ytfidnecdojgkjaa
