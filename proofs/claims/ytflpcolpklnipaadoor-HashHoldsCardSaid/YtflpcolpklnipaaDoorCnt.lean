/- Plain facts on counts: their sum, and that a stripe with a key has a positive count. -/
import Derived.Test.YtflpcolpklnipaaDoorPlain
namespace Go.Proofs.YtflpcolpklnipaaDoor

theorem set_sum : ∀ (l : List Int) (i : Nat) (x : Int) (h : i < l.length), (l.set i x).sum = l.sum + x - l[i]
  | a :: l, 0, x, _ => by simp; omega
  | a :: l, i + 1, x, h => by
    have := set_sum l i x (by simpa using h)
    simp [this]; omega
theorem bump_sum (l : List Int) (i : Nat) (h : i < l.length) : (bump l i).sum = l.sum + 1 := by
  rw [bump, set_sum l i _ h, List.getD_eq_getElem?_getD, List.getElem?_eq_getElem h, Option.getD_some]; omega
theorem fold_sum (n : Nat) : ∀ (is : List Nat) (l : List Int), l.length = n → (∀ i ∈ is, i < n) → (is.foldl bump l).sum = l.sum + is.length
  | [], l, _, _ => by simp
  | i :: is, l, hl, h => by
    rw [List.foldl_cons, fold_sum n is (bump l i) (by rw [bump_len, hl]) (fun j hj => h j (List.mem_cons_of_mem _ hj)), bump_sum l i (by rw [hl]; exact h i List.mem_cons_self)]
    simp; omega
theorem zeros_sum (n : Nat) : (List.replicate n (0 : Int)).sum = 0 := by
  induction n with
  | zero => rfl
  | succ n ih => rw [List.replicate_succ, List.sum_cons, ih]; rfl
theorem cntIs_sum (n : Nat) (is : List Nat) (h : ∀ i ∈ is, i < n) : (cntIs n is).sum = is.length := by
  rw [cntIs, fold_sum n is _ (by simp) h, zeros_sum]; simp

theorem bump_get (l : List Int) (i j : Nat) : (bump l i).getD j 0 = if i = j ∧ i < l.length then l.getD j 0 + 1 else l.getD j 0 := by
  rw [bump, List.getD_eq_getElem?_getD, List.getElem?_set, List.getD_eq_getElem?_getD]
  by_cases h : i = j
  · subst h
    by_cases hl : i < l.length
    · simp [hl]
    · simp [hl]
  · simp [h]
theorem fold_ge : ∀ (is : List Nat) (l : List Int) (j : Nat), l.getD j 0 ≤ (is.foldl bump l).getD j 0
  | [], l, j => Int.le_refl _
  | i :: is, l, j => by
    rw [List.foldl_cons]
    refine Int.le_trans ?_ (fold_ge is (bump l i) j)
    rw [bump_get]
    split <;> omega
theorem fold_pos (n : Nat) : ∀ (is : List Nat) (l : List Int) (j : Nat), l.length = n → j ∈ is → j < n → l.getD j 0 + 1 ≤ (is.foldl bump l).getD j 0
  | [], l, j, _, h, _ => by simp at h
  | i :: is, l, j, hl, h, hj => by
    rw [List.foldl_cons]
    by_cases hi : i = j
    · subst hi
      refine Int.le_trans ?_ (fold_ge is (bump l i) i)
      rw [bump_get, if_pos ⟨rfl, by omega⟩]
      exact Int.le_refl _
    · have hm : j ∈ is := by simpa [show j ≠ i from fun e => hi e.symm] using h
      have := fold_pos n is (bump l i) j (by rw [bump_len, hl]) hm hj
      rw [bump_get, if_neg (by omega)] at this
      exact this
theorem cntIs_pos (n : Nat) (is : List Nat) (j : Nat) (h : j ∈ is) (hj : j < n) : 1 ≤ (cntIs n is).getD j 0 := by
  have := fold_pos n is (List.replicate n 0) j (by simp) h hj
  have hz : (List.replicate n (0 : Int)).getD j 0 = 0 := by simp [List.getD_eq_getElem?_getD, List.getElem?_replicate, hj]
  rw [hz] at this
  exact this

/-- The sum of the first k numbers. -/
def sumTo (l : List Int) (k : Nat) : Int := (l.take k).sum
theorem sumTo_step (l : List Int) (k : Nat) (h : k < l.length) : sumTo l (k + 1) = sumTo l k + l[k] := by
  rw [sumTo, List.take_succ_eq_append_getElem h, List.sum_append]; simp [sumTo]
theorem sumTo_bd (l : List Int) (b : Int) (h : ∀ x ∈ l, 0 ≤ x ∧ x ≤ b) (k : Nat) (hk : k ≤ l.length) : 0 ≤ sumTo l k ∧ sumTo l k ≤ k * b := by
  induction k with
  | zero => simp [sumTo]
  | succ k ih =>
    have h1 := ih (by omega)
    have h2 := h l[k] (List.getElem_mem (by omega))
    rw [sumTo_step l k (by omega)]
    have : ((k + 1 : Nat) : Int) * b = k * b + b := by rw [Int.natCast_add, Int.add_mul]; simp
    omega
end Go.Proofs.YtflpcolpklnipaaDoor
