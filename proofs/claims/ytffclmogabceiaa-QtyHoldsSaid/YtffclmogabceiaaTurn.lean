/- Lists that are turned: their sums and their newest mark do not change; the time Next is newer than all. Nothing of the program stands here but names. -/
import Derived.Test.YtffclmogabceiaaRefNewest
import Derived.Test.YtffclmogabceiaaSums
namespace Go.Proofs.Ytffclmogabceiaa
open Go.RowKit

theorem all_turn {α : Type} (f : α → Bool) (l : List α) (k : Nat) : (l.drop k ++ l.take k).all f = l.all f := by
  conv => rhs; rw [← List.take_append_drop k l]
  rw [List.all_append, List.all_append, Bool.and_comm]
theorem allQ_turn (l : List Int) (k : Nat) : allQ (l.drop k ++ l.take k) = allQ l := all_turn _ l k
theorem allV_turn (l : List Mk) (k : Nat) : allV (l.drop k ++ l.take k) = allV l := all_turn _ l k
theorem sumL_turn (l : List Int) (k : Nat) : sumL (l.drop k ++ l.take k) = sumL l := by
  conv => rhs; rw [← List.take_append_drop k l]
  rw [sumL_app, sumL_app, Int.add_comm]
theorem nil_turn {α : Type} (l : List α) (k : Nat) : l.drop k ++ l.take k = [] ↔ l = [] := by
  constructor
  · intro h
    have := congrArg List.length h
    simp at this
    cases l with
    | nil => rfl
    | cons x l => simp at this; omega
  · rintro rfl; simp
theorem sumN_turn (l : List Int) (k : Nat) : sumN (l.drop k ++ l.take k) = sumN l := by
  unfold sumN; rw [allQ_turn, sumL_turn]
  by_cases h : l = []
  · rw [if_pos h, if_pos ((nil_turn l k).2 h)]
  · rw [if_neg h, if_neg (fun x => h ((nil_turn l k).1 x))]
theorem sumE_turn (l : List Int) (k : Nat) : sumE (l.drop k ++ l.take k) = sumE l := by
  unfold sumE; rw [allQ_turn, sumL_turn]
  by_cases h : l = []
  · rw [if_pos h, if_pos ((nil_turn l k).2 h)]
  · rw [if_neg h, if_neg (fun x => h ((nil_turn l k).1 x))]
theorem mem_turn {α : Type} (l : List α) (k : Nat) (x : α) : x ∈ l.drop k ++ l.take k ↔ x ∈ l := by
  conv => rhs; rw [← List.take_append_drop k l]
  rw [List.mem_append, List.mem_append, or_comm]
theorem newestOf_turn (l : List Mk) (k : Nat) : newestOf (l.drop k ++ l.take k) = newestOf l := by
  cases h : l with
  | nil => simp
  | cons m r =>
    obtain ⟨h1, h2⟩ := newestOf_max m r
    rw [← h] at h1 h2 ⊢
    exact newestOf_eq _ _ ((mem_turn l k _).2 h1) (fun x hx => h2 x ((mem_turn l k x).1 hx))
theorem newestM_turn (l : List Mk) (k : Nat) : newestM (l.drop k ++ l.take k) = newestM l := by
  unfold newestM; rw [allV_turn, newestOf_turn]
theorem newestE_turn (l : List Mk) (k : Nat) : newestE (l.drop k ++ l.take k) = newestE l := by
  unfold newestE; rw [allV_turn]
  by_cases h : l = []
  · rw [if_pos h, if_pos ((nil_turn l k).2 h)]
  · rw [if_neg h, if_neg (fun x => h ((nil_turn l k).1 x))]

theorem sumE_zero {l : List Int} (h : sumE l = 0) (hn : l ≠ []) : validQ (sumN l) = true := by
  unfold sumE at h
  rw [if_neg hn] at h
  split at h
  · rename_i hc
    rw [sumN, if_neg hn, if_pos hc, validQ_iff]
    cases l with
    | nil => exact absurd rfl hn
    | cons x l =>
      have h1 := hc.1
      simp only [allQ, List.all_cons, Bool.and_eq_true] at h1
      have h2 := (validQ_iff x).1 h1.1
      have h3 := (sumL_nonneg l h1.2).1
      have h4 := hc.2
      simp only [sumL] at *
      omega
  · omega
theorem newest_all {l : List Mk} (h : newestE l = 0) : ∀ x ∈ l, ¬ GT x (newestM l) := by
  unfold newestE at h
  split at h
  · rename_i hv
    cases l with
    | nil => simp
    | cons m r => rw [newestM, if_pos hv]; exact (newestOf_max m r).2
  · omega
theorem newest_cmp {l : List Mk} (h : newestE l = 0) {x : Mk} (hx : x ∈ l) : ¬ 0 < cmpM x (newestM l) := by
  rw [cmpM_pos]; exact newest_all h x hx
theorem next_all {l : List Mk} (h : nextE l = 0) (r c q : Int) {x : Mk} (hx : x ∈ l) : cmpM ⟨r, c, q, nextN l⟩ x = 1 := by
  unfold nextE at h
  split at h
  · rename_i hv
    split at h
    · omega
    · rename_i ht
      rw [cmpM_one, nextN, if_pos hv, if_neg ht]
      have := (gmax_ge l Mk.zero).2 x hx
      left
      show lastT l + 1 > x.t
      unfold GT at this
      have : ¬ x.t > (gmax l Mk.zero).t := fun h => this (Or.inl h)
      have e : lastT l = (gmax l Mk.zero).t := rfl
      omega
  · omega
theorem order_neg {a b c : Mk} (h1 : cmpM a b < 0) (h2 : cmpM b c < 0) : cmpM a c < 0 := by
  have e1 : cmpM a b = -1 := by have := cmpM_in a b; omega
  have e2 : cmpM b c = -1 := by have := cmpM_in b c; omega
  have := cmpM_neg.2 (GT.trans (cmpM_neg.1 e2) (cmpM_neg.1 e1))
  omega
theorem order_pos {a b c : Mk} (h1 : 0 < cmpM a b) (h2 : 0 < cmpM b c) : 0 < cmpM a c := by
  rw [cmpM_pos] at *
  exact GT.trans h1 h2
end Go.Proofs.Ytffclmogabceiaa
