/- Quantities, dots, marks: which are valid; the orders of numbers. -/
import Derived.Test.YtffclmogabceiaaBase
import Derived.Test.YtffclmogabceiaaGrow
import Derived.Test.YtffclmogabceiaaMarks
namespace Go.Proofs.Ytffclmogabceiaa
open Go.RowKit

theorem valid_any (q : Int) (w : World) : Calls Try.prog 10 #[.int .i64 q] w fun e w' => e = .returned (.bool (validQ q)) ∧ w' = w := by
  go_enter Try.func10, Try.ntmps10
  by_cases c1 : 1 ≤ q
  · go_wp2
    go_ret
    exact ⟨ret_bool (by simp [validQ, c1]), rfl⟩
  · go_wp2
    go_ret
    exact ⟨ret_bool (by simp [validQ]; omega), rfl⟩
theorem refValid_any (q : Int) (w : World) : Calls Try.prog 11 #[.int .i64 q] w fun e w' => e = .returned (.bool (validQ q)) ∧ w' = w := by
  go_enter Try.func11, Try.ntmps11
  by_cases c1 : 0 < q
  · go_wp2
    go_ret
    exact ⟨ret_bool (by simp [validQ, show 1 ≤ q from c1]), rfl⟩
  · go_wp2
    go_ret
    exact ⟨ret_bool (by simp [validQ]; omega), rfl⟩
theorem dotValid_any (r c : Int) (w : World) : Calls Try.prog 32 #[.agg #[.int .i64 r, .int .i64 c]] w fun e w' => e = .returned (.bool (validD r c)) ∧ Below w.heap.size w w' := by
  go_enter Try.func32, Try.ntmps32
  by_cases c1 : 1 ≤ r
  · by_cases c2 : r ≤ 65535
    · by_cases c3 : 1 ≤ c
      · go_wp2
        go_ret
        exact ⟨ret_bool (by simp [validD, c1, c2, c3]), (Below.refl _ _).alloc (Nat.le_refl _) _⟩
      · go_wp2
        go_ret
        exact ⟨ret_bool (by simp [validD]; omega), (Below.refl _ _).alloc (Nat.le_refl _) _⟩
    · go_wp2
      go_ret
      exact ⟨ret_bool (by simp [validD]; omega), (Below.refl _ _).alloc (Nat.le_refl _) _⟩
  · go_wp2
    go_ret
    exact ⟨ret_bool (by simp [validD]; omega), (Below.refl _ _).alloc (Nat.le_refl _) _⟩
theorem refDotValid_any (r c : Int) (w : World) : Calls Try.prog 33 #[.agg #[.int .i64 r, .int .i64 c]] w fun e w' => e = .returned (.bool (validD r c)) ∧ Below w.heap.size w w' := by
  go_enter Try.func33, Try.ntmps33
  by_cases c1 : 0 < r
  · by_cases c2 : r ≤ 65535
    · by_cases c3 : 0 < c
      · go_wp2
        go_ret
        exact ⟨ret_bool (by simp [validD, show 1 ≤ r from c1, c2, show 1 ≤ c from c3]), (Below.refl _ _).alloc (Nat.le_refl _) _⟩
      · go_wp2
        go_ret
        exact ⟨ret_bool (by simp [validD]; omega), (Below.refl _ _).alloc (Nat.le_refl _) _⟩
    · go_wp2
      go_ret
      exact ⟨ret_bool (by simp [validD]; omega), (Below.refl _ _).alloc (Nat.le_refl _) _⟩
  · go_wp2
    go_ret
    exact ⟨ret_bool (by simp [validD]; omega), (Below.refl _ _).alloc (Nat.le_refl _) _⟩

theorem validMark_any (r c q t : Int) (w : World) : Calls Try.prog 12 #[.agg #[.int .i64 r, .int .i64 c, .int .i64 q, .int .u64 t]] w fun e w' => e = .returned (.bool (validM ⟨r, c, q, t⟩)) ∧ Below w.heap.size w w' := by
  go_enter Try.func12, Try.ntmps12
  go_wp2_with fail
  refine (dotValid_any r c _).mono ?_
  rintro e w1 ⟨rfl, hb⟩
  have hw : w1.cell? ⟨w.heap.size, 2, none⟩ = some (.int .i64 q) := (hb.cell (by simp)).trans (by simp [go_sem])
  have hw2 : w1.cell? ⟨w.heap.size, 3, none⟩ = some (.int .u64 t) := (hb.cell (by simp)).trans (by simp [go_sem])
  have hB : Below w.heap.size w w1 := ((Below.refl _ _).alloc (Nat.le_refl _) _).trans (hb.mono (by simp))
  clear hb
  by_cases d1 : validD r c = true
  · rw [d1]
    go_wp2_with fail
    refine (valid_any q _).mono ?_
    rintro e w' ⟨rfl, rfl⟩
    by_cases d2 : validQ q = true
    · rw [d2]
      go_wp2_with fail
      go_ret
      exact ⟨ret_bool (by simp [validM, d1, d2]), hB⟩
    · have d3 : validQ q = false := by simpa using d2
      rw [d3]
      go_wp2_with fail
      go_ret
      exact ⟨ret_bool (by simp [validM, d1, d3]), hB⟩
  · have d2 : validD r c = false := by simpa using d1
    rw [d2]
    go_wp2_with fail
    go_ret
    exact ⟨ret_bool (by simp [validM, d2]), hB⟩
theorem refValidMark_any (r c q t : Int) (w : World) (ht : 0 ≤ t) : Calls Try.prog 13 #[.agg #[.int .i64 r, .int .i64 c, .int .i64 q, .int .u64 t]] w fun e w' => e = .returned (.bool (validM ⟨r, c, q, t⟩)) ∧ Below w.heap.size w w' := by
  go_enter Try.func13, Try.ntmps13
  go_wp2_with fail
  refine (refDotValid_any r c _).mono ?_
  rintro e w1 ⟨rfl, hb⟩
  have hw : w1.cell? ⟨w.heap.size, 2, none⟩ = some (.int .i64 q) := (hb.cell (by simp)).trans (by simp [go_sem])
  have hw2 : w1.cell? ⟨w.heap.size, 3, none⟩ = some (.int .u64 t) := (hb.cell (by simp)).trans (by simp [go_sem])
  have hB : Below w.heap.size w w1 := ((Below.refl _ _).alloc (Nat.le_refl _) _).trans (hb.mono (by simp))
  clear hb
  by_cases d1 : validD r c = true
  · rw [d1]
    go_wp2_with fail
    refine (refValid_any q _).mono ?_
    rintro e w' ⟨rfl, rfl⟩
    by_cases d2 : validQ q = true
    · rw [d2]
      go_wp2_with fail
      go_ret
      exact ⟨ret_bool (by rw [Bool.eq_iff_iff]; simp [validM, d1, d2]; omega), hB⟩
    · have d3 : validQ q = false := by simpa using d2
      rw [d3]
      go_wp2_with fail
      go_ret
      exact ⟨ret_bool (by simp [validM, d1, d3]), hB⟩
  · have d2 : validD r c = false := by simpa using d1
    rw [d2]
    go_wp2_with fail
    go_ret
    exact ⟨ret_bool (by simp [validM, d2]), hB⟩

theorem cmp_any (a b : Int) (w : World) : Calls Try.prog 36 #[.int .i64 a, .int .i64 b] w fun e w' => e = .returned (.int .i64 (cmpI a b)) ∧ w' = w := by
  have nan : ∀ (x : Int) (w : World), Calls Try.prog 44 #[.int .i64 x] w fun e w' => e = .returned (.bool false) ∧ w' = w := by
    intro x w
    go_enter Try.func44, Try.ntmps44
    go_wp2
    go_ret
    exact ⟨ret_bool (by simp), rfl⟩
  go_enter Try.func36, Try.ntmps36
  by_cases c1 : a < b
  · go_wp2_with (go_at_call 44; refine (nan _ _).mono ?_; rintro e w' ⟨rfl, rfl⟩)
    go_ret
    exact ⟨ret_int (by simp [cmpI, c1]), rfl⟩
  · by_cases c2 : b < a
    · go_wp2_with (go_at_call 44; refine (nan _ _).mono ?_; rintro e w' ⟨rfl, rfl⟩)
      go_ret
      exact ⟨ret_int (by simp [cmpI, c1, c2]), rfl⟩
    · go_wp2_with (go_at_call 44; refine (nan _ _).mono ?_; rintro e w' ⟨rfl, rfl⟩)
      go_ret
      exact ⟨ret_int (by unfold cmpI; rw [if_neg (by omega), if_neg (by omega)]), rfl⟩
theorem cmpU_any (a b : Int) (w : World) : Calls Try.prog 35 #[.int .u64 a, .int .u64 b] w fun e w' => e = .returned (.int .i64 (cmpI a b)) ∧ w' = w := by
  have nan : ∀ (x : Int) (w : World), Calls Try.prog 43 #[.int .u64 x] w fun e w' => e = .returned (.bool false) ∧ w' = w := by
    intro x w
    go_enter Try.func43, Try.ntmps43
    go_wp2
    go_ret
    exact ⟨ret_bool (by simp), rfl⟩
  go_enter Try.func35, Try.ntmps35
  by_cases c1 : a < b
  · go_wp2_with (go_at_call 43; refine (nan _ _).mono ?_; rintro e w' ⟨rfl, rfl⟩)
    go_ret
    exact ⟨ret_int (by simp [cmpI, c1]), rfl⟩
  · by_cases c2 : b < a
    · go_wp2_with (go_at_call 43; refine (nan _ _).mono ?_; rintro e w' ⟨rfl, rfl⟩)
      go_ret
      exact ⟨ret_int (by simp [cmpI, c1, c2]), rfl⟩
    · go_wp2_with (go_at_call 43; refine (nan _ _).mono ?_; rintro e w' ⟨rfl, rfl⟩)
      go_ret
      exact ⟨ret_int (by unfold cmpI; rw [if_neg (by omega), if_neg (by omega)]), rfl⟩
theorem firstNZ_drop (l : List Int) : ∀ k, (∀ j, (h : j < l.length) → j < k → l[j] = 0) → firstNZ (l.drop k) = firstNZ l := by
  intro k
  induction k with
  | zero => intro _; rfl
  | succ k ih =>
    intro h
    rw [← ih (fun j hj hjk => h j hj (by omega))]
    by_cases hk : k < l.length
    · rw [List.drop_eq_getElem_cons hk, firstNZ, h k hk (by omega), if_pos rfl]
    · rw [List.drop_eq_nil_of_le (by omega), List.drop_eq_nil_of_le (by omega)]
set_option maxHeartbeats 400000 in
theorem or_any (p : Option Addr) (c : Nat) (l : List Int) (w : World) (h : Rd w w.heap.size p (ints l)) (hl : l.length ≤ 1000) :
    Calls Try.prog 34 #[.slice p l.length c] w fun e w' => e = .returned (.int .i64 (firstNZ l)) ∧ w' = w := by
  go_enter Try.func34, Try.ntmps34
  go_wp2
  go_loop [8] (fun i => ∃ k : Nat, k ≤ l.length ∧ i = .int .i64 k ∧ firstNZ (l.drop k) = firstNZ l) (fun i => l.length - (intOf i).toNat)
  case atStart => exact ⟨0, Nat.zero_le _, rfl, rfl⟩
  case round =>
    obtain ⟨k, hk, rfl, he⟩ := hrel
    have HE := Lib.hid he
    clear he
    by_cases hlt : k < l.length
    · obtain ⟨b, o, rfl, _, hc⟩ := h.int hlt
      have hi : (k : Int) < (l.length : Int) := by omega
      by_cases h0 : l[k] = 0
      · have hn : (l[k] != 0) = false := by simpa using h0
        have H0 := Lib.hid h0
        clear h0
        go_wp2
        go_round
        case rel =>
          refine ⟨k + 1, by omega, by go_num, ?_⟩
          rw [← HE.out, List.drop_eq_getElem_cons hlt, firstNZ, if_pos H0.out]
        case measure => simp [intOf]; omega
      · have hn : (l[k] != 0) = true := by simpa using h0
        have H0 := Lib.hid h0
        clear h0
        go_wp2
        go_ret
        refine ⟨ret_int ?_, rfl⟩
        rw [← HE.out, List.drop_eq_getElem_cons hlt, firstNZ, if_neg H0.out]
    · go_wp2
      go_ret
      refine ⟨ret_int ?_, rfl⟩
      rw [← HE.out, List.drop_eq_nil_of_le (by omega)]
      rfl
end Go.Proofs.Ytffclmogabceiaa
