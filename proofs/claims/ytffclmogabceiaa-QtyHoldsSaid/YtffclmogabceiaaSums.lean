/- Sums of quantities. -/
import Derived.Test.YtffclmogabceiaaLists
namespace Go.Proofs.Ytffclmogabceiaa
open Go.RowKit

/-- The plain sum. -/
def sumL : List Int → Int
  | [] => 0
  | x :: l => x + sumL l
theorem sumL_app : ∀ a b : List Int, sumL (a ++ b) = sumL a + sumL b
  | [], b => by simp [sumL]
  | x :: a, b => by simp [sumL, sumL_app a b]; omega
theorem sumL_take (l : List Int) (k : Nat) (h : k < l.length) : sumL (l.take (k + 1)) = sumL (l.take k) + l[k] := by
  rw [List.take_succ_eq_append_getElem h, sumL_app]; simp [sumL]
def allQ (l : List Int) : Bool := l.all validQ
theorem allQ_no {l : List Int} {k : Nat} (hk : k < l.length) (h : validQ l[k] = false) : allQ l = false := by
  unfold allQ; rw [List.all_eq_false]; exact ⟨l[k], List.getElem_mem hk, by simp [h]⟩
theorem allQ_step {l : List Int} {k : Nat} (hk : k < l.length) (h : allQ (l.take k) = true) (hv : validQ l[k] = true) : allQ (l.take (k + 1)) = true := by
  rw [List.take_succ_eq_append_getElem hk, allQ, List.all_append]
  simp [hv, show (l.take k).all validQ = true from h]
theorem validQ_iff (q : Int) : validQ q = true ↔ 1 ≤ q ∧ q ≤ 2147483647 := by simp [validQ]
theorem sumL_nonneg : ∀ l : List Int, allQ l = true → 0 ≤ sumL l ∧ sumL l ≤ l.length * 2147483647
  | [], _ => by simp [sumL]
  | x :: l, h => by
    simp only [allQ, List.all_cons, Bool.and_eq_true] at h
    have h1 := (validQ_iff x).1 h.1
    have := sumL_nonneg l h.2
    simp only [sumL, List.length_cons]
    omega
theorem sumL_mono (l : List Int) (k : Nat) (h : allQ l = true) : sumL (l.take k) ≤ sumL l := by
  have e := List.take_append_drop k l
  have h2 : sumL l = sumL (l.take k) + sumL (l.drop k) := by rw [← sumL_app, e]
  have : allQ (l.drop k) = true := by
    unfold allQ at *
    rw [List.all_eq_true] at *
    intro x hx
    exact h x (List.mem_of_mem_drop hx)
  have := (sumL_nonneg _ this).1
  omega

/-- What Sum gives: a number and an error. -/
def sumN (l : List Int) : Int := if l = [] then 0 else if allQ l = true ∧ sumL l ≤ 2147483647 then sumL l else 0
def sumE (l : List Int) : Int := if l = [] then 9 else if allQ l = true ∧ sumL l ≤ 2147483647 then 0 else 14

theorem ret_two {k : IntKind} {a b c d : Int} (h : a = b) (h2 : c = d) : Ending.returned (.tuple #[.int k a, .int .i64 c]) = .returned (.tuple #[.int k b, .int .i64 d]) := by rw [h, h2]

set_option maxHeartbeats 800000 in
theorem refSum_any (p : Option Addr) (c : Nat) (l : List Int) (w : World) (h : Rd w w.heap.size p (ints l)) (hl : l.length ≤ 100000) :
    Calls Try.prog 9 #[.slice p l.length c] w fun e w' => e = .returned (.tuple #[.int .i64 (sumN l), .int .i64 (sumE l)]) ∧ w' = w := by
  by_cases hnil : l.length = 0
  · have e : l = [] := List.eq_nil_of_length_eq_zero hnil
    subst e
    go_enter Try.func9, Try.ntmps9
    go_wp2
    go_ret2
    exact ⟨rfl, rfl⟩
  · have hn0 : ((l.length : Int) == 0) = false := by simp; intro e; subst e; exact hnil rfl
    have HN := Lib.hid (show l ≠ [] from fun e => hnil (by rw [e]; rfl))
    clear hnil
    go_enter Try.func9, Try.ntmps9
    go_wp2
    go_loop [4, 5] (fun s i => ∃ k : Nat, k ≤ l.length ∧ i = .int .i64 k ∧ s = .int .i64 (sumL (l.take k)) ∧ allQ (l.take k) = true) (fun _ i => l.length - (intOf i).toNat)
    case atStart => exact ⟨0, Nat.zero_le _, rfl, rfl, rfl⟩
    case round =>
      obtain ⟨k, hk, rfl, rfl, hq⟩ := hrel
      have hbd := sumL_nonneg _ hq
      have hbd2 : (l.take k).length ≤ 100000 := by rw [List.length_take]; omega
      have hs1 : 0 ≤ sumL (l.take k) := hbd.1
      have hs2 : sumL (l.take k) ≤ 214748364700000 := by have := hbd.2; omega
      have HQ := Lib.hid hq
      clear hq hbd hbd2
      by_cases hlt : k < l.length
      · obtain ⟨b, o, rfl, _, hc⟩ := h.int hlt
        have hi : (k : Int) < (l.length : Int) := by omega
        go_wp2_with fail
        refine (refValid_any _ _).mono ?_
        rintro e w' ⟨rfl, rfl⟩
        by_cases hv : validQ l[k] = true
        · rw [hv]
          have hv2 := (validQ_iff _).1 hv
          have HV := Lib.hid hv
          obtain ⟨v1, v2⟩ := hv2
          clear hv
          go_wp2_with fail
          go_round
          case rel => exact ⟨k + 1, by omega, by go_num, by rw [sumL_take l k hlt], allQ_step hlt HQ.out HV.out⟩
          case measure => simp [intOf]; omega
        · have hf : validQ l[k] = false := by simpa using hv
          rw [hf]
          have HV := Lib.hid hf
          clear hv hf
          go_wp2_with fail
          go_ret2
          have := allQ_no hlt HV.out
          exact ⟨ret_two (by simp [sumN, this]) (by simp [sumE, this, HN.out]), rfl⟩
      · have hkn : k = l.length := by omega
        have HK := Lib.hid hkn
        have hq := HQ.out
        rw [HK.out, List.take_length] at hq
        have HQ2 := Lib.hid hq
        clear hkn hq
        by_cases hbig : 2147483647 < sumL (l.take k)
        · go_wp2
          go_ret2
          rw [HK.out, List.take_length] at hbig
          exact ⟨ret_two (by rw [sumN, if_neg HN.out, if_neg (by omega)]) (by rw [sumE, if_neg HN.out, if_neg (by omega)]), rfl⟩
        · go_wp2
          go_ret2
          rw [HK.out, List.take_length]
          rw [HK.out, List.take_length] at hbig
          exact ⟨ret_two (by rw [sumN, if_neg HN.out, if_pos ⟨HQ2.out, by omega⟩]) (by rw [sumE, if_neg HN.out, if_pos ⟨HQ2.out, by omega⟩]), rfl⟩

set_option maxHeartbeats 800000 in
theorem sum_any (p : Option Addr) (c : Nat) (l : List Int) (w : World) (h : Rd w w.heap.size p (ints l)) (hl : l.length ≤ 100000) (hwf : ∀ x ∈ l, (Lit.int .i64 x).wf = true) :
    Calls Try.prog 28 #[.slice p l.length c] w fun e w' => e = .returned (.tuple #[.int .i64 (sumN l), .int .i64 (sumE l)]) ∧ w' = w := by
  go_enter Try.func28, Try.ntmps28
  go_wp2
  go_loop [4, 9] (fun s i => ∃ k : Nat, k ≤ l.length ∧ i = .int .i64 k ∧ s = .int .i64 (sumL (l.take k)) ∧ allQ (l.take k) = true ∧ sumL (l.take k) ≤ 2147483647) (fun _ i => l.length - (intOf i).toNat)
  case atStart => exact ⟨0, Nat.zero_le _, rfl, rfl, rfl, by simp [sumL]⟩
  case round =>
    obtain ⟨k, hk, rfl, rfl, hq, hs2⟩ := hrel
    have hs1 : 0 ≤ sumL (l.take k) := (sumL_nonneg _ hq).1
    have HQ := Lib.hid hq
    clear hq
    by_cases hlt : k < l.length
    · obtain ⟨b, o, rfl, _, hc⟩ := h.int hlt
      have hi : (k : Int) < (l.length : Int) := by omega
      have HN := Lib.hid (show l ≠ [] from fun e => by subst e; simp at hlt)
      have HS := Lib.hid (sumL_take l k hlt)
      go_wp2_with fail
      refine (valid_any _ _).mono ?_
      rintro e w' ⟨rfl, rfl⟩
      by_cases hv : validQ l[k] = true
      · rw [hv]
        have HV := Lib.hid hv
        obtain ⟨v1, v2⟩ := (validQ_iff _).1 hv
        clear hv
        go_wp2_with fail
        refine (valid_any _ _).mono ?_
        rintro e w' ⟨rfl, rfl⟩
        by_cases hv2 : validQ (sumL (l.take k) + l[k]) = true
        · rw [hv2]
          have hle := ((validQ_iff _).1 hv2).2
          clear hv2
          go_wp2_with fail
          go_round
          case rel => exact ⟨k + 1, by omega, by go_num, by rw [HS.out], allQ_step hlt HQ.out HV.out, by rw [HS.out]; exact hle⟩
          case measure => simp [intOf]; omega
        · have hf : validQ (sumL (l.take k) + l[k]) = false := by simpa using hv2
          rw [hf]
          have hgt : 2147483647 < sumL (l.take k) + l[k] := by
            have : ¬ (1 ≤ sumL (l.take k) + l[k] ∧ sumL (l.take k) + l[k] ≤ 2147483647) := fun x => hv2 ((validQ_iff _).2 x)
            omega
          have HG := Lib.hid hgt
          clear hv2 hf hgt
          go_wp2_with fail
          go_ret2
          have no : ¬ (allQ l = true ∧ sumL l ≤ 2147483647) := by
            rintro ⟨x, y⟩
            have := sumL_mono l (k + 1) x
            have := HG.out
            rw [HS.out] at *
            omega
          exact ⟨ret_two (by rw [sumN, if_neg HN.out, if_neg no]) (by rw [sumE, if_neg HN.out, if_neg no]), rfl⟩
      · have hf : validQ l[k] = false := by simpa using hv
        rw [hf]
        have HV := Lib.hid hf
        clear hv hf
        go_wp2_with fail
        go_ret2
        have := allQ_no hlt HV.out
        exact ⟨ret_two (by simp [sumN, this]) (by simp [sumE, this, HN.out]), rfl⟩
    · have hkn : k = l.length := by omega
      have HK := Lib.hid hkn
      clear hkn
      by_cases hnil : l.length = 0
      · have e : l = [] := List.eq_nil_of_length_eq_zero hnil
        subst e
        go_wp2
        go_ret2
        exact ⟨rfl, rfl⟩
      · have hn0 : ((l.length : Int) == 0) = false := by simp; intro e; subst e; exact hnil rfl
        have HN := Lib.hid (show l ≠ [] from fun e => hnil (by rw [e]; rfl))
        clear hnil
        go_wp2
        go_ret2
        have hq := HQ.out
        rw [HK.out, List.take_length] at hq hs2
        rw [HK.out, List.take_length]
        exact ⟨ret_two (by rw [sumN, if_neg HN.out, if_pos ⟨hq, hs2⟩]) (by rw [sumE, if_neg HN.out, if_pos ⟨hq, hs2⟩]), rfl⟩

theorem sums_any (p : Option Addr) (c : Nat) (l : List Int) (n no : Int) (w : World) (h : Rd w w.heap.size p (ints l)) (hl : l.length ≤ 100000) (hwf : ∀ x ∈ l, (Lit.int .i64 x).wf = true) (h1 : sumN l = n) (h2 : sumE l = no) (m : Nat) (hm : m = l.length) :
    Calls Try.prog 14 #[.slice p m c, .int .i64 n, .int .i64 no] w fun e w' => e = .returned (.bool true) ∧ w' = w := by
  subst hm
  have H := Lib.hid (sum_any p c l w h hl hwf)
  rw [h1, h2] at H
  clear h1 h2
  have e1 : (n == n) = true := by simp
  have e2 : (no == no) = true := by simp
  go_enter Try.func14, Try.ntmps14
  go_wp2_with fail
  refine H.out.mono ?_
  rintro e w' ⟨rfl, rfl⟩
  go_wp2_with fail
  go_ret
  exact ⟨rfl, rfl⟩
end Go.Proofs.Ytffclmogabceiaa
