/- Of: a stock with a state. -/
import Derived.Test.YtdancoblphkakaaNil
namespace Go.Proofs.Ytdancoblphkakaa
open Go.RowKit

def bad (x : Int) : Bool := decide (x < 0) || decide (1099511627776 < x)
theorem wrong_any (x : Int) (w : World) : Calls Try.prog 33 #[.int .i64 x] w fun e w' => e = .returned (.bool (bad x)) ∧ w = w' := by
  by_cases h1 : x < 0
  · have HB := Lib.hid (show bad x = true by simp [bad, h1])
    go_enter Try.func33, Try.ntmps33
    go_wp2_with fail
    go_ret
    exact ⟨ret_bool HB.out.symm, rfl⟩
  · by_cases h2 : 1099511627776 < x
    · have HB := Lib.hid (show bad x = true by simp [bad, h2])
      have h3 : 0 ≤ x := by omega
      clear h1
      go_enter Try.func33, Try.ntmps33
      go_wp2_with fail
      go_ret
      exact ⟨ret_bool HB.out.symm, rfl⟩
    · have HB := Lib.hid (show bad x = false by simp [bad]; omega)
      have h3 : 0 ≤ x := by omega
      have h5 : decide (x < 0) = false := by simp; omega
      have h4 : decide (1099511627776 < x) = false := by simp; omega
      clear h1 h2
      go_enter Try.func33, Try.ntmps33
      go_wp2_with fail
      go_ret
      exact ⟨ret_bool HB.out.symm, rfl⟩

def badFrom : List Int → Nat → Int
  | [], _ => -1
  | x :: l, k => if bad x = true then (k : Int) else badFrom l (k + 1)
theorem badFrom_drop (q : List Int) (k : Nat) (h : k < q.length) : badFrom (q.drop k) k = if bad q[k] = true then (k : Int) else badFrom (q.drop (k + 1)) (k + 1) := by
  rw [List.drop_eq_getElem_cons h, badFrom]
theorem badFrom_any : ∀ (l : List Int) (k : Nat), decide (0 ≤ badFrom l k) = l.any bad
  | [], _ => by simp [badFrom]
  | x :: l, k => by
    rw [badFrom, List.any_cons]
    by_cases h : bad x = true
    · rw [if_pos h, h]; simp
    · rw [if_neg h, badFrom_any l (k + 1)]; simp [Bool.not_eq_true] at h; simp [h]
theorem indexBad_any (p : Option Addr) (c : Nat) (q : List Int) (w : World) (h : Rd w w.heap.size p (ints q)) (hl : q.length ≤ 1000000) :
    Calls Try.prog 44 #[.slice p q.length c, .func (.func 33) #[] #[]] w fun e w' => e = .returned (.int .i64 (badFrom q 0)) ∧ w' = w := by
  go_enter Try.func44, Try.ntmps44
  go_wp2_with fail
  go_loop [8] (fun i => ∃ k : Nat, k ≤ q.length ∧ i = .int .i64 k ∧ badFrom (q.drop k) k = badFrom q 0) (fun i => q.length - (intOf i).toNat)
  case atStart => exact ⟨0, Nat.zero_le _, rfl, rfl⟩
  case round =>
    obtain ⟨k, hk, rfl, hx⟩ := hrel
    have HX := Lib.hid hx
    clear hx
    by_cases hlt : k < q.length
    · obtain ⟨b, o, rfl, _, hc⟩ := h.int hlt
      have hi : (k : Int) < (q.length : Int) := by omega
      have HD := Lib.hid (badFrom_drop q k hlt)
      go_wp2_with fail
      refine (wrong_any _ _).mono ?_
      rintro e w' ⟨rfl, rfl⟩
      by_cases he : bad q[k] = true
      · have HE := Lib.hid he
        rw [he]
        clear he
        go_wp2_with fail
        go_ret
        exact ⟨ret_int (by rw [← HX.out, HD.out, if_pos HE.out]), rfl⟩
      · have HE := Lib.hid he
        rw [Bool.not_eq_true] at he
        rw [he]
        clear he
        go_wp2_with fail
        go_round
        case rel => exact ⟨k + 1, by omega, by go_num, by rw [← HX.out, HD.out, if_neg HE.out]⟩
        case measure => simp [intOf]; omega
    · have HK := Lib.hid (show k = q.length by omega)
      go_wp2_with fail
      go_ret
      refine ⟨ret_int ?_, rfl⟩
      rw [← HX.out, HK.out, List.drop_length]
      rfl
theorem contains_any (p : Option Addr) (c : Nat) (q : List Int) (w : World) (h : Rd w w.heap.size p (ints q)) (hl : q.length ≤ 1000000) :
    Calls Try.prog 32 #[.slice p q.length c, .func (.func 33) #[] #[]] w fun e w' => e = .returned (.bool (q.any bad)) ∧ w' = w := by
  have HI := Lib.hid (indexBad_any p c q w h hl)
  have HB := Lib.hid (badFrom_any q 0)
  clear h hl
  go_enter Try.func32, Try.ntmps32
  go_wp2_with fail
  refine HI.out.mono ?_
  rintro e w' ⟨rfl, rfl⟩
  go_wp2_with fail
  go_ret
  exact ⟨ret_bool HB.out, rfl⟩
end Go.Proofs.Ytdancoblphkakaa
