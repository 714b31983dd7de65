/- What Stripe, the reference's, Same, Clip and light return. -/
import Derived.Test.YtflpcolpklnipaaDoorSums
namespace Go.Proofs.YtflpcolpklnipaaDoor
open Go.RowKit

def stripeOf (s : ByteArray) (n : Int) : Int := (f32 s.data.toList : Int) % n
theorem stripeOf_bd (s : ByteArray) (n : Int) (h : 1 ≤ n) : 0 ≤ stripeOf s n ∧ stripeOf s n < n :=
  ⟨Int.emod_nonneg _ (by omega), Int.emod_lt_of_pos _ (by omega)⟩

def okN (n : Int) : Bool := decide (1 ≤ n ∧ n ≤ 1024)

set_option maxHeartbeats 400000 in
theorem allowed_any (n : Int) (w : World) : Calls Tryd.prog 13 #[.int .i64 n] w fun e w' => e = .returned (.bool (okN n)) ∧ w = w' := by
  by_cases h1 : 1 ≤ n
  · by_cases h2 : n ≤ 1024
    · have e : okN n = true := by simp [okN, h1, h2]
      rw [e]
      go_enter Tryd.func13, Tryd.ntmps13
      go_wp2
      go_ret
      exact ⟨rfl, rfl⟩
    · have e : okN n = false := by simp [okN, h1, h2]
      rw [e]
      go_enter Tryd.func13, Tryd.ntmps13
      go_wp2
      go_ret
      exact ⟨rfl, rfl⟩
  · have e : okN n = false := by simp [okN, h1]
    rw [e]
    go_enter Tryd.func13, Tryd.ntmps13
    go_wp2
    go_ret
    exact ⟨rfl, rfl⟩

set_option maxHeartbeats 400000 in
theorem refStripe_any (s : ByteArray) (n : Int) (w : World) (hs : s.size ≤ 100000) (h1 : 1 ≤ n) (h2 : n ≤ 1024) :
    Calls Tryd.prog 15 #[.string s, .int .i64 n] w fun e w' => e = .returned (.int .i64 (stripeOf s n)) ∧ w = w' := by
  have hb := f32_lt s.data.toList
  have hb0 : (0 : Int) ≤ (f32 s.data.toList : Int) := by omega
  go_enter Tryd.func15, Tryd.ntmps15
  go_wp2_with (go_at_call 10; refine (ref32_any s _ hs).mono ?_; rintro e w' ⟨rfl, rfl⟩)
  go_ret
  exact ⟨rfl, rfl⟩

set_option maxHeartbeats 400000 in
theorem stripe_yes (s : ByteArray) (n : Int) (w : World) (ht : Tabs w) (hs : s.size ≤ 100000) (h1 : 1 ≤ n) (h2 : n ≤ 1024) :
    Calls Tryd.prog 22 #[.string s, .int .i64 n] w fun e w' => e = .returned (.tuple #[.int .i64 (stripeOf s n), .int .i64 0]) ∧ Below w.heap.size w w' := by
  have hb := f32_lt s.data.toList
  have hb0 : (0 : Int) ≤ (f32 s.data.toList : Int) := by omega
  have hd1 : 0 ≤ (f32 s.data.toList : Int) % n := (stripeOf_bd s n h1).1
  have hd2 : (f32 s.data.toList : Int) % n < n := (stripeOf_bd s n h1).2
  go_enter Tryd.func22, Tryd.ntmps22
  go_wp2_with (go_at_call 9; refine (sum32_any s _ ht hs).mono ?_; rintro e w' ⟨rfl, hb⟩)
  go_ret2
  exact ⟨rfl, hb⟩
set_option maxHeartbeats 400000 in
theorem stripe_no (s : ByteArray) (n : Int) (w : World) (h : okN n = false) :
    Calls Tryd.prog 22 #[.string s, .int .i64 n] w fun e w' => e = .returned (.tuple #[.int .i64 0, .int .i64 2]) ∧ w = w' := by
  by_cases h1 : n < 1
  · go_enter Tryd.func22, Tryd.ntmps22
    go_wp2
    go_ret2
    exact ⟨rfl, rfl⟩
  · have h2 : 1024 < n := by simp [okN] at h; omega
    go_enter Tryd.func22, Tryd.ntmps22
    go_wp2
    go_ret2
    exact ⟨rfl, rfl⟩

/-- What Stripe returns: a stripe or an error. -/
def stripeRes (s : ByteArray) (n : Int) : Int × Int := if okN n then (stripeOf s n, 0) else (0, 2)
theorem stripe_any (s : ByteArray) (n : Int) (w : World) (ht : Tabs w) (hs : s.size ≤ 100000) :
    Calls Tryd.prog 22 #[.string s, .int .i64 n] w fun e w' => e = .returned (.tuple #[.int .i64 (stripeRes s n).1, .int .i64 (stripeRes s n).2]) ∧ Below w.heap.size w w' := by
  by_cases h : okN n = true
  · rw [stripeRes, if_pos h]
    simp only [okN, decide_eq_true_eq] at h
    exact stripe_yes s n w ht hs h.1 h.2
  · rw [stripeRes, if_neg h]
    exact (stripe_no s n w (by simpa using h)).mono fun e w' ⟨h1, h2⟩ => ⟨h1, by subst h2; exact Below.refl _ _⟩

set_option maxHeartbeats 400000 in
theorem stripeLaw_any (s : ByteArray) (n want no : Int) (w : World) (ht : Tabs w) (hs : s.size ≤ 100000) :
    Calls Tryd.prog 14 #[.string s, .int .i64 n, .int .i64 want, .int .i64 no] w fun e w' => e = .returned (.bool ((stripeRes s n).1 == want && (stripeRes s n).2 == no)) ∧ Below w.heap.size w w' := by
  have hc := fun w0 h0 => stripe_any s n w0 h0 hs
  generalize (stripeRes s n).1 = a at *
  generalize (stripeRes s n).2 = b at *
  have HC := Lib.hid hc
  clear hc
  by_cases h : a = want
  · subst h
    go_enter Tryd.func14, Tryd.ntmps14
    go_wp2_with (go_at_call 22; refine (HC.out _ ht).mono ?_; rintro e w' ⟨rfl, hb⟩)
    go_ret
    exact ⟨ret_bool (by simp), hb⟩
  · have h' : (a == want) = false := by simpa using h
    go_enter Tryd.func14, Tryd.ntmps14
    go_wp2_with (go_at_call 22; refine (HC.out _ ht).mono ?_; rintro e w' ⟨rfl, hb⟩)
    go_ret
    exact ⟨ret_bool (by simp [h]), hb⟩

set_option maxHeartbeats 400000 in
theorem clip_any (p : Option Addr) (n c : Nat) (w : World) (hn : n ≤ c) (hc : c ≤ maxLen) :
    Calls Tryd.prog 25 #[.slice p n c] w fun e w' => e = .returned (.slice p n n) ∧ w = w' := by
  unfold maxLen at hc
  go_enter Tryd.func25, Tryd.ntmps25
  go_wp2
  go_ret
  exact ⟨rfl, rfl⟩

theorem take_eq_step {α : Type} {xs ys : List α} {k : Nat} (hx : k < xs.length) (hy : k < ys.length) (h : xs.take k = ys.take k) (he : xs[k] = ys[k]) : xs.take (k + 1) = ys.take (k + 1) := by
  rw [List.take_succ_eq_append_getElem hx, List.take_succ_eq_append_getElem hy, h, he]

set_option maxHeartbeats 400000 in
theorem same_any (p q : Option Addr) (c d : Nat) (xs ys : List Int) (w : World) (hx : Rd w w.heap.size p (ints xs)) (hy : Rd w w.heap.size q (ints ys)) (hlx : xs.length ≤ 100000) (hly : ys.length ≤ 100000) :
    Calls Tryd.prog 24 #[.slice p xs.length c, .slice q ys.length d] w fun e w' => e = .returned (.bool (decide (xs = ys))) ∧ Below w.heap.size w w' := by
  by_cases hl : xs.length = ys.length
  · have hne : ((xs.length : Int) != (ys.length : Int)) = false := by rw [bne_eq_false_iff_eq]; omega
    have HL := Lib.hid hl
    clear hl
    go_enter Tryd.func24, Tryd.ntmps24
    go_wp2
    go_loopw [5] (fun i wr => ∃ k : Nat, k ≤ xs.length ∧ i = .int .i64 k ∧ xs.take k = ys.take k ∧ Below w.heap.size w wr) (fun i _ => xs.length - (intOf i).toNat)
    case atStart => exact ⟨0, Nat.zero_le _, rfl, rfl, Below.refl _ _⟩
    case round =>
      obtain ⟨k, hk, rfl, heq, hb⟩ := hrel
      have HE := Lib.hid heq
      clear heq
      by_cases hlt : k < xs.length
      · have hlt2 : k < ys.length := by have := HL.out; omega
        obtain ⟨b1, o1, rfl, _, hc1⟩ := (hx.below hb).int hlt
        obtain ⟨b2, o2, rfl, _, hc2⟩ := (hy.below hb).int hlt2
        have hi1 : (k : Int) < (xs.length : Int) := by omega
        have hi2 : (k : Int) < (ys.length : Int) := by omega
        by_cases he : xs[k] = ys[k]
        · have hn : (xs[k] != ys[k]) = false := by simpa using he
          have HE' := Lib.hid he
          clear he
          go_wp2_with fail
          go_quiet (fail)
          go_wp2
          go_roundw
          case rel => exact ⟨k + 1, by omega, by go_num, take_eq_step hlt hlt2 HE.out HE'.out, below_drewN hb _⟩
          case measure => simp [intOf]; omega
        · have hn : (xs[k] != ys[k]) = true := by simpa using he
          go_wp2_with fail
          go_quiet (fail)
          go_wp2
          go_ret
          exact ⟨ret_bool (by
            rw [eq_comm, decide_eq_false_iff_not]
            intro e; subst e; exact he rfl), below_drewN hb _⟩
      · go_wp2
        go_ret
        exact ⟨ret_bool (by
            rw [eq_comm, decide_eq_true_eq]
            have h1 := HE.out
            rw [List.take_of_length_le (by omega), List.take_of_length_le (by have := HL.out; omega)] at h1
            exact h1), hb⟩
  · have hne : ((xs.length : Int) != (ys.length : Int)) = true := by rw [bne_iff_ne]; omega
    go_enter Tryd.func24, Tryd.ntmps24
    go_wp2
    go_ret
    exact ⟨ret_bool (by rw [eq_comm, decide_eq_false_iff_not]; intro e; subst e; exact hl rfl), Below.refl _ _⟩

end Go.Proofs.YtflpcolpklnipaaDoor
