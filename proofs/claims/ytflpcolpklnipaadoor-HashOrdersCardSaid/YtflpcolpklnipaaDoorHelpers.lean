/- What the law's own helpers return: light, order, spread. -/
import Derived.Test.YtflpcolpklnipaaDoorOrder
namespace Go.Proofs.YtflpcolpklnipaaDoor
open Go.RowKit

def spreadRes (ss : List ByteArray) (n : Int) : List Int × Int := if okN n then (spreadOf n.toNat ss, 0) else ([], 2)
def orderRes (ss : List ByteArray) (n : Int) : List Int × Int := if okN n then (pos (spreadOf n.toNat ss), 0) else ([], 2)
theorem okN_nat {n : Int} (h : okN n = true) : ∃ N : Nat, n = N ∧ 1 ≤ N ∧ N ≤ 1024 := by
  simp only [okN, decide_eq_true_eq] at h
  exact ⟨n.toNat, by omega, by omega, by omega⟩
theorem spread_any (p : Option Addr) (c : Nat) (ss : List ByteArray) (n : Int) (w : World) (ht : Tabs w) (hr : Rd w w.heap.size p (strs ss)) (hK : Keys ss) :
    Calls Tryd.prog 21 #[.slice p ss.length c, .int .i64 n] w (RetInts w (spreadRes ss n).1 (spreadRes ss n).2) := by
  by_cases h : okN n = true
  · rw [spreadRes, if_pos h]
    obtain ⟨N, rfl, h1, h2⟩ := okN_nat h
    exact spread_yes p c ss N w ht hr hK h1 h2
  · rw [spreadRes, if_neg h]
    exact (spread_no _ _ _ _ w (by simpa using h)).mono fun e w' ⟨h1, h2⟩ => ⟨_, h1, NewInts.nil _ _, by subst h2; exact Below.refl _ _⟩
theorem order_any (p : Option Addr) (c : Nat) (ss : List ByteArray) (n : Int) (w : World) (ht : Tabs w) (hr : Rd w w.heap.size p (strs ss)) (hK : Keys ss) :
    Calls Tryd.prog 23 #[.slice p ss.length c, .int .i64 n] w (RetInts w (orderRes ss n).1 (orderRes ss n).2) := by
  by_cases h : okN n = true
  · rw [orderRes, if_pos h]
    obtain ⟨N, rfl, h1, h2⟩ := okN_nat h
    exact order_yes p c ss N w ht hr hK h1 h2
  · rw [orderRes, if_neg h]
    exact (order_no _ _ _ _ w (by simpa using h)).mono fun e w' ⟨h1, h2⟩ => ⟨_, h1, NewInts.nil _ _, by subst h2; exact Below.refl _ _⟩
theorem spreadRes_len (ss : List ByteArray) (n : Int) : (spreadRes ss n).1.length ≤ 1024 := by
  unfold spreadRes
  split
  · rename_i h; obtain ⟨N, rfl, h1, h2⟩ := okN_nat h; simp [spreadOf_len]; omega
  · simp
theorem orderRes_len (ss : List ByteArray) (n : Int) : (orderRes ss n).1.length ≤ 1024 := by
  unfold orderRes
  split
  · rename_i h; obtain ⟨N, rfl, h1, h2⟩ := okN_nat h
    have := posTo_len (spreadOf N ss) (spreadOf N ss).length
    have := spreadOf_len N ss
    simp [pos]; omega
  · simp

set_option maxHeartbeats 400000 in
theorem orderLaw_any (p q : Option Addr) (c d : Nat) (ss : List ByteArray) (n : Int) (ys : List Int) (no : Int) (w : World) (ht : Tabs w) (hr : Rd w w.heap.size p (strs ss)) (hK : Keys ss)
    (hq : Rd w w.heap.size q (ints ys)) (hly : ys.length ≤ 100000) :
    Calls Tryd.prog 17 #[.slice p ss.length c, .int .i64 n, .slice q ys.length d, .int .i64 no] w fun e w' => e = .returned (.bool (decide ((orderRes ss n).1 = ys) && ((orderRes ss n).2 == no))) ∧ Below w.heap.size w w' := by
  have HC := Lib.hid (order_any p c ss n w ht hr hK)
  have hl := orderRes_len ss n
  generalize (orderRes ss n).1 = xs at *
  generalize (orderRes ss n).2 = er at *
  go_enter Tryd.func17, Tryd.ntmps17
  go_wp2_with fail
  refine HC.out.mono ?_
  rintro e w1 ⟨v, rfl, ⟨q2, d2, rfl, hn2, hm2, hr2, hf2⟩, hb1⟩
  go_wp2_with fail
  refine (same_any q2 q d2 d xs ys _ hr2 (hq.kept hb1) (by omega) hly).mono ?_
  rintro e w2 ⟨rfl, hb2⟩
  by_cases he : xs = ys
  · have hd : decide (xs = ys) = true := by simpa using he
    go_wp2_with fail
    go_ret
    exact ⟨ret_bool (by rw [hd, Bool.true_and]), below_step hb1 hb2⟩
  · have hd : decide (xs = ys) = false := by simpa using he
    go_wp2_with fail
    go_ret
    exact ⟨ret_bool (by rw [hd, Bool.false_and]), below_step hb1 hb2⟩
set_option maxHeartbeats 400000 in
theorem spreadLaw_any (p q : Option Addr) (c d : Nat) (ss : List ByteArray) (n : Int) (ys : List Int) (no : Int) (w : World) (ht : Tabs w) (hr : Rd w w.heap.size p (strs ss)) (hK : Keys ss)
    (hq : Rd w w.heap.size q (ints ys)) (hly : ys.length ≤ 100000) :
    Calls Tryd.prog 18 #[.slice p ss.length c, .int .i64 n, .slice q ys.length d, .int .i64 no] w fun e w' => e = .returned (.bool (decide ((spreadRes ss n).1 = ys) && ((spreadRes ss n).2 == no))) ∧ Below w.heap.size w w' := by
  have HC := Lib.hid (spread_any p c ss n w ht hr hK)
  have hl := spreadRes_len ss n
  generalize (spreadRes ss n).1 = xs at *
  generalize (spreadRes ss n).2 = er at *
  go_enter Tryd.func18, Tryd.ntmps18
  go_wp2_with fail
  refine HC.out.mono ?_
  rintro e w1 ⟨v, rfl, ⟨q2, d2, rfl, hn2, hm2, hr2, hf2⟩, hb1⟩
  go_wp2_with fail
  refine (same_any q2 q d2 d xs ys _ hr2 (hq.kept hb1) (by omega) hly).mono ?_
  rintro e w2 ⟨rfl, hb2⟩
  by_cases he : xs = ys
  · have hd : decide (xs = ys) = true := by simpa using he
    go_wp2_with fail
    go_ret
    exact ⟨ret_bool (by rw [hd, Bool.true_and]), below_step hb1 hb2⟩
  · have hd : decide (xs = ys) = false := by simpa using he
    go_wp2_with fail
    go_ret
    exact ⟨ret_bool (by rw [hd, Bool.false_and]), below_step hb1 hb2⟩

def lightB (ss : List ByteArray) : Bool := decide (ss.length ≤ 60 ∧ ∀ (k : Nat) (h : k < ss.length), (ss[k]'h).size ≤ 300)
theorem lightB_no {ss : List ByteArray} {k : Nat} (h : k < ss.length) (hs : 300 < ss[k].size) : lightB ss = false := by
  simp only [lightB, decide_eq_false_iff_not]
  intro ⟨_, h2⟩
  have := h2 k h
  omega
theorem lightB_end {ss : List ByteArray} {k : Nat} (hk : ss.length ≤ k ∨ 61 ≤ k) (hkl : k ≤ ss.length) (h : ∀ (i : Nat) (h : i < ss.length), i < k → (ss[i]'h).size ≤ 300) : lightB ss = decide (ss.length ≤ 60) := by
  rw [lightB, decide_eq_decide]
  refine ⟨fun h => h.1, fun hl => ⟨hl, fun i hi => h i hi (by omega)⟩⟩
set_option maxHeartbeats 400000 in
theorem light_any (p : Option Addr) (c : Nat) (ss : List ByteArray) (w : World) (hr : Rd w w.heap.size p (strs ss)) :
    Calls Tryd.prog 16 #[.slice p ss.length c] w fun e w' => e = .returned (.bool (lightB ss)) ∧ w = w' := by
  go_enter Tryd.func16, Tryd.ntmps16
  go_wp2_with fail
  go_loop [3] (fun i => ∃ k : Nat, k ≤ ss.length ∧ k ≤ 61 ∧ i = .int .i64 k ∧ (∀ (i : Nat) (h : i < ss.length), i < k → (ss[i]'h).size ≤ 300)) (fun i => 61 - (intOf i).toNat)
  case atStart => exact ⟨0, Nat.zero_le _, Nat.zero_le _, rfl, fun i _ h => absurd h (by omega)⟩
  case round =>
    obtain ⟨k, hk, hk61, rfl, hall⟩ := hrel
    have HA := Lib.hid hall
    clear hall
    by_cases hlt : k < ss.length
    · obtain ⟨b, o, rfl, _, hc⟩ := hr.str hlt
      have hi : (k : Int) < (ss.length : Int) := by omega
      by_cases h61 : k < 61
      · by_cases hs : 300 < ss[k].size
        · go_wp2_with fail
          go_ret
          exact ⟨ret_bool (lightB_no hlt hs).symm, rfl⟩
        · go_wp2_with fail
          go_round
          case rel =>
            refine ⟨k + 1, by omega, by omega, by go_num, fun i h hik => ?_⟩
            rcases Nat.lt_or_ge i k with h1 | h1
            · exact HA.out i h h1
            · obtain rfl : i = k := by omega
              omega
          case measure => simp [intOf]; omega
      · have he := Lib.hid (lightB_end (ss := ss) (k := k) (by omega) hk HA.out)
        go_wp2_with fail
        go_ret
        exact ⟨ret_bool (by rw [he.out, eq_comm, decide_eq_decide]; omega), rfl⟩
    · have he := Lib.hid (lightB_end (ss := ss) (k := k) (by omega) hk HA.out)
      go_wp2_with fail
      go_ret
      exact ⟨ret_bool (by rw [he.out, eq_comm, decide_eq_decide]; omega), rfl⟩

end Go.Proofs.YtflpcolpklnipaaDoor
