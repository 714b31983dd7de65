/- The walk of CounterEnds: it returns true. -/
import Derived.Test.YtloomdanpnkbmaaLawA
namespace Go.Proofs.Ytloomdanpnkbmaa
open Go.RowKit

set_option maxHeartbeats 1000000 in
theorem counterEnds_core (r : Int) (A B : Nat) (w : World) (h : okR r 0 = true) (hA : A ≤ 200) (hB : B ≤ 20) :
    Calls Try.prog 3 #[.int .i64 r, .int .u8 A, .int .u8 B] w fun e w' => e = .returned (.bool true) ∧ Below w.heap.size w w' := by
  have hp := okR_parts h
  have HR := Lib.hid (show okR r (4294967295 - (A : Int)) = true from by simp [okR]; omega)
  have HH := Lib.hid h
  clear h
  have hr : r ≠ 0 := by omega
  have hA2 : (A : Int) ≤ 200 := by omega
  have hB2 : (B : Int) ≤ 20 := by omega
  go_enter Try.func3, Try.ntmps3
  go_wp2_with fail
  refine (allowed_any r 0 _).mono ?_
  rintro e w' ⟨rfl, rfl⟩
  rw [HH.out]
  go_wp2_with fail
  refine (new_yes r (4294967295 - (A : Int)) _ HR.out).mono ?_
  rintro e w1 ⟨c, rfl, hc, hC, hb⟩
  go_wp2_with fail
  go_loopw [10] (fun i wr => ∃ k : Nat, k ≤ A ∧ i = .int .i64 ((k : Int) + 1) ∧ Cnt wr c 52 r (4294967295 - (A : Int) + (k : Int)) ∧ Below w.heap.size w wr) (fun i _ => A + 1 - (intOf i).toNat)
  case atStart => exact ⟨0, Nat.zero_le _, rfl, by simpa using hC, hb⟩
  case round =>
    clear hC hb
    obtain ⟨k, hk, rfl, hC, hb⟩ := hrel
    by_cases hlt : k < A
    · have hi : (k : Int) + 1 ≤ (A : Int) := by omega
      go_wp2_with fail
      refine (gives_any c r (4294967295 - (A : Int) + (k : Int)) _ _ _ _ hC hr (by omega) (by omega) (by rw [nextR, if_pos (by omega)]) (by rw [nextC, if_pos (by omega)]; omega) (by rw [nextErr, if_pos (by omega)])).mono ?_
      rintro e w2 ⟨rfl, hC2, hg2⟩
      go_wp2_with fail
      go_roundw
      case rel =>
        refine ⟨k + 1, by omega, by go_num, ?_, below_gb hb hg2 hc⟩
        rw [nextNew, if_pos (by omega)] at hC2
        rw [show (4294967295 : Int) - (A : Int) + ((k + 1 : Nat) : Int) = 4294967295 - (A : Int) + (k : Int) + 1 from by omega]
        exact hC2
      case measure => simp [intOf]; omega
    · have hC' : Cnt wr c 52 r 4294967295 := by
        have e : (4294967295 : Int) - (A : Int) + (k : Int) = 4294967295 := by omega
        rw [e] at hC
        exact hC
      clear hC
      go_wp2_with fail
      go_loopw [11] (fun i wx => ∃ j : Nat, j ≤ B ∧ i = .int .i64 (j : Int) ∧ Cnt wx c 52 r 4294967295 ∧ Below w.heap.size w wx) (fun i _ => B - (intOf i).toNat)
      case atStart => exact ⟨0, Nat.zero_le _, rfl, hC', hb⟩
      case round =>
        clear hC' hb
        obtain ⟨j, hj, rfl, hC, hb⟩ := hrel
        by_cases hlt2 : j < B
        · have hi : (j : Int) < (B : Int) := by omega
          go_wp2_with fail
          refine (gives_any c r 4294967295 0 0 15 _ hC hr (by omega) (by omega) (by simp [nextR]) (by simp [nextC]) (by simp [nextErr])).mono ?_
          rintro e w2 ⟨rfl, hC2, hg2⟩
          rw [show nextNew 4294967295 = 4294967295 from by decide] at hC2
          have hb2 := below_gb hb hg2 hc
          clear hC hb hg2
          go_wp2_with fail
          refine (peeks_any c r 4294967295 1 none 0 [] 15 0 rfl _ hC2 hr (by omega) (by omega) (Rd.nil _ _ _) (by simp [peekDots]) (by simp [peekErr])).mono ?_
          rintro e w3 ⟨rfl, hb3⟩
          have hC3 := hC2.kept hb3
          have hb03 := below_step hb2 hb3
          clear hC2 hb2 hb3
          go_wp2_with fail
          refine (use_any c 52 r 4294967295 1 _ hC3 hr (by omega) (by omega)).mono ?_
          rintro e w4 ⟨rfl, hC4, hg4⟩
          rw [show useNew 4294967295 1 = 4294967295 from by decide] at hC4
          rw [show useErr 4294967295 1 = 15 from by decide]
          have hb4 := below_gb hb03 hg4 hc
          clear hC3 hb03 hg4
          go_wp2_with fail
          refine (last_any c 52 r 4294967295 _ hC4 hr).mono ?_
          rintro e w' ⟨rfl, rfl⟩
          go_wp2_with fail
          refine (left_any c 52 r 4294967295 _ hC4 hr (by omega) (by omega)).mono ?_
          rintro e w' ⟨rfl, rfl⟩
          go_wp2_with fail
          go_roundw
          case rel => exact ⟨j + 1, by omega, by go_num, hC4, hb4⟩
          case measure => simp [intOf]; omega
        · go_wp2_with fail
          refine (known_any _).mono ?_
          rintro e w3 ⟨rfl, hb3⟩
          go_wp2_with fail
          go_ret
          exact ⟨rfl, below_step hb hb3⟩

set_option maxHeartbeats 400000 in
theorem counterEnds_walk (r a b : Int) (ha : (Lit.int .u8 a).wf = true) (hb : (Lit.int .u8 b).wf = true) (w : World) :
    Calls Try.prog 3 #[.int .i64 r, .int .u8 a, .int .u8 b] w fun e w' => e = .returned (.bool true) ∧ Below w.heap.size w w' := by
  have ha' := bounds_u8 ha
  have hb' := bounds_u8 hb
  by_cases h : okR r 0 = true
  · by_cases h1 : 200 < a
    · have HH := Lib.hid h
      clear h
      go_enter Try.func3, Try.ntmps3
      go_wp2_with fail
      refine (allowed_any r 0 _).mono ?_
      rintro e w' ⟨rfl, rfl⟩
      rw [HH.out]
      go_wp2_with fail
      refine (known_any _).mono ?_
      rintro e w3 ⟨rfl, hb3⟩
      go_wp2_with fail
      go_ret
      exact ⟨rfl, hb3⟩
    · by_cases h2 : 20 < b
      · have HH := Lib.hid h
        clear h
        go_enter Try.func3, Try.ntmps3
        go_wp2_with fail
        refine (allowed_any r 0 _).mono ?_
        rintro e w' ⟨rfl, rfl⟩
        rw [HH.out]
        go_wp2_with fail
        refine (known_any _).mono ?_
        rintro e w3 ⟨rfl, hb3⟩
        go_wp2_with fail
        go_ret
        exact ⟨rfl, hb3⟩
      · obtain ⟨A, rfl⟩ := Int.eq_ofNat_of_zero_le ha'.1
        obtain ⟨B, rfl⟩ := Int.eq_ofNat_of_zero_le hb'.1
        exact counterEnds_core r A B w h (by omega) (by omega)
  · have HH := Lib.hid (show okR r 0 = false by simpa using h)
    clear h
    go_enter Try.func3, Try.ntmps3
    go_wp2_with fail
    refine (allowed_any r 0 _).mono ?_
    rintro e w' ⟨rfl, rfl⟩
    rw [HH.out]
    go_wp2_with fail
    refine (known_any _).mono ?_
    rintro e w3 ⟨rfl, hb3⟩
    go_wp2_with fail
    go_ret
    exact ⟨rfl, hb3⟩
end Go.Proofs.Ytloomdanpnkbmaa
