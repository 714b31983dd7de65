/- The walks of HashSums and HashStripes: each returns true. -/
import Derived.Test.YtflpcolpklnipaaDoorKnown
namespace Go.Proofs.YtflpcolpklnipaaDoor
open Go.RowKit

set_option maxHeartbeats 400000 in
theorem hashSums_walk (s : ByteArray) (w : World) (ht : Tabs w) : Calls Tryd.prog 3 #[.string s] w fun e w' => e = .returned (.bool true) ∧ Below w.heap.size w w' := by
  by_cases h : 1000 < s.size
  · go_enter Tryd.func3, Tryd.ntmps3
    go_wp2_with fail
    refine (known_any _ ht).mono ?_
    rintro e w1 ⟨rfl, hb1⟩
    go_wp2_with fail
    go_ret
    exact ⟨rfl, hb1⟩
  · have hs : s.size ≤ 100000 := by omega
    have h32 : ((f32 s.data.toList : Int) == (f32 s.data.toList : Int)) = true := by simp
    have h64 : ((f64 s.data.toList : Int) == (f64 s.data.toList : Int)) = true := by simp
    go_enter Tryd.func3, Tryd.ntmps3
    go_wp2_with fail
    refine (sum32_any s _ ht hs).mono ?_
    rintro e w1 ⟨rfl, hb1⟩
    go_wp2_with fail
    refine (ref32_any s _ hs).mono ?_
    rintro e w' ⟨rfl, rfl⟩
    go_wp2_with fail
    have t1 := ht.below hb1
    refine (sum64_any s _ t1 hs).mono ?_
    rintro e w2 ⟨rfl, hb2⟩
    go_wp2_with fail
    refine (ref64_any s _ hs).mono ?_
    rintro e w' ⟨rfl, rfl⟩
    go_wp2_with fail
    refine (known_any _ (t1.below hb2)).mono ?_
    rintro e w3 ⟨rfl, hb3⟩
    go_wp2_with fail
    go_ret
    exact ⟨rfl, below_step (below_step hb1 hb2) hb3⟩

set_option maxHeartbeats 400000 in
theorem hashStripes_walk (s : ByteArray) (n : Int) (w : World) (ht : Tabs w) : Calls Tryd.prog 4 #[.string s, .int .i64 n] w fun e w' => e = .returned (.bool true) ∧ Below w.heap.size w w' := by
  by_cases h : 1000 < s.size
  · go_enter Tryd.func4, Tryd.ntmps4
    go_wp2_with fail
    refine (known_any _ ht).mono ?_
    rintro e w1 ⟨rfl, hb1⟩
    go_wp2_with fail
    go_ret
    exact ⟨rfl, hb1⟩
  · have hs : s.size ≤ 100000 := by omega
    by_cases ho : okN n = true
    · have ho2 := ho
      simp only [okN, decide_eq_true_eq] at ho2
      have hO := Lib.hid ho
      clear ho
      go_enter Tryd.func4, Tryd.ntmps4
      go_wp2_with fail
      refine (allowed_any n _).mono ?_
      rintro e w' ⟨rfl, rfl⟩
      rw [hO.out]
      go_wp2_with fail
      refine (refStripe_any s n _ hs ho2.1 ho2.2).mono ?_
      rintro e w' ⟨rfl, rfl⟩
      go_wp2_with fail
      refine (stripe_is s n _ 0 hs (by simp [stripeRes, hO.out]) _ ht).mono ?_
      rintro e w1 ⟨rfl, hb1⟩
      go_wp2_with fail
      refine (known_any _ (ht.below hb1)).mono ?_
      rintro e w3 ⟨rfl, hb3⟩
      go_wp2_with fail
      go_ret
      exact ⟨rfl, below_step hb1 hb3⟩
    · have hO := Lib.hid (show okN n = false by simpa using ho)
      clear ho
      go_enter Tryd.func4, Tryd.ntmps4
      go_wp2_with fail
      refine (allowed_any n _).mono ?_
      rintro e w' ⟨rfl, rfl⟩
      rw [hO.out]
      go_wp2_with fail
      refine (stripe_is s n 0 2 hs (by simp [stripeRes, hO.out]) _ ht).mono ?_
      rintro e w1 ⟨rfl, hb1⟩
      go_wp2_with fail
      refine (known_any _ (ht.below hb1)).mono ?_
      rintro e w3 ⟨rfl, hb3⟩
      go_wp2_with fail
      go_ret
      exact ⟨rfl, below_step hb1 hb3⟩

end Go.Proofs.YtflpcolpklnipaaDoor
