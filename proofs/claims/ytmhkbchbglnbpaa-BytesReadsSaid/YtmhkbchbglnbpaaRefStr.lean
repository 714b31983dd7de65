/- The reference's Num and Str. -/
import Derived.Test.YtmhkbchbglnbpaaRefRead
import Derived.Test.YtmhkbchbglnbpaaReadT
namespace Go.Proofs.Ytmhkbchbglnbpaa
open Go.RowKit

theorem refNum_any {w : World} {q : Option Addr} (c : Nat) (l : List Int) (most : Nat) (h : Rd w w.heap.size q (bys l)) (hb : Bs l) (hl : l.length ≤ 1000000) :
    Calls Try.prog 28 #[.slice q l.length c, .int .u64 most] w fun e w' => e = .returned (.tuple #[.int .u64 (nV l most), .int .i64 (nS l most), .int .i64 (nE l most)]) ∧ w = w' := by
  have HR := Lib.hid (refRead_any c l h hb hl)
  obtain ⟨n, hn⟩ : ∃ n, l.length = n := ⟨_, rfl⟩
  rw [hn] at HR ⊢
  clear hn h hb hl
  by_cases hE : readE l = 0
  · by_cases hv : most < readV l
    · have e0 : nE l most = 3 := by rw [nE, if_pos hE, if_pos hv]
      have e1 : nV l most = 0 := by rw [nV, e0]; rfl
      have e2 : nS l most = 0 := by rw [nS, e0]; rfl
      rw [e0, e1, e2]
      rw [hE] at HR
      obtain ⟨x, hx⟩ : ∃ x, readV l = x := ⟨_, rfl⟩
      rw [hx] at HR hv
      have hvi : (most : Int) < (x : Int) := by omega
      clear e0 e1 e2 hE hx
      go_enter Try.func28, Try.ntmps28
      go_wp2_with fail
      refine HR.out.mono ?_
      rintro e w1 ⟨rfl, rfl⟩
      go_wp2_with fail
      go_ret3
      exact ⟨rfl, rfl⟩
    · have e0 : nE l most = 0 := by rw [nE, if_pos hE, if_neg hv]
      have e1 : nV l most = readV l := by rw [nV, e0]; rfl
      have e2 : nS l most = readS l := by rw [nS, e0]; rfl
      rw [e0, e1, e2]
      rw [hE] at HR
      obtain ⟨x, hx⟩ : ∃ x, readV l = x := ⟨_, rfl⟩
      rw [hx] at HR hv ⊢
      have hvi : decide (most < x) = false := by simpa using hv
      clear e0 e1 e2 hE hx
      go_enter Try.func28, Try.ntmps28
      go_wp2_with fail
      refine HR.out.mono ?_
      rintro e w1 ⟨rfl, rfl⟩
      go_wp2_with fail
      go_ret3
      exact ⟨rfl, rfl⟩
  · have e0 : nE l most = readE l := by rw [nE, if_neg hE]
    have e1 : nV l most = readV l := by rw [nV, e0, if_neg hE, readV, if_neg hE]
    have e2 : nS l most = readS l := by rw [nS, e0, if_neg hE, readS, if_neg hE]
    rw [e0, e1, e2]
    obtain ⟨x, hx⟩ : ∃ x, readE l = x := ⟨_, rfl⟩
    rw [hx] at HR hE ⊢
    have hx0 : (x == 0) = false := by rw [beq_eq_false_iff_ne]; exact hE
    clear e0 e1 e2 hE hx
    go_enter Try.func28, Try.ntmps28
    go_wp2_with fail
    refine HR.out.mono ?_
    rintro e w1 ⟨rfl, rfl⟩
    go_wp2_with fail
    go_ret3
    exact ⟨rfl, rfl⟩

theorem cut23_lh (p : Option Addr) (n c l h : Nat) (k1 k2 : IntKind) (hl : l ≤ h) (hc : h ≤ c) (w : World) : (Instr.sliceAt 23 (.slice p n c) (some (.int k1 l)) (some (.int k2 h)) none).run Try.prog w = .ok (.slice (cutP p l c) (h - l) (c - l)) w := by
  have ht : Try.prog.underlying 23 = some (.slice (Try.prog.elem 23)) := by kernel_rfl
  rw [run_sliceAt_slice w 23 _ _ _ _ ht, run_slice_lh w 23 p n c ht k1 k2 l h (by omega) (by omega) (by omega), size23]
  simp [Result.andThen, sliced, cutP]
set_option maxRecDepth 100000 in
theorem refStr_any {w : World} {q : Option Addr} (c : Nat) (l : List Int) (most : Int) (hm0 : -9223372036854775808 ≤ most) (hm1 : most < 9223372036854775808) (h : Rd w w.heap.size q (bys l)) (hb : Bs l) (hl : l.length ≤ 1000000) (hc : l.length ≤ c) :
    Calls Try.prog 29 #[.slice q l.length c, .int .i64 most] w fun e w' => e = .returned (.tuple #[.string (strOfNums (sV l most)), .int .i64 (sS l most), .int .i64 (sE l most)]) ∧ w = w' := by
  have HR := Lib.hid (refRead_any c l h hb hl)
  have hsl := readS_le l
  have hvf := readV_fit hb
  obtain ⟨n, hn⟩ : ∃ n, l.length = n := ⟨_, rfl⟩
  rw [hn] at HR hl hc hsl ⊢
  by_cases hE : readE l = 0
  · obtain ⟨x, hx⟩ : ∃ x, readV l = x := ⟨_, rfl⟩
    obtain ⟨z, hz⟩ : ∃ x, readS l = x := ⟨_, rfl⟩
    rw [hE, hx, hz] at HR
    rw [hx] at hvf
    rw [hz] at hsl
    by_cases hl1 : most < 0
    · have s0 : sE l most = 5 := by rw [sE, if_pos hE, if_pos (.inl hl1)]
      have s1 : sV l most = [] := by rw [sV, s0]; rfl
      have s2 : sS l most = 0 := by rw [sS, s0]; rfl
      rw [s0, s1, s2, strOfNums_nil]
      clear s0 s1 s2 hE hx hz hn h hb hvf
      go_enter Try.func29, Try.ntmps29
      go_wp2_with fail
      refine HR.out.mono ?_
      rintro e w1 ⟨rfl, rfl⟩
      go_wp2_with fail
      go_ret3
      exact ⟨rfl, rfl⟩
    · obtain ⟨mo, rfl⟩ : ∃ mo : Nat, most = (mo : Int) := ⟨most.toNat, by omega⟩
      have hwr : IntKind.u64.wrap (mo : Int) = mo := wraps_u64 _ (by omega) (by omega)
      have hmo : (0 : Int) ≤ (mo : Int) := by omega
      by_cases hl2 : mo < x
      · have s0 : sE l mo = 5 := by rw [sE, if_pos hE, if_pos (.inr (by omega))]
        have s1 : sV l mo = [] := by rw [sV, s0]; rfl
        have s2 : sS l mo = 0 := by rw [sS, s0]; rfl
        have hl3 : (mo : Int) < (x : Int) := by omega
        rw [s0, s1, s2, strOfNums_nil]
        clear s0 s1 s2 hE hx hz hn h hb hvf hm0 hm1 hl1
        go_enter Try.func29, Try.ntmps29
        go_wp2_with fail
        refine HR.out.mono ?_
        rintro e w1 ⟨rfl, rfl⟩
        go_wp2_with fail
        go_ret3
        exact ⟨rfl, rfl⟩
      · have hl3 : decide (mo < x) = false := by simpa using hl2
        obtain ⟨r, hr⟩ : ∃ r : Nat, (n : Int) - (z : Int) = r := ⟨n - z, by omega⟩
        have hwr2 : IntKind.u64.wrap (r : Int) = r := wraps_u64 _ (by omega) (by omega)
        by_cases hl4 : r < x
        · have s0 : sE l mo = 4 := by rw [sE, if_pos hE, if_neg (by omega), if_pos (by omega)]
          have s1 : sV l mo = [] := by rw [sV, s0]; rfl
          have s2 : sS l mo = 0 := by rw [sS, s0]; rfl
          have hl5 : (r : Int) < (x : Int) := by omega
          rw [s0, s1, s2, strOfNums_nil]
          clear s0 s1 s2 hE hx hz hn h hb hvf hm0 hm1 hl1 hl2
          go_enter Try.func29, Try.ntmps29
          go_wp2_with fail
          refine HR.out.mono ?_
          rintro e w1 ⟨rfl, rfl⟩
          go_wp2_with fail
          go_ret3
          exact ⟨rfl, rfl⟩
        · have hl5 : decide (r < x) = false := by simpa using hl4
          have s0 : sE l mo = 0 := by rw [sE, if_pos hE, if_neg (by omega), if_neg (by omega)]
          have s1 : sV l mo = (l.drop z).take x := by rw [sV, s0, hx, hz]; rfl
          have s2 : sS l mo = z + x := by rw [sS, s0, hx, hz]; rfl
          have hcut := fun w => cut23_lh q n c z (z + x) .i64 .i64 (by omega) (by omega) w
          have hrd := cut_rd h z (z + x) c (by omega)
          have e1 : (l.take (z + x)).drop z = (l.drop z).take x := by rw [List.drop_take, Nat.add_sub_cancel_left]
          rw [e1] at hrd
          have hcv := conv_any hrd (c - z)
          have hlen : ((l.drop z).take x).length = x := by simp; omega
          rw [hlen] at hcv
          rw [Nat.add_sub_cancel_left] at hcut
          rw [s0, s1, s2]
          obtain ⟨t, ht⟩ : ∃ t, strOfNums ((l.drop z).take x) = t := ⟨_, rfl⟩
          rw [ht] at hcv ⊢
          obtain ⟨q2, hq2⟩ : ∃ t, cutP q z c = t := ⟨_, rfl⟩
          rw [hq2] at hcv hcut
          have hx6 : x ≤ 1000000 := by omega
          have hz6 : z ≤ 1000000 := by omega
          have hzx : ((z + x : Nat) : Int) = (z : Int) + (x : Int) := by omega
          rw [hzx] at hcut ⊢
          clear s0 s1 s2 hE hx hz hn h hb hvf hm0 hm1 hl1 hl2 hrd e1 hlen ht hq2 hzx
          go_enter Try.func29, Try.ntmps29
          go_wp2_with fail
          refine HR.out.mono ?_
          rintro e w1 ⟨rfl, rfl⟩
          go_wp2_with fail
          go_ret3
          exact ⟨rfl, rfl⟩
  · have s0 : sE l most = readE l := by rw [sE, if_neg hE]
    have s1 : sV l most = [] := by rw [sV, s0, if_neg hE]
    have s2 : sS l most = 0 := by rw [sS, s0, if_neg hE]
    rw [s0, s1, s2, strOfNums_nil]
    obtain ⟨x, hx⟩ : ∃ x, readE l = x := ⟨_, rfl⟩
    rw [hx] at HR hE ⊢
    have hx0 : (x == 0) = false := by rw [beq_eq_false_iff_ne]; exact hE
    have hx1 : (x != 0) = true := by rw [bne_iff_ne]; exact hE
    clear s0 s1 s2 hE hx hn h hb hvf hsl
    go_enter Try.func29, Try.ntmps29
    go_wp2_with fail
    refine HR.out.mono ?_
    rintro e w1 ⟨rfl, rfl⟩
    go_wp2_with fail
    go_ret3
    exact ⟨rfl, rfl⟩
end Go.Proofs.Ytmhkbchbglnbpaa
