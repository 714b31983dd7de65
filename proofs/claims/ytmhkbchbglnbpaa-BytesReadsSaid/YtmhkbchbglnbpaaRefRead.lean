/- The reference's Read. -/
import Derived.Test.YtmhkbchbglnbpaaPlainR
import Derived.Test.YtmhkbchbglnbpaaIndex
namespace Go.Proofs.Ytmhkbchbglnbpaa
open Go.RowKit

theorem mod128_fin : ∀ x : Fin 256, ((x.val : Nat) : Int) % 128 = ((x.val % 128 : Nat) : Int) := by decide +kernel
set_option maxRecDepth 100000 in
theorem refRead_any {w : World} {q : Option Addr} (c : Nat) (l : List Int) (h : Rd w w.heap.size q (bys l)) (hb : Bs l) (hl : l.length ≤ 1000000) :
    Calls Try.prog 41 #[.slice q l.length c] w fun e w' => e = .returned (.tuple #[.int .u64 (readV l), .int .i64 (readS l), .int .i64 (readE l)]) ∧ w = w' := by
  have HR := Lib.hid h
  have HB := Lib.hid hb
  obtain ⟨n, hn⟩ : ∃ n, l.length = n := ⟨_, rfl⟩
  rw [hn] at hl ⊢
  have HN := Lib.hid hn
  clear hn h hb
  go_enter Try.func41, Try.ntmps41
  go_wp2_with fail
  go_loopw [5, 6, 7] (fun v f i wr => ∃ k v' F : Nat, k ≤ n ∧ k ≤ 10 ∧ i = .int .i64 k ∧ v = .int .u64 v' ∧ f = .int .u64 F ∧ Hid (Hi (l.take k)) ∧ Hid (val (l.take k) = v') ∧ Hid (128 ^ k % 18446744073709551616 = F) ∧ w = wr) (fun _ _ i _ => 10 - (intOf i).toNat)
  case atStart => exact ⟨0, 0, 1, Nat.zero_le _, by omega, rfl, rfl, rfl, Lib.hid (by simp [Hi]), Lib.hid rfl, Lib.hid rfl, rfl⟩
  case round =>
    obtain ⟨k, v, F, hk, hk10, rfl, rfl, rfl, HH, HVV, HFF, rfl⟩ := hrel
    by_cases h10 : k < 10
    · have hki : (k : Int) < 10 := by omega
      by_cases hkn : k = n
      · subst hkn
        have hall : l.take k = l := by rw [← HN.out, List.take_length]
        have hE := read_end (l := l) (by rw [← hall]; exact HH.out) (by have := HN.out; omega)
        have hV : readV l = 0 := by rw [readV, hE]; rfl
        have hS : readS l = 0 := by rw [readS, hE]; rfl
        have HE := Lib.hid hE
        have HV := Lib.hid hV
        have HS := Lib.hid hS
        clear hE hV hS hall
        go_wp2_with fail
        go_ret3
        refine ⟨?_, rfl⟩
        rw [HE.out, HV.out, HS.out]
        rfl
      · have hlt : k < l.length := by have := HN.out; omega
        have hne : ((k : Int) == (n : Int)) = false := by rw [beq_eq_false_iff_ne]; omega
        have hkn2 : (k : Int) < (n : Int) := by omega
        obtain ⟨b, o, rfl, hbb, hc⟩ := HR.out.byte hlt
        obtain ⟨y, hy⟩ : ∃ y, l[k] = y := ⟨_, rfl⟩
        have hy0 := HB.out.at_ hlt
        rw [hy] at hc hy0
        obtain ⟨hy0, hy1⟩ := hy0
        have hvs : val (l.take (k + 1)) = val (l.take k) + 128 ^ k * (y.toNat % 128) := by
          rw [List.take_succ_eq_append_getElem hlt, val_snoc, hy, List.length_take, Nat.min_eq_left (by omega)]
        have HVS := Lib.hid hvs
        have HY : Hid (∀ h' : k < l.length, l[k]'h' = y) := Lib.hid (fun _ => hy)
        have HLT := Lib.hid hlt
        clear hy hvs
        go_upto_region 9 with fail
        by_cases hk9 : k = 9 ∧ 1 < y % 128
        · obtain ⟨rfl, hg1⟩ := hk9
          have hE : readE l = 12 := by
            by_cases hy128 : y < 128
            · rw [read_low HH.out HLT.out (by omega) (by rw [HY.out]; exact hy128), if_pos (.inr ⟨rfl, by rw [HY.out]; omega⟩)]
            · exact read_ten (hi_take HH.out HLT.out (by rw [HY.out]; exact hy128)) (by have := HLT.out; omega)
          have hV : readV l = 0 := by rw [readV, hE]; rfl
          have hS : readS l = 0 := by rw [readS, hE]; rfl
          have HE := Lib.hid hE
          have HV := Lib.hid hV
          have HS := Lib.hid hS
          clear hE hV hS
          go_wp2_with fail
          go_ret3
          refine ⟨?_, rfl⟩
          rw [HE.out, HV.out, HS.out]
          rfl
        · by_cases h9 : k = 9
          · have hg1 : decide (1 < y % 128) = false := by simp; omega
            have h9i : ((k : Int) == 9) = true := by rw [beq_iff_eq]; omega
            have hfk : (k = 9 ∧ y.toNat % 128 ≤ 1) ∨ k < 9 := .inl ⟨h9, by omega⟩
            clear hk9 h9
            have hv := HVV.out
            have hF := HFF.out
            have hvs := HVS.out
            rw [hv] at hvs
            have hfit : v + 128 ^ k * (y.toNat % 128) < 18446744073709551616 ∧ 128 ^ k % 18446744073709551616 = 128 ^ k := by
              have h1 := val_lt (l.take k)
              rw [hv, List.length_take, Nat.min_eq_left (by have := HLT.out; omega)] at h1
              have hg : y.toNat % 128 < 128 := Nat.mod_lt _ (by omega)
              rcases hfk with ⟨h9, hg1⟩ | h9
              · subst h9
                generalize y.toNat % 128 = g at hg hg1 ⊢
                have : g = 0 ∨ g = 1 := by omega
                rcases this with rfl | rfl <;> omega
              · have h8 : 128 ^ k ≤ 128 ^ 8 := Nat.pow_le_pow_right (by omega) (by omega)
                have h10 := Nat.mul_le_mul h8 (Nat.le_of_lt_succ hg)
                omega
            obtain ⟨hf1, hf2⟩ := hfit
            rw [hf2] at hF
            rw [hF] at hvs hf1
            obtain ⟨G, hG⟩ : ∃ G, F * (y.toNat % 128) = G := ⟨_, rfl⟩
            rw [hG] at hvs hf1
            have hgi : (y % 128) * (F : Int) = (G : Int) := by
              rw [← hG, Int.natCast_mul, Int.mul_comm]
              congr 1
              omega
            have hw0 : IntKind.u64.wrap (G : Int) = G := wraps_u64 _ (by omega) (by omega)
            have hw2 : IntKind.u64.wrap ((v : Int) + (G : Int)) = (v : Int) + (G : Int) := wraps_u64 _ (by omega) (by omega)
            obtain ⟨F2, hF2⟩ : ∃ F2, 128 ^ (k + 1) % 18446744073709551616 = F2 := ⟨_, rfl⟩
            have hw3 : IntKind.u64.wrap ((F : Int) * 128) = (F2 : Int) := by
              rw [show ∀ z : Int, IntKind.u64.wrap z = z % 18446744073709551616 from fun z => by simp [IntKind.wrap, IntKind.bits, IntKind.signed]]
              rw [Nat.pow_succ, hF] at hF2
              omega
            have HF2 := Lib.hid hF2
            clear hF2
            have HVG := Lib.hid hvs
            have HG9 := Lib.hid hfk
            clear hvs hf1 hf2 hfk hG hv hF
            have HVG2 := Lib.hid (show ((v : Int) + (G : Int)) = ((v + G : Nat) : Int) by omega)
            by_cases hy128 : y < 128
            · have hyd : decide (128 ≤ y) = false := by simp; omega
              by_cases hbad : y = 0 ∧ 0 < k
              · obtain ⟨hy00, hk0⟩ := hbad
                have hE : readE l = 12 := by rw [read_low HH.out HLT.out (by omega) (by rw [HY.out]; omega), if_pos (.inl ⟨hk0, by rw [HY.out]; exact hy00⟩)]
                have hyz : (y % 128 == 0) = true := by rw [beq_iff_eq]; omega
                clear hy00
                have hV : readV l = 0 := by rw [readV, hE]; rfl
                have hS : readS l = 0 := by rw [readS, hE]; rfl
                have hk0i : (0 : Int) < (k : Int) := by omega
                have HE := Lib.hid hE
                have HV := Lib.hid hV
                have HS := Lib.hid hS
                clear hE hV hS
                go_wp2_with fail
                go_ret3
                refine ⟨?_, rfl⟩
                rw [HE.out, HV.out, HS.out]
                rfl
              · have hE : readE l = 0 := by
                  rw [read_low HH.out HLT.out (by omega) (by rw [HY.out]; omega), if_neg]
                  rw [HY.out]
                  have := HG9.out
                  omega
                have hR := (endR_low HH.out HLT.out (by omega) (by rw [HY.out]; omega)).1
                have hV : readV l = v + G := by rw [readV, if_pos hE, hR, HVG.out]
                have hS : readS l = k + 1 := by rw [readS, if_pos hE, hR]
                have HE := Lib.hid hE
                have HV := Lib.hid hV
                have HS := Lib.hid hS
                clear hE hV hS hR
                by_cases hy00 : y = 0
                · have hk00 : decide (0 < k) = false := by simp; omega
                  have hyz : (y % 128 == 0) = true := by rw [beq_iff_eq]; omega
                  clear hbad hy00
                  go_wp2_with fail
                  go_ret3
                  refine ⟨?_, rfl⟩
                  rw [HE.out, HV.out, HS.out]
                  simp
                · have hyn : (y % 128 == 0) = false := by rw [beq_eq_false_iff_ne]; omega
                  clear hbad hy00
                  go_wp2_with fail
                  go_ret3
                  refine ⟨?_, rfl⟩
                  rw [HE.out, HV.out, HS.out]
                  simp
            · have hyd : (128 : Int) ≤ y := by omega
              have HH2 := Lib.hid (hi_take HH.out HLT.out (by rw [HY.out]; exact hy128))
              clear hy128
              go_wp2_with fail
              go_roundw
              case rel => exact ⟨k + 1, v + G, F2, by omega, by omega, by go_num, by rw [HVG2.out], rfl, HH2, HVG, HF2, trivial⟩
              case measure => simp [intOf]; omega
          · have h9i : ((k : Int) == 9) = false := by rw [beq_eq_false_iff_ne]; omega
            have hfk : (k = 9 ∧ y.toNat % 128 ≤ 1) ∨ k < 9 := .inr (by omega)
            clear hk9 h9
            have hv := HVV.out
            have hF := HFF.out
            have hvs := HVS.out
            rw [hv] at hvs
            have hfit : v + 128 ^ k * (y.toNat % 128) < 18446744073709551616 ∧ 128 ^ k % 18446744073709551616 = 128 ^ k := by
              have h1 := val_lt (l.take k)
              rw [hv, List.length_take, Nat.min_eq_left (by have := HLT.out; omega)] at h1
              have hg : y.toNat % 128 < 128 := Nat.mod_lt _ (by omega)
              rcases hfk with ⟨h9, hg1⟩ | h9
              · subst h9
                generalize y.toNat % 128 = g at hg hg1 ⊢
                have : g = 0 ∨ g = 1 := by omega
                rcases this with rfl | rfl <;> omega
              · have h8 : 128 ^ k ≤ 128 ^ 8 := Nat.pow_le_pow_right (by omega) (by omega)
                have h10 := Nat.mul_le_mul h8 (Nat.le_of_lt_succ hg)
                omega
            obtain ⟨hf1, hf2⟩ := hfit
            rw [hf2] at hF
            rw [hF] at hvs hf1
            obtain ⟨G, hG⟩ : ∃ G, F * (y.toNat % 128) = G := ⟨_, rfl⟩
            rw [hG] at hvs hf1
            have hgi : (y % 128) * (F : Int) = (G : Int) := by
              rw [← hG, Int.natCast_mul, Int.mul_comm]
              congr 1
              omega
            have hw0 : IntKind.u64.wrap (G : Int) = G := wraps_u64 _ (by omega) (by omega)
            have hw2 : IntKind.u64.wrap ((v : Int) + (G : Int)) = (v : Int) + (G : Int) := wraps_u64 _ (by omega) (by omega)
            obtain ⟨F2, hF2⟩ : ∃ F2, 128 ^ (k + 1) % 18446744073709551616 = F2 := ⟨_, rfl⟩
            have hw3 : IntKind.u64.wrap ((F : Int) * 128) = (F2 : Int) := by
              rw [show ∀ z : Int, IntKind.u64.wrap z = z % 18446744073709551616 from fun z => by simp [IntKind.wrap, IntKind.bits, IntKind.signed]]
              rw [Nat.pow_succ, hF] at hF2
              omega
            have HF2 := Lib.hid hF2
            clear hF2
            have HVG := Lib.hid hvs
            have HG9 := Lib.hid hfk
            clear hvs hf1 hf2 hfk hG hv hF
            have HVG2 := Lib.hid (show ((v : Int) + (G : Int)) = ((v + G : Nat) : Int) by omega)
            by_cases hy128 : y < 128
            · have hyd : decide (128 ≤ y) = false := by simp; omega
              by_cases hbad : y = 0 ∧ 0 < k
              · obtain ⟨hy00, hk0⟩ := hbad
                have hE : readE l = 12 := by rw [read_low HH.out HLT.out (by omega) (by rw [HY.out]; omega), if_pos (.inl ⟨hk0, by rw [HY.out]; exact hy00⟩)]
                have hyz : (y % 128 == 0) = true := by rw [beq_iff_eq]; omega
                clear hy00
                have hV : readV l = 0 := by rw [readV, hE]; rfl
                have hS : readS l = 0 := by rw [readS, hE]; rfl
                have hk0i : (0 : Int) < (k : Int) := by omega
                have HE := Lib.hid hE
                have HV := Lib.hid hV
                have HS := Lib.hid hS
                clear hE hV hS
                go_wp2_with fail
                go_ret3
                refine ⟨?_, rfl⟩
                rw [HE.out, HV.out, HS.out]
                rfl
              · have hE : readE l = 0 := by
                  rw [read_low HH.out HLT.out (by omega) (by rw [HY.out]; omega), if_neg]
                  rw [HY.out]
                  have := HG9.out
                  omega
                have hR := (endR_low HH.out HLT.out (by omega) (by rw [HY.out]; omega)).1
                have hV : readV l = v + G := by rw [readV, if_pos hE, hR, HVG.out]
                have hS : readS l = k + 1 := by rw [readS, if_pos hE, hR]
                have HE := Lib.hid hE
                have HV := Lib.hid hV
                have HS := Lib.hid hS
                clear hE hV hS hR
                by_cases hy00 : y = 0
                · have hk00 : decide (0 < k) = false := by simp; omega
                  have hyz : (y % 128 == 0) = true := by rw [beq_iff_eq]; omega
                  clear hbad hy00
                  go_wp2_with fail
                  go_ret3
                  refine ⟨?_, rfl⟩
                  rw [HE.out, HV.out, HS.out]
                  simp
                · have hyn : (y % 128 == 0) = false := by rw [beq_eq_false_iff_ne]; omega
                  clear hbad hy00
                  go_wp2_with fail
                  go_ret3
                  refine ⟨?_, rfl⟩
                  rw [HE.out, HV.out, HS.out]
                  simp
            · have hyd : (128 : Int) ≤ y := by omega
              have HH2 := Lib.hid (hi_take HH.out HLT.out (by rw [HY.out]; exact hy128))
              clear hy128
              go_wp2_with fail
              go_roundw
              case rel => exact ⟨k + 1, v + G, F2, by omega, by omega, by go_num, by rw [HVG2.out], rfl, HH2, HVG, HF2, trivial⟩
              case measure => simp [intOf]; omega
    · have hki : decide (k < 10) = false := by simpa using h10
      have hk10 : k = 10 := by omega
      subst hk10
      have hE := read_ten HH.out (by have := HN.out; omega)
      have hV : readV l = 0 := by rw [readV, hE]; rfl
      have hS : readS l = 0 := by rw [readS, hE]; rfl
      have HE := Lib.hid hE
      have HV := Lib.hid hV
      have HS := Lib.hid hS
      clear hE hV hS
      go_wp2_with fail
      go_ret3
      refine ⟨?_, rfl⟩
      rw [HE.out, HV.out, HS.out]
      rfl
end Go.Proofs.Ytmhkbchbglnbpaa
