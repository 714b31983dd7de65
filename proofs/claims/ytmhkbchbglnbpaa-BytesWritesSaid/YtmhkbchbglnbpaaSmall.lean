/- small. -/
import Derived.Test.YtmhkbchbglnbpaaArgs
namespace Go.Proofs.Ytmhkbchbglnbpaa
open Go.RowKit

def smallB (l : List Pt) : Bool := decide (∀ x ∈ l.take 41, x.d.length ≤ 300) && decide (l.length ≤ 40)
theorem smallB_iff {l : List Pt} (h : smallB l = true) : l.length ≤ 40 ∧ ∀ x ∈ l, x.d.length ≤ 300 := by
  simp only [smallB, Bool.and_eq_true, decide_eq_true_eq] at h
  refine ⟨h.2, fun x hx => h.1 x ?_⟩
  rw [List.take_of_length_le (by omega)]
  exact hx
set_option maxRecDepth 100000 in
theorem small_any' {w : World} {p : Option Addr} (c : Nat) (l : List Pt) (h : PtR w p l) (hl : l.length ≤ 9223372036854775807) : Calls Try.prog 16 #[.slice p l.length c] w fun e w' => e = .returned (.bool (smallB l)) ∧ w = w' := by
  have HP := Lib.hid h
  obtain ⟨n, hn⟩ : ∃ n, l.length = n := ⟨_, rfl⟩
  rw [hn] at hl ⊢
  have HN := Lib.hid hn
  clear hn h
  go_enter Try.func16, Try.ntmps16
  go_wp2_with fail
  go_loopw [3] (fun i wr => ∃ k : Nat, k ≤ n ∧ k ≤ 41 ∧ i = .int .i64 k ∧ Hid (∀ j (h : j < l.length), j < k → (l[j]).d.length ≤ 300) ∧ w = wr) (fun i _ => 41 - (intOf i).toNat)
  case atStart => exact ⟨0, Nat.zero_le _, by omega, rfl, Lib.hid (fun j _ hj => by omega), rfl⟩
  case round =>
    obtain ⟨k, hk, hk41, rfl, HK, rfl⟩ := hrel
    by_cases hlt : k < n
    · have hki : (k : Int) < (n : Int) := by omega
      by_cases h41 : k < 41
      · have h41i : (k : Int) < 41 := by omega
        have hlt2 : k < l.length := by rw [HN.out]; exact hlt
        obtain ⟨b, o, rfl, hb, _, _, hc, _⟩ := HP.out.at_ hlt2
        obtain ⟨m, hm⟩ : ∃ m, (l[k]).d.length = m := ⟨_, rfl⟩
        obtain ⟨q, hq⟩ : ∃ q, (l[k]).q = q := ⟨_, rfl⟩
        obtain ⟨d, hd⟩ : ∃ q, (l[k]).c = q := ⟨_, rfl⟩
        rw [hm, hq, hd] at hc
        have HM := Lib.hid hm
        clear hm hq hd
        by_cases hbig : 300 < m
        · have hbi : (300 : Int) < (m : Int) := by omega
          have HF := Lib.hid (show smallB l = false by
            simp only [smallB, Bool.and_eq_false_iff, decide_eq_false_iff_not]
            refine .inl fun hh => ?_
            have := hh (l[k]) (List.mem_take_iff_getElem.2 ⟨k, by omega, rfl⟩)
            rw [HM.out] at this
            omega)
          go_wp2_with fail
          go_ret
          exact ⟨ret_bool HF.out.symm, rfl⟩
        · have hbi : decide (300 < m) = false := by simpa using hbig
          go_wp2_with fail
          go_roundw
          case rel => exact ⟨k + 1, by omega, by omega, by go_num, Lib.hid (fun j hj hjk => by
            by_cases e : j = k
            · subst e; rw [HM.out]; omega
            · exact HK.out j hj (by omega)), trivial⟩
          case measure => simp [intOf]; omega
      · have h41i : decide (k < 41) = false := by simpa using h41
        have HF := Lib.hid (show smallB l = false by
          simp only [smallB, Bool.and_eq_false_iff, decide_eq_false_iff_not]
          refine .inr ?_
          have := HN.out; omega)
        go_wp2_with fail
        go_ret
        exact ⟨ret_bool (by rw [HF.out]; simp; omega), rfl⟩
    · have hkn : k = n := by omega
      subst hkn
      have HF := Lib.hid (show smallB l = decide (k ≤ 40) by
        have h1 : decide (∀ x ∈ l.take 41, x.d.length ≤ 300) = true := by
          simp only [decide_eq_true_eq]
          intro x hx
          obtain ⟨j, hj, rfl⟩ := List.mem_iff_getElem.1 (List.mem_of_mem_take hx)
          exact HK.out j hj (by have := HN.out; omega)
        rw [smallB, h1, HN.out, Bool.true_and])
      go_wp2_with fail
      go_ret
      exact ⟨ret_bool (by rw [HF.out]; simp only [decide_eq_decide]; omega), rfl⟩
end Go.Proofs.Ytmhkbchbglnbpaa
