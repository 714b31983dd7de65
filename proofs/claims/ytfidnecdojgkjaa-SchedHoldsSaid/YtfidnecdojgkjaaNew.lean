/- New. -/
import Derived.Test.YtfidnecdojgkjaaObj
namespace Go.Proofs.Ytfidnecdojgkjaa
open Go.RowKit

theorem blk_new2 (w : World) (t : TypeId) (cs : List Value) (n : Nat) (h : n = w.heap.size) : Blk (w.alloc (.cells cs.toArray t)) n t cs := Blk.new' w t cs h
set_option maxRecDepth 100000 in
theorem new_any {w : World} (p : Option Addr) (c : Nat) (kind : Int) (nums : List Int) (h : Rd w w.heap.size p (ints nums)) (hl : nums.length ≤ 1000000) :
    Calls Try.prog 11 #[.int .i64 kind, .slice p nums.length c] w fun e w' => (newE kind nums ≠ 0 → e = .returned (.tuple #[.pointer none, .int .i64 (newE kind nums)])) ∧
      (newE kind nums = 0 → ∃ R b q d, e = .returned (.tuple #[.pointer (some ⟨R, 0, none⟩), .int .i64 0]) ∧ SS w' R b q d kind nums [] ∧ w.heap.size ≤ R ∧ w.heap.size ≤ b ∧ ∀ a, q = some a → w.heap.size ≤ a.block) ∧ Below w.heap.size w w' := by
  have HR := Lib.hid h
  obtain ⟨n, hn⟩ : ∃ n, nums.length = n := ⟨_, rfl⟩
  rw [hn] at hl ⊢
  have HN := Lib.hid hn
  clear hn h
  by_cases hk1 : kind < 1
  · have HE2 := Lib.hid (show newE kind nums = 2 by rw [newE, if_pos (.inl hk1)])
    go_enter Try.func11, Try.ntmps11
    go_wp2_with fail
    go_ret2
    exact ⟨fun _ => by rw [HE2.out]; rfl, fun h => (by have := HE2.out; rw [h] at this; exact absurd this (by decide)), Below.refl _ _⟩
  · have hk2 : decide (kind < 1) = false := by simpa using hk1
    by_cases hk4 : 4 < kind
    · have HE2 := Lib.hid (show newE kind nums = 2 by rw [newE, if_pos (.inr hk4)])
      clear hk1
      go_enter Try.func11, Try.ntmps11
      go_wp2_with fail
      go_ret2
      exact ⟨fun _ => by rw [HE2.out]; rfl, fun h => (by have := HE2.out; rw [h] at this; exact absurd this (by decide)), Below.refl _ _⟩
    · have hk5 : decide (4 < kind) = false := by simpa using hk4
      have HC1 := Lib.hid (show ¬ (kind < 1 ∨ 4 < kind) by omega)
      clear hk1 hk4
      by_cases hn4 : 4096 < n
      · have hn5 : (4096 : Int) < (n : Int) := by omega
        have HE2 := Lib.hid (show newE kind nums = 5 by rw [newE, if_neg HC1.out, if_pos (by rw [HN.out]; exact hn4)])
        go_enter Try.func11, Try.ntmps11
        go_wp2_with fail
        go_ret2
        exact ⟨fun _ => by rw [HE2.out]; rfl, fun h => (by have := HE2.out; rw [h] at this; exact absurd this (by decide)), Below.refl _ _⟩
      · have hn5 : (n : Int) ≤ 4096 := by omega
        have HC2 := Lib.hid hn4
        clear hn4
        by_cases h1 : kind = 1
        · subst h1
          by_cases h0 : n = 0
          · have hn0 : decide (0 < n) = false := by simp; omega
            have HE2 := Lib.hid (show newE 1 nums = 2 by rw [newE, if_neg HC1.out, if_neg (by rw [HN.out]; exact HC2.out), if_pos (by rw [HN.out, hn0]; decide)])
            clear h0
            go_enter Try.func11, Try.ntmps11
            go_wp2_with fail
            go_ret2
            exact ⟨fun _ => by rw [HE2.out]; rfl, fun h => (by have := HE2.out; rw [h] at this; exact absurd this (by decide)), Below.refl _ _⟩
          · have hn0 : (0 : Int) < (n : Int) := by omega
            have hn1 : decide (0 < n) = true := by simp; omega
            have HC3 := Lib.hid (show ¬ (decide ((1 : Int) = 1) ≠ decide (0 < nums.length)) by rw [HN.out, hn1]; simp)
            clear h0
            have HY2 := Lib.hid (fun (h : nums.any (fun n => decide (n < 0)) = true) => (by rw [newE, if_neg HC1.out, if_neg (by rw [HN.out]; exact HC2.out), if_neg HC3.out, if_pos h] : newE 1 nums = 2))
            have HY0 := Lib.hid (fun (h : nums.any (fun n => decide (n < 0)) = false) => (by rw [newE, if_neg HC1.out, if_neg (by rw [HN.out]; exact HC2.out), if_neg HC3.out, if_neg (by rw [h]; decide)] : newE 1 nums = 0))
            clear HC3
            go_enter Try.func11, Try.ntmps11
            go_wp2_with fail
            go_loop [28] (fun i => ∃ k : Nat, k ≤ n ∧ i = .int .i64 k ∧ Hid (∀ j (h : j < nums.length), j < k → 0 ≤ nums[j])) (fun i => n - (intOf i).toNat)
            case atStart => exact ⟨0, Nat.zero_le _, rfl, Lib.hid (fun j _ hj => by omega)⟩
            case round =>
              obtain ⟨k, hk, rfl, HK⟩ := hrel
              by_cases hlt : k < n
              · have hki : (k : Int) < (n : Int) := by omega
                have hlt2 : k < nums.length := by rw [HN.out]; exact hlt
                obtain ⟨b, o, rfl, _, hc⟩ := HR.out.int hlt2
                obtain ⟨x, hx⟩ : ∃ x, nums[k] = x := ⟨_, rfl⟩
                rw [hx] at hc
                have HX : Hid (∀ h' : k < nums.length, nums[k]'h' = x) := Lib.hid (fun _ => hx)
                have HL2 := Lib.hid hlt2
                clear hx hlt2
                by_cases hx0 : x < 0
                · have HE2 := Lib.hid (HY2.out (by rw [List.any_eq_true]; exact ⟨nums[k]'HL2.out, List.getElem_mem _, by rw [HX.out]; simpa using hx0⟩))
                  go_wp2_with fail
                  go_ret2
                  exact ⟨fun _ => by rw [HE2.out]; rfl, fun h => (by have := HE2.out; rw [h] at this; exact absurd this (by decide)), Below.refl _ _⟩
                · have hx1 : decide (x < 0) = false := by simpa using hx0
                  go_wp2_with fail
                  go_round
                  case rel => exact ⟨k + 1, by omega, by go_num, Lib.hid (fun j hj hjk => by
                    by_cases e : j = k
                    · subst e; rw [HX.out]; omega
                    · exact HK.out j hj (by omega))⟩
                  case measure => simp [intOf]; omega
              · have hkn : k = n := by omega
                subst hkn
                have HE0 := Lib.hid (HY0.out (by
                  rw [List.any_eq_false]
                  intro x hx
                  obtain ⟨j, hj, rfl⟩ := List.getElem_of_mem hx
                  have := HK.out j hj (by have := HN.out; omega)
                  simp; omega))
                have HCl := Lib.hid (clone_any p k c (ints nums) w HR.out (by rw [ints_len, HN.out]) (ints_one _) (by omega))
                clear HR
                go_wp2_with fail
                refine HCl.out.mono ?_
                rintro e w1 ⟨v, rfl, hown, hb⟩
                have HOL := Lib.hid (own_lt hown)
                obtain ⟨q, d, rfl, hld, hmx, hrd, hge⟩ := own_form hown
                have HG := Lib.hid hge
                have HRD := Lib.hid hrd
                have HB := Lib.hid hb
                have hmk := fun w => run_makeMap (P := Try.prog) 64 w
                clear hown hld hmx hrd hge hb
                go_wp2_with fail
                go_ret2
                rw [HE0.out]
                refine ⟨by simp, fun _ => ⟨w1.heap.size + 1, w1.heap.size, q, d, rfl, ?_, by have := HB.out.size; omega, HB.out.size, HG.out⟩, (HB.out.alloc HB.out.size _).alloc (by have := HB.out.size; simp; omega) _⟩
                have hbl := (Below.refl w1.heap.size w1).alloc (Nat.le_refl _) (.map #[] 0)
                refine ⟨?_, ?_, ?_, by omega, ?_, newE_ok HE0.out⟩
                · rw [HN.out]
                  exact Blk.new' _ 66 _ (by simp)
                · exact (HRD.out.kept hbl).kept ((Below.refl _ _).alloc (Nat.le_refl _) _)
                · exact (Mp.new w1).kept ((Below.refl _ _).alloc (Nat.le_refl _) _)
                · intro a ha
                  subst ha
                  have := (HOL.out a.block rfl).2
                  simp
                  omega
        · have h2 : (kind == 1) = false := by rw [beq_eq_false_iff_ne]; exact h1
          by_cases h0 : n = 0
          · have hn0 : decide (0 < n) = false := by simp; omega
            have HC3 := Lib.hid (show ¬ (decide (kind = 1) ≠ decide (0 < nums.length)) by rw [HN.out]; simp [h1]; omega)
            clear h0 h1
            have HY2 := Lib.hid (fun (h : nums.any (fun n => decide (n < 0)) = true) => (by rw [newE, if_neg HC1.out, if_neg (by rw [HN.out]; exact HC2.out), if_neg HC3.out, if_pos h] : newE kind nums = 2))
            have HY0 := Lib.hid (fun (h : nums.any (fun n => decide (n < 0)) = false) => (by rw [newE, if_neg HC1.out, if_neg (by rw [HN.out]; exact HC2.out), if_neg HC3.out, if_neg (by rw [h]; decide)] : newE kind nums = 0))
            clear HC3
            go_enter Try.func11, Try.ntmps11
            go_wp2_with fail
            go_loop [28] (fun i => ∃ k : Nat, k ≤ n ∧ i = .int .i64 k ∧ Hid (∀ j (h : j < nums.length), j < k → 0 ≤ nums[j])) (fun i => n - (intOf i).toNat)
            case atStart => exact ⟨0, Nat.zero_le _, rfl, Lib.hid (fun j _ hj => by omega)⟩
            case round =>
              obtain ⟨k, hk, rfl, HK⟩ := hrel
              by_cases hlt : k < n
              · have hki : (k : Int) < (n : Int) := by omega
                have hlt2 : k < nums.length := by rw [HN.out]; exact hlt
                obtain ⟨b, o, rfl, _, hc⟩ := HR.out.int hlt2
                obtain ⟨x, hx⟩ : ∃ x, nums[k] = x := ⟨_, rfl⟩
                rw [hx] at hc
                have HX : Hid (∀ h' : k < nums.length, nums[k]'h' = x) := Lib.hid (fun _ => hx)
                have HL2 := Lib.hid hlt2
                clear hx hlt2
                by_cases hx0 : x < 0
                · have HE2 := Lib.hid (HY2.out (by rw [List.any_eq_true]; exact ⟨nums[k]'HL2.out, List.getElem_mem _, by rw [HX.out]; simpa using hx0⟩))
                  go_wp2_with fail
                  go_ret2
                  exact ⟨fun _ => by rw [HE2.out]; rfl, fun h => (by have := HE2.out; rw [h] at this; exact absurd this (by decide)), Below.refl _ _⟩
                · have hx1 : decide (x < 0) = false := by simpa using hx0
                  go_wp2_with fail
                  go_round
                  case rel => exact ⟨k + 1, by omega, by go_num, Lib.hid (fun j hj hjk => by
                    by_cases e : j = k
                    · subst e; rw [HX.out]; omega
                    · exact HK.out j hj (by omega))⟩
                  case measure => simp [intOf]; omega
              · have hkn : k = n := by omega
                subst hkn
                have HE0 := Lib.hid (HY0.out (by
                  rw [List.any_eq_false]
                  intro x hx
                  obtain ⟨j, hj, rfl⟩ := List.getElem_of_mem hx
                  have := HK.out j hj (by have := HN.out; omega)
                  simp; omega))
                have HCl := Lib.hid (clone_any p k c (ints nums) w HR.out (by rw [ints_len, HN.out]) (ints_one _) (by omega))
                clear HR
                go_wp2_with fail
                refine HCl.out.mono ?_
                rintro e w1 ⟨v, rfl, hown, hb⟩
                have HOL := Lib.hid (own_lt hown)
                obtain ⟨q, d, rfl, hld, hmx, hrd, hge⟩ := own_form hown
                have HG := Lib.hid hge
                have HRD := Lib.hid hrd
                have HB := Lib.hid hb
                have hmk := fun w => run_makeMap (P := Try.prog) 64 w
                clear hown hld hmx hrd hge hb
                go_wp2_with fail
                go_ret2
                rw [HE0.out]
                refine ⟨by simp, fun _ => ⟨w1.heap.size + 1, w1.heap.size, q, d, rfl, ?_, by have := HB.out.size; omega, HB.out.size, HG.out⟩, (HB.out.alloc HB.out.size _).alloc (by have := HB.out.size; simp; omega) _⟩
                have hbl := (Below.refl w1.heap.size w1).alloc (Nat.le_refl _) (.map #[] 0)
                refine ⟨?_, ?_, ?_, by omega, ?_, newE_ok HE0.out⟩
                · rw [HN.out]
                  exact Blk.new' _ 66 _ (by simp)
                · exact (HRD.out.kept hbl).kept ((Below.refl _ _).alloc (Nat.le_refl _) _)
                · exact (Mp.new w1).kept ((Below.refl _ _).alloc (Nat.le_refl _) _)
                · intro a ha
                  subst ha
                  have := (HOL.out a.block rfl).2
                  simp
                  omega
          · have hn0 : (0 : Int) < (n : Int) := by omega
            have HE2 := Lib.hid (show newE kind nums = 2 by rw [newE, if_neg HC1.out, if_neg (by rw [HN.out]; exact HC2.out), if_pos (by rw [HN.out]; simp [h1]; omega)])
            clear h0 h1
            go_enter Try.func11, Try.ntmps11
            go_wp2_with fail
            go_ret2
            exact ⟨fun _ => by rw [HE2.out]; rfl, fun h => (by have := HE2.out; rw [h] at this; exact absurd this (by decide)), Below.refl _ _⟩

end Go.Proofs.Ytfidnecdojgkjaa
