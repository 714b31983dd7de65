/- The reference's Fair. -/
import Derived.Test.YtfidnecdojgkjaaRefW
namespace Go.Proofs.Ytfidnecdojgkjaa
open Go.RowKit

theorem hit_of {T : List Tn} {b : Int} {k : Nat} {en : List Int} {pk : Int} (h : T.getD k ⟨[], 0⟩ = ⟨en, pk⟩) : hit T b k = en.any fun x => decide (b ≤ (gAt (T.take (k + 1)) x : Int)) := by
  rw [hit, h]
theorem fairF_at {T : List Tn} {b : Int} {k : Nat} (hk : k < T.length) (h0 : fUp T b k = none) (h1 : hit T b k = true) : fairF T b = k := by
  have hs : ∀ m, k + 1 ≤ m → fUp T b m = some k := by
    intro m hm
    induction m with
    | zero => omega
    | succ m ih =>
      rw [fUp_succ]
      rcases Nat.lt_or_ge k m with h | h
      · rw [ih h]; rfl
      · have : m = k := by omega
        subst this
        rw [h0, h1]; rfl
  rw [fairF, hs _ hk]
theorem fairF_none {T : List Tn} {b : Int} (h0 : fUp T b T.length = none) : fairF T b = -1 := by rw [fairF, h0]
set_option maxRecDepth 100000 in
theorem refFair_any {w : World} (p : Option Addr) (c : Nat) (l : List Tp) (b : Int) (h : TR w w.heap.size p l) (hl : l.length ≤ 1000000) :
    Calls Try.prog 19 #[.slice p l.length c, .int .i64 b] w fun e w' => e = .returned (.int .i64 (fairF (l.map Tp.tn) b)) ∧ w' = w := by
  have HR := Lib.hid h
  have HWA := Lib.hid (fun (i : Nat) (x : Int) (hi : i < l.length) => waited_any p c l i x h hl hi)
  obtain ⟨T, hT⟩ : ∃ T, l.map Tp.tn = T := ⟨_, rfl⟩
  have HTL := Lib.hid (show T.length = l.length by rw [← hT, tn_len])
  have HTA : Hid (∀ k (hk : k < l.length), T.getD k ⟨[], 0⟩ = ⟨(l[k]).en, (l[k]).pk⟩) := Lib.hid (fun k hk => by subst hT; rw [getD_tn (by rw [tn_len]; exact hk)]; exact tn_at l hk)
  rw [hT] at HWA ⊢
  have HUS := Lib.hid (fun k => fUp_succ T b k)
  have HHT := Lib.hid (fun (k : Nat) (en : List Int) (pk : Int) h => hit_of (T := T) (b := b) (k := k) (en := en) (pk := pk) h)
  have HFA := Lib.hid (fun (k : Nat) hk h0 h1 => fairF_at (T := T) (b := b) (k := k) hk h0 h1)
  have HFN := Lib.hid (fun h0 => fairF_none (T := T) (b := b) h0)
  obtain ⟨r, hr⟩ : ∃ r, fairF T b = r := ⟨_, rfl⟩
  rw [hr] at HFA HFN ⊢
  obtain ⟨n, hn⟩ : ∃ n, l.length = n := ⟨_, rfl⟩
  rw [hn] at hl HWA ⊢
  have HN := Lib.hid hn
  clear hn h hT hr
  go_enter Try.func19, Try.ntmps19
  go_wp2_with fail
  go_loop [5] (fun i => ∃ (k : Nat), k ≤ n ∧ i = .int .i64 k ∧ Hid (fUp T b k = none)) (fun i => n - (intOf i).toNat)
  case atStart => exact ⟨0, Nat.zero_le _, rfl, Lib.hid rfl⟩
  case round =>
    obtain ⟨k, hk, rfl, HK⟩ := hrel
    by_cases hlt : k < n
    · have hki : (k : Int) < (n : Int) := by omega
      have hlt2 : k < l.length := by rw [HN.out]; exact hlt
      obtain ⟨bt, ot, rfl, hbt, hc0, hc1, hrd, hel⟩ := HR.out.at_ hlt2
      have hTk := HHT.out k _ _ (HTA.out k hlt2)
      have HW := Lib.hid (fun x => HWA.out k x hlt)
      have HU1 := Lib.hid (HUS.out k)
      have HF1 := Lib.hid (HFA.out k (by rw [HTL.out]; exact hlt2) HK.out)
      obtain ⟨y, hy⟩ : ∃ y, l[k] = y := ⟨_, rfl⟩
      rw [hy] at hc0 hc1 hrd hel hTk
      obtain ⟨q, d, en, pk⟩ := y
      simp only at hc0 hc1 hrd hel hTk
      have HH := Lib.hid hTk
      obtain ⟨m, hm⟩ : ∃ m, en.length = m := ⟨_, rfl⟩
      rw [hm] at hc0 hel
      have HM := Lib.hid hm
      have HRD := Lib.hid hrd
      clear hTk hy hlt2 hrd hm
      obtain ⟨g, hg⟩ : ∃ g, gAt (T.take (k + 1)) = g := ⟨_, rfl⟩
      rw [hg] at HH HW
      clear hg
      go_wp2_with fail
      go_loop [6] (fun i => ∃ (j : Nat), j ≤ m ∧ i = .int .i64 j ∧ Hid (∀ x ∈ en.take j, ¬ b ≤ (g x : Int))) (fun i => m - (intOf i).toNat)
      case atStart => exact ⟨0, Nat.zero_le _, rfl, Lib.hid (by simp)⟩
      case round =>
        obtain ⟨j, hj, rfl, HJ⟩ := hrel
        by_cases hjt : j < m
        · have hji : (j : Int) < (m : Int) := by omega
          have hj2 : j < en.length := by rw [HM.out]; exact hjt
          obtain ⟨bb, oo, rfl, hbb, hcj⟩ := HRD.out.int hj2
          have HT := Lib.hid (fun y => mem_take_succ hj2 y)
          have HIN := Lib.hid (List.getElem_mem hj2)
          obtain ⟨x, hx⟩ : ∃ x, en[j] = x := ⟨_, rfl⟩
          rw [hx] at hcj HT HIN
          have HWX := Lib.hid (HW.out x)
          obtain ⟨v, hv⟩ : ∃ v, g x = v := ⟨_, rfl⟩
          rw [hv] at HWX
          have HV := Lib.hid hv
          clear hx hv hj2
          by_cases hvv : b ≤ (v : Int)
          · have HF := Lib.hid (show (k : Int) = r from (HF1.out (by rw [HH.out, List.any_eq_true]; exact ⟨x, HIN.out, by rw [HV.out]; simpa using hvv⟩)).symm)
            go_wp2_with fail
            refine HWX.out.mono ?_
            rintro e w1 ⟨rfl, rfl⟩
            go_wp2_with fail
            go_ret
            exact ⟨ret_int HF.out, rfl⟩
          · have hvi : decide (b ≤ (v : Int)) = false := by simpa using hvv
            have HVV := Lib.hid hvv
            clear hvv
            go_wp2_with fail
            refine HWX.out.mono ?_
            rintro e w1 ⟨rfl, rfl⟩
            go_wp2_with fail
            go_round
            case rel => exact ⟨j + 1, by omega, by go_num, Lib.hid (fun y hy => by
              rcases (HT.out y).1 hy with h | h
              · have := HJ.out y h; omega
              · subst h; rw [HV.out]; have := HVV.out; omega)⟩
            case measure => simp [intOf]; omega
        · have hjm : j = m := by omega
          subst hjm
          have HE := Lib.hid (show fUp T b (k + 1) = none by
            rw [HU1.out, HK.out, HH.out]
            have : (en.any fun x => decide (b ≤ (g x : Int))) = false := by
              rw [List.any_eq_false]
              intro x hx
              have := HJ.out x (by rw [← HM.out, List.take_length]; exact hx)
              simpa using this
            rw [this]; rfl)
          go_wp2_with fail
          go_round
          case rel => exact ⟨k + 1, by omega, by go_num, HE⟩
          case measure => simp [intOf]; omega
    · have hkn : k = n := by omega
      subst hkn
      have HF := Lib.hid (HFN.out (by rw [HTL.out, HN.out]; exact HK.out))
      go_wp2_with fail
      go_ret
      exact ⟨ret_int HF.out.symm, rfl⟩
end Go.Proofs.Ytfidnecdojgkjaa
