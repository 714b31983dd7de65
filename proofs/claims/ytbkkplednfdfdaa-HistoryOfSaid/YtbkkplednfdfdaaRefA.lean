/- The reference's allowed. Printed by hist_x.py. -/
import Derived.Test.YtbkkplednfdfdaaPlainW
import Derived.Deep.DeepCutAuto
namespace Go.Proofs.Ytbkkplednfdfdaa
open Go.RowKit Go.Maps

def dsm (d : Di) : Int × Bool := (d.step, d.made)
set_option maxRecDepth 100000 in
set_option maxHeartbeats 8000000 in
theorem allowed_any (w : World) (p : Option Addr) (c : Nat) (ds : List Di) (h : Rd w w.heap.size p (dis ds)) (hc : ds.length ≤ c) (h0 : 0 < ds.length) (hl : ds.length ≤ 4100) :
    Calls Try.prog 28 #[.slice p ds.length c] w fun e w' => e = .returned (.bool (pal (ds.map dsm))) ∧ w' = w := by
  obtain ⟨b, o, rfl, hb, hc0⟩ := dis_rd h h0
  have HR := Lib.hid h
  obtain ⟨r, hr⟩ : ∃ r, pal (ds.map dsm) = r := ⟨_, rfl⟩
  have e0 : ds.map dsm = dsm ds[0] :: (ds.map dsm).drop 1 := by
    have hlt : 0 < (ds.map dsm).length := by simpa using h0
    have := List.drop_eq_getElem_cons hlt
    simpa using this
  have hr2 : r = ((decide (ds[0].step = 1) || decide (ds[0].step = 7)) && palr ds[0].step 0 false false (ds.map dsm)) := by
    rw [← hr]
    conv => lhs; rw [e0]
    rw [pal, ← e0]
    rfl
  obtain ⟨d0, hd0⟩ : ∃ d0, ds[0] = d0 := ⟨_, rfl⟩
  rw [hd0] at hc0 hr2
  have q1 := hc0 1 _ rfl
  obtain ⟨s0, hs0⟩ : ∃ s0, d0.step = s0 := ⟨_, rfl⟩
  rw [hs0] at hr2 q1
  simp only [Nat.zero_mul, Nat.add_zero] at q1
  have HR2 := Lib.hid hr2
  rw [hr]
  obtain ⟨n, hn9⟩ : ∃ n, ds.length = n := ⟨_, rfl⟩
  have HN := Lib.hid hn9
  rw [hn9] at hc h0 hl ⊢
  have hni : (n : Int) ≤ 4100 := by omega
  have h0i : (0 : Int) < (n : Int) := by omega
  obtain ⟨v0, hv0⟩ : ∃ v0, v0 = (!decide (s0 = 1) && !decide (s0 = 7)) := ⟨_, rfl⟩
  have HV0 := Lib.hid hv0
  clear h hb hc0 hr e0 hr2 hd0 hs0 hn9 hv0
  go_enter Try.func28, Try.ntmps28
  go_upto_region 2 with fail
  clear q1
  go_cut [17] (fun c wx => c = .bool v0 ∧ wx = w)
  case first =>
    by_cases h1 : s0 = 1
    · have h1' : (s0 != 1) = false := by simpa using h1
      have hv : v0 = false := by rw [HV0.out]; simp [h1]
      subst hv
      clear h1 HV0
      go_wp2_with fail
      go_meet
      exact ⟨rfl, rfl⟩
    · have h1' : (s0 != 1) = true := by simpa using h1
      have h1n : (s0 == 1) = false := by simpa using h1
      by_cases h7 : s0 = 7
      · have h7' : (s0 != 7) = false := by simpa using h7
        have h7n : (s0 == 7) = true := by simpa using h7
        have hv : v0 = false := by rw [HV0.out]; simp [h7]
        subst hv
        clear h7 HV0
        go_wp2_with fail
        go_meet
        exact ⟨rfl, rfl⟩
      · have h7' : (s0 != 7) = true := by simpa using h7
        have h7n : (s0 == 7) = false := by simpa using h7
        have hv : v0 = true := by rw [HV0.out]; simp [h1, h7]
        subst hv
        clear HV0
        go_wp2_with fail
        go_meet
        exact ⟨rfl, rfl⟩
  case rest =>
    obtain ⟨rfl, hwc⟩ := hcut
    subst hwc
    cases v0 with
    | true =>
      have hv : r = false := by
        have := HV0.out.symm
        simp at this
        rw [HR2.out]; simp [this]
      subst hv
      go_wp2_with fail
      go_ret
      exact ⟨rfl, rfl⟩
    | false =>
      have HRR := Lib.hid (show r = palr s0 0 false false (ds.map dsm) by
        have h := HV0.out.symm
        have h2 : (decide (s0 = 1) || decide (s0 = 7)) = true := by
          by_cases h1 : s0 = 1
          · simp [h1]
          · simp [h1] at h ⊢; exact h
        rw [HR2.out, h2]; rfl)
      clear HV0 HR2
      go_wp2_with fail
      go_loop [4, 5, 6] (fun x4 x5 x6 => ∃ (k : Nat) (ob eb : Bool), k ≤ n ∧ x4 = .bool ob ∧ x5 = .bool eb ∧ x6 = .int .i64 k ∧ Hid (r = palr s0 k ob eb ((ds.map dsm).drop k))) (fun _ _ x6 => n - (intOf x6).toNat)
      case atStart => exact ⟨0, false, false, Nat.zero_le _, rfl, rfl, rfl, HRR⟩
      case round =>
        clear HRR
        obtain ⟨k, ob, eb, hk, rfl, rfl, rfl, HI⟩ := hrel
        by_cases hlt : k < n
        · have hki : (k : Int) < (n : Int) := by omega
          have hk2 : k < ds.length := by rw [HN.out]; exact hlt
          obtain ⟨b9, o9, hp9, hb9, hc9⟩ := dis_rd HR.out hk2
          injection hp9 with hp9
          injection hp9 with e1 e2
          subst e1 e2
          have e0 : (ds.map dsm).drop k = dsm ds[k] :: (ds.map dsm).drop (k + 1) := by
            have hlt' : k < (ds.map dsm).length := by simpa using hk2
            have := List.drop_eq_getElem_cons hlt'
            simpa using this
          obtain ⟨d, hd⟩ : ∃ d, ds[k] = d := ⟨_, rfl⟩
          rw [hd] at hc9 e0
          have q1 := hc9 1 _ rfl
          have q6 := hc9 6 _ rfl
          obtain ⟨s, hs⟩ : ∃ s, d.step = s := ⟨_, rfl⟩
          obtain ⟨m, hm⟩ : ∃ m, d.made = m := ⟨_, rfl⟩
          rw [dsm, hs, hm] at e0
          rw [hs] at q1
          rw [hm] at q6
          obtain ⟨v1, hv1⟩ : ∃ v1, v1 = (eb || (decide (0 < k) && decide (s = 1)) || (decide (s = 7) && decide (s0 = 1)) || (decide (s = 6) && (decide (s0 = 7) || ob))) := ⟨_, rfl⟩
          have HP1 := Lib.hid (show r = (if v1 then false else if m then (if (!decide (s = 1) && !decide (s = 4)) || !(ob || decide (s = s0)) then false else palr s0 (k + 1) false (decide (s = 6)) ((ds.map dsm).drop (k + 1))) else palr s0 (k + 1) (ob || decide (s = s0)) (decide (s = 6)) ((ds.map dsm).drop (k + 1))) by rw [HI.out, e0, palr, hv1])
          have HV1 := Lib.hid hv1
          have HVV := Lib.hid hv1
          clear hk2 hb9 hc9 e0 hd hs hm HI hv1
          go_upto_region 9 with fail
          clear q1
          go_cut [56] (fun c wx => c = .bool v1 ∧ wx = wc)
          case first =>
            clear HVV
            cases eb with
            | true =>
              have hv : v1 = true := by rw [HV1.out]; simp [true_and]
              subst hv
              clear HV1
              go_wp2_with fail
              go_meet
              exact ⟨rfl, rfl⟩
            | false =>
              by_cases h0 : 0 < k
              · have h0i : (0 : Int) < (k : Int) := by omega
                have h0d : decide ((k : Int) > 0) = true := by simpa using h0i
                by_cases h1 : s = 1
                · subst h1
                  have hv : v1 = true := by rw [HV1.out]; simp [h0]
                  subst hv
                  clear HV1
                  go_wp2_with fail
                  go_meet
                  exact ⟨rfl, rfl⟩
                · have h1' : (s == 1) = false := by simpa using h1
                  by_cases h7 : s = 7
                  · subst h7
                    by_cases hf : s0 = 1
                    · have hf' : (s0 == 1) = true := by simpa using hf
                      have hv : v1 = true := by rw [HV1.out]; simp [h0, hf]
                      subst hv
                      clear HV1 hf
                      go_wp2_with fail
                      go_meet
                      exact ⟨rfl, rfl⟩
                    · have hf' : (s0 == 1) = false := by simpa using hf
                      have hv : v1 = false := by rw [HV1.out]; simp [h0, hf]
                      subst hv
                      clear HV1 hf
                      go_wp2_with fail
                      go_meet
                      exact ⟨rfl, rfl⟩
                  · have h7' : (s == 7) = false := by simpa using h7
                    by_cases h6 : s = 6
                    · subst h6
                      by_cases hf : s0 = 7
                      · have hf' : (s0 == 7) = true := by simpa using hf
                        have hv : v1 = true := by rw [HV1.out]; simp [h0, hf]
                        subst hv
                        clear HV1 hf
                        go_wp2_with fail
                        go_meet
                        exact ⟨rfl, rfl⟩
                      · have hf' : (s0 == 7) = false := by simpa using hf
                        cases ob with
                        | true =>
                          have hv : v1 = true := by rw [HV1.out]; simp [h0, hf]
                          subst hv
                          clear HV1 hf
                          go_wp2_with fail
                          go_meet
                          exact ⟨rfl, rfl⟩
                        | false =>
                          have hv : v1 = false := by rw [HV1.out]; simp [h0, hf]
                          subst hv
                          clear HV1 hf
                          go_wp2_with fail
                          go_meet
                          exact ⟨rfl, rfl⟩
                    · have h6' : (s == 6) = false := by simpa using h6
                      have hv : v1 = false := by rw [HV1.out]; simp [h0, h1, h7, h6]
                      subst hv
                      clear HV1
                      go_wp2_with fail
                      go_meet
                      exact ⟨rfl, rfl⟩
              · have hk0 : k = 0 := by omega
                subst hk0
                by_cases h1 : s = 1
                · subst h1
                  have hv : v1 = false := by rw [HV1.out]; simp [h0]
                  subst hv
                  clear HV1
                  go_wp2_with fail
                  go_meet
                  exact ⟨rfl, rfl⟩
                · have h1' : (s == 1) = false := by simpa using h1
                  by_cases h7 : s = 7
                  · subst h7
                    by_cases hf : s0 = 1
                    · have hf' : (s0 == 1) = true := by simpa using hf
                      have hv : v1 = true := by rw [HV1.out]; simp [h0, hf]
                      subst hv
                      clear HV1 hf
                      go_wp2_with fail
                      go_meet
                      exact ⟨rfl, rfl⟩
                    · have hf' : (s0 == 1) = false := by simpa using hf
                      have hv : v1 = false := by rw [HV1.out]; simp [h0, hf]
                      subst hv
                      clear HV1 hf
                      go_wp2_with fail
                      go_meet
                      exact ⟨rfl, rfl⟩
                  · have h7' : (s == 7) = false := by simpa using h7
                    by_cases h6 : s = 6
                    · subst h6
                      by_cases hf : s0 = 7
                      · have hf' : (s0 == 7) = true := by simpa using hf
                        have hv : v1 = true := by rw [HV1.out]; simp [h0, hf]
                        subst hv
                        clear HV1 hf
                        go_wp2_with fail
                        go_meet
                        exact ⟨rfl, rfl⟩
                      · have hf' : (s0 == 7) = false := by simpa using hf
                        cases ob with
                        | true =>
                          have hv : v1 = true := by rw [HV1.out]; simp [h0, hf]
                          subst hv
                          clear HV1 hf
                          go_wp2_with fail
                          go_meet
                          exact ⟨rfl, rfl⟩
                        | false =>
                          have hv : v1 = false := by rw [HV1.out]; simp [h0, hf]
                          subst hv
                          clear HV1 hf
                          go_wp2_with fail
                          go_meet
                          exact ⟨rfl, rfl⟩
                    · have h6' : (s == 6) = false := by simpa using h6
                      have hv : v1 = false := by rw [HV1.out]; simp [h0, h1, h7, h6]
                      subst hv
                      clear HV1
                      go_wp2_with fail
                      go_meet
                      exact ⟨rfl, rfl⟩
          case rest =>
            obtain ⟨rfl, hwc⟩ := hcut
            subst hwc
            clear HV1 HVV
            cases v1 with
            | true =>
              have hv : r = false := by rw [HP1.out]; rfl
              subst hv
              go_wp2_with fail
              go_ret
              exact ⟨rfl, rfl⟩
            | false =>
              have HP2 := Lib.hid (show r = (if m then (if (!decide (s = 1) && !decide (s = 4)) || !(ob || decide (s = s0)) then false else palr s0 (k + 1) false (decide (s = 6)) ((ds.map dsm).drop (k + 1))) else palr s0 (k + 1) (ob || decide (s = s0)) (decide (s = 6)) ((ds.map dsm).drop (k + 1))) by rw [HP1.out]; rfl)
              clear HP1
              obtain ⟨o1, ho1⟩ : ∃ o1, o1 = (ob || decide (s = s0)) := ⟨_, rfl⟩
              rw [← ho1] at HP2
              have HO1 := Lib.hid ho1
              clear ho1
              go_upto_region 11 with fail
              go_cut [4] (fun c wx => c = .bool o1 ∧ wx = wc)
              case first =>
                cases ob with
                | true =>
                  have hv : o1 = true := by rw [HO1.out]; rfl
                  subst hv
                  go_wp2_with fail
                  go_meet
                  exact ⟨rfl, rfl⟩
                | false =>
                  have hv : o1 = (s == s0) := by rw [HO1.out]; rfl
                  subst hv
                  clear HO1
                  go_wp2_with fail
                  go_meet
                  exact ⟨rfl, rfl⟩
              case rest =>
                obtain ⟨rfl, hwc⟩ := hcut
                subst hwc
                clear HO1
                cases m with
                | false =>
                  go_wp2_with fail
                  go_round
                  case rel => exact ⟨k + 1, o1, (s == 6), by omega, rfl, rfl, by go_num, Lib.hid (by rw [HP2.out]; rfl)⟩
                  case measure => simp [intOf]; omega
                | true =>
                  obtain ⟨v2, hv2⟩ : ∃ v2, v2 = ((!decide (s = 1) && !decide (s = 4)) || !o1) := ⟨_, rfl⟩
                  have HP3 := Lib.hid (show r = (if v2 then false else palr s0 (k + 1) false (decide (s = 6)) ((ds.map dsm).drop (k + 1))) by rw [HP2.out, hv2]; rfl)
                  have HV2 := Lib.hid hv2
                  clear HP2 hv2
                  go_upto_region 13 with fail
                  go_cut [77] (fun c wx => c = .bool v2 ∧ wx = wc)
                  case first =>
                    by_cases h1 : s = 1
                    · subst h1
                      have hv : v2 = !o1 := by rw [HV2.out]; simp
                      subst hv
                      clear HV2 HP3
                      cases o1 <;> (go_wp2_with fail; go_meet; exact ⟨rfl, rfl⟩)
                    · have h1' : (s != 1) = true := by simpa using h1
                      have h1n : (s == 1) = false := by simpa using h1
                      by_cases h4 : s = 4
                      · subst h4
                        have hv : v2 = !o1 := by rw [HV2.out]; simp
                        subst hv
                        clear HV2 HP3
                        cases o1 <;> (go_wp2_with fail; go_meet; exact ⟨rfl, rfl⟩)
                      · have h4' : (s != 4) = true := by simpa using h4
                        have h4n : (s == 4) = false := by simpa using h4
                        have hv : v2 = true := by rw [HV2.out]; simp [h1, h4]
                        subst hv
                        clear HV2
                        go_wp2_with fail
                        go_meet
                        exact ⟨rfl, rfl⟩
                  case rest =>
                    obtain ⟨rfl, hwc⟩ := hcut
                    subst hwc
                    clear HV2
                    cases v2 with
                    | true =>
                      have hv : r = false := by rw [HP3.out]; rfl
                      subst hv
                      go_wp2_with fail
                      go_ret
                      exact ⟨rfl, rfl⟩
                    | false =>
                      go_wp2_with fail
                      go_round
                      case rel => exact ⟨k + 1, false, (s == 6), by omega, rfl, rfl, by go_num, Lib.hid (by rw [HP3.out]; rfl)⟩
                      case measure => simp [intOf]; omega
        · have hkn : k = n := by omega
          subst hkn
          have hv : r = true := by rw [HI.out, List.drop_of_length_le (by simp [HN.out])]; rfl
          subst hv
          go_wp2_with fail
          go_ret
          exact ⟨rfl, rfl⟩
end Go.Proofs.Ytbkkplednfdfdaa
