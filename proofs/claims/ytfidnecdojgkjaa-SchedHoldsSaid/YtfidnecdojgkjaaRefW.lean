/- The reference's runs: Run, Waited, Worst, Fair. -/
import Derived.Test.YtfidnecdojgkjaaWorst
namespace Go.Proofs.Ytfidnecdojgkjaa
open Go.RowKit

theorem has_b (p : Option Addr) (c : Nat) (q : List Int) (x : Int) (w : World) (h : Rd w w.heap.size p (ints q)) (hl : q.length ≤ 1000000) :
    Calls Try.prog 31 #[.slice p q.length c, .int .i64 x] w fun e w' => e = .returned (.bool (decide (x ∈ q))) ∧ Below w.heap.size w w' :=
  (has_any p c q x w h hl).mono fun e w' h => ⟨h.1, by rw [h.2]; exact Below.refl _ _⟩
set_option maxRecDepth 100000 in
theorem run_any {w : World} (p : Option Addr) (c : Nat) (l : List Tp) (h : TR w w.heap.size p l) (hl : l.length ≤ 1000000) :
    Calls Try.prog 15 #[.slice p l.length c] w fun e w' => e = .returned (.int .i64 (runE (l.map Tp.tn))) ∧ Below w.heap.size w w' := by
  have HR := Lib.hid h
  have HLG := Lib.hid (fun (h : 100000 < l.length) => runE_long (T := l.map Tp.tn) (by rw [tn_len]; exact h))
  have HBD := Lib.hid (fun (h : ¬ 100000 < l.length) (k : Nat) (hk : k < l.length) (hb : okT ⟨(l[k]).en, (l[k]).pk⟩ = false) => runE_bad (T := l.map Tp.tn) (by rw [tn_len]; exact h) (k := k) (by rw [tn_len]; exact hk) (by rw [tn_at l hk]; exact hb))
  have HOK := Lib.hid (fun (h : ¬ 100000 < l.length) (hb : ∀ k (hk : k < l.length), okT ⟨(l[k]).en, (l[k]).pk⟩ = true) => runE_ok (T := l.map Tp.tn) (by rw [tn_len]; exact h) (fun k hk => by rw [tn_at l (by simpa using hk)]; exact hb k (by simpa using hk)))
  generalize runE (l.map Tp.tn) = r at *
  obtain ⟨n, hn⟩ : ∃ n, l.length = n := ⟨_, rfl⟩
  rw [hn] at hl ⊢
  have HN := Lib.hid hn
  clear hn h
  by_cases hg : 100000 < n
  · have hgi : (100000 : Int) < (n : Int) := by omega
    have HF := Lib.hid (HLG.out (by rw [HN.out]; exact hg))
    clear hg
    go_enter Try.func15, Try.ntmps15
    go_wp2_with fail
    go_ret
    exact ⟨ret_int HF.out.symm, Below.refl _ _⟩
  · have hgi : (n : Int) ≤ 100000 := by omega
    have HG := Lib.hid (show ¬ 100000 < l.length by rw [HN.out]; exact hg)
    clear hg
    go_enter Try.func15, Try.ntmps15
    go_wp2_with fail
    go_loopw [3] (fun i wr => ∃ k : Nat, k ≤ n ∧ i = .int .i64 k ∧ Hid (∀ j (hj : j < l.length), j < k → okT ⟨(l[j]).en, (l[j]).pk⟩ = true) ∧ Hid (Below w.heap.size w wr)) (fun i _ => n - (intOf i).toNat)
    case atStart => exact ⟨0, Nat.zero_le _, rfl, Lib.hid (fun j _ hj => by omega), Lib.hid (Below.refl _ _)⟩
    case round =>
      obtain ⟨k, hk, rfl, HK, HB⟩ := hrel
      by_cases hlt : k < n
      · have hki : (k : Int) < (n : Int) := by omega
        have hlt2 : k < l.length := by rw [HN.out]; exact hlt
        obtain ⟨b, o, rfl, hbw, hc0, hc1, hrd, hel⟩ := (HR.out.kept HB.out).at_ hlt2
        have HBB := Lib.hid (fun hb => HBD.out HG.out k hlt2 hb)
        have HKK : Hid (okT ⟨(l[k]).en, (l[k]).pk⟩ = true → ∀ j (hj : j < l.length), j < k + 1 → okT ⟨(l[j]).en, (l[j]).pk⟩ = true) := Lib.hid (fun h j hj hjk => by
          by_cases e : j = k
          · subst e; exact h
          · exact HK.out j hj (by omega))
        obtain ⟨x, hx⟩ : ∃ x, l[k] = x := ⟨_, rfl⟩
        rw [hx] at hc0 hc1 hrd hel HBB HKK
        clear hx hlt2
        obtain ⟨q, d, en, pk⟩ := x
        simp only at hc0 hc1 hrd hel HBB HKK
        have HEn := Lib.hid (fun (w' : World) (hb : Below wr.heap.size wr w') => refEnabled_any q d en w' (hrd.kept hb) hel)
        have HCo := Lib.hid (fun (w' : World) (hb : Below wr.heap.size wr w') => has_b q d en pk w' (hrd.kept hb) hel)
        have d1 := fun g => Gr.at_ hbw hc0 g
        have d2 := fun g => Gr.at_ hbw hc1 g
        clear hrd hel
        generalize en.length = m at *
        cases hE : enB en with
        | false =>
          rw [hE] at HEn
          have HF := Lib.hid (HBB.out (by simp [okT, hE]))
          clear hE HBB HKK HCo
          go_upto_region 6 with fail
          refine wp_region_grows (by kernel_rfl) (by kernel_rfl) ?_
          repeat (go_big_quiet_step ((first | (go_at_call 30; exact Calls.gr _ (HEn.out _ (Gr.h _))))))
          refine wpQuiet_nil ?_
          rintro _ ⟨g, rfl⟩
          have hb9 := g.h
          generalize g.w = w2 at hb9 ⊢
          have HB2 := Lib.hid (below_step HB.out hb9)
          clear hb9 d1 d2
          go_wp2_with fail
          go_ret
          exact ⟨ret_int HF.out.symm, HB2.out⟩
        | true =>
          rw [hE] at HEn
          cases hP : decide (pk ∈ en) with
          | false =>
            rw [hP] at HCo
            have HF := Lib.hid (HBB.out (by simp [okT, hE, hP]))
            clear hE HBB HKK hP
            go_upto_region 6 with fail
            refine wp_region_grows (by kernel_rfl) (by kernel_rfl) ?_
            repeat (go_big_quiet_step ((first | (go_at_call 30; exact Calls.gr _ (HEn.out _ (Gr.h _))) | (go_at_call 31; exact Calls.gr _ (HCo.out _ (Gr.h _))))))
            refine wpQuiet_nil ?_
            rintro _ ⟨g, rfl⟩
            have hb9 := g.h
            generalize g.w = w2 at hb9 ⊢
            have HB2 := Lib.hid (below_step HB.out hb9)
            clear hb9 d1 d2
            go_wp2_with fail
            go_ret
            exact ⟨ret_int HF.out.symm, HB2.out⟩
          | true =>
            rw [hP] at HCo
            have HF := Lib.hid (HKK.out (by simp only [okT, hE, hP]; rfl))
            clear hE HBB HKK hP
            go_upto_region 6 with fail
            refine wp_region_grows (by kernel_rfl) (by kernel_rfl) ?_
            repeat (go_big_quiet_step ((first | (go_at_call 30; exact Calls.gr _ (HEn.out _ (Gr.h _))) | (go_at_call 31; exact Calls.gr _ (HCo.out _ (Gr.h _))))))
            refine wpQuiet_nil ?_
            rintro _ ⟨g, rfl⟩
            have hb9 := g.h
            generalize g.w = w2 at hb9 ⊢
            have HB2 := Lib.hid (below_step HB.out hb9)
            clear hb9 d1 d2
            go_wp2_with fail
            go_roundw
            case rel => exact ⟨k + 1, by omega, by go_num, HF, HB2⟩
            case measure => simp [intOf]; omega
      · have hkn : k = n := by omega
        subst hkn
        have HF := Lib.hid (HOK.out HG.out (fun j hj => HK.out j hj (by have := HN.out; omega)))
        go_wp2_with fail
        go_ret
        exact ⟨ret_int HF.out.symm, HB.out⟩
/-! ### Waited -/
theorem gAt_step {T : List Tn} {k : Nat} (hk : k < T.length) (x : Int) : gAt (T.take (k + 1)) x = if x ∈ T[k].en ∧ x ≠ T[k].pk then gAt (T.take k) x + 1 else 0 := by
  rw [gAt_take hk]; rfl
set_option maxRecDepth 100000 in
theorem waited_any {w : World} (p : Option Addr) (c : Nat) (l : List Tp) (i : Nat) (x : Int) (h : TR w w.heap.size p l) (hl : l.length ≤ 1000000) (hi : i < l.length) :
    Calls Try.prog 32 #[.slice p l.length c, .int .i64 i, .int .i64 x] w fun e w' => e = .returned (.int .i64 (gAt ((l.map Tp.tn).take (i + 1)) x)) ∧ w' = w := by
  have HR := Lib.hid h
  have HST : Hid (∀ k (hk : k < l.length), gAt ((l.map Tp.tn).take (k + 1)) x = if x ∈ (l[k]).en ∧ x ≠ (l[k]).pk then gAt ((l.map Tp.tn).take k) x + 1 else 0) := Lib.hid (fun k hk => by
    have := gAt_step (T := l.map Tp.tn) (k := k) (by rw [tn_len]; exact hk) x
    rw [tn_at l hk] at this
    exact this)
  have HLE := Lib.hid (fun k => gAt_le ((l.map Tp.tn).take k) x)
  generalize l.map Tp.tn = T at *
  obtain ⟨n, hn⟩ : ∃ n, l.length = n := ⟨_, rfl⟩
  rw [hn] at hl hi ⊢
  have HN := Lib.hid hn
  obtain ⟨r, hr⟩ : ∃ r, gAt (T.take (i + 1)) x = r := ⟨_, rfl⟩
  rw [hr]
  have HRR := Lib.hid hr
  clear hn h hr
  go_enter Try.func32, Try.ntmps32
  go_wp2_with fail
  go_loop [1, 7] (fun a v => ∃ (k m : Nat), k ≤ i + 1 ∧ a = .int .i64 ((k : Int) - 1) ∧ v = .int .i64 m ∧ m + k = i + 1 ∧ Hid (m + gAt (T.take k) x = r)) (fun a _ => (intOf a + 1).toNat)
  case atStart => exact ⟨i + 1, 0, Nat.le_refl _, by congr 1; omega, rfl, by omega, Lib.hid (by rw [Nat.zero_add]; exact HRR.out)⟩
  case round =>
    obtain ⟨k, m, hk, rfl, rfl, hmk, HM⟩ := hrel
    by_cases hk0 : k = 0
    · subst hk0
      have HF := Lib.hid (show m = r by have := HM.out; simpa [gAt_nil] using this)
      have e1 : ((0 : Nat) : Int) - 1 = -1 := by omega
      go_wp2_with fail
      go_ret
      exact ⟨ret_int (by rw [HF.out]), rfl⟩
    · obtain ⟨j, rfl⟩ : ∃ j, k = j + 1 := ⟨k - 1, by omega⟩
      have e1 : ((j + 1 : Nat) : Int) - 1 = j := by omega
      have hj : j < n := by omega
      have hji : (j : Int) < (n : Int) := by omega
      have hj0 : (0 : Int) ≤ (j : Int) := by omega
      have hlt2 : j < l.length := by rw [HN.out]; exact hj
      obtain ⟨b, o, rfl, hbw, hc0, hc1, hrd, hel⟩ := HR.out.at_ hlt2
      have HS := Lib.hid (HST.out j hlt2)
      have HS2 := HM
      obtain ⟨y, hy⟩ : ∃ y, l[j] = y := ⟨_, rfl⟩
      rw [hy] at hc0 hc1 hrd hel HS
      obtain ⟨q, d, en, pk⟩ := y
      simp only at hc0 hc1 hrd hel HS
      have HH := Lib.hid (has_any q d en x w hrd hel)
      clear hy hlt2 hrd hel
      generalize en.length = z at *
      cases hE : decide (x ∈ en) with
      | false =>
        rw [hE] at HH
        have HF := Lib.hid (show m = r by
          have := HM.out
          rw [HS.out, if_neg (fun h => by simp [h.1] at hE)] at this
          omega)
        clear hE
        go_wp2_with fail
        refine HH.out.mono ?_
        rintro e w1 ⟨rfl, rfl⟩
        go_wp2_with fail
        go_ret
        exact ⟨ret_int (by rw [HF.out]), rfl⟩
      | true =>
        rw [hE] at HH
        by_cases hp : pk = x
        · have hp2 : (pk == x) = true := by simpa using hp
          have HF := Lib.hid (show m = r by
            have := HM.out
            rw [HS.out, if_neg (fun h => h.2 hp.symm)] at this
            omega)
          clear hE hp
          go_wp2_with fail
          refine HH.out.mono ?_
          rintro e w1 ⟨rfl, rfl⟩
          go_wp2_with fail
          go_ret
          exact ⟨ret_int (by rw [HF.out]), rfl⟩
        · have hp2 : (pk == x) = false := by simpa using hp
          have HF := Lib.hid (show m + 1 + gAt (T.take j) x = r by
            have := HM.out
            rw [HS.out, if_pos ⟨by simpa using hE, fun h => hp h.symm⟩] at this
            omega)
          clear hE hp
          go_wp2_with fail
          refine HH.out.mono ?_
          rintro e w1 ⟨rfl, rfl⟩
          go_wp2_with fail
          go_round
          case rel => exact ⟨j, m + 1, by omega, rfl, by go_num, by omega, HF⟩
          case measure => simp [intOf]
/-! ### Worst -/
theorem wS_take {g : Int → Nat} {e : List Int} {s : Int × Nat} {k : Nat} (hk : k < e.length) : (e.take (k + 1)).foldl (wS g) s = wS g ((e.take k).foldl (wS g) s) e[k] := by
  rw [List.take_succ_eq_append_getElem hk, List.foldl_append]; rfl
theorem wS_le {T : List Tn} {k : Nat} {e : List Int} : ∀ (j : Nat) (s : Int × Nat), s.2 ≤ T.length → ((e.take j).foldl (wS (gAt (T.take k))) s).2 ≤ T.length := by
  intro j s hs
  induction j with
  | zero => simpa using hs
  | succ j ih =>
    rcases Nat.lt_or_ge j e.length with h | h
    · rw [wS_take h, wS]
      split
      · exact Nat.le_trans (gAt_le (T.take k) e[j]) (by rw [List.length_take]; omega)
      · exact ih
    · rw [List.take_of_length_le (l := e) (i := j + 1) (by omega)]
      rwa [List.take_of_length_le (l := e) (i := j) h] at ih
theorem wUp_le (T : List Tn) (k : Nat) : (wUp T k).2 ≤ T.length := by
  induction k with
  | zero => simp [wUp]
  | succ k ih =>
    rw [wUp_succ]
    have := wS_le (T := T) (k := k + 1) (e := (T.getD k ⟨[], 0⟩).en) (T.getD k ⟨[], 0⟩).en.length (wUp T k) ih
    rwa [List.take_length] at this
set_option maxRecDepth 100000 in
theorem refWorst_any {w : World} (p : Option Addr) (c : Nat) (l : List Tp) (h : TR w w.heap.size p l) (hl : l.length ≤ 1000000) :
    Calls Try.prog 17 #[.slice p l.length c] w fun e w' => e = .returned (.tuple #[.int .i64 (worstF (l.map Tp.tn)).1, .int .i64 (worstF (l.map Tp.tn)).2]) ∧ w' = w := by
  have HR := Lib.hid h
  have HWA := Lib.hid (fun (i : Nat) (x : Int) (hi : i < l.length) => waited_any p c l i x h hl hi)
  obtain ⟨T, hT⟩ : ∃ T, l.map Tp.tn = T := ⟨_, rfl⟩
  have HTL := Lib.hid (show T.length = l.length by rw [← hT, tn_len])
  have HTA : Hid (∀ k (hk : k < l.length), T.getD k ⟨[], 0⟩ = ⟨(l[k]).en, (l[k]).pk⟩) := Lib.hid (fun k hk => by subst hT; rw [getD_tn (by rw [tn_len]; exact hk)]; exact tn_at l hk)
  rw [hT] at HWA ⊢
  have HUS := Lib.hid (fun k => wUp_succ T k)
  have HUL := Lib.hid (fun k => wUp_le T k)
  have HGL := Lib.hid (fun k x => gAt_le (T.take k) x)
  obtain ⟨n, hn⟩ : ∃ n, l.length = n := ⟨_, rfl⟩
  rw [hn] at hl HWA ⊢
  have HN := Lib.hid hn
  have HWW : Hid (worstF T = wUp T n) := Lib.hid (by rw [worstF, HTL.out, hn])
  clear hn h hT
  go_enter Try.func17, Try.ntmps17
  go_wp2_with fail
  go_loop [4, 5, 6] (fun a b i => ∃ (k : Nat), k ≤ n ∧ i = .int .i64 k ∧ a = .int .i64 (wUp T k).1 ∧ b = .int .i64 (wUp T k).2) (fun _ _ i => n - (intOf i).toNat)
  case atStart => exact ⟨0, Nat.zero_le _, rfl, rfl, rfl⟩
  case round =>
    obtain ⟨k, hk, rfl, rfl, rfl⟩ := hrel
    by_cases hlt : k < n
    · have hki : (k : Int) < (n : Int) := by omega
      have hlt2 : k < l.length := by rw [HN.out]; exact hlt
      obtain ⟨bt, ot, rfl, hbt, hc0, hc1, hrd, hel⟩ := HR.out.at_ hlt2
      have hTk := HTA.out k hlt2
      have HW := Lib.hid (fun x => HWA.out k x hlt)
      have hUS := HUS.out k
      rw [hTk] at hUS
      obtain ⟨y, hy⟩ : ∃ y, l[k] = y := ⟨_, rfl⟩
      rw [hy] at hc0 hc1 hrd hel hUS
      obtain ⟨q, d, en, pk⟩ := y
      simp only at hc0 hc1 hrd hel hUS
      have HU1 := Lib.hid hUS
      have HSL := Lib.hid (fun j => wS_le (T := T) (k := k + 1) (e := en) j (wUp T k) (HUL.out k))
      obtain ⟨m, hm⟩ : ∃ m, en.length = m := ⟨_, rfl⟩
      rw [hm] at hc0 hel
      have HM := Lib.hid hm
      have HRD := Lib.hid hrd
      clear hTk hUS hy hlt2 hrd hm
      obtain ⟨g, hg⟩ : ∃ g, gAt (T.take (k + 1)) = g := ⟨_, rfl⟩
      have HGK := Lib.hid (HGL.out (k + 1))
      rw [hg] at HU1 HSL HW HGK
      obtain ⟨s0, hs0⟩ : ∃ s, wUp T k = s := ⟨_, rfl⟩
      have HS0 := Lib.hid hs0
      rw [hs0] at HU1 HSL ⊢
      clear hg
      go_wp2_with fail
      go_loop [4, 5, 7] (fun a b i => ∃ (j : Nat), j ≤ m ∧ i = .int .i64 j ∧ a = .int .i64 ((en.take j).foldl (wS g) s0).1 ∧ b = .int .i64 ((en.take j).foldl (wS g) s0).2) (fun _ _ i => m - (intOf i).toNat)
      case atStart => exact ⟨0, Nat.zero_le _, rfl, rfl, rfl⟩
      case round =>
        clear hs0
        obtain ⟨j, hj, rfl, rfl, rfl⟩ := hrel
        by_cases hjt : j < m
        · have hji : (j : Int) < (m : Int) := by omega
          have hj2 : j < en.length := by rw [HM.out]; exact hjt
          obtain ⟨bb, oo, rfl, hbb, hcj⟩ := HRD.out.int hj2
          have HT := Lib.hid (wS_take (g := g) (s := s0) hj2)
          obtain ⟨x, hx⟩ : ∃ x, en[j] = x := ⟨_, rfl⟩
          rw [hx] at hcj HT
          obtain ⟨s1, hs1⟩ : ∃ s1, (en.take j).foldl (wS g) s0 = s1 := ⟨_, rfl⟩
          have hsl := HSL.out j
          rw [HTL.out, HN.out] at hsl
          rw [hs1] at HT hsl ⊢
          have HWX := Lib.hid (HW.out x)
          have hgx := HGK.out x
          rw [List.length_take, HTL.out, HN.out] at hgx
          replace HT := Lib.hid (show (en.take (j + 1)).foldl (wS g) s0 = if s1.2 < g x then (x, g x) else s1 from HT.out)
          obtain ⟨v, hv⟩ : ∃ v, g x = v := ⟨_, rfl⟩
          rw [hv] at HWX HT hgx
          obtain ⟨t1, v1⟩ := s1
          simp only at HT hsl ⊢
          clear hx hv hj2 hs1
          by_cases hvv : v1 < v
          · have hvi : (v1 : Int) < (v : Int) := by omega
            have HT2 := Lib.hid (HT.out.trans (if_pos hvv))
            go_wp2_with fail
            refine HWX.out.mono ?_
            rintro e w1 ⟨rfl, rfl⟩
            go_wp2_with fail
            go_round
            case rel => exact ⟨j + 1, by omega, by go_num, by rw [HT2.out], by rw [HT2.out]⟩
            case measure => simp [intOf]; omega
          · have hvi : decide (v1 < v) = false := by simpa using hvv
            have HT2 := Lib.hid (HT.out.trans (if_neg hvv))
            clear hvv
            go_wp2_with fail
            refine HWX.out.mono ?_
            rintro e w1 ⟨rfl, rfl⟩
            go_wp2_with fail
            go_round
            case rel => exact ⟨j + 1, by omega, by go_num, by rw [HT2.out], by rw [HT2.out]⟩
            case measure => simp [intOf]; omega
        · have hjm : j = m := by omega
          subst hjm
          have HE := Lib.hid (show (en.take j).foldl (wS g) s0 = wUp T (k + 1) by rw [HU1.out, ← HM.out, List.take_length])
          rw [HE.out]
          go_wp2_with fail
          go_round
          case rel => exact ⟨k + 1, by omega, by go_num, rfl, rfl⟩
          case measure => simp [intOf]; omega
    · have hkn : k = n := by omega
      subst hkn
      go_wp2_with fail
      go_ret2
      rw [HWW.out]
      exact ⟨rfl, rfl⟩
end Go.Proofs.Ytfidnecdojgkjaa
