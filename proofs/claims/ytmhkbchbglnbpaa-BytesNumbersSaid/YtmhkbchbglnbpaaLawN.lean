/- BytesNumbers. -/
import Derived.Test.YtmhkbchbglnbpaaKnownW
import Derived.Test.YtmhkbchbglnbpaaPlainN
import Derived.Test.YtmhkbchbglnbpaaOwnAt
namespace Go.Proofs.Ytmhkbchbglnbpaa
open Go.RowKit

set_option maxRecDepth 100000 in
theorem numbers_any (n : Nat) (w : World) (hn : n < 18446744073709551616) : Calls Try.prog 3 #[.int .u64 n] w fun e w' => e = .returned (.bool true) ∧ Below w.heap.size w w' := by
  have HN := Lib.hid (refNumber_any n w hn)
  have HA := Lib.hid fun w => lawNumber_any n w hn
  have HZ := Lib.hid fun w => size_any n w hn
  have HQ := Lib.hid hn
  have HE := Lib.hid (nE_own hn)
  have hlen : (numB n).length ≤ 10 := numB_10 hn
  have hpos := numB_len_pos n
  obtain ⟨l, hl⟩ : ∃ l, numB n = l := ⟨_, rfl⟩
  have HBs := Lib.hid (numB_bs n)
  have HI := Lib.hid hl
  rw [hl] at HN HA HZ hlen hpos HBs HE
  obtain ⟨t, ht⟩ : ∃ t, strOfNums l = t := ⟨_, rfl⟩
  rw [ht] at HA
  have HT := Lib.hid ht
  clear hl ht hn
  go_enter Try.func3, Try.ntmps3
  go_wp2_with fail
  refine HN.out.mono ?_
  rintro e w1 ⟨v, rfl, hown, hb⟩
  obtain ⟨q, d, rfl, hld, _⟩ := own_form hown
  have HO := Lib.hid (own_lt hown)
  have HR := Lib.hid (own_rd hown)
  have HB := Lib.hid hb
  have hcv := fun g : Gr w1 => conv_any (HR.out.kept g.h) d
  rw [HT.out] at hcv
  have HLD := Lib.hid hld
  obtain ⟨m, hm⟩ : ∃ m, l.length = m := ⟨_, rfl⟩
  rw [hm] at hcv hlen hpos HZ HLD ⊢
  have HM := Lib.hid hm
  clear hm hown hb hld
  go_upto_region 2 with fail
  refine wp_region_grows (by kernel_rfl) (by kernel_rfl) ?_
  repeat (go_big_quiet_step ((first
    | (go_at_call 9; exact Calls.gr _ (HA.out _))
    | (go_at_call 10; exact Calls.gr _ (HZ.out _)))))
  refine wpQuiet_nil ?_
  rintro _ ⟨g, rfl⟩
  have hb9 := g.h
  generalize g.w = w2 at hb9 ⊢
  have HB2 := Lib.hid (below_step HB.out hb9)
  have HR2 := Lib.hid (HR.out.kept hb9)
  clear hcv
  have HQB := Lib.hid (show ∀ a, q = some a → a.block < w2.heap.size from fun a ha => by subst ha; have := (HO.out a.block rfl).2; have := hb9.size; omega)
  clear hb9
  go_wp2_with fail
  have HNew := Lib.hid (new_any q d l w2 HR2.out (by rw [HM.out]; omega) HBs.out)
  rw [HM.out] at HNew
  refine HNew.out.mono ?_
  rintro e w3 ⟨R, p, c, rfl, hr, hR, _, hb⟩
  have HNE0 : ∀ a, q = some a → a.block ≠ R := fun a ha => by have := HQB.out a ha; omega
  have HR3 := Lib.hid hr
  have HB3 := Lib.hid (below_step HB2.out hb)
  have HRw := Lib.hid (show w.heap.size ≤ R by have := HB2.out.size; omega)
  have HQ3 := Lib.hid (HR2.out.kept hb)
  clear hr hR hb
  have HE0 := Lib.hid (HE.out n)
  rw [if_neg (Nat.lt_irrefl n), if_neg (Nat.lt_irrefl n), if_neg (Nat.lt_irrefl n)] at HE0
  have HE1 := Lib.hid fun (h : 0 < n) => (by
    have := HE.out (n - 1)
    rwa [if_pos (by omega), if_pos (by omega), if_pos (by omega)] at this : nE l (n - 1) = 3 ∧ nV l (n - 1) = 0 ∧ nS l (n - 1) = 0)
  have HNE := Lib.hid (show ∀ a, q = some a → a.block ≠ R from HNE0)
  obtain ⟨a0, y0, ha1, ha2, ha3, ha4⟩ := numB_split n
  rw [HI.out] at ha1
  have HSH := Lib.hid (show ∀ k, k < m → readE (l.take k) = 4 from by
    intro k hk
    have hl2 : l.length = a0.length + 1 := by rw [ha1]; simp
    have hm2 := HM.out
    rw [ha1, List.take_append_of_le_length (by omega)]
    exact readE_short (fun x hx => ha2 x (List.mem_of_mem_take hx)) (by simp; omega))
  have HA1 := Lib.hid (And.intro ha1 (And.intro ha2 (And.intro ha3 ha4)))
  clear ha1 ha2 ha3 ha4 HNE0
  by_cases hn0 : n = 0
  · subst hn0
    have HRN := Lib.hid (reads_is 0 0 0 HR3.out HE0.out.2.1 HE0.out.1)
    have HB4 := HB3
    have HQ4 := HQ3
    go_wp2_with fail
    refine HRN.out.mono ?_
    rintro e w5 ⟨rfl, hr⟩
    have HR5 := Lib.hid hr.1
    have HB5 := Lib.hid (Fr.below HB4.out hr.2 (fun b hb => by subst hb; exact HRw.out))
    have HQ5 := Lib.hid (HQ4.out.fr hr.2 (fun a ha hb => HNE.out a ha hb))
    clear hr
    go_wp2_with fail
    refine (end_is 0 HR5.out (by rw [List.drop_zero, HE0.out.2.2]; simp)).mono ?_
    rintro e w6 ⟨rfl, hb⟩
    have HB6 := Lib.hid (below_step HB5.out hb)
    have HQ6 := Lib.hid (HQ5.out.kept hb)
    clear hb
    go_wp2_with fail
    go_loopw [5] (fun i wr => ∃ k : Nat, k ≤ m ∧ i = .int .i64 k ∧ Below w6.heap.size w6 wr) (fun i _ => m - (intOf i).toNat)
    case atStart => exact ⟨0, Nat.zero_le _, rfl, Below.refl _ _⟩
    case round =>
      obtain ⟨k, hk, rfl, hb⟩ := hrel
      by_cases hlt : k < m
      · have hki : (k : Int) < (m : Int) := by omega
        have hsl := cut23_h q m d .i64 k (by have := HLD.out; omega) wr
        have HF := Lib.hid (by
          have h1 := cut_rd (HQ6.out.kept hb) 0 k d (by have := HLD.out; omega)
          rw [List.drop_zero] at h1
          have h2 := first_ok d (l.take k) 4 h1 (HBs.out.take k) (by simp; omega) (HSH.out k hlt) (by decide)
          rw [show (l.take k).length = k by have := HM.out; simp; omega] at h2
          exact h2 : Calls Try.prog 14 #[.int .i64 4, .slice (cutP q 0 d) k d] wr fun e w' => e = .returned (.bool true) ∧ Below wr.heap.size wr w')
        generalize cutP q 0 d = q0 at hsl HF
        clear HQ5 HR5
        go_wp2_with fail
        refine HF.out.mono ?_
        rintro e w7 ⟨rfl, hb7⟩
        go_wp2_with fail
        go_roundw
        case rel => exact ⟨k + 1, by omega, by go_num, below_step hb hb7⟩
        case measure => simp [intOf]; omega
      · have hkm : k = m := by omega
        subst hkm
        have HQ7 := Lib.hid (HQ6.out.kept hb)
        have HB7 := Lib.hid (below_step HB6.out hb)
        have hr7 := HQ7.out
        have hmi : (1 : Int) ≤ (k : Int) := by omega
        clear hb
        go_upto_region 13 with (at_builtin; refine wpList_appM rfl (.const (.slice none 0 0)) (.tmp 59) 23 rfl wr.heap.size 5 _ 1 1 Try.underlying23 u8_info rfl (by omega) _ 0 [] rfl (World.ownsRow_nil _ _ _ _) wr.heap.size q k d (bys l) rfl (by rw [bys_len, HM.out, Nat.mul_one]) hr7 (bys_one _) (by omega) (by omega) (Nat.le_refl _) ?_; intro v8 w8 hown8 hb8 _ _)
        rw [Nat.zero_add, List.nil_append] at hown8
        obtain ⟨g8, c8, rfl, hg8, hg8b, hk8, hc8b, hc8, hf8⟩ := own_at hown8 (by omega)
        obtain ⟨j, hj⟩ : ∃ j : Nat, (k : Int) - 1 = j := ⟨k - 1, by omega⟩
        obtain ⟨e1, e2, e3, e4⟩ := HA1.out
        have hjn : j < k := by omega
        have hja : a0.length = j := by have := congrArg List.length e1; rw [HM.out] at this; simp at this; omega
        have hcj := hc8 j (.int .u8 y0) (by rw [e1, bys_app, List.getElem?_append_right (by rw [bys_len]; omega)]; simp [bys, hja])
        have hfj := hf8 j
        have hwy : IntKind.u8.wrap (y0 + 128) = y0 + 128 := wraps_u8 _ (by omega) (by omega)
        have ho9 := own_store hown8 j (.int .u8 (y0 + 128))
        have e5 : (bys l).set j (.int .u8 (y0 + 128)) = bys (a0 ++ [y0 + 128]) := by
          rw [e1, bys_app, bys_app, List.set_append_right _ _ (by rw [bys_len]; omega)]
          simp [bys, hja]
        rw [e5] at ho9
        have HO9 := Lib.hid ho9
        have HB9 := Lib.hid ((below_step HB7.out hb8).setCell (p := ⟨g8, j, none⟩) (by have := HB7.out.size; show w.heap.size ≤ g8; omega) (.int .u8 (y0 + 128)))
        have HH2 := Lib.hid (show Hi (a0 ++ [y0 + 128]) from fun x hx => by
          rcases List.mem_append.1 hx with h | h
          · exact e2 x h
          · simp at h; omega)
        have HBS := Lib.hid (show Bs ((a0 ++ [y0 + 128]) ++ [0]) from by
          have hbl := HBs.out
          rw [e1] at hbl
          exact Bs.app (Bs.app (fun x hx => hbl x (List.mem_append_left _ hx)) (by intro x hx; simp at hx; omega)) (by intro x hx; simp at hx; omega))
        have HL9 := Lib.hid (show (a0 ++ [y0 + 128]).length = k from by simp; omega)
        have HE9 := Lib.hid (readE_over HH2.out (by rw [HL9.out]; omega) (by rw [HL9.out]; omega))
        have hg9 : wr.heap.size ≤ w8.heap.size := hb8.size
        have H89 := Lib.hid hg9
        generalize a0 ++ [y0 + 128] = l9 at HO9 HH2 HBS HL9 HE9
        clear hown8 ho9 e1 e2 e3 e5 hja hk8 hc8 hf8 hr7 hg9 HH2
        go_upto_region 14 with fail
        have hws : (w8.setCell ⟨g8, j, none⟩ (.int .u8 (y0 + 128))).heap.size = w8.heap.size := by simp
        generalize w8.setCell ⟨g8, j, none⟩ (.int .u8 (y0 + 128)) = w9 at HO9 HB9 hws ⊢
        have HWS := Lib.hid hws
        clear hws hcj hfj hj hwy
        go_wp2_with (at_builtin; refine wpList_app1 rfl (.tmp 69) (.tmp 70) 23 rfl wr.heap.size 5 _ 1 Try.underlying23 u8_info rfl _ k _ rfl HO9.out _ rfl rfl ?_ ?_ (by have := HWS.out; have := H89.out; omega) ?_; rotate_left 2; intro v10 w10 hown10 hb10 _ _)
        · obtain ⟨q10, d10, rfl, _⟩ := own_form hown10
          have hr10 := own_rd hown10
          rw [show bys l9 ++ [.int .u8 0] = bys (l9 ++ [0]) by simp [bys]] at hr10
          have HF := Lib.hid (first_ok d10 (l9 ++ [0]) 12 hr10 HBS.out (by have := HL9.out; simp; omega) HE9.out (by decide))
          have hl91 : (l9 ++ [(0 : Int)]).length = k + 1 := by have := HL9.out; simp; omega
          rw [hl91] at HF
          clear hl91
          have HB10 := Lib.hid (HB9.out.trans (hb10.mono (by have := HB7.out.size; omega)))
          clear hown10 hr10 hb10
          go_wp2_with fail
          refine HF.out.mono ?_
          rintro e w11 ⟨rfl, hb⟩
          have HB11 := Lib.hid (below_step HB10.out hb)
          clear hb
          go_wp2_with fail
          refine (known_any _).mono ?_
          rintro e w12 ⟨rfl, hb⟩
          go_wp2_with fail
          go_ret
          exact ⟨rfl, below_step HB11.out hb⟩
        · omega
        · omega
  · have hnz : (0 : Int) < (n : Int) := by omega
    have hnp : 0 < n := by omega
    have HRP := Lib.hid (reads_is (n - 1) 0 3 HR3.out (HE1.out hnp).2.1 (HE1.out hnp).1)
    rw [show ((n - 1 : Nat) : Int) = (n : Int) - 1 by omega] at HRP
    have hwr : IntKind.u64.wrap ((n : Int) - 1) = (n : Int) - 1 := wraps_u64 _ (by omega) (by have := HQ.out; omega)
    go_wp2_with fail
    refine HRP.out.mono ?_
    rintro e w4 ⟨rfl, hr⟩
    have HR4 := Lib.hid hr.1
    rw [List.drop_zero, (HE1.out hnp).2.2] at HR4
    have HB4 := Lib.hid (Fr.below HB3.out hr.2 (fun b hb => by subst hb; exact HRw.out))
    have HQ4 := Lib.hid (HQ3.out.fr hr.2 (fun a ha hb => HNE.out a ha hb))
    have HRN := Lib.hid (reads_is n n 0 HR4.out HE0.out.2.1 HE0.out.1)
    clear hr
    go_wp2_with fail
    refine HRN.out.mono ?_
    rintro e w5 ⟨rfl, hr⟩
    have HR5 := Lib.hid hr.1
    have HB5 := Lib.hid (Fr.below HB4.out hr.2 (fun b hb => by subst hb; exact HRw.out))
    have HQ5 := Lib.hid (HQ4.out.fr hr.2 (fun a ha hb => HNE.out a ha hb))
    clear hr
    go_wp2_with fail
    refine (end_is 0 HR5.out (by rw [List.drop_zero, HE0.out.2.2]; simp)).mono ?_
    rintro e w6 ⟨rfl, hb⟩
    have HB6 := Lib.hid (below_step HB5.out hb)
    have HQ6 := Lib.hid (HQ5.out.kept hb)
    clear hb
    go_wp2_with fail
    go_loopw [5] (fun i wr => ∃ k : Nat, k ≤ m ∧ i = .int .i64 k ∧ Below w6.heap.size w6 wr) (fun i _ => m - (intOf i).toNat)
    case atStart => exact ⟨0, Nat.zero_le _, rfl, Below.refl _ _⟩
    case round =>
      obtain ⟨k, hk, rfl, hb⟩ := hrel
      by_cases hlt : k < m
      · have hki : (k : Int) < (m : Int) := by omega
        have hsl := cut23_h q m d .i64 k (by have := HLD.out; omega) wr
        have HF := Lib.hid (by
          have h1 := cut_rd (HQ6.out.kept hb) 0 k d (by have := HLD.out; omega)
          rw [List.drop_zero] at h1
          have h2 := first_ok d (l.take k) 4 h1 (HBs.out.take k) (by simp; omega) (HSH.out k hlt) (by decide)
          rw [show (l.take k).length = k by have := HM.out; simp; omega] at h2
          exact h2 : Calls Try.prog 14 #[.int .i64 4, .slice (cutP q 0 d) k d] wr fun e w' => e = .returned (.bool true) ∧ Below wr.heap.size wr w')
        generalize cutP q 0 d = q0 at hsl HF
        clear HQ5 HR5
        go_wp2_with fail
        refine HF.out.mono ?_
        rintro e w7 ⟨rfl, hb7⟩
        go_wp2_with fail
        go_roundw
        case rel => exact ⟨k + 1, by omega, by go_num, below_step hb hb7⟩
        case measure => simp [intOf]; omega
      · have hkm : k = m := by omega
        subst hkm
        have HQ7 := Lib.hid (HQ6.out.kept hb)
        have HB7 := Lib.hid (below_step HB6.out hb)
        have hr7 := HQ7.out
        have hmi : (1 : Int) ≤ (k : Int) := by omega
        clear hb
        go_upto_region 13 with (at_builtin; refine wpList_appM rfl (.const (.slice none 0 0)) (.tmp 59) 23 rfl wr.heap.size 5 _ 1 1 Try.underlying23 u8_info rfl (by omega) _ 0 [] rfl (World.ownsRow_nil _ _ _ _) wr.heap.size q k d (bys l) rfl (by rw [bys_len, HM.out, Nat.mul_one]) hr7 (bys_one _) (by omega) (by omega) (Nat.le_refl _) ?_; intro v8 w8 hown8 hb8 _ _)
        rw [Nat.zero_add, List.nil_append] at hown8
        obtain ⟨g8, c8, rfl, hg8, hg8b, hk8, hc8b, hc8, hf8⟩ := own_at hown8 (by omega)
        obtain ⟨j, hj⟩ : ∃ j : Nat, (k : Int) - 1 = j := ⟨k - 1, by omega⟩
        obtain ⟨e1, e2, e3, e4⟩ := HA1.out
        have hjn : j < k := by omega
        have hja : a0.length = j := by have := congrArg List.length e1; rw [HM.out] at this; simp at this; omega
        have hcj := hc8 j (.int .u8 y0) (by rw [e1, bys_app, List.getElem?_append_right (by rw [bys_len]; omega)]; simp [bys, hja])
        have hfj := hf8 j
        have hwy : IntKind.u8.wrap (y0 + 128) = y0 + 128 := wraps_u8 _ (by omega) (by omega)
        have ho9 := own_store hown8 j (.int .u8 (y0 + 128))
        have e5 : (bys l).set j (.int .u8 (y0 + 128)) = bys (a0 ++ [y0 + 128]) := by
          rw [e1, bys_app, bys_app, List.set_append_right _ _ (by rw [bys_len]; omega)]
          simp [bys, hja]
        rw [e5] at ho9
        have HO9 := Lib.hid ho9
        have HB9 := Lib.hid ((below_step HB7.out hb8).setCell (p := ⟨g8, j, none⟩) (by have := HB7.out.size; show w.heap.size ≤ g8; omega) (.int .u8 (y0 + 128)))
        have HH2 := Lib.hid (show Hi (a0 ++ [y0 + 128]) from fun x hx => by
          rcases List.mem_append.1 hx with h | h
          · exact e2 x h
          · simp at h; omega)
        have HBS := Lib.hid (show Bs ((a0 ++ [y0 + 128]) ++ [0]) from by
          have hbl := HBs.out
          rw [e1] at hbl
          exact Bs.app (Bs.app (fun x hx => hbl x (List.mem_append_left _ hx)) (by intro x hx; simp at hx; omega)) (by intro x hx; simp at hx; omega))
        have HL9 := Lib.hid (show (a0 ++ [y0 + 128]).length = k from by simp; omega)
        have HE9 := Lib.hid (readE_over HH2.out (by rw [HL9.out]; omega) (by rw [HL9.out]; omega))
        have hg9 : wr.heap.size ≤ w8.heap.size := hb8.size
        have H89 := Lib.hid hg9
        generalize a0 ++ [y0 + 128] = l9 at HO9 HH2 HBS HL9 HE9
        clear hown8 ho9 e1 e2 e3 e5 hja hk8 hc8 hf8 hr7 hg9 HH2
        go_upto_region 14 with fail
        have hws : (w8.setCell ⟨g8, j, none⟩ (.int .u8 (y0 + 128))).heap.size = w8.heap.size := by simp
        generalize w8.setCell ⟨g8, j, none⟩ (.int .u8 (y0 + 128)) = w9 at HO9 HB9 hws ⊢
        have HWS := Lib.hid hws
        clear hws hcj hfj hj hwy
        go_wp2_with (at_builtin; refine wpList_app1 rfl (.tmp 69) (.tmp 70) 23 rfl wr.heap.size 5 _ 1 Try.underlying23 u8_info rfl _ k _ rfl HO9.out _ rfl rfl ?_ ?_ (by have := HWS.out; have := H89.out; omega) ?_; rotate_left 2; intro v10 w10 hown10 hb10 _ _)
        · obtain ⟨q10, d10, rfl, _⟩ := own_form hown10
          have hr10 := own_rd hown10
          rw [show bys l9 ++ [.int .u8 0] = bys (l9 ++ [0]) by simp [bys]] at hr10
          have HF := Lib.hid (first_ok d10 (l9 ++ [0]) 12 hr10 HBS.out (by have := HL9.out; simp; omega) HE9.out (by decide))
          have hl91 : (l9 ++ [(0 : Int)]).length = k + 1 := by have := HL9.out; simp; omega
          rw [hl91] at HF
          clear hl91
          have HB10 := Lib.hid (HB9.out.trans (hb10.mono (by have := HB7.out.size; omega)))
          clear hown10 hr10 hb10
          go_wp2_with fail
          refine HF.out.mono ?_
          rintro e w11 ⟨rfl, hb⟩
          have HB11 := Lib.hid (below_step HB10.out hb)
          clear hb
          go_wp2_with fail
          refine (known_any _).mono ?_
          rintro e w12 ⟨rfl, hb⟩
          go_wp2_with fail
          go_ret
          exact ⟨rfl, below_step HB11.out hb⟩
        · omega
        · omega

theorem bytesNumbers_walk (a : Int) (h : (Lit.int .u64 a).wf = true) (W : World) : Calls Try.prog 3 #[.int .u64 a] W fun e w' => e = .returned (.bool true) ∧ Below W.heap.size W w' := by
  have h2 : 0 ≤ a ∧ a < 18446744073709551616 := by
    simp only [Lit.wf, IntKind.min, IntKind.max, IntKind.signed, IntKind.bits, Bool.and_eq_true, decide_eq_true_eq, Bool.false_eq_true, if_false] at h
    omega
  obtain ⟨n, rfl⟩ : ∃ n : Nat, a = n := ⟨a.toNat, by omega⟩
  exact numbers_any n W (by omega)
end Go.Proofs.Ytmhkbchbglnbpaa
