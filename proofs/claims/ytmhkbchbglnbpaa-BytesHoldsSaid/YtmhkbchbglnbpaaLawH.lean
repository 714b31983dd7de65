/- BytesHolds. -/
import Derived.Test.YtmhkbchbglnbpaaLawH3
namespace Go.Proofs.Ytmhkbchbglnbpaa
open Go.RowKit

theorem Made.call {P : Program} {f : FuncId} {args : Array Value} {k k' : Kd} {w0 w : World} {Q : Ending → Prop} (h : Made k w0 w) (hc : ∀ S, k w S → Calls P f args w fun e w' => Q e ∧ Step k' w w' S) :
    Calls P f args w fun e w' => Q e ∧ Made k' w0 w' := by
  obtain ⟨S, h1, h2, h3⟩ := h
  refine (hc S h1).mono ?_
  rintro e w' ⟨hq, S', g1, g2, g3⟩
  exact ⟨hq, S', g1, Fr.below h2 g2 h3, fun b hb => by
    rcases g3 b hb with g | g
    · exact h3 b g
    · have := h2.size; omega⟩
theorem left_is {w : World} {R c k : Nat} {p : Option Addr} {l : List Int} (z : Nat) (h : RS w R p c l k) (hz : l.length - k = z) : Calls Try.prog 21 #[.pointer (some ⟨R, 0, none⟩)] w fun e w' => e = .returned (.int .i64 z) ∧ Below w.heap.size w w' := by
  rw [← hz]; exact left_any h
set_option maxRecDepth 100000 in
set_option maxHeartbeats 2000000 in
theorem holds_any (p pb : Option Addr) (c cb : Nat) (l : List Pt) (b : List Int) (W : World) (hr : PtR W p l) (hn : ∀ x ∈ l, 0 ≤ x.n ∧ x.n < 18446744073709551616) (hd : ∀ x ∈ l, Bs x.d) (hl : l.length ≤ 9223372036854775807)
    (hrb : Rd W W.heap.size pb (bys b)) (hb : Bs b) (hcb : b.length ≤ cb) :
    Calls Try.prog 4 #[.slice p l.length c, .slice pb b.length cb] W fun e w' => e = .returned (.bool true) ∧ Below W.heap.size W w' := by
  have HS := Lib.hid (small_any' c l hr hl)
  have HR := Lib.hid hr
  have HN := Lib.hid hn
  have HD := Lib.hid hd
  have HRB := Lib.hid hrb
  have HBB := Lib.hid hb
  have HCB := Lib.hid hcb
  obtain ⟨n, hn'⟩ : ∃ n, l.length = n := ⟨_, rfl⟩
  obtain ⟨m, hm'⟩ : ∃ n, b.length = n := ⟨_, rfl⟩
  rw [hn'] at HS ⊢
  rw [hm']
  have HLN := Lib.hid hn'
  have HLM := Lib.hid hm'
  clear hr hn hd hl hrb hb hcb hn' hm'
  by_cases hs : smallB l = true
  · rw [hs] at HS
    by_cases hm3 : 300 < m
    · have hm4 : (300 : Int) < (m : Int) := by omega
      clear hs
      go_enter Try.func4, Try.ntmps4
      go_wp2_with fail
      refine HS.out.mono ?_
      rintro e w' ⟨rfl, rfl⟩
      go_wp2_with fail
      refine (known_any _).mono ?_
      rintro e w1 ⟨rfl, hb⟩
      go_wp2_with fail
      go_ret
      exact ⟨rfl, hb⟩
    · have hm4 : (m : Int) ≤ 300 := by omega
      obtain ⟨hl40, hd300⟩ := smallB_iff hs
      rw [HLN.out] at hl40
      have HOK := Lib.hid (show ∀ x ∈ l, x.d.length ≤ 300 ∧ x.n < 18446744073709551616 from fun x hx => ⟨hd300 x hx, (HN.out x hx).2⟩)
      have HEL := Lib.hid (enc_len l HOK.out)
      have HEB := Lib.hid (enc_bs l HD.out)
      clear hs hd300 hm3
      go_enter Try.func4, Try.ntmps4
      go_wp2_with fail
      refine HS.out.mono ?_
      rintro e w' ⟨rfl, rfl⟩
      go_wp2_with fail
      have hM0 : Made (Wr W.heap.size (enc (l.take 0))) W (W.alloc (.cells #[.slice none 0 0] 38)) := Wr.made ((Below.refl _ _).alloc (Nat.le_refl _) _) (Blk.new W 38 [.slice none 0 0]) (Nat.le_refl _)
      generalize (W.alloc (.cells #[.slice none 0 0] 38)) = W1 at hM0 ⊢
      have HM0 := Lib.hid hM0
      clear hM0
      go_loopw [29] (fun i wr => ∃ k : Nat, k ≤ n ∧ i = .int .i64 k ∧ Made (Wr W.heap.size (enc (l.take k))) W wr) (fun i _ => n - (intOf i).toNat)
      case atStart => exact ⟨0, Nat.zero_le _, rfl, HM0.out⟩
      case round =>
        obtain ⟨k, hk, rfl, hM⟩ := hrel
        have HM := Lib.hid hM
        clear hM
        by_cases hlt : k < n
        · have hki : (k : Int) < (n : Int) := by omega
          have hlt2 : k < l.length := by rw [HLN.out]; exact hlt
          obtain ⟨bb, oo, rfl, hbb, hc0, hc1, hc2, hrd⟩ := (HR.out.kept HM.out.below).at_ hlt2
          have HET := Lib.hid (enc_take hlt2)
          have hox := HOK.out _ (List.getElem_mem hlt2)
          have hnx := HN.out _ (List.getElem_mem hlt2)
          have hdx := HD.out _ (List.getElem_mem hlt2)
          have hle := enc_le l k
          have hel := HEL.out
          rw [HLN.out] at hel
          have hPB : ∃ x, l[k] = x := ⟨_, rfl⟩
          obtain ⟨⟨xa, xn, xq, xc, xd⟩, hx⟩ := hPB
          rw [hx] at hc0 hc1 hc2 hrd HET hox hnx hdx
          simp only at hc0 hc1 hc2 hrd hox hnx hdx
          obtain ⟨xk, rfl⟩ : ∃ xk : Nat, xn = xk := ⟨xn.toNat, by omega⟩
          obtain ⟨xm, hxm⟩ : ∃ xm, xd.length = xm := ⟨_, rfl⟩
          rw [hxm] at hc2 hox
          have HXM := Lib.hid hxm
          have HRD := Lib.hid hrd
          have HBD := Lib.hid hdx
          have HLL := Lib.hid (show (enc (l.take k)).length ≤ 12400 by omega)
          have HBW := Lib.hid HM.out.below
          have HB0 := Lib.hid ((Below.refl wr.heap.size wr).alloc (Nat.le_refl _) (.cells #[.int .i64 xa, .int .u64 xk, .slice xq xm xc] 40))
          have HMa := Lib.hid (HM.out.then_ (Wr.good _ _) HB0.out)
          have HRDa := Lib.hid (HRD.out.kept HB0.out)
          have HXK := Lib.hid hnx.2
          have HXM3 := Lib.hid hox.1
          clear hx hxm hrd hdx hnx hox hle hel
          by_cases hx0 : xa = 0
          · subst hx0
            have HE1 := Lib.hid (show enc (l.take (k + 1)) = enc (l.take k) ++ numB xk by rw [HET.out, ptB, if_pos rfl, Int.toNat_natCast])
            go_wp2_with fail
            refine (Made.call HMa.out (fun S hS => WNum_any xk (by have := HXK.out; omega) (WrT.of (B := 10) hS (by have := HLL.out; omega)) (.inr ⟨_, rfl⟩) wpost)).mono ?_
            rintro e w2 ⟨rfl, hM2⟩
            have HM2 := Lib.hid hM2
            clear hM2
            go_wp2_with fail
            go_roundw
            case rel => exact ⟨k + 1, by omega, by go_num, by rw [HE1.out]; exact HM2.out⟩
            case measure => simp [intOf]; omega
          · have hx1 : (xa == 0) = false := by rw [beq_eq_false_iff_ne]; exact hx0
            by_cases hx2 : xa = 1
            · subst hx2
              have HE1 := Lib.hid (show enc (l.take (k + 1)) = enc (l.take k) ++ (numB (strOfNums xd).size ++ strB (strOfNums xd)) by rw [HET.out, ptB, if_neg (show ¬ (1 : Int) = 0 by decide), if_pos rfl, strOfNums_size, strB_of xd HBD.out])
              have hcv := conv_any HRDa.out xc
              rw [HXM.out] at hcv
              go_wp2_with fail
              refine (Made.call HMa.out (fun S hS => WString_any (strOfNums xd) (by rw [strOfNums_size, HXM.out]; have := HXM3.out; omega) (WrT.of (B := 10 + (strOfNums xd).size) hS (by rw [strOfNums_size, HXM.out]; have := HXM3.out; have := HLL.out; omega)) (.inr ⟨_, rfl⟩) wpost)).mono ?_
              rintro e w2 ⟨rfl, hM2⟩
              have HM2 := Lib.hid hM2
              clear hM2 hcv
              go_wp2_with fail
              go_roundw
              case rel => exact ⟨k + 1, by omega, by go_num, by rw [HE1.out]; exact HM2.out⟩
              case measure => simp [intOf]; omega
            · have hx3 : (xa == 1) = false := by rw [beq_eq_false_iff_ne]; exact hx2
              have HE1 := Lib.hid (show enc (l.take (k + 1)) = enc (l.take k) ++ xd by rw [HET.out, ptB, if_neg hx0, if_neg hx2])
              have HC := Lib.hid (Made.call HMa.out (fun S hS => WPut_any xq xc xd (WrT.of (B := xm) hS (by have := HXM3.out; have := HLL.out; omega)) HRDa.out (by rw [HXM.out]; exact Nat.le_refl _) (.inr ⟨_, rfl⟩) wpost))
              rw [HXM.out] at HC
              clear hx0 hx2
              go_wp2_with fail
              refine HC.out.mono ?_
              rintro e w2 ⟨rfl, hM2⟩
              have HM2 := Lib.hid hM2
              clear hM2
              go_wp2_with fail
              go_roundw
              case rel => exact ⟨k + 1, by omega, by go_num, by rw [HE1.out]; exact HM2.out⟩
              case measure => simp [intOf]; omega
        · have hkn : k = n := by omega
          subst hkn
          have hM := HM.out
          rw [show l.take k = l by rw [← HLN.out, List.take_length]] at hM
          obtain ⟨S, hW, hBW, hS⟩ := hM
          have hel := HEL.out
          rw [HLN.out] at hel
          have hT : (enc l).length ≤ 12400 := by omega
          obtain ⟨T, hTe⟩ : ∃ T, enc l = T := ⟨_, rfl⟩
          have HTE := Lib.hid hTe
          rw [hTe] at hW hT HEB
          have HT := Lib.hid hT
          have HSf := Lib.hid hS
          have HBW := Lib.hid hBW
          have HWB := Lib.hid (WBytes_any hW (by omega))
          have HW := Lib.hid hW
          clear hTe hT hel hW hBW hS HM
          go_wp2_with fail
          refine HWB.out.mono ?_
          rintro e w2 ⟨v, rfl, hown, hb2⟩
          obtain ⟨q, d, rfl, hld, _⟩ := own_form hown
          have HNew := Lib.hid (new_any q d T w2 (own_rd hown) (by have := HT.out; omega) HEB.out)
          have HW2 := Lib.hid ((Wr.good _ _).kept HW.out hb2)
          have HB2 := Lib.hid (below_step HBW.out hb2)
          obtain ⟨t, ht⟩ : ∃ t, T.length = t := ⟨_, rfl⟩
          rw [ht] at HNew hld ⊢
          have HTL := Lib.hid ht
          clear hown hb2 hld ht
          go_wp2_with fail
          refine HNew.out.mono ?_
          rintro e w3 ⟨R, pr, cr, rfl, hr, hR, hP, hb3⟩
          have HW3 := Lib.hid ((Wr.good _ _).kept HW2.out hb3)
          have HB3 := Lib.hid (below_step HB2.out hb3)
          have HR3 := Lib.hid hr
          have HRw := Lib.hid (show W.heap.size ≤ R by have := HB2.out.size; omega)
          have HSR := Lib.hid (show ∀ x, S x → ¬ x = R from fun x hx e => by have := (Wr.good _ _).lt _ _ HW2.out x hx; omega)
          clear hr hR hP hb3
          go_wp2_with fail
          refine (left_is (t) HR3.out (by rw [HTL.out]; rfl)).mono ?_
          rintro e w4 ⟨rfl, hb4⟩
          have HW4 := Lib.hid ((Wr.good _ _).kept HW3.out hb4)
          have HB4 := Lib.hid (below_step HB3.out hb4)
          have HR4 := Lib.hid (HR3.out.kept hb4)
          have HLen4 := Lib.hid (WLen_any HW4.out (by have := HT.out; omega))
          rw [HTL.out] at HLen4
          clear hb4
          go_wp2_with fail
          refine HLen4.out.mono ?_
          rintro e w5 ⟨rfl, hb5⟩
          have HW5 := Lib.hid ((Wr.good _ _).kept HW4.out hb5)
          have HB5 := Lib.hid (below_step HB4.out hb5)
          have HR5 := Lib.hid (HR4.out.kept hb5)
          clear hb5
          go_wp2_with fail
          have HRz := Lib.hid (show RS w5 R pr cr T (enc (l.take 0)).length from HR5.out)
          go_loopw [62] (fun i wr => ∃ k' : Nat, k' ≤ k ∧ i = .int .i64 k' ∧ RS wr R pr cr T (enc (l.take k')).length ∧ Wr W.heap.size T wr S ∧ Below W.heap.size W wr) (fun i _ => k - (intOf i).toNat)
          case atStart => exact ⟨0, Nat.zero_le _, rfl, HRz.out, HW5.out, HB5.out⟩
          case round =>
            obtain ⟨k', hk', rfl, hR, hW, hB⟩ := hrel
            have HRr := Lib.hid hR
            have HWr := Lib.hid hW
            have HBr := Lib.hid hB
            clear hR hW hB
            by_cases hlt : k' < k
            · have hki : (k' : Int) < (k : Int) := by omega
              have hlt2 : k' < l.length := by rw [HLN.out]; exact hlt
              obtain ⟨bb, oo, rfl, hbb, hc0, hc1, hc2, hrd⟩ := (HR.out.kept HBr.out).at_ hlt2
              have hET := enc_take hlt2
              have hED := enc_drop hlt2
              have hox := HOK.out _ (List.getElem_mem hlt2)
              have hnx := HN.out _ (List.getElem_mem hlt2)
              have hdx := HD.out _ (List.getElem_mem hlt2)
              have hPB : ∃ x, l[k'] = x := ⟨_, rfl⟩
              obtain ⟨⟨xa, xn, xq, xc, xd⟩, hx⟩ := hPB
              rw [hx] at hc0 hc1 hc2 hrd hET hED hox hnx hdx
              simp only at hc0 hc1 hc2 hrd hox hnx hdx
              obtain ⟨xk, rfl⟩ : ∃ xk : Nat, xn = xk := ⟨xn.toNat, by omega⟩
              obtain ⟨xm, hxm⟩ : ∃ xm, xd.length = xm := ⟨_, rfl⟩
              rw [hxm] at hc2 hox
              rw [HTE.out] at hED
              obtain ⟨r, hr⟩ : ∃ r, enc (l.drop (k' + 1)) = r := ⟨_, rfl⟩
              rw [hr] at hED
              obtain ⟨a0, ha0⟩ : ∃ a0, (enc (l.take k')).length = a0 := ⟨_, rfl⟩
              obtain ⟨a1, ha1⟩ : ∃ a1, (enc (l.take (k' + 1))).length = a1 := ⟨_, rfl⟩
              have hA := congrArg List.length hET
              rw [List.length_append, ha0, ha1] at hA
              have hA1 : a1 ≤ t := by
                have := enc_le l (k' + 1)
                rw [HTE.out, HTL.out, ha1] at this
                exact this
              rw [ha0] at HRr hED
              have HA := Lib.hid hA
              have HA1 := Lib.hid ha1
              have HED := Lib.hid hED
              have HXM := Lib.hid hxm
              have HBD := Lib.hid hdx
              have hB0 := (Below.refl wr.heap.size wr).alloc (Nat.le_refl _) (.cells #[.int .i64 xa, .int .u64 xk, .slice xq xm xc] 40)
              have HRa := Lib.hid (HRr.out.kept hB0)
              have HWa := Lib.hid ((Wr.good _ _).kept HWr.out hB0)
              have HBa := Lib.hid (below_step HBr.out hB0)
              have HRDa := Lib.hid (hrd.kept hB0)
              have HXK := Lib.hid hnx.2
              have HXM3 := Lib.hid hox.1
              have HT1 := Lib.hid hA1
              obtain ⟨b1, hb1⟩ : ∃ b1, t - a1 = b1 := ⟨_, rfl⟩
              have HAT := Lib.hid (show (a1 : Int) + (b1 : Int) = (t : Int) by omega)
              have HB1 := Lib.hid hb1
              clear hx hxm hrd hdx hnx hox hET hED hr ha0 ha1 hA hA1 hB0 hb1
              by_cases hx0 : xa = 0
              · subst hx0
                have hp : ptB ⟨0, xk, xq, xc, xd⟩ = numB xk := by rw [ptB, if_pos rfl]; rfl
                have hno := nE_ownr (n := xk) (by have := HXK.out; omega) r
                have hcall := reads_is xk xk 0 HRa.out (by rw [HED.out, hp]; exact hno.2.1) (by rw [HED.out, hp]; exact hno.1)
                rw [HED.out, hp, hno.2.2, ← hp, ← HA.out] at hcall
                clear hp hno
                have HC := Lib.hid hcall
                clear hcall
                go_wp2_with fail
                refine HC.out.mono ?_
                rintro e w6 ⟨rfl, hr6⟩
                have HR6 := Lib.hid hr6.1
                have HW6 := Lib.hid ((Wr.good _ _).fr _ _ _ _ HWa.out hr6.2 HSR.out)
                have HB6 := Lib.hid (Fr.below HBa.out hr6.2 (fun x hx => by subst hx; exact HRw.out))
                clear hr6
                go_wp2_with fail
                refine (at_any HR6.out).mono ?_
                rintro e w' ⟨rfl, rfl⟩
                go_wp2_with fail
                refine (left_is b1 HR6.out (by rw [HTL.out, HB1.out])).mono ?_
                rintro e w7 ⟨rfl, hb7⟩
                have HR7 := Lib.hid (HR6.out.kept hb7)
                have HW7 := Lib.hid ((Wr.good _ _).kept HW6.out hb7)
                have HB7 := Lib.hid (below_step HB6.out hb7)
                have HLen7 := Lib.hid (WLen_any HW7.out (by have := HT.out; omega))
                rw [HTL.out] at HLen7
                clear hb7
                go_wp2_with fail
                refine HLen7.out.mono ?_
                rintro e w8 ⟨rfl, hb8⟩
                have HR8 := Lib.hid (HR7.out.kept hb8)
                have HW8 := Lib.hid ((Wr.good _ _).kept HW7.out hb8)
                have HB8 := Lib.hid (below_step HB7.out hb8)
                have hw64 : wrap64 ((a1 : Int) + (b1 : Int)) = (t : Int) := by
                  have := HAT.out
                  have := HT.out
                  have := HTL.out
                  unfold wrap64
                  omega
                clear hb8
                go_wp2_with fail
                go_roundw
                case rel => exact ⟨k' + 1, by omega, by go_num, by rw [HA1.out]; exact HR8.out, HW8.out, HB8.out⟩
                case measure => simp [intOf]; omega
              · have hx1 : (xa == 0) = false := by rw [beq_eq_false_iff_ne]; exact hx0
                by_cases hx2 : xa = 1
                · subst hx2
                  have hp : ptB ⟨1, xk, xq, xc, xd⟩ = numB xd.length ++ xd := by rw [ptB, if_neg (show ¬ (1 : Int) = 0 by decide), if_pos rfl]
                  have hcall := hears_is (xd.length) (by omega) (by have := HXM.out; have := HXM3.out; omega) (strOfNums xd) 0 HRa.out (by rw [HED.out, hp, (sE_ownr xd r (by have := HXM.out; have := HXM3.out; omega)).2.1]) (by rw [HED.out, hp]; exact (sE_ownr xd r (by have := HXM.out; have := HXM3.out; omega)).1)
                  rw [HED.out, hp, (sE_ownr xd r (by have := HXM.out; have := HXM3.out; omega)).2.2, ← hp, ← HA.out] at hcall
                  have hcv := conv_any HRDa.out xc
                  rw [HXM.out] at hcv hcall
                  have HC := Lib.hid hcall
                  clear hcall hp
                  go_wp2_with fail
                  refine HC.out.mono ?_
                  rintro e w6 ⟨rfl, hr6⟩
                  have HR6 := Lib.hid hr6.1
                  have HW6 := Lib.hid ((Wr.good _ _).fr _ _ _ _ HWa.out hr6.2 HSR.out)
                  have HB6 := Lib.hid (Fr.below HBa.out hr6.2 (fun x hx => by subst hx; exact HRw.out))
                  clear hr6
                  go_wp2_with fail
                  refine (at_any HR6.out).mono ?_
                  rintro e w' ⟨rfl, rfl⟩
                  go_wp2_with fail
                  refine (left_is b1 HR6.out (by rw [HTL.out, HB1.out])).mono ?_
                  rintro e w7 ⟨rfl, hb7⟩
                  have HR7 := Lib.hid (HR6.out.kept hb7)
                  have HW7 := Lib.hid ((Wr.good _ _).kept HW6.out hb7)
                  have HB7 := Lib.hid (below_step HB6.out hb7)
                  have HLen7 := Lib.hid (WLen_any HW7.out (by have := HT.out; omega))
                  rw [HTL.out] at HLen7
                  clear hb7
                  go_wp2_with fail
                  refine HLen7.out.mono ?_
                  rintro e w8 ⟨rfl, hb8⟩
                  have HR8 := Lib.hid (HR7.out.kept hb8)
                  have HW8 := Lib.hid ((Wr.good _ _).kept HW7.out hb8)
                  have HB8 := Lib.hid (below_step HB7.out hb8)
                  have hw64 : wrap64 ((a1 : Int) + (b1 : Int)) = (t : Int) := by
                    have := HAT.out
                    have := HT.out
                    have := HTL.out
                    unfold wrap64
                    omega
                  clear hb8
                  go_wp2_with fail
                  go_roundw
                  case rel => exact ⟨k' + 1, by omega, by go_num, by rw [HA1.out]; exact HR8.out, HW8.out, HB8.out⟩
                  case measure => simp [intOf]; omega
                · have hx3 : (xa == 1) = false := by rw [beq_eq_false_iff_ne]; exact hx2
                  have hp : ptB ⟨xa, xk, xq, xc, xd⟩ = xd := by rw [ptB, if_neg hx0, if_neg hx2]
                  have hcall := takes_is (xd.length) (by omega) (by have := HXM.out; have := HXM3.out; omega) (strOfNums xd) 0 HRa.out (by rw [HED.out, hp, (tE_ownr xd r).2.1]) (by rw [HED.out, hp]; exact (tE_ownr xd r).1)
                  rw [HED.out, hp, (tE_ownr xd r).2.2] at hcall
                  have hA2 := HA.out
                  rw [hp] at hA2
                  rw [← hA2] at hcall
                  have hcv := conv_any HRDa.out xc
                  rw [HXM.out] at hcv hcall
                  have HC := Lib.hid hcall
                  clear hcall hp hx0 hx2 hA2
                  go_wp2_with fail
                  refine HC.out.mono ?_
                  rintro e w6 ⟨rfl, hr6⟩
                  have HR6 := Lib.hid hr6.1
                  have HW6 := Lib.hid ((Wr.good _ _).fr _ _ _ _ HWa.out hr6.2 HSR.out)
                  have HB6 := Lib.hid (Fr.below HBa.out hr6.2 (fun x hx => by subst hx; exact HRw.out))
                  clear hr6
                  go_wp2_with fail
                  refine (at_any HR6.out).mono ?_
                  rintro e w' ⟨rfl, rfl⟩
                  go_wp2_with fail
                  refine (left_is b1 HR6.out (by rw [HTL.out, HB1.out])).mono ?_
                  rintro e w7 ⟨rfl, hb7⟩
                  have HR7 := Lib.hid (HR6.out.kept hb7)
                  have HW7 := Lib.hid ((Wr.good _ _).kept HW6.out hb7)
                  have HB7 := Lib.hid (below_step HB6.out hb7)
                  have HLen7 := Lib.hid (WLen_any HW7.out (by have := HT.out; omega))
                  rw [HTL.out] at HLen7
                  clear hb7
                  go_wp2_with fail
                  refine HLen7.out.mono ?_
                  rintro e w8 ⟨rfl, hb8⟩
                  have HR8 := Lib.hid (HR7.out.kept hb8)
                  have HW8 := Lib.hid ((Wr.good _ _).kept HW7.out hb8)
                  have HB8 := Lib.hid (below_step HB7.out hb8)
                  have hw64 : wrap64 ((a1 : Int) + (b1 : Int)) = (t : Int) := by
                    have := HAT.out
                    have := HT.out
                    have := HTL.out
                    unfold wrap64
                    omega
                  clear hb8
                  go_wp2_with fail
                  go_roundw
                  case rel => exact ⟨k' + 1, by omega, by go_num, by rw [HA1.out]; exact HR8.out, HW8.out, HB8.out⟩
                  case measure => simp [intOf]; omega
            · have hkn : k' = k := by omega
              subst hkn
              have hR := HRr.out
              rw [show l.take k' = l by rw [← HLN.out, List.take_length], HTE.out] at hR
              have HRf := Lib.hid hR
              have HNew2 := Lib.hid (fun (w : World) (hb : Below W.heap.size W w) => new_any pb cb b w (HRB.out.kept hb) (by have := HLM.out; omega) HBB.out)
              rw [HLM.out] at HNew2
              clear hR
              go_wp2_with fail
              refine (end_is 0 HRf.out (by simp)).mono ?_
              rintro e w6 ⟨rfl, hb6⟩
              have HB6 := Lib.hid (below_step HBr.out hb6)
              clear hb6
              go_wp2_with fail
              refine (HNew2.out _ HB6.out).mono ?_
              rintro e w7 ⟨R2, p2, c2, rfl, hr, hR2, hP2, hb7⟩
              have hB7 := below_step HB6.out hb7
              have hB8 : Below W.heap.size W (w7.alloc (.cells #[.slice none 0 0] 38)) := hB7.alloc hB7.size _
              have hL : L3 W (w7.alloc (.cells #[.slice none 0 0] 38)) w7.heap.size R2 c2 p2 b 0 :=
                ⟨fun x => x = w7.heap.size, ⟨_, Blk.new w7 38 [.slice none 0 0], World.ownsRow_nil _ _ _ _, by simp [Value.ownBlock], fun x => by simp [Value.ownBlock]⟩, hr.kept ((Below.refl _ _).alloc (Nat.le_refl _) _), hB8, by have := HB6.out.size; omega, fun x hx => by subst hx; exact ⟨hB7.size, by have := hr.blk.lt; omega, fun a ha => by have := hr.lt a ha; omega⟩⟩
              have HL := Lib.hid hL
              clear hr hR2 hP2 hb7 hB7 hB8 hL
              go_wp2_with fail
              generalize (w7.alloc (.cells #[.slice none 0 0] 38)) = w8 at HL ⊢
              go_loopw [14] (fun i wr => ∃ (j pos : Nat), j ≤ m ∧ i = .int .i64 j ∧ L3 W wr w7.heap.size R2 c2 p2 b pos) (fun i _ => m - (intOf i).toNat)
              case atStart => exact ⟨0, 0, Nat.zero_le _, rfl, HL.out⟩
              case round =>
                obtain ⟨j, pos, hj, rfl, hL⟩ := hrel
                by_cases hltj : j < m
                · have hji : (j : Int) < (m : Int) := by omega
                  have HLz := Lib.hid hL
                  have HC := Lib.hid (num_max hL.rs)
                  have HFit := Lib.hid (readV_fit (HBB.out.drop pos))
                  have HPos := Lib.hid (show (b.take pos).length ≤ 300 by have := HLM.out; simp; omega)
                  clear hL
                  by_cases hE : readE (b.drop pos) = 0
                  · have HTR := Lib.hid (take_read HBB.out hE)
                    rw [hE] at HC
                    obtain ⟨v, hv⟩ : ∃ v, readV (b.drop pos) = v := ⟨_, rfl⟩
                    rw [hv] at HC HTR HFit
                    clear hE hv
                    go_wp2_with fail
                    refine HC.out.mono ?_
                    rintro e wa ⟨rfl, hr⟩
                    obtain ⟨S3, hS3, hst⟩ := L3.step HLz.out hr
                    have HST := Lib.hid hst
                    have HWn := Lib.hid (WNum_any v HFit.out (WrT.of (B := 10) hS3 (by have := HPos.out; omega)) (.inr ⟨_, rfl⟩) wpost)
                    clear hr hS3 hst
                    go_wp2_with fail
                    refine HWn.out.mono ?_
                    rintro e wb ⟨rfl, hs⟩
                    have HL' := Lib.hid (HST.out wb _ HTR.out hs)
                    clear hs
                    go_wp2_with fail
                    go_roundw
                    case rel => exact ⟨j + 1, _, by omega, by go_num, HL'.out⟩
                    case measure => simp [intOf]; omega
                  · have hS0 : readS (b.drop pos) = 0 := by rw [readS, if_neg hE]
                    rw [hS0] at HC
                    obtain ⟨x, hx⟩ : ∃ x, readE (b.drop pos) = x := ⟨_, rfl⟩
                    rw [hx] at HC hE
                    have hx0 : (x == 0) = false := by rw [beq_eq_false_iff_ne]; exact hE
                    have hx1 : (x != 0) = true := by rw [bne_iff_ne]; exact hE
                    clear hE hx hS0
                    go_wp2_with fail
                    refine HC.out.mono ?_
                    rintro e wa ⟨rfl, hr⟩
                    have hL := HLz.out.same hr
                    clear hr
                    have hpm : pos ≤ m := by have := hL.rs.le; have := HLM.out; omega
                    obtain ⟨S9, hW9⟩ := hL.wr
                    have hlen9 : (b.take pos).length = pos := by have := HLM.out; simp; omega
                    have HLen9 := Lib.hid (WLen_any hW9 (by omega))
                    rw [hlen9] at HLen9
                    have HL9 := Lib.hid hL
                    have HTK := Lib.hid hlen9
                    have hpi : (pos : Int) ≤ (m : Int) := by omega
                    clear hW9 hlen9 hL
                    go_wp2_with fail
                    refine HLen9.out.mono ?_
                    rintro e wt ⟨rfl, hb9⟩
                    have HLt := Lib.hid (HL9.out.kept hb9)
                    clear hb9
                    go_upto_region 43 with fail
                    obtain ⟨St, hWt⟩ := HLt.out.wr
                    have HBy := Lib.hid fun (w' : World) (hb : Below wt.heap.size wt w') => WBytes_any ((Wr.good _ _).kept hWt hb) (by have := HTK.out; omega)
                    obtain ⟨ts, hts⟩ : ∃ ts, strOfNums (b.take pos) = ts := ⟨_, rfl⟩
                    have HTS := Lib.hid hts
                    have hsl := fun w => cut23_h pb m cb .i64 pos (by have := HCB.out; have := HLM.out; omega) w
                    have HCV := Lib.hid fun (w' : World) (hb : Below wt.heap.size wt w') => (by
                      have h1 := cut_rd (HRB.out.kept (below_step HLt.out.below hb)) 0 pos cb (by have := HCB.out; have := HLM.out; omega)
                      rw [List.drop_zero] at h1
                      have h2 := conv_any h1 cb
                      rw [HTK.out, hts] at h2
                      exact h2 : (convert 23 9 (.slice (cutP pb 0 cb) pos cb)).run Try.prog w' = .ok (.string ts) w')
                    generalize cutP pb 0 cb = q0 at hsl HCV
                    clear hWt hts hpm
                    refine wp_region_noPanic ?_
                    refine wp_region_held_drew (S := fun w' => (convert 23 9 (.slice q0 pos cb)).run Try.prog w' = .ok (.string ts) w') (by kernel_rfl) (by first | exact HCV.out _ (Below.refl _ _) | exact HCV.out _ ((Below.refl _ _).drew)) (fun hHeld => ?_)
                    refine wpAnyH_take (i := 0) (oi := ⟨some 129, _, _, _, _, _⟩) (v := ?_) rfl (by kernel_rfl) (by kernel_rfl) (by kernel_rfl) (fun _ _ _ h => h) (Or.inl ⟨by rfl, ?_⟩) hHeld ?_
                    rotate_left
                    · (intro w hSw; have hq := hSw; go_simp; try with_reducible rfl)
                    try simp only [Act.put, List.setIfInBounds_toArray, List.set_cons_zero, List.set_cons_succ]
                    refine wpAnyH_take (i := 2) (oi := ⟨some 131, _, _, _, _, _⟩) (v := ?_) rfl (by kernel_rfl) (by kernel_rfl) (by kernel_rfl) (fun _ _ _ h => h) (Or.inl ⟨by rfl, ?_⟩) hHeld ?_
                    rotate_left
                    · (intro w hSw; have hq := hSw; go_simp; try with_reducible rfl)
                    try simp only [Act.put, List.setIfInBounds_toArray, List.set_cons_zero, List.set_cons_succ]
                    refine wpAnyH_ready (rs := [1]) (by kernel_rfl) (by simp) ?_
                    refine (AllReadyH.cons (o := ⟨some 130, _, _, _, _, _⟩) rfl (fun K hK => ?_) AllReadyH.nil)
                    go_simp
                    (refine (at_any (HLt.out.rs.kept ((Below.refl _ _).drew))).mono ?_; rintro e w' ⟨rfl, rfl⟩)
                    refine hK.out _ _ (by first | exact HCV.out _ (Below.refl _ _) | exact HCV.out _ ((Below.refl _ _).drew)) (fun hHeld => ?_)
                    clear hK K
                    try simp only [Act.put, List.setIfInBounds_toArray, List.set_cons_zero, List.set_cons_succ]
                    refine wpAnyH_take (i := 3) (oi := ⟨some 132, _, _, _, _, _⟩) (v := ?_) rfl (by kernel_rfl) (by kernel_rfl) (by kernel_rfl) (fun _ _ _ h => h) (Or.inl ⟨by rfl, ?_⟩) hHeld ?_
                    rotate_left
                    · (intro w hSw; have hq := hSw; go_simp; try with_reducible rfl)
                    try simp only [Act.put, List.setIfInBounds_toArray, List.set_cons_zero, List.set_cons_succ]
                    refine wpAnyH_take (i := 4) (oi := ⟨some 133, _, _, _, _, _⟩) (v := ?_) rfl (by kernel_rfl) (by kernel_rfl) (by kernel_rfl) (fun _ _ _ h => h) (Or.inl ⟨by rfl, ?_⟩) hHeld ?_
                    rotate_left
                    · (intro w hSw; have hq := hSw; go_simp; try with_reducible rfl)
                    try simp only [Act.put, List.setIfInBounds_toArray, List.set_cons_zero, List.set_cons_succ]
                    refine wpAnyH_take (i := 5) (oi := ⟨some 134, _, _, _, _, _⟩) (v := ?_) rfl (by kernel_rfl) (by kernel_rfl) (by kernel_rfl) (fun _ _ _ h => h) (Or.inl ⟨by rfl, ?_⟩) hHeld ?_
                    rotate_left
                    · (intro w hSw; have hq := hSw; go_simp; try with_reducible rfl)
                    try simp only [Act.put, List.setIfInBounds_toArray, List.set_cons_zero, List.set_cons_succ]
                    refine wpAnyH_take (i := 6) (oi := ⟨some 135, _, _, _, _, _⟩) (v := ?_) rfl (by kernel_rfl) (by kernel_rfl) (by kernel_rfl) (fun _ _ _ h => h) (Or.inl ⟨by rfl, ?_⟩) hHeld ?_
                    rotate_left
                    · (intro w hSw; have hq := hSw; go_simp; try with_reducible rfl)
                    try simp only [Act.put, List.setIfInBounds_toArray, List.set_cons_zero, List.set_cons_succ]
                    refine wpAnyH_take (i := 7) (oi := ⟨some 136, _, _, _, _, _⟩) (v := ?_) rfl (by kernel_rfl) (by kernel_rfl) (by kernel_rfl) (fun _ _ _ h => h) (Or.inl ⟨by rfl, ?_⟩) hHeld ?_
                    rotate_left
                    · (intro w hSw; have hq := hSw; go_simp; try with_reducible rfl)
                    try simp only [Act.put, List.setIfInBounds_toArray, List.set_cons_zero, List.set_cons_succ]
                    refine wpAnyH_take (i := 8) (oi := ⟨some 137, _, _, _, _, _⟩) (v := ?_) rfl (by kernel_rfl) (by kernel_rfl) (by kernel_rfl) (fun _ _ _ h => h) (Or.inl ⟨by rfl, ?_⟩) hHeld ?_
                    rotate_left
                    · (intro w hSw; have hq := hSw; go_simp; try with_reducible rfl)
                    try simp only [Act.put, List.setIfInBounds_toArray, List.set_cons_zero, List.set_cons_succ]
                    refine wpAnyH_take (i := 9) (oi := ⟨some 138, _, _, _, _, _⟩) (v := ?_) rfl (by kernel_rfl) (by kernel_rfl) (by kernel_rfl) (fun _ _ _ h => h) (Or.inl ⟨by rfl, ?_⟩) hHeld ?_
                    rotate_left
                    · (intro w hSw; have hq := hSw; go_simp; try with_reducible rfl)
                    try simp only [Act.put, List.setIfInBounds_toArray, List.set_cons_zero, List.set_cons_succ]
                    refine wpAnyH_take (i := 10) (oi := ⟨some 139, _, _, _, _, _⟩) (v := ?_) rfl (by kernel_rfl) (by kernel_rfl) (by kernel_rfl) (fun _ _ _ h => h) (Or.inl ⟨by rfl, ?_⟩) hHeld ?_
                    rotate_left
                    · (intro w hSw; have hq := hSw; go_simp; try with_reducible rfl)
                    try simp only [Act.put, List.setIfInBounds_toArray, List.set_cons_zero, List.set_cons_succ]
                    refine wpAnyH_take (i := 13) (oi := ⟨some 142, _, _, _, _, _⟩) (v := ?_) rfl (by kernel_rfl) (by kernel_rfl) (by kernel_rfl) (fun _ _ _ h => h) (Or.inl ⟨by rfl, ?_⟩) hHeld ?_
                    rotate_left
                    · (intro w hSw; have hq := hSw; go_simp; try with_reducible rfl)
                    try simp only [Act.put, List.setIfInBounds_toArray, List.set_cons_zero, List.set_cons_succ]
                    refine wpAnyH_take (i := 14) (oi := ⟨some 143, _, _, _, _, _⟩) (v := ?_) rfl (by kernel_rfl) (by kernel_rfl) (by kernel_rfl) (fun _ _ _ h => h) (Or.inl ⟨by rfl, ?_⟩) hHeld ?_
                    rotate_left
                    · (intro w hSw; have hq := hSw; go_simp; try with_reducible rfl)
                    try simp only [Act.put, List.setIfInBounds_toArray, List.set_cons_zero, List.set_cons_succ]
                    refine wpAnyH_take (i := 15) (oi := ⟨some 144, _, _, _, _, _⟩) (v := ?_) rfl (by kernel_rfl) (by kernel_rfl) (by kernel_rfl) (fun _ _ _ h => h) (Or.inl ⟨by rfl, ?_⟩) hHeld ?_
                    rotate_left
                    · (intro w hSw; have hq := hSw; go_simp; try with_reducible rfl)
                    try simp only [Act.put, List.setIfInBounds_toArray, List.set_cons_zero, List.set_cons_succ]
                    refine wpAnyH_take (i := 16) (oi := ⟨some 145, _, _, _, _, _⟩) (v := ?_) rfl (by kernel_rfl) (by kernel_rfl) (by kernel_rfl) (fun _ _ _ h => h) (Or.inl ⟨by rfl, ?_⟩) hHeld ?_
                    rotate_left
                    · (intro w hSw; have hq := hSw; go_simp; try with_reducible rfl)
                    try simp only [Act.put, List.setIfInBounds_toArray, List.set_cons_zero, List.set_cons_succ]
                    refine wpAnyH_ready (rs := [11]) (by kernel_rfl) (by simp) ?_
                    refine (AllReadyH.cons (o := ⟨some 140, _, _, _, _, _⟩) rfl (fun K hK => ?_) AllReadyH.nil)
                    go_simp
                    (refine (HBy.out _ ((Below.refl _ _).drew)).mono ?_; rintro e w10 ⟨v, rfl, hown, hb10⟩)
                    obtain ⟨q10, d10, hv10, _⟩ := own_form hown
                    rw [HTK.out] at hv10
                    subst hv10
                    have hcv10 := conv_any (own_rd hown) d10
                    rw [HTK.out, HTS.out] at hcv10
                    have hb11 : Below wt.heap.size wt w10 := ((Below.refl wt.heap.size wt).drew).trans hb10
                    have HB11 := Lib.hid hb11
                    clear hown hb10 hb11
                    refine hK.out _ _ (HCV.out _ HB11.out) (fun hHeld => ?_)
                    clear hK K
                    try simp only [Act.put, List.setIfInBounds_toArray, List.set_cons_zero, List.set_cons_succ]
                    refine wpAnyH_ready (rs := [12]) (by kernel_rfl) (by simp) ?_
                    refine (AllReadyH.cons (o := ⟨some 141, _, _, _, _, _⟩) rfl (fun K hK => ?_) AllReadyH.nil)
                    go_simp
                    refine hK.out _ _ (HCV.out _ HB11.out) (fun hHeld => ?_)
                    clear hK K
                    try simp only [Act.put, List.setIfInBounds_toArray, List.set_cons_zero, List.set_cons_succ]
                    refine wpAnyH_take (i := 17) (oi := ⟨some 146, _, _, _, _, _⟩) (v := ?_) rfl (by kernel_rfl) (by kernel_rfl) (by kernel_rfl) (fun _ _ _ h => h) (Or.inl ⟨by rfl, ?_⟩) hHeld ?_
                    rotate_left
                    · (intro w hSw; have hq := hSw; go_simp; try with_reducible rfl)
                    try simp only [Act.put, List.setIfInBounds_toArray, List.set_cons_zero, List.set_cons_succ]
                    refine wpAnyH_take (i := 18) (oi := ⟨some 147, _, _, _, _, _⟩) (v := ?_) rfl (by kernel_rfl) (by kernel_rfl) (by kernel_rfl) (fun _ _ _ h => h) (Or.inl ⟨by rfl, ?_⟩) hHeld ?_
                    rotate_left
                    · (intro w hSw; have hq := hSw; go_simp; try with_reducible rfl)
                    try simp only [Act.put, List.setIfInBounds_toArray, List.set_cons_zero, List.set_cons_succ]
                    refine wpAnyH_take (i := 19) (oi := ⟨some 148, _, _, _, _, _⟩) (v := ?_) rfl (by kernel_rfl) (by kernel_rfl) (by kernel_rfl) (fun _ _ _ h => h) (Or.inl ⟨by rfl, ?_⟩) hHeld ?_
                    rotate_left
                    · (intro w hSw; have hq := hSw; go_simp; try with_reducible rfl)
                    try simp only [Act.put, List.setIfInBounds_toArray, List.set_cons_zero, List.set_cons_succ]
                    refine wpAnyH_ready (rs := [20]) (by kernel_rfl) (by simp) ?_
                    refine (AllReadyH.cons (o := ⟨some 149, _, _, _, _, _⟩) rfl (fun K hK => ?_) AllReadyH.nil)
                    go_simp
                    (refine (known_any _).mono ?_; rintro e w12 ⟨rfl, hb12⟩)
                    have HB12 := Lib.hid (below_step HB11.out hb12)
                    clear hb12
                    refine hK.out _ _ (HCV.out _ HB12.out) (fun hHeld => ?_)
                    clear hK K
                    try simp only [Act.put, List.setIfInBounds_toArray, List.set_cons_zero, List.set_cons_succ]
                    refine wpAnyH_take (i := 21) (oi := ⟨some 150, _, _, _, _, _⟩) (v := ?_) rfl (by kernel_rfl) (by kernel_rfl) (by kernel_rfl) (fun _ _ _ h => h) (Or.inl ⟨by rfl, ?_⟩) hHeld ?_
                    rotate_left
                    · (intro w hSw; have hq := hSw; go_simp; try with_reducible rfl)
                    try simp only [Act.put, List.setIfInBounds_toArray, List.set_cons_zero, List.set_cons_succ]
                    refine wpAnyH_take (i := 22) (oi := ⟨some 4, _, _, _, _, _⟩) (v := ?_) rfl (by kernel_rfl) (by kernel_rfl) (by kernel_rfl) (fun _ _ _ h => h) (Or.inl ⟨by rfl, ?_⟩) hHeld ?_
                    rotate_left
                    · (intro w hSw; have hq := hSw; go_simp; try with_reducible rfl)
                    try simp only [Act.put, List.setIfInBounds_toArray, List.set_cons_zero, List.set_cons_succ]
                    refine wpAnyH_done (by kernel_rfl) ?_ _
                    refine NoPanic.normal ?_
                    go_wp2_with fail
                    go_ret
                    exact ⟨rfl, below_step HLt.out.below HB12.out⟩
                · clear hj
                  have hpm : pos ≤ m := by have := hL.rs.le; have := HLM.out; omega
                  obtain ⟨S9, hW9⟩ := hL.wr
                  have hlen9 : (b.take pos).length = pos := by have := HLM.out; simp; omega
                  have HLen9 := Lib.hid (WLen_any hW9 (by omega))
                  rw [hlen9] at HLen9
                  have HL9 := Lib.hid hL
                  have HTK := Lib.hid hlen9
                  have hpi : (pos : Int) ≤ (m : Int) := by omega
                  clear hW9 hlen9 hL
                  go_wp2_with fail
                  refine HLen9.out.mono ?_
                  rintro e wt ⟨rfl, hb9⟩
                  have HLt := Lib.hid (HL9.out.kept hb9)
                  clear hb9
                  go_upto_region 43 with fail
                  obtain ⟨St, hWt⟩ := HLt.out.wr
                  have HBy := Lib.hid fun (w' : World) (hb : Below wt.heap.size wt w') => WBytes_any ((Wr.good _ _).kept hWt hb) (by have := HTK.out; omega)
                  obtain ⟨ts, hts⟩ : ∃ ts, strOfNums (b.take pos) = ts := ⟨_, rfl⟩
                  have HTS := Lib.hid hts
                  have hsl := fun w => cut23_h pb m cb .i64 pos (by have := HCB.out; have := HLM.out; omega) w
                  have HCV := Lib.hid fun (w' : World) (hb : Below wt.heap.size wt w') => (by
                    have h1 := cut_rd (HRB.out.kept (below_step HLt.out.below hb)) 0 pos cb (by have := HCB.out; have := HLM.out; omega)
                    rw [List.drop_zero] at h1
                    have h2 := conv_any h1 cb
                    rw [HTK.out, hts] at h2
                    exact h2 : (convert 23 9 (.slice (cutP pb 0 cb) pos cb)).run Try.prog w' = .ok (.string ts) w')
                  generalize cutP pb 0 cb = q0 at hsl HCV
                  clear hWt hts hpm
                  refine wp_region_noPanic ?_
                  refine wp_region_held_drew (S := fun w' => (convert 23 9 (.slice q0 pos cb)).run Try.prog w' = .ok (.string ts) w') (by kernel_rfl) (by first | exact HCV.out _ (Below.refl _ _) | exact HCV.out _ ((Below.refl _ _).drew)) (fun hHeld => ?_)
                  refine wpAnyH_take (i := 0) (oi := ⟨some 129, _, _, _, _, _⟩) (v := ?_) rfl (by kernel_rfl) (by kernel_rfl) (by kernel_rfl) (fun _ _ _ h => h) (Or.inl ⟨by rfl, ?_⟩) hHeld ?_
                  rotate_left
                  · (intro w hSw; have hq := hSw; go_simp; try with_reducible rfl)
                  try simp only [Act.put, List.setIfInBounds_toArray, List.set_cons_zero, List.set_cons_succ]
                  refine wpAnyH_take (i := 2) (oi := ⟨some 131, _, _, _, _, _⟩) (v := ?_) rfl (by kernel_rfl) (by kernel_rfl) (by kernel_rfl) (fun _ _ _ h => h) (Or.inl ⟨by rfl, ?_⟩) hHeld ?_
                  rotate_left
                  · (intro w hSw; have hq := hSw; go_simp; try with_reducible rfl)
                  try simp only [Act.put, List.setIfInBounds_toArray, List.set_cons_zero, List.set_cons_succ]
                  refine wpAnyH_ready (rs := [1]) (by kernel_rfl) (by simp) ?_
                  refine (AllReadyH.cons (o := ⟨some 130, _, _, _, _, _⟩) rfl (fun K hK => ?_) AllReadyH.nil)
                  go_simp
                  (refine (at_any (HLt.out.rs.kept ((Below.refl _ _).drew))).mono ?_; rintro e w' ⟨rfl, rfl⟩)
                  refine hK.out _ _ (by first | exact HCV.out _ (Below.refl _ _) | exact HCV.out _ ((Below.refl _ _).drew)) (fun hHeld => ?_)
                  clear hK K
                  try simp only [Act.put, List.setIfInBounds_toArray, List.set_cons_zero, List.set_cons_succ]
                  refine wpAnyH_take (i := 3) (oi := ⟨some 132, _, _, _, _, _⟩) (v := ?_) rfl (by kernel_rfl) (by kernel_rfl) (by kernel_rfl) (fun _ _ _ h => h) (Or.inl ⟨by rfl, ?_⟩) hHeld ?_
                  rotate_left
                  · (intro w hSw; have hq := hSw; go_simp; try with_reducible rfl)
                  try simp only [Act.put, List.setIfInBounds_toArray, List.set_cons_zero, List.set_cons_succ]
                  refine wpAnyH_take (i := 4) (oi := ⟨some 133, _, _, _, _, _⟩) (v := ?_) rfl (by kernel_rfl) (by kernel_rfl) (by kernel_rfl) (fun _ _ _ h => h) (Or.inl ⟨by rfl, ?_⟩) hHeld ?_
                  rotate_left
                  · (intro w hSw; have hq := hSw; go_simp; try with_reducible rfl)
                  try simp only [Act.put, List.setIfInBounds_toArray, List.set_cons_zero, List.set_cons_succ]
                  refine wpAnyH_take (i := 5) (oi := ⟨some 134, _, _, _, _, _⟩) (v := ?_) rfl (by kernel_rfl) (by kernel_rfl) (by kernel_rfl) (fun _ _ _ h => h) (Or.inl ⟨by rfl, ?_⟩) hHeld ?_
                  rotate_left
                  · (intro w hSw; have hq := hSw; go_simp; try with_reducible rfl)
                  try simp only [Act.put, List.setIfInBounds_toArray, List.set_cons_zero, List.set_cons_succ]
                  refine wpAnyH_take (i := 6) (oi := ⟨some 135, _, _, _, _, _⟩) (v := ?_) rfl (by kernel_rfl) (by kernel_rfl) (by kernel_rfl) (fun _ _ _ h => h) (Or.inl ⟨by rfl, ?_⟩) hHeld ?_
                  rotate_left
                  · (intro w hSw; have hq := hSw; go_simp; try with_reducible rfl)
                  try simp only [Act.put, List.setIfInBounds_toArray, List.set_cons_zero, List.set_cons_succ]
                  refine wpAnyH_take (i := 7) (oi := ⟨some 136, _, _, _, _, _⟩) (v := ?_) rfl (by kernel_rfl) (by kernel_rfl) (by kernel_rfl) (fun _ _ _ h => h) (Or.inl ⟨by rfl, ?_⟩) hHeld ?_
                  rotate_left
                  · (intro w hSw; have hq := hSw; go_simp; try with_reducible rfl)
                  try simp only [Act.put, List.setIfInBounds_toArray, List.set_cons_zero, List.set_cons_succ]
                  refine wpAnyH_take (i := 8) (oi := ⟨some 137, _, _, _, _, _⟩) (v := ?_) rfl (by kernel_rfl) (by kernel_rfl) (by kernel_rfl) (fun _ _ _ h => h) (Or.inl ⟨by rfl, ?_⟩) hHeld ?_
                  rotate_left
                  · (intro w hSw; have hq := hSw; go_simp; try with_reducible rfl)
                  try simp only [Act.put, List.setIfInBounds_toArray, List.set_cons_zero, List.set_cons_succ]
                  refine wpAnyH_take (i := 9) (oi := ⟨some 138, _, _, _, _, _⟩) (v := ?_) rfl (by kernel_rfl) (by kernel_rfl) (by kernel_rfl) (fun _ _ _ h => h) (Or.inl ⟨by rfl, ?_⟩) hHeld ?_
                  rotate_left
                  · (intro w hSw; have hq := hSw; go_simp; try with_reducible rfl)
                  try simp only [Act.put, List.setIfInBounds_toArray, List.set_cons_zero, List.set_cons_succ]
                  refine wpAnyH_take (i := 10) (oi := ⟨some 139, _, _, _, _, _⟩) (v := ?_) rfl (by kernel_rfl) (by kernel_rfl) (by kernel_rfl) (fun _ _ _ h => h) (Or.inl ⟨by rfl, ?_⟩) hHeld ?_
                  rotate_left
                  · (intro w hSw; have hq := hSw; go_simp; try with_reducible rfl)
                  try simp only [Act.put, List.setIfInBounds_toArray, List.set_cons_zero, List.set_cons_succ]
                  refine wpAnyH_take (i := 13) (oi := ⟨some 142, _, _, _, _, _⟩) (v := ?_) rfl (by kernel_rfl) (by kernel_rfl) (by kernel_rfl) (fun _ _ _ h => h) (Or.inl ⟨by rfl, ?_⟩) hHeld ?_
                  rotate_left
                  · (intro w hSw; have hq := hSw; go_simp; try with_reducible rfl)
                  try simp only [Act.put, List.setIfInBounds_toArray, List.set_cons_zero, List.set_cons_succ]
                  refine wpAnyH_take (i := 14) (oi := ⟨some 143, _, _, _, _, _⟩) (v := ?_) rfl (by kernel_rfl) (by kernel_rfl) (by kernel_rfl) (fun _ _ _ h => h) (Or.inl ⟨by rfl, ?_⟩) hHeld ?_
                  rotate_left
                  · (intro w hSw; have hq := hSw; go_simp; try with_reducible rfl)
                  try simp only [Act.put, List.setIfInBounds_toArray, List.set_cons_zero, List.set_cons_succ]
                  refine wpAnyH_take (i := 15) (oi := ⟨some 144, _, _, _, _, _⟩) (v := ?_) rfl (by kernel_rfl) (by kernel_rfl) (by kernel_rfl) (fun _ _ _ h => h) (Or.inl ⟨by rfl, ?_⟩) hHeld ?_
                  rotate_left
                  · (intro w hSw; have hq := hSw; go_simp; try with_reducible rfl)
                  try simp only [Act.put, List.setIfInBounds_toArray, List.set_cons_zero, List.set_cons_succ]
                  refine wpAnyH_take (i := 16) (oi := ⟨some 145, _, _, _, _, _⟩) (v := ?_) rfl (by kernel_rfl) (by kernel_rfl) (by kernel_rfl) (fun _ _ _ h => h) (Or.inl ⟨by rfl, ?_⟩) hHeld ?_
                  rotate_left
                  · (intro w hSw; have hq := hSw; go_simp; try with_reducible rfl)
                  try simp only [Act.put, List.setIfInBounds_toArray, List.set_cons_zero, List.set_cons_succ]
                  refine wpAnyH_ready (rs := [11]) (by kernel_rfl) (by simp) ?_
                  refine (AllReadyH.cons (o := ⟨some 140, _, _, _, _, _⟩) rfl (fun K hK => ?_) AllReadyH.nil)
                  go_simp
                  (refine (HBy.out _ ((Below.refl _ _).drew)).mono ?_; rintro e w10 ⟨v, rfl, hown, hb10⟩)
                  obtain ⟨q10, d10, hv10, _⟩ := own_form hown
                  rw [HTK.out] at hv10
                  subst hv10
                  have hcv10 := conv_any (own_rd hown) d10
                  rw [HTK.out, HTS.out] at hcv10
                  have hb11 : Below wt.heap.size wt w10 := ((Below.refl wt.heap.size wt).drew).trans hb10
                  have HB11 := Lib.hid hb11
                  clear hown hb10 hb11
                  refine hK.out _ _ (HCV.out _ HB11.out) (fun hHeld => ?_)
                  clear hK K
                  try simp only [Act.put, List.setIfInBounds_toArray, List.set_cons_zero, List.set_cons_succ]
                  refine wpAnyH_ready (rs := [12]) (by kernel_rfl) (by simp) ?_
                  refine (AllReadyH.cons (o := ⟨some 141, _, _, _, _, _⟩) rfl (fun K hK => ?_) AllReadyH.nil)
                  go_simp
                  refine hK.out _ _ (HCV.out _ HB11.out) (fun hHeld => ?_)
                  clear hK K
                  try simp only [Act.put, List.setIfInBounds_toArray, List.set_cons_zero, List.set_cons_succ]
                  refine wpAnyH_take (i := 17) (oi := ⟨some 146, _, _, _, _, _⟩) (v := ?_) rfl (by kernel_rfl) (by kernel_rfl) (by kernel_rfl) (fun _ _ _ h => h) (Or.inl ⟨by rfl, ?_⟩) hHeld ?_
                  rotate_left
                  · (intro w hSw; have hq := hSw; go_simp; try with_reducible rfl)
                  try simp only [Act.put, List.setIfInBounds_toArray, List.set_cons_zero, List.set_cons_succ]
                  refine wpAnyH_take (i := 18) (oi := ⟨some 147, _, _, _, _, _⟩) (v := ?_) rfl (by kernel_rfl) (by kernel_rfl) (by kernel_rfl) (fun _ _ _ h => h) (Or.inl ⟨by rfl, ?_⟩) hHeld ?_
                  rotate_left
                  · (intro w hSw; have hq := hSw; go_simp; try with_reducible rfl)
                  try simp only [Act.put, List.setIfInBounds_toArray, List.set_cons_zero, List.set_cons_succ]
                  refine wpAnyH_take (i := 19) (oi := ⟨some 148, _, _, _, _, _⟩) (v := ?_) rfl (by kernel_rfl) (by kernel_rfl) (by kernel_rfl) (fun _ _ _ h => h) (Or.inl ⟨by rfl, ?_⟩) hHeld ?_
                  rotate_left
                  · (intro w hSw; have hq := hSw; go_simp; try with_reducible rfl)
                  try simp only [Act.put, List.setIfInBounds_toArray, List.set_cons_zero, List.set_cons_succ]
                  refine wpAnyH_ready (rs := [20]) (by kernel_rfl) (by simp) ?_
                  refine (AllReadyH.cons (o := ⟨some 149, _, _, _, _, _⟩) rfl (fun K hK => ?_) AllReadyH.nil)
                  go_simp
                  (refine (known_any _).mono ?_; rintro e w12 ⟨rfl, hb12⟩)
                  have HB12 := Lib.hid (below_step HB11.out hb12)
                  clear hb12
                  refine hK.out _ _ (HCV.out _ HB12.out) (fun hHeld => ?_)
                  clear hK K
                  try simp only [Act.put, List.setIfInBounds_toArray, List.set_cons_zero, List.set_cons_succ]
                  refine wpAnyH_take (i := 21) (oi := ⟨some 150, _, _, _, _, _⟩) (v := ?_) rfl (by kernel_rfl) (by kernel_rfl) (by kernel_rfl) (fun _ _ _ h => h) (Or.inl ⟨by rfl, ?_⟩) hHeld ?_
                  rotate_left
                  · (intro w hSw; have hq := hSw; go_simp; try with_reducible rfl)
                  try simp only [Act.put, List.setIfInBounds_toArray, List.set_cons_zero, List.set_cons_succ]
                  refine wpAnyH_take (i := 22) (oi := ⟨some 4, _, _, _, _, _⟩) (v := ?_) rfl (by kernel_rfl) (by kernel_rfl) (by kernel_rfl) (fun _ _ _ h => h) (Or.inl ⟨by rfl, ?_⟩) hHeld ?_
                  rotate_left
                  · (intro w hSw; have hq := hSw; go_simp; try with_reducible rfl)
                  try simp only [Act.put, List.setIfInBounds_toArray, List.set_cons_zero, List.set_cons_succ]
                  refine wpAnyH_done (by kernel_rfl) ?_ _
                  refine NoPanic.normal ?_
                  go_wp2_with fail
                  go_ret
                  exact ⟨rfl, below_step HLt.out.below HB12.out⟩
  · rw [Bool.not_eq_true] at hs
    rw [hs] at HS
    clear hs
    go_enter Try.func4, Try.ntmps4
    go_wp2_with fail
    refine HS.out.mono ?_
    rintro e w' ⟨rfl, rfl⟩
    go_wp2_with fail
    refine (known_any _).mono ?_
    rintro e w1 ⟨rfl, hb⟩
    go_wp2_with fail
    go_ret
    exact ⟨rfl, hb⟩
end Go.Proofs.Ytmhkbchbglnbpaa
