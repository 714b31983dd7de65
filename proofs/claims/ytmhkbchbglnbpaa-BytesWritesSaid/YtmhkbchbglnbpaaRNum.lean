/- Reading a number. -/
import Derived.Test.YtmhkbchbglnbpaaIndex
namespace Go.Proofs.Ytmhkbchbglnbpaa
open Go.RowKit

section
variable {w : World} {R c k : Nat} {p : Option Addr} {l : List Int}
set_option maxRecDepth 100000 in
theorem num_any (h : RS w R p c l k) (hE : readE (l.drop k) = 0) : Calls Try.prog 40 #[.pointer (some ⟨R, 0, none⟩)] w fun e w' => e = .returned (.tuple #[.int .u64 (readV (l.drop k)), .int .i64 0]) ∧ RStep w w' R p c l (k + readS (l.drop k)) := by
  obtain ⟨hf, hbad⟩ := readE_fnd hE
  obtain ⟨h3, h4⟩ := endR_lt hf
  have HR := Lib.hid (rest_any h)
  have HH := Lib.hid h
  have hbig := h.big
  have hle := h.le
  have hcap := h.cap
  obtain ⟨t, ht⟩ : ∃ t : Nat, min (l.length - k) 10 = t := ⟨_, rfl⟩
  have hmin : (if (10 : Int) < ((l.length - k : Nat) : Int) then (10 : Int) else ((l.length - k : Nat) : Int)) = (t : Int) := by split <;> omega
  have hsl := fun w => cut23_h (cutP p k c) (l.length - k) (c - k) .i64 t (by omega) w
  have HIx := Lib.hid fun (w : World) (h : RS w R p c l k) => (by
    have h1 := cut_rd (cut_rd h.rd k l.length c hcap) 0 t (c - k) (by omega)
    have e : (((l.take l.length).drop k).take t).drop 0 = (l.drop k).take 10 := by
      simp only [List.take_length, List.drop_zero]
      by_cases h10 : l.length - k ≤ 10
      · rw [List.take_of_length_le (by simp; omega), List.take_of_length_le (by simp; omega)]
      · rw [show t = 10 by omega]
    rw [e] at h1
    have h2 := index_any (c - k) ((l.drop k).take 10) h1 (by simp; omega)
    rw [show ((l.drop k).take 10).length = t by simp; omega] at h2
    exact h2 : Calls Try.prog 46 #[.slice (cutP (cutP p k c) 0 (c - k)) t (c - k), .func (.func 47) #[] #[]] w fun e w' => e = .returned (.int .i64 (fIi ((l.drop k).take 10))) ∧ w = w')
  have hfi : fIi ((l.drop k).take 10) = (endR (l.drop k) : Int) := by
    rw [fIi, if_pos (by have := hf; unfold fndR at this; exact of_decide_eq_true this)]; rfl
  rw [hfi] at HIx
  have HRd := Lib.hid fun (w : World) (h : RS w R p c l k) => (by
    have h1 := cut_rd h.rd k l.length c hcap
    rw [List.take_length] at h1
    exact h1 : Rd w w.heap.size (cutP p k c) (bys (l.drop k)))
  have HV := Lib.hid hE
  obtain ⟨e, he⟩ : ∃ e, endR (l.drop k) = e := ⟨_, rfl⟩
  rw [he] at HIx h3 h4 hbad hfi
  have hc2 : ∀ w : World, RS w R p c l k → w.cell? ⟨R, 2, none⟩ = some (.int .i64 k) := fun w h => h.blk.cell 2
  have hf2 : ∀ w : World, RS w R p c l k → w.frozen? ⟨R, 2, none⟩ = false := fun w h => h.blk.free 2
  have hbs : Bs (l.drop k) := h.bs.drop k
  have HF := Lib.hid (val_fit hbs hE)
  have HVe := Lib.hid (show readV (l.drop k) = val ((l.drop k).take (e + 1)) by rw [readV, if_pos hE, he])
  have HSe := Lib.hid (show readS (l.drop k) = e + 1 by rw [readS, if_pos hE, he])
  rw [he] at HF
  obtain ⟨r, hr⟩ : ∃ r, l.drop k = r := ⟨_, rfl⟩
  have hrl : r.length = l.length - k := by rw [← hr]; simp
  rw [hr] at HRd h3 hbad hbs HF HVe HSe HV ⊢
  obtain ⟨x, hx⟩ : ∃ x, r[e] = x := ⟨_, rfl⟩
  have hx0 := hbs.at_ h3
  rw [hx] at hx0
  simp only [badR, List.getD, List.getElem?_eq_getElem h3, hx, Option.getD_some, Bool.or_eq_false_iff, decide_eq_false_iff_not] at hbad
  obtain ⟨hb1, hb2⟩ := hbad
  have HX : Hid (∀ h' : e < r.length, r[e]'h' = x) := Lib.hid (fun _ => hx)
  obtain ⟨m, hm⟩ : ∃ m, l.length - k = m := ⟨_, rfl⟩
  obtain ⟨d, hd⟩ : ∃ m, c - k = m := ⟨_, rfl⟩
  rw [hm] at hmin HR hsl hrl ht
  rw [hd] at hsl HIx HR
  have hmd : m ≤ d := by omega
  have htm : t ≤ d := by omega
  have hm2 : m ≤ 1000000 := by omega
  have hkb : k ≤ 1000000 := by omega
  have HKE := Lib.hid (show k + (e + 1) ≤ l.length by omega)
  have hem : (e : Int) < (m : Int) := by omega
  obtain ⟨q, hq⟩ : ∃ q, cutP p k c = q := ⟨_, rfl⟩
  rw [hq] at hsl HIx HRd HR
  obtain ⟨q2, hq2⟩ : ∃ q2, cutP q 0 d = q2 := ⟨_, rfl⟩
  rw [hq2] at hsl HIx
  have HRL := Lib.hid hrl
  have H3 := Lib.hid h3
  clear hE hf h3 h hbig hle hcap ht hfi hr hrl hx hm hd hq hq2 he
  go_enter Try.func40, Try.ntmps40
  go_wp2_with fail
  refine HR.out.mono ?_
  rintro ee w1 ⟨rfl, hb⟩
  have HH1 := Lib.hid (HH.out.kept hb)
  go_wp2_with fail
  refine (HIx.out w1 HH1.out).mono ?_
  rintro ee w2 ⟨rfl, rfl⟩
  obtain ⟨b, o, rfl, hbb, hc⟩ := (HRd.out _ HH1.out).byte H3.out
  rw [HX.out H3.out] at hc
  obtain ⟨hx0, hx1⟩ := hx0
  clear hmin hsl
  by_cases he0 : e = 0
  · have g1 : decide (0 < e) = false := by simp; omega
    have g3 : ((e : Int) == 9) = false := by rw [beq_eq_false_iff_ne]; omega
    have g2 := trivial
    clear he0 hb1 hb2
    go_upto_region 7 with fail
    go_wp2_with fail
    go_loopw [6, 7] (fun n i wr => ∃ j : Nat, j ≤ e + 1 ∧ i = .int .i64 ((j : Int) - 1) ∧ n = .int .u64 (val ((r.take (e + 1)).drop j)) ∧ w1 = wr) (fun _ i _ => (intOf i + 1).toNat)
    case atStart => exact ⟨e + 1, Nat.le_refl _, by go_num, by simp [val], rfl⟩
    case round =>
      obtain ⟨j, hj, rfl, rfl, rfl⟩ := hrel
      rcases j with _ | j
      · have HW := Lib.hid (show val ((r.take (e + 1)).drop 0) = readV r by rw [HVe.out]; rfl)
        have hc3 := hc2 _ HH1.out
        have hf3 := hf2 _ HH1.out
        have hlt : decide ((0 : Int) ≤ ((0 : Nat) : Int) - 1) = false := by decide
        clear hc hc2 hf2
        generalize val ((r.take (e + 1)).drop 0) = vv at *
        go_wp2_with fail
        go_ret2
        have h4 := (RStep.of_below HH.out hb).set_ (j := k + (e + 1)) HKE.out
        refine ⟨by rw [HW.out]; rfl, ?_⟩
        rw [HSe.out]
        rw [show ((k + (e + 1) : Nat) : Int) = (k : Int) + ((e : Int) + 1) by omega] at h4
        exact h4
      · have hjr : j < r.length := by have := H3.out; omega
        obtain ⟨_, _, hbo, _, hc3⟩ := (HRd.out _ HH1.out).byte hjr
        injection hbo with hbo
        injection hbo with hbo1 hbo2
        subst hbo1 hbo2
        obtain ⟨y, hy⟩ : ∃ y, r[j] = y := ⟨_, rfl⟩
        have hy0 := hbs.at_ hjr
        rw [hy] at hc3 hy0
        obtain ⟨hy0, hy1⟩ := hy0
        have hjt : j < (r.take (e + 1)).length := by simp; omega
        have hst := val_step (r.take (e + 1)) hjt
        have hle := val_drop (r.take (e + 1)) j
        have hfit := HF.out
        have ey : (r.take (e + 1))[j] = y := by rw [List.getElem_take, hy]
        rw [ey] at hst
        rw [show ((j + 1 : Nat) : Int) - 1 = (j : Int) by omega]
        generalize val ((r.take (e + 1)).drop (j + 1)) = v at hst ⊢
        have hcl := clr128 hy0 hy1
        have hjm : (j : Int) < (m : Int) := by omega
        have hv : (v : Int) * 128 < 18446744073709551616 := by omega
        have HST := Lib.hid hst
        have HFT := Lib.hid (show val ((r.take (e + 1)).drop j) < 18446744073709551616 by omega)
        clear hc hc2 hf2 hy hst hle hfit ey g1 g2 g3 hem hjr hjt
        go_wp2_with fail
        refine ⟨⟨j, by omega, rfl, ?_, trivial⟩, by simp [intOf]⟩
        have e1 : max y 0 % 128 = y % 128 := by omega
        rw [e1, or_u64 (by omega) hv (by omega) (by omega)]
        have := HST.out
        congr 1
        omega
  by_cases he9 : e = 9
  · have g1 : (0 : Int) < (e : Int) := by omega
    have g2 : (x == 0) = false := by rw [beq_eq_false_iff_ne]; exact fun hh => hb1 ⟨by omega, hh⟩
    have g3 : ((e : Int) == 9) = true := by rw [beq_iff_eq]; omega
    have g4 : decide (1 < x) = false := by simp; omega
    clear he0 he9 hb1 hb2
    go_upto_region 7 with fail
    go_wp2_with fail
    go_loopw [6, 7] (fun n i wr => ∃ j : Nat, j ≤ e + 1 ∧ i = .int .i64 ((j : Int) - 1) ∧ n = .int .u64 (val ((r.take (e + 1)).drop j)) ∧ w1 = wr) (fun _ i _ => (intOf i + 1).toNat)
    case atStart => exact ⟨e + 1, Nat.le_refl _, by go_num, by simp [val], rfl⟩
    case round =>
      obtain ⟨j, hj, rfl, rfl, rfl⟩ := hrel
      rcases j with _ | j
      · have HW := Lib.hid (show val ((r.take (e + 1)).drop 0) = readV r by rw [HVe.out]; rfl)
        have hc3 := hc2 _ HH1.out
        have hf3 := hf2 _ HH1.out
        have hlt : decide ((0 : Int) ≤ ((0 : Nat) : Int) - 1) = false := by decide
        clear hc hc2 hf2
        generalize val ((r.take (e + 1)).drop 0) = vv at *
        go_wp2_with fail
        go_ret2
        have h4 := (RStep.of_below HH.out hb).set_ (j := k + (e + 1)) HKE.out
        refine ⟨by rw [HW.out]; rfl, ?_⟩
        rw [HSe.out]
        rw [show ((k + (e + 1) : Nat) : Int) = (k : Int) + ((e : Int) + 1) by omega] at h4
        exact h4
      · have hjr : j < r.length := by have := H3.out; omega
        obtain ⟨_, _, hbo, _, hc3⟩ := (HRd.out _ HH1.out).byte hjr
        injection hbo with hbo
        injection hbo with hbo1 hbo2
        subst hbo1 hbo2
        obtain ⟨y, hy⟩ : ∃ y, r[j] = y := ⟨_, rfl⟩
        have hy0 := hbs.at_ hjr
        rw [hy] at hc3 hy0
        obtain ⟨hy0, hy1⟩ := hy0
        have hjt : j < (r.take (e + 1)).length := by simp; omega
        have hst := val_step (r.take (e + 1)) hjt
        have hle := val_drop (r.take (e + 1)) j
        have hfit := HF.out
        have ey : (r.take (e + 1))[j] = y := by rw [List.getElem_take, hy]
        rw [ey] at hst
        rw [show ((j + 1 : Nat) : Int) - 1 = (j : Int) by omega]
        generalize val ((r.take (e + 1)).drop (j + 1)) = v at hst ⊢
        have hcl := clr128 hy0 hy1
        have hjm : (j : Int) < (m : Int) := by omega
        have hv : (v : Int) * 128 < 18446744073709551616 := by omega
        have HST := Lib.hid hst
        have HFT := Lib.hid (show val ((r.take (e + 1)).drop j) < 18446744073709551616 by omega)
        clear hc hc2 hf2 hy hst hle hfit ey g1 g2 g3 hem hjr hjt
        go_wp2_with fail
        refine ⟨⟨j, by omega, rfl, ?_, trivial⟩, by simp [intOf]⟩
        have e1 : max y 0 % 128 = y % 128 := by omega
        rw [e1, or_u64 (by omega) hv (by omega) (by omega)]
        have := HST.out
        congr 1
        omega
  · have g1 : (0 : Int) < (e : Int) := by omega
    have g2 : (x == 0) = false := by rw [beq_eq_false_iff_ne]; exact fun hh => hb1 ⟨by omega, hh⟩
    have g3 : ((e : Int) == 9) = false := by rw [beq_eq_false_iff_ne]; omega
    clear he0 he9 hb1 hb2
    go_upto_region 7 with fail
    go_wp2_with fail
    go_loopw [6, 7] (fun n i wr => ∃ j : Nat, j ≤ e + 1 ∧ i = .int .i64 ((j : Int) - 1) ∧ n = .int .u64 (val ((r.take (e + 1)).drop j)) ∧ w1 = wr) (fun _ i _ => (intOf i + 1).toNat)
    case atStart => exact ⟨e + 1, Nat.le_refl _, by go_num, by simp [val], rfl⟩
    case round =>
      obtain ⟨j, hj, rfl, rfl, rfl⟩ := hrel
      rcases j with _ | j
      · have HW := Lib.hid (show val ((r.take (e + 1)).drop 0) = readV r by rw [HVe.out]; rfl)
        have hc3 := hc2 _ HH1.out
        have hf3 := hf2 _ HH1.out
        have hlt : decide ((0 : Int) ≤ ((0 : Nat) : Int) - 1) = false := by decide
        clear hc hc2 hf2
        generalize val ((r.take (e + 1)).drop 0) = vv at *
        go_wp2_with fail
        go_ret2
        have h4 := (RStep.of_below HH.out hb).set_ (j := k + (e + 1)) HKE.out
        refine ⟨by rw [HW.out]; rfl, ?_⟩
        rw [HSe.out]
        rw [show ((k + (e + 1) : Nat) : Int) = (k : Int) + ((e : Int) + 1) by omega] at h4
        exact h4
      · have hjr : j < r.length := by have := H3.out; omega
        obtain ⟨_, _, hbo, _, hc3⟩ := (HRd.out _ HH1.out).byte hjr
        injection hbo with hbo
        injection hbo with hbo1 hbo2
        subst hbo1 hbo2
        obtain ⟨y, hy⟩ : ∃ y, r[j] = y := ⟨_, rfl⟩
        have hy0 := hbs.at_ hjr
        rw [hy] at hc3 hy0
        obtain ⟨hy0, hy1⟩ := hy0
        have hjt : j < (r.take (e + 1)).length := by simp; omega
        have hst := val_step (r.take (e + 1)) hjt
        have hle := val_drop (r.take (e + 1)) j
        have hfit := HF.out
        have ey : (r.take (e + 1))[j] = y := by rw [List.getElem_take, hy]
        rw [ey] at hst
        rw [show ((j + 1 : Nat) : Int) - 1 = (j : Int) by omega]
        generalize val ((r.take (e + 1)).drop (j + 1)) = v at hst ⊢
        have hcl := clr128 hy0 hy1
        have hjm : (j : Int) < (m : Int) := by omega
        have hv : (v : Int) * 128 < 18446744073709551616 := by omega
        have HST := Lib.hid hst
        have HFT := Lib.hid (show val ((r.take (e + 1)).drop j) < 18446744073709551616 by omega)
        clear hc hc2 hf2 hy hst hle hfit ey g1 g2 g3 hem hjr hjt
        go_wp2_with fail
        refine ⟨⟨j, by omega, rfl, ?_, trivial⟩, by simp [intOf]⟩
        have e1 : max y 0 % 128 = y % 128 := by omega
        rw [e1, or_u64 (by omega) hv (by omega) (by omega)]
        have := HST.out
        congr 1
        omega
end
end Go.Proofs.Ytmhkbchbglnbpaa
