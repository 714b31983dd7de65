/- Reading a number: the errors. -/
import Derived.Test.YtmhkbchbglnbpaaIndex
namespace Go.Proofs.Ytmhkbchbglnbpaa
open Go.RowKit

section
variable {w : World} {R c k : Nat} {p : Option Addr} {l : List Int}
set_option maxRecDepth 100000 in
/-- No byte ends the number. -/
theorem num_none (h : RS w R p c l k) (hf : fndR (l.drop k) = false) : Calls Try.prog 40 #[.pointer (some ⟨R, 0, none⟩)] w fun e w' => e = .returned (.tuple #[.int .u64 0, .int .i64 (readE (l.drop k))]) ∧ RStep w w' R p c l k := by
  have HR := Lib.hid (rest_any h)
  have HH := Lib.hid h
  have hbig := h.big
  have hle := h.le
  have hcap := h.cap
  obtain ⟨t, ht⟩ : ∃ t : Nat, min (l.length - k) 10 = t := ⟨_, rfl⟩
  have hmin : (if (10 : Int) < ((l.length - k : Nat) : Int) then (10 : Int) else ((l.length - k : Nat) : Int)) = (t : Int) := by split <;> omega
  have hsl := fun w => cut23_h (cutP p k c) (l.length - k) (c - k) .i64 t (by omega) w
  have HIx := Lib.hid fun (w : World) (h : RS w R p c l k) => (by
    have h1 := cut_rd (cut_rd h.rd k l.length c hcap) 0 t (c - k) (by omega)
    have e : (((l.take l.length).drop k).take t).drop 0 = (l.drop k).take 10 := by
      simp only [List.take_length, List.drop_zero]
      by_cases h10 : l.length - k ≤ 10
      · rw [List.take_of_length_le (by simp; omega), List.take_of_length_le (by simp; omega)]
      · rw [show t = 10 by omega]
    rw [e] at h1
    have h2 := index_any (c - k) ((l.drop k).take 10) h1 (by simp; omega)
    rw [show ((l.drop k).take 10).length = t by simp; omega] at h2
    exact h2 : Calls Try.prog 46 #[.slice (cutP (cutP p k c) 0 (c - k)) t (c - k), .func (.func 47) #[] #[]] w fun e w' => e = .returned (.int .i64 (fIi ((l.drop k).take 10))) ∧ w = w')
  have hfi : fIi ((l.drop k).take 10) = -1 := by rw [fIi, if_neg (by have := hf; unfold fndR at this; exact of_decide_eq_false this)]
  rw [hfi] at HIx
  have hml : readE (l.drop k) = if l.length - k < 10 then 4 else 12 := by rw [readE, hf]; simp
  rw [hml]
  clear hml
  have hml := True.intro
  obtain ⟨m, hm⟩ : ∃ m, l.length - k = m := ⟨_, rfl⟩
  obtain ⟨d, hd⟩ : ∃ m, c - k = m := ⟨_, rfl⟩
  rw [hm] at hmin HR hsl ht
  rw [hd] at hsl HIx HR
  have hmd : m ≤ d := by omega
  have htm : t ≤ d := by omega
  have hm2 : m ≤ 1000000 := by omega
  obtain ⟨q, hq⟩ : ∃ q, cutP p k c = q := ⟨_, rfl⟩
  rw [hq] at hsl HIx HR
  obtain ⟨q2, hq2⟩ : ∃ q2, cutP q 0 d = q2 := ⟨_, rfl⟩
  rw [hq2] at hsl HIx
  rw [hm]
  clear hf h hbig hle hcap ht hm hd hq hq2 hfi hml
  obtain ⟨z, hz⟩ : ∃ z : Int, (if m < 10 then (4 : Int) else 12) = z := ⟨_, rfl⟩
  rw [hz]
  have HZ := Lib.hid hz
  clear hz
  go_enter Try.func40, Try.ntmps40
  go_wp2_with fail
  refine HR.out.mono ?_
  rintro ee w1 ⟨rfl, hb⟩
  have HH1 := Lib.hid (HH.out.kept hb)
  go_wp2_with fail
  refine (HIx.out w1 HH1.out).mono ?_
  rintro ee w2 ⟨rfl, rfl⟩
  clear hmin hsl
  by_cases hm10 : m < 10
  · have HZ2 := HZ.out
    rw [if_pos hm10] at HZ2
    subst HZ2
    have hm11 : (m : Int) < 10 := by omega
    go_wp2_with fail
    go_ret2
    exact ⟨rfl, RStep.of_below HH.out hb⟩
  · have HZ2 := HZ.out
    rw [if_neg hm10] at HZ2
    subst HZ2
    have hm11 : decide (m < 10) = false := by simpa using hm10
    go_wp2_with fail
    go_ret2
    exact ⟨rfl, RStep.of_below HH.out hb⟩
set_option maxRecDepth 100000 in
/-- The number is not as it should be written. -/
theorem num_bad (h : RS w R p c l k) (hf : fndR (l.drop k) = true) (hbad : badR (l.drop k) (endR (l.drop k)) = true) : Calls Try.prog 40 #[.pointer (some ⟨R, 0, none⟩)] w fun e w' => e = .returned (.tuple #[.int .u64 0, .int .i64 12]) ∧ RStep w w' R p c l k := by
  obtain ⟨h3, h4⟩ := endR_lt hf
  have HR := Lib.hid (rest_any h)
  have HH := Lib.hid h
  have hbig := h.big
  have hle := h.le
  have hcap := h.cap
  obtain ⟨t, ht⟩ : ∃ t : Nat, min (l.length - k) 10 = t := ⟨_, rfl⟩
  have hmin : (if (10 : Int) < ((l.length - k : Nat) : Int) then (10 : Int) else ((l.length - k : Nat) : Int)) = (t : Int) := by split <;> omega
  have hsl := fun w => cut23_h (cutP p k c) (l.length - k) (c - k) .i64 t (by omega) w
  have HIx := Lib.hid fun (w : World) (h : RS w R p c l k) => (by
    have h1 := cut_rd (cut_rd h.rd k l.length c hcap) 0 t (c - k) (by omega)
    have e : (((l.take l.length).drop k).take t).drop 0 = (l.drop k).take 10 := by
      simp only [List.take_length, List.drop_zero]
      by_cases h10 : l.length - k ≤ 10
      · rw [List.take_of_length_le (by simp; omega), List.take_of_length_le (by simp; omega)]
      · rw [show t = 10 by omega]
    rw [e] at h1
    have h2 := index_any (c - k) ((l.drop k).take 10) h1 (by simp; omega)
    rw [show ((l.drop k).take 10).length = t by simp; omega] at h2
    exact h2 : Calls Try.prog 46 #[.slice (cutP (cutP p k c) 0 (c - k)) t (c - k), .func (.func 47) #[] #[]] w fun e w' => e = .returned (.int .i64 (fIi ((l.drop k).take 10))) ∧ w = w')
  have hfi : fIi ((l.drop k).take 10) = (endR (l.drop k) : Int) := by
    rw [fIi, if_pos (by have := hf; unfold fndR at this; exact of_decide_eq_true this)]; rfl
  rw [hfi] at HIx
  have HRd := Lib.hid fun (w : World) (h : RS w R p c l k) => (by
    have h1 := cut_rd h.rd k l.length c hcap
    rw [List.take_length] at h1
    exact h1 : Rd w w.heap.size (cutP p k c) (bys (l.drop k)))
  obtain ⟨e, he⟩ : ∃ e, endR (l.drop k) = e := ⟨_, rfl⟩
  rw [he] at HIx h3 h4 hbad hfi
  obtain ⟨r, hr⟩ : ∃ r, l.drop k = r := ⟨_, rfl⟩
  have hml : r.length = l.length - k := by rw [← hr]; simp
  have hbs : Bs (l.drop k) := h.bs.drop k
  rw [hr] at HRd h3 hbad hbs
  obtain ⟨x, hx⟩ : ∃ x, r[e] = x := ⟨_, rfl⟩
  have hx0 := hbs.at_ h3
  rw [hx] at hx0
  simp only [badR, List.getD, List.getElem?_eq_getElem h3, hx, Option.getD_some, Bool.or_eq_true, decide_eq_true_eq] at hbad
  have HX : Hid (∀ h' : e < r.length, r[e]'h' = x) := Lib.hid (fun _ => hx)
  obtain ⟨m, hm⟩ : ∃ m, l.length - k = m := ⟨_, rfl⟩
  obtain ⟨d, hd⟩ : ∃ m, c - k = m := ⟨_, rfl⟩
  rw [hm] at hmin HR hsl ht hml
  rw [hd] at hsl HIx HR
  have hmd : m ≤ d := by omega
  have htm : t ≤ d := by omega
  have hm2 : m ≤ 1000000 := by omega
  obtain ⟨q, hq⟩ : ∃ q, cutP p k c = q := ⟨_, rfl⟩
  rw [hq] at hsl HIx HR HRd
  obtain ⟨q2, hq2⟩ : ∃ q2, cutP q 0 d = q2 := ⟨_, rfl⟩
  rw [hq2] at hsl HIx
  have hem : (e : Int) < (m : Int) := by omega
  have H3 := Lib.hid h3
  clear hf h3 h hbig hle hcap ht hfi hr hx hm hd hq hq2 he hml hbs
  go_enter Try.func40, Try.ntmps40
  go_wp2_with fail
  refine HR.out.mono ?_
  rintro ee w1 ⟨rfl, hb⟩
  have HH1 := Lib.hid (HH.out.kept hb)
  go_wp2_with fail
  refine (HIx.out w1 HH1.out).mono ?_
  rintro ee w2 ⟨rfl, rfl⟩
  obtain ⟨b, o, rfl, hbb, hc⟩ := (HRd.out _ HH1.out).byte H3.out
  rw [HX.out H3.out] at hc
  obtain ⟨hx0, hx1⟩ := hx0
  clear hmin hsl
  by_cases hz : 0 < e ∧ x = 0
  · obtain ⟨g1, rfl⟩ := hz
    have g2 : (0 : Int) < (e : Int) := by omega
    clear hbad
    go_wp2_with fail
    go_ret2
    exact ⟨rfl, RStep.of_below HH.out hb⟩
  · have g1 : (0 : Int) < (e : Int) := by omega
    have g2 : (x == 0) = false := by rw [beq_eq_false_iff_ne]; omega
    have g3 : ((e : Int) == 9) = true := by rw [beq_iff_eq]; omega
    have g4 : (1 : Int) < x := by omega
    clear hbad hz
    go_wp2_with fail
    go_ret2
    exact ⟨rfl, RStep.of_below HH.out hb⟩
theorem num_err (h : RS w R p c l k) (hE : readE (l.drop k) ≠ 0) : Calls Try.prog 40 #[.pointer (some ⟨R, 0, none⟩)] w fun e w' => e = .returned (.tuple #[.int .u64 0, .int .i64 (readE (l.drop k))]) ∧ RStep w w' R p c l k := by
  by_cases hf : fndR (l.drop k) = true
  · by_cases hbad : badR (l.drop k) (endR (l.drop k)) = true
    · have : readE (l.drop k) = 12 := by simp [readE, hf, hbad]
      rw [this]
      exact num_bad h hf hbad
    · exact absurd (by simp [readE, hf, hbad]) hE
  · exact num_none h (by simpa using hf)
end
end Go.Proofs.Ytmhkbchbglnbpaa
