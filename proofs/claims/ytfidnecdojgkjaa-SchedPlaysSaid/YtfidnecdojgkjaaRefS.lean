/- The reference's scheduler: last, pick. -/
import Derived.Test.YtfidnecdojgkjaaNext
namespace Go.Proofs.Ytfidnecdojgkjaa
open Go.RowKit

/-- What the reference says of the last time. -/
def lastR (L : List Int) (t : Int) : Int := (lastT L t : Int) - 1
theorem lastR_lt (L : List Int) (x y : Int) : lastR L x < lastR L y ↔ lastT L x < lastT L y := by unfold lastR; omega
set_option maxRecDepth 100000 in
theorem last_any {w : World} (kind : Int) (qn : Option Addr) (nn cn : Nat) (qp : Option Addr) (cp : Nat) (L : List Int) (t : Int) (h : Rd w w.heap.size qp (ints L)) (hl : L.length ≤ 1000000) :
    Calls Try.prog 47 #[.agg #[.int .i64 kind, .slice qn nn cn, .slice qp L.length cp], .int .i64 t] w fun e w' => e = .returned (.int .i64 (lastR L t)) ∧ Below w.heap.size w w' := by
  unfold lastR
  have HB0 := Lib.hid ((Below.refl w.heap.size w).alloc (Nat.le_refl _) (.cells #[.int .i64 kind, .slice qn nn cn, .slice qp L.length cp] 30))
  have HR := Lib.hid (h.kept HB0.out)
  have HL := Lib.hid (show lastT (L.take L.length) t = lastT L t by rw [List.take_length])
  have HN : Hid (∀ j (hj : j < L.length), lastT (L.take (j + 1)) t = if L[j] = t then j + 1 else lastT (L.take j) t) := Lib.hid (fun j hj => lastT_take hj)
  have H0 : Hid (L.length = 0 → lastT L t = 0) := Lib.hid (fun h0 => by rw [List.length_eq_zero_iff.1 h0]; rfl)
  obtain ⟨n, hn⟩ : ∃ n, L.length = n := ⟨_, rfl⟩
  rw [hn] at HB0 HR HL H0 hl ⊢
  have HNN := Lib.hid hn
  clear hn h
  obtain ⟨r, hr⟩ : ∃ r, (lastT L t : Int) - 1 = r := ⟨_, rfl⟩
  rw [hr]
  have HRR := Lib.hid hr
  clear hr
  by_cases hn0 : n = 0
  · have HZ := Lib.hid (H0.out hn0)
    have e1 : (n : Int) - 1 = -1 := by omega
    clear hn0
    go_enter Try.func47, Try.ntmps47
    go_wp2_with fail
    go_loop [5] (fun i => i = .int .i64 (-1)) (fun i => 0)
    case atStart => rfl
    case round =>
      subst hrel
      go_wp2_with fail
      go_ret
      exact ⟨ret_int (by rw [← HRR.out, HZ.out]; rfl), HB0.out⟩
  · obtain ⟨n1, e1⟩ : ∃ n1 : Nat, (n : Int) - 1 = n1 := ⟨n - 1, by omega⟩
    have HS := Lib.hid (show n1 < n ∧ lastT (L.take (n1 + 1)) t = lastT L t by
      have : n1 + 1 = n := by omega
      rw [this]; exact ⟨by omega, HL.out⟩)
    clear hn0
    go_enter Try.func47, Try.ntmps47
    go_wp2_with fail
    go_loop [5] (fun i => (∃ j : Nat, i = .int .i64 j ∧ j < n ∧ Hid (lastT (L.take (j + 1)) t = lastT L t)) ∨ (i = .int .i64 (-1) ∧ Hid (lastT L t = 0))) (fun i => (intOf i + 1).toNat)
    case atStart => exact .inl ⟨n1, rfl, HS.out.1, Lib.hid HS.out.2⟩
    case round =>
      rcases hrel with ⟨j, rfl, hj, HJ⟩ | ⟨rfl, HZ⟩
      · have hji : (j : Int) < (n : Int) := by omega
        have hj2 : j < L.length := by rw [HNN.out]; exact hj
        obtain ⟨bb, oo, rfl, _, hc⟩ := HR.out.int hj2
        have HT := Lib.hid (HN.out j hj2)
        obtain ⟨x, hx⟩ : ∃ x, L[j] = x := ⟨_, rfl⟩
        rw [hx] at hc HT
        clear hx hj2
        by_cases hxt : x = t
        · have hb : (x == t) = true := by simpa using hxt
          have HF := Lib.hid (show (j : Int) = r by rw [← HRR.out, ← HJ.out, HT.out, if_pos hxt]; omega)
          clear hxt
          go_wp2_with fail
          go_ret
          exact ⟨ret_int HF.out, HB0.out⟩
        · have hb : (x == t) = false := by simpa using hxt
          have HF := Lib.hid (show lastT (L.take j) t = lastT L t by rw [← HJ.out, HT.out, if_neg hxt])
          clear hxt
          by_cases hj0 : j = 0
          · have e2 : (j : Int) - 1 = -1 := by omega
            have HZ := Lib.hid (show lastT L t = 0 by rw [← HF.out, hj0]; rfl)
            clear hj0
            go_wp2_with fail
            go_round
            case rel => exact .inr ⟨rfl, HZ⟩
            case measure => simp [intOf]
          · obtain ⟨j1, e2⟩ : ∃ j1 : Nat, (j : Int) - 1 = j1 := ⟨j - 1, by omega⟩
            have HF2 := Lib.hid (show lastT (L.take (j1 + 1)) t = lastT L t by rw [show j1 + 1 = j by omega]; exact HF.out)
            have hj1 : j1 < n := by omega
            clear hj0
            go_wp2_with fail
            go_round
            case rel => exact .inl ⟨j1, rfl, hj1, HF2⟩
            case measure => simp [intOf]; omega
      · go_wp2_with fail
        go_ret
        exact ⟨ret_int (by rw [← HRR.out, HZ.out]; rfl), HB0.out⟩
end Go.Proofs.Ytfidnecdojgkjaa
