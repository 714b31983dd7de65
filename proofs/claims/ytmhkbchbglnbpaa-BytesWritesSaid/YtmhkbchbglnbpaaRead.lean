/- whole, Num, String, Take of a reader. -/
import Derived.Test.YtmhkbchbglnbpaaRNum
import Derived.Test.YtmhkbchbglnbpaaRErr
namespace Go.Proofs.Ytmhkbchbglnbpaa
open Go.RowKit

section
variable {w : World} {R c k : Nat} {p : Option Addr} {l : List Int}
theorem whole_any (h : RS w R p c l k) : Calls Try.prog 39 #[.pointer (some ⟨R, 0, none⟩), .func (.func 40) #[] #[]] w fun e w' => e = .returned (.tuple #[.int .u64 (readV (l.drop k)), .int .i64 (readE (l.drop k))]) ∧ RStep w w' R p c l (k + readS (l.drop k)) := by
  have h2 : w.cell? ⟨R, 2, none⟩ = some (.int .i64 k) := h.blk.cell 2
  have HZ := Lib.hid (zero_any h)
  have HL := Lib.hid h.le
  by_cases hE : readE (l.drop k) = 0
  · have HN := Lib.hid (num_any h hE)
    rw [hE]
    clear hE h
    go_enter Try.func39, Try.ntmps39
    go_wp2_with fail
    refine HZ.out.mono ?_
    rintro e w1 ⟨rfl, rfl⟩
    go_wp2_with fail
    refine HN.out.mono ?_
    rintro e w1 ⟨rfl, hr⟩
    go_wp2_with fail
    go_ret2
    exact ⟨rfl, hr⟩
  · have HN := Lib.hid (num_err h hE)
    have e1 : readV (l.drop k) = 0 := by rw [readV, if_neg hE]
    have e2 : readS (l.drop k) = 0 := by rw [readS, if_neg hE]
    rw [e1, e2]
    obtain ⟨x, hx⟩ : ∃ x, readE (l.drop k) = x := ⟨_, rfl⟩
    rw [hx] at HN hE ⊢
    have hx0 : (x == 0) = false := by rw [beq_eq_false_iff_ne]; exact hE
    have hx1 : (x != 0) = true := by rw [bne_iff_ne]; exact hE
    have hc2 : ∀ w : World, RS w R p c l k → w.cell? ⟨R, 2, none⟩ = some (.int .i64 k) := fun w h => h.blk.cell 2
    have hf2 : ∀ w : World, RS w R p c l k → w.frozen? ⟨R, 2, none⟩ = false := fun w h => h.blk.free 2
    clear hE h e1 e2 hx
    go_enter Try.func39, Try.ntmps39
    go_wp2_with fail
    refine HZ.out.mono ?_
    rintro e w1 ⟨rfl, rfl⟩
    go_wp2_with fail
    refine HN.out.mono ?_
    rintro e w1 ⟨rfl, hr⟩
    have hc3 := hc2 _ hr.1
    have hf3 := hf2 _ hr.1
    go_wp2_with fail
    go_ret2
    exact ⟨rfl, hr.set_ HL.out⟩
theorem Num_any (most : Nat) (h : RS w R p c l k) : Calls Try.prog 26 #[.pointer (some ⟨R, 0, none⟩), .int .u64 most] w fun e w' => e = .returned (.tuple #[.int .u64 (nV (l.drop k) most), .int .i64 (nE (l.drop k) most)]) ∧ RStep w w' R p c l (k + nS (l.drop k) most) := by
  have h2 : w.cell? ⟨R, 2, none⟩ = some (.int .i64 k) := h.blk.cell 2
  have HZ := Lib.hid (zero_any h)
  have HL := Lib.hid h.le
  have HW := Lib.hid (whole_any h)
  by_cases hE : readE (l.drop k) = 0
  · by_cases hv : most < readV (l.drop k)
    · have e0 : nE (l.drop k) most = 3 := by rw [nE, if_pos hE, if_pos hv]
      have e1 : nV (l.drop k) most = 0 := by rw [nV, e0]; rfl
      have e2 : nS (l.drop k) most = 0 := by rw [nS, e0]; rfl
      have hs : ∀ w : World, RS w R p c l (k + readS (l.drop k)) → w.frozen? ⟨R, 2, none⟩ = false := fun w h => h.blk.free 2
      have hs2 : ∀ w : World, RS w R p c l (k + readS (l.drop k)) → w.cell? ⟨R, 2, none⟩ = some (.int .i64 ((k + readS (l.drop k) : Nat) : Int)) := fun w h => h.blk.cell 2
      rw [e0, e1, e2]
      rw [hE] at HW
      obtain ⟨x, hx⟩ : ∃ x, readV (l.drop k) = x := ⟨_, rfl⟩
      obtain ⟨y, hy⟩ : ∃ x, k + readS (l.drop k) = x := ⟨_, rfl⟩
      rw [hx] at HW hv
      rw [hy] at HW hs hs2
      have hvi : (most : Int) < (x : Int) := by omega
      clear e0 e1 e2 hE h hx hy
      go_enter Try.func26, Try.ntmps26
      go_wp2_with fail
      refine HZ.out.mono ?_
      rintro e w1 ⟨rfl, rfl⟩
      go_wp2_with fail
      refine HW.out.mono ?_
      rintro e w1 ⟨rfl, hr⟩
      have hf3 := hs _ hr.1
      have hc3 := hs2 _ hr.1
      go_wp2_with fail
      go_ret2
      exact ⟨rfl, hr.set_ HL.out⟩
    · have e0 : nE (l.drop k) most = 0 := by rw [nE, if_pos hE, if_neg hv]
      have e1 : nV (l.drop k) most = readV (l.drop k) := by rw [nV, e0]; rfl
      have e2 : nS (l.drop k) most = readS (l.drop k) := by rw [nS, e0]; rfl
      rw [e0, e1, e2]
      rw [hE] at HW
      obtain ⟨x, hx⟩ : ∃ x, readV (l.drop k) = x := ⟨_, rfl⟩
      rw [hx] at HW hv ⊢
      have hvi : decide (most < x) = false := by simpa using hv
      clear e0 e1 e2 hE h hx
      go_enter Try.func26, Try.ntmps26
      go_wp2_with fail
      refine HZ.out.mono ?_
      rintro e w1 ⟨rfl, rfl⟩
      go_wp2_with fail
      refine HW.out.mono ?_
      rintro e w1 ⟨rfl, hr⟩
      go_wp2_with fail
      go_ret2
      exact ⟨rfl, hr⟩
  · have e0 : nE (l.drop k) most = readE (l.drop k) := by rw [nE, if_neg hE]
    have e1 : nV (l.drop k) most = 0 := by rw [nV, e0, if_neg hE]
    have e2 : nS (l.drop k) most = 0 := by rw [nS, e0, if_neg hE]
    have e3 : readV (l.drop k) = 0 := by rw [readV, if_neg hE]
    have e4 : readS (l.drop k) = 0 := by rw [readS, if_neg hE]
    rw [e0, e1, e2]
    rw [e3, e4] at HW
    obtain ⟨x, hx⟩ : ∃ x, readE (l.drop k) = x := ⟨_, rfl⟩
    rw [hx] at HW hE ⊢
    have hx0 : (x == 0) = false := by rw [beq_eq_false_iff_ne]; exact hE
    clear e0 e1 e2 e3 e4 hE h hx
    go_enter Try.func26, Try.ntmps26
    go_wp2_with fail
    refine HZ.out.mono ?_
    rintro e w1 ⟨rfl, rfl⟩
    go_wp2_with fail
    refine HW.out.mono ?_
    rintro e w1 ⟨rfl, hr⟩
    go_wp2_with fail
    go_ret2
    exact ⟨rfl, hr⟩
end
end Go.Proofs.Ytmhkbchbglnbpaa
