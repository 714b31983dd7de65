/- How a scheduler picks. -/
import Derived.Test.YtfidnecdojgkjaaNew
namespace Go.Proofs.Ytfidnecdojgkjaa
open Go.RowKit

section
variable {w : World} {R b c : Nat} {q : Option Addr} {kind : Int} {nums L : List Int}
set_option maxRecDepth 100000 in
theorem by_any (h : SS w R b q c kind nums L) (hL : L.length ≤ 1000000) (hk : 0 < nums.length) (p : Option Addr) (d : Nat) (l : List Int) (hl : Rd w w.heap.size p (ints l)) (h0 : 0 < l.length) (h1 : l.length ≤ 1000000) :
    Calls Try.prog 41 #[.pointer (some ⟨R, 0, none⟩), .slice p l.length d] w fun e w' => e = .returned (.int .i64 (byF nums L.length l)) ∧ Below w.heap.size w w' := by
  have c1 : w.cell? ⟨R, 1, none⟩ = some (.slice q nums.length c) := h.blk.cell 1
  have c2 : w.cell? ⟨R, 2, none⟩ = some (.int .i64 L.length) := h.blk.cell 2
  have hlen := h.ok.len
  obtain ⟨i, hi⟩ : ∃ i, L.length % nums.length = i := ⟨_, rfl⟩
  have hin : i < nums.length := by rw [← hi]; exact Nat.mod_lt _ hk
  obtain ⟨bq, oq, rfl, _, cq⟩ := h.rd.int hin
  have hpos := h.ok.pos nums[i] (List.getElem_mem hin)
  obtain ⟨x, hx⟩ : ∃ x : Nat, nums[i] = x := ⟨nums[i].toNat, by omega⟩
  rw [hx] at cq
  obtain ⟨j, hj⟩ : ∃ j, x % l.length = j := ⟨_, rfl⟩
  have hjn : j < l.length := by rw [← hj]; exact Nat.mod_lt _ h0
  obtain ⟨bl, ol, rfl, _, cl⟩ := hl.int hjn
  have HF := Lib.hid (show byF nums L.length l = l[j] by
    rw [byF, hi, getD_get nums i hin, hx, Int.toNat_natCast, hj, getD_get l j hjn])
  have e1 : (L.length : Int) % (nums.length : Int) = (i : Int) := by rw [← hi]; omega
  have e2 : (x : Int) % (l.length : Int) = (j : Int) := by rw [← hj]; omega
  obtain ⟨y, hy⟩ : ∃ y, l[j] = y := ⟨_, rfl⟩
  rw [hy] at cl HF
  rw [HF.out]
  clear h hi hx hj hpos HF hy
  generalize L.length = T at *
  clear hl
  generalize nums.length = n at *
  generalize l.length = m at *
  have hni : (0 : Int) < (n : Int) := by omega
  have hmi : (0 : Int) < (m : Int) := by omega
  have hinn : (i : Int) < (n : Int) := by omega
  have hjmm : (j : Int) < (m : Int) := by omega
  go_enter Try.func41, Try.ntmps41
  go_wp2_with fail
  go_quiet (fail)
  go_wp2_with fail
  go_ret
  exact ⟨rfl, below_drewN (Below.refl _ _) _⟩
set_option maxRecDepth 100000 in
theorem round_any (h : SS w R b q c kind nums L) (p : Option Addr) (d : Nat) (l : List Int) (hl : Rd w w.heap.size p (ints l)) (h0 : 0 < l.length) (h1 : l.length ≤ 1000000) :
    Calls Try.prog 42 #[.pointer (some ⟨R, 0, none⟩), .slice p l.length d] w fun e w' => e = .returned (.int .i64 (roundF (lastP L) l)) ∧ w = w' := by
  have c3 : w.cell? ⟨R, 3, none⟩ = some (.int .i64 (lastP L)) := h.blk.cell 3
  have HR := Lib.hid hl
  have HX : Hid (∃ bb oo, p = some ⟨bb, oo, none⟩ ∧ w.cell? ⟨bb, oo, none⟩ = some (.int .i64 (l.getD 0 0))) := Lib.hid (by
    obtain ⟨bb, oo, rfl, _, hc⟩ := hl.int h0
    exact ⟨bb, oo, rfl, by rw [Nat.add_zero] at hc; rw [getD_get l 0 h0]; exact hc⟩)
  obtain ⟨n, hn⟩ : ∃ n, l.length = n := ⟨_, rfl⟩
  obtain ⟨z, hz⟩ : ∃ z, lastP L = z := ⟨_, rfl⟩
  rw [hn] at h1 ⊢
  rw [hz] at c3 ⊢
  have HN := Lib.hid hn
  have H0 := Lib.hid h0
  clear hn hl h hz h0
  go_enter Try.func42, Try.ntmps42
  go_wp2_with fail
  go_loop [9] (fun i => ∃ k : Nat, k ≤ n ∧ i = .int .i64 k ∧ Hid ((l.take k).find? (fun t => decide (z < t)) = none)) (fun i => n - (intOf i).toNat)
  case atStart => exact ⟨0, Nat.zero_le _, rfl, Lib.hid rfl⟩
  case round =>
    obtain ⟨k, hk, rfl, HK⟩ := hrel
    by_cases hlt : k < n
    · have hki : (k : Int) < (n : Int) := by omega
      have hlt2 : k < l.length := by rw [HN.out]; exact hlt
      obtain ⟨bb, oo, rfl, _, hc⟩ := HR.out.int hlt2
      have HT := Lib.hid (find_take hlt2 HK.out)
      obtain ⟨x, hx⟩ : ∃ x, l[k] = x := ⟨_, rfl⟩
      rw [hx] at hc HT
      clear hx hlt2
      by_cases hzx : z < x
      · have HF := Lib.hid (roundF_some (HT.out.1 hzx))
        go_wp2_with fail
        go_ret
        exact ⟨ret_int HF.out.symm, rfl⟩
      · have hzy : decide (z < x) = false := by simpa using hzx
        have HF := Lib.hid (HT.out.2 hzx)
        clear hzx
        go_wp2_with fail
        go_round
        case rel => exact ⟨k + 1, by omega, by go_num, HF⟩
        case measure => simp [intOf]; omega
    · have hkn : k = n := by omega
      subst hkn
      have HF := Lib.hid (show roundF z l = l.getD 0 0 from roundF_none (by have := HK.out; rwa [← HN.out, List.take_length] at this))
      obtain ⟨bb, oo, rfl, hc⟩ := HX.out
      have hk0 : (0 : Int) < (k : Int) := by have := H0.out; have := HN.out; omega
      go_wp2_with fail
      go_ret
      exact ⟨ret_int HF.out.symm, rfl⟩
theorem stick_any (h : SS w R b q c kind nums L) (p : Option Addr) (d : Nat) (l : List Int) (hl : Rd w w.heap.size p (ints l)) (h0 : 0 < l.length) (h1 : l.length ≤ 1000000) :
    Calls Try.prog 43 #[.pointer (some ⟨R, 0, none⟩), .slice p l.length d] w fun e w' => e = .returned (.int .i64 (stickF (lastP L) l)) ∧ w = w' := by
  have c3 : w.cell? ⟨R, 3, none⟩ = some (.int .i64 (lastP L)) := h.blk.cell 3
  have HC := Lib.hid (contains_any p d l (lastP L) w hl h1)
  have HD := Lib.hid (round_any h p d l hl h0 h1)
  obtain ⟨n, hn⟩ : ∃ n, l.length = n := ⟨_, rfl⟩
  obtain ⟨z, hz⟩ : ∃ z, lastP L = z := ⟨_, rfl⟩
  rw [hn] at HC HD ⊢
  rw [hz] at c3 HC HD ⊢
  clear hn hl h hz h0 h1
  by_cases hm : z ∈ l
  · have HS := Lib.hid (show stickF z l = z by rw [stickF, if_pos hm])
    rw [decide_eq_true hm] at HC
    clear hm
    go_enter Try.func43, Try.ntmps43
    go_wp2_with fail
    refine HC.out.mono ?_
    rintro e w' ⟨rfl, rfl⟩
    go_wp2_with fail
    go_ret
    exact ⟨ret_int HS.out.symm, rfl⟩
  · have HS := Lib.hid (show stickF z l = roundF z l by rw [stickF, if_neg hm])
    rw [decide_eq_false hm] at HC
    clear hm
    go_enter Try.func43, Try.ntmps43
    go_wp2_with fail
    refine HC.out.mono ?_
    rintro e w' ⟨rfl, rfl⟩
    go_wp2_with fail
    refine HD.out.mono ?_
    rintro e w' ⟨rfl, rfl⟩
    go_wp2_with fail
    go_ret
    exact ⟨ret_int HS.out.symm, rfl⟩
/-- The order of the map's times. -/
theorem cmp_any (h : SS w R b q c kind nums L) (hL : L.length ≤ 1000000) (M : Nat) (hM : w.cell? ⟨M, 0, none⟩ = some (.pointer (some ⟨R, 0, none⟩))) (x y : Int) (hx : 0 ≤ x ∧ x ≤ 9999) (hy : 0 ≤ y ∧ y ≤ 9999) :
    Calls Try.prog 49 #[.int .i64 x, .int .i64 y, .pointer (some ⟨M, 0, none⟩)] w fun e w' => e = .returned (.int .i64 ((lastT L x : Int) - (lastT L y : Int))) ∧ Below w.heap.size w w' := by
  have c4 : w.cell? ⟨R, 4, none⟩ = some (.map (some b)) := h.blk.cell 4
  have l1 := lastT_le L x
  have l2 := lastT_le L y
  have q1 : ∀ n, (Instr.lookup 64 (.map (some b)) (.int .i64 x) false).run Try.prog (w.drewN n) = .ok (.int .i64 (lastT L x)) (w.drewN n) := fun n => by
    have := look64 (w := w.drewN n) (h.mp.same rfl) x (by omega) (by omega)
    rwa [whenF_getD] at this
  have q2 : ∀ n, (Instr.lookup 64 (.map (some b)) (.int .i64 y) false).run Try.prog (w.drewN n) = .ok (.int .i64 (lastT L y)) (w.drewN n) := fun n => by
    have := look64 (w := w.drewN n) (h.mp.same rfl) y (by omega) (by omega)
    rwa [whenF_getD] at this
  generalize lastT L x = u at *
  generalize lastT L y = v at *
  have hu : u ≤ 1000000 := by omega
  have hv : v ≤ 1000000 := by omega
  clear h l1 l2 hL hx hy
  go_enter Try.func49, Try.ntmps49
  go_wp2_with fail
  go_quiet (fail)
  go_wp2_with fail
  go_ret
  exact ⟨rfl, below_drewN (Below.refl _ _) _⟩
end
end Go.Proofs.Ytfidnecdojgkjaa
