/- The law's own helpers: dots, gives, peeks, fails, alike. -/
import Derived.Test.YtloomdanpnkbmaaNext
namespace Go.Proofs.Ytloomdanpnkbmaa
open Go.RowKit

theorem dot_eql (a b c d : Int) (w : World) : (binOp .eql 30 (.agg #[.int .i64 a, .int .i64 b]) (.agg #[.int .i64 c, .int .i64 d])).run Try.prog w = .ok (.bool (a == c && b == d)) w := by
  simp only [binOp]
  simp [Op.equal, Op.maxDepth, run_equalIn_struct, go_sem]
  by_cases h1 : a = c <;> by_cases h2 : b = d <;> simp [h1, h2]
theorem dot_neq (a b c d : Int) (w : World) : (binOp .neq 30 (.agg #[.int .i64 a, .int .i64 b]) (.agg #[.int .i64 c, .int .i64 d])).run Try.prog w = .ok (.bool (!(a == c && b == d))) w := by
  simp only [binOp]
  simp [Op.equal, Op.maxDepth, run_equalIn_struct, go_sem]
  by_cases h1 : a = c <;> by_cases h2 : b = d <;> simp [h1, h2]

theorem take_eq_step {α : Type} {xs ys : List α} {k : Nat} (hx : k < xs.length) (hy : k < ys.length) (h : xs.take k = ys.take k) (he : xs[k] = ys[k]) : xs.take (k + 1) = ys.take (k + 1) := by
  rw [List.take_succ_eq_append_getElem hx, List.take_succ_eq_append_getElem hy, h, he]

set_option maxHeartbeats 800000 in
theorem dots_any (p q : Option Addr) (c d : Nat) (xs ys : List (Int × Int)) (w : World) (hx : Rd w w.heap.size p (dotCells xs)) (hy : Rd w w.heap.size q (dotCells ys)) (hlx : xs.length ≤ 100000) (hly : ys.length ≤ 100000) :
    Calls Try.prog 26 #[.slice p xs.length c, .slice q ys.length d] w fun e w' => e = .returned (.bool (decide (xs = ys))) ∧ Below w.heap.size w w' := by
  by_cases hl : xs.length = ys.length
  · have hne : ((xs.length : Int) != (ys.length : Int)) = false := by rw [bne_eq_false_iff_eq]; omega
    have HL := Lib.hid hl
    clear hl
    have hq := dot_neq
    go_enter Try.func26, Try.ntmps26
    go_wp2
    go_loopw [5] (fun i wr => ∃ k : Nat, k ≤ xs.length ∧ i = .int .i64 k ∧ xs.take k = ys.take k ∧ Below w.heap.size w wr) (fun i _ => xs.length - (intOf i).toNat)
    case atStart => exact ⟨0, Nat.zero_le _, rfl, rfl, Below.refl _ _⟩
    case round =>
      obtain ⟨k, hk, rfl, heq, hb⟩ := hrel
      have HE := Lib.hid heq
      clear heq
      by_cases hlt : k < xs.length
      · have hlt2 : k < ys.length := by have := HL.out; omega
        obtain ⟨b1, o1, rfl, _, hc1, hd1⟩ := (hx.below hb).dot hlt
        obtain ⟨b2, o2, rfl, _, hc2, hd2⟩ := (hy.below hb).dot hlt2
        have hi1 : (k : Int) < (xs.length : Int) := by omega
        have hi2 : (k : Int) < (ys.length : Int) := by omega
        by_cases he : xs[k].1 = ys[k].1
        · by_cases he2 : xs[k].2 = ys[k].2
          · have hn : (xs[k].1 == ys[k].1) = true := by simpa using he
            have hn2 : (xs[k].2 == ys[k].2) = true := by simpa using he2
            have HE' := Lib.hid (show xs[k] = ys[k] from Prod.ext he he2)
            clear he he2
            go_wp2_with fail
            go_quiet (fail)
            go_wp2
            go_roundw
            case rel => exact ⟨k + 1, by omega, by go_num, take_eq_step hlt hlt2 HE.out HE'.out, below_drewN hb _⟩
            case measure => simp [intOf]; omega
          · have hn : (xs[k].2 == ys[k].2) = false := by simpa using he2
            have hn1 : (xs[k].1 == ys[k].1) = true := by simpa using he
            have H2 := Lib.hid he2
            clear he he2
            go_wp2_with fail
            go_quiet (fail)
            go_wp2
            go_ret
            exact ⟨ret_bool (by
              rw [eq_comm, decide_eq_false_iff_not]
              intro e; subst e; exact H2.out rfl), below_drewN hb _⟩
        · have hn : (xs[k].1 == ys[k].1) = false := by simpa using he
          have H2 := Lib.hid he
          clear he
          go_wp2_with fail
          go_quiet (fail)
          go_wp2
          go_ret
          exact ⟨ret_bool (by
            rw [eq_comm, decide_eq_false_iff_not]
            intro e; subst e; exact H2.out rfl), below_drewN hb _⟩
      · go_wp2
        go_ret
        exact ⟨ret_bool (by
            rw [eq_comm, decide_eq_true_eq]
            have h1 := HE.out
            rw [List.take_of_length_le (by omega), List.take_of_length_le (by have := HL.out; omega)] at h1
            exact h1), hb⟩
  · have hne : ((xs.length : Int) != (ys.length : Int)) = true := by rw [bne_iff_ne]; omega
    go_enter Try.func26, Try.ntmps26
    go_wp2
    go_ret
    exact ⟨ret_bool (by rw [eq_comm, decide_eq_false_iff_not]; intro e; subst e; exact hl rfl), Below.refl _ _⟩

set_option maxHeartbeats 400000 in
/-- gives: Next's result is compared with a dot and an error. -/
theorem gives_any (c : Nat) (r l a b e : Int) (w : World) (h : Cnt w c 52 r l) (hr : r ≠ 0) (hl : 0 ≤ l) (hm : l ≤ 4294967295)
    (ha : nextR r l = a) (hb : nextC l = b) (he : nextErr l = e) :
    Calls Try.prog 11 #[.pointer (some ⟨c, 0, none⟩), .agg #[.int .i64 a, .int .i64 b], .int .i64 e] w (CPost w c 52 r (nextNew l) (.bool true)) := by
  have hlt := h.lt
  have HN := Lib.hid (next_any c r l (w.alloc (.cells #[.int .i64 a, .int .i64 b] 30)) (h.kept ((Below.refl _ _).alloc (Nat.le_refl _) _)) hr hl hm)
  rw [nextV, ha, hb, he] at HN
  clear ha hb he
  have hq := dot_eql
  have e1 : (a == a) = true := by simp
  have e2 : (b == b) = true := by simp
  have e3 : (e == e) = true := by simp
  go_enter Try.func11, Try.ntmps11
  go_wp2_with fail
  refine HN.out.mono ?_
  rintro x w2 ⟨rfl, hC, hg⟩
  have hB := (Blk.new' w 30 [.int .i64 a, .int .i64 b] rfl).grown hg (fun x => by injection x; omega)
  have n0 := hB.cell 0
  have n1 := hB.cell 1
  simp only [List.getElem?_cons_zero, List.getElem?_cons_succ] at n0 n1
  have hsz : w.heap.size < w2.heap.size := hB.lt
  go_wp2_with fail
  go_ret
  refine ⟨rfl, Blk.alloc hC _, gb_alloc ?_ _⟩
  exact ⟨hg.os, hg.tape, hg.output, by have := hg.size; simp at this; omega, fun k hk hne => (hg.block k (by simp; omega) hne).trans (Below.heap_alloc w _ k hk)⟩

set_option maxHeartbeats 400000 in
/-- peeks: Peek's result is compared with a list and an error. -/
theorem peeks_any (c : Nat) (r l n : Int) (q : Option Addr) (d : Nat) (ys : List (Int × Int)) (e : Int) (m : Nat) (hm' : m = ys.length) (w : World) (h : Cnt w c 52 r l) (hr : r ≠ 0) (hl : 0 ≤ l) (hm : l ≤ 4294967295)
    (hq : Rd w w.heap.size q (dotCells ys)) (hy : peekDots r l n = ys) (he : peekErr l n = e) :
    Calls Try.prog 12 #[.pointer (some ⟨c, 0, none⟩), .int .i64 n, .slice q m d, .int .i64 e] w fun x w' => x = .returned (.bool true) ∧ Below w.heap.size w w' := by
  subst hm'
  have hlen : ys.length ≤ 4096 := by rw [← hy]; exact peekDots_len r l n
  have HN := Lib.hid (peek_any c r l n w h hr hl hm)
  rw [hy, he] at HN
  clear hy he
  have e3 : (e == e) = true := by simp
  go_enter Try.func12, Try.ntmps12
  go_wp2_with fail
  refine HN.out.mono ?_
  rintro x w1 ⟨v, rfl, ⟨p, dd, rfl, _, _, hr1, _⟩, hb1⟩
  go_wp2_with fail
  refine (dots_any p q dd d ys ys _ hr1 (hq.kept hb1) (by omega) (by omega)).mono ?_
  rintro x w2 ⟨rfl, hb2⟩
  go_wp2_with fail
  go_ret
  exact ⟨rfl, below_step hb1 hb2⟩

set_option maxHeartbeats 400000 in
theorem fails_any (r l : Int) (w : World) (h : okR r l = false) :
    Calls Try.prog 16 #[.int .i64 r, .int .i64 l] w fun x w' => x = .returned (.bool true) ∧ Below w.heap.size w w' := by
  have HH := Lib.hid h
  clear h
  go_enter Try.func16, Try.ntmps16
  go_wp2_with fail
  refine (new_no r l _ HH.out).mono ?_
  rintro x w1 ⟨rfl, hb1⟩
  go_wp2_with fail
  go_ret
  exact ⟨rfl, hb1⟩

set_option maxHeartbeats 800000 in
theorem alike_any (c x : Nat) (t : TypeId) (r l : Int) (w : World) (h : Cnt w c 52 r l) (hx : Cnt w x t r l) (hr : r ≠ 0) (hl : 0 ≤ l) (hm : l ≤ 4294967295) :
    Calls Try.prog 17 #[.pointer (some ⟨c, 0, none⟩), .pointer (some ⟨x, 0, none⟩)] w fun e w' => e = .returned (.bool true) ∧ Below w.heap.size w w' := by
  have h0 := hx.at0
  have h1 := hx.at1
  have e1 : (r == r) = true := by simp
  have e2 : (l == l) = true := by simp
  have e3 : (4294967295 - l == 4294967295 - l) = true := by simp
  have k1 : ∀ n, Calls Try.prog 24 #[.pointer (some ⟨c, 0, none⟩)] (w.drewN n) fun e w' => e = .returned (.int .i64 r) ∧ w' = w.drewN n := fun n => (replica_any c 52 r l (w.drewN n) h hr).mono fun e w' ⟨a, b⟩ => ⟨a, b.symm⟩
  have k2 : ∀ n, Calls Try.prog 14 #[.pointer (some ⟨c, 0, none⟩)] (w.drewN n) fun e w' => e = .returned (.int .i64 l) ∧ w' = w.drewN n := fun n => (last_any c 52 r l (w.drewN n) h hr).mono fun e w' ⟨a, b⟩ => ⟨a, b.symm⟩
  have k3 : ∀ n, Calls Try.prog 15 #[.pointer (some ⟨c, 0, none⟩)] (w.drewN n) fun e w' => e = .returned (.int .i64 (4294967295 - l)) ∧ w' = w.drewN n := fun n => (left_any c 52 r l (w.drewN n) h hr hl hm).mono fun e w' ⟨a, b⟩ => ⟨a, b.symm⟩
  have k4 : ∀ n, Calls Try.prog 28 #[.pointer (some ⟨x, 0, none⟩)] (w.drewN n) fun e w' => e = .returned (.int .i64 (4294967295 - l)) ∧ w' = w.drewN n := fun n => (refLeft_any x t r l (w.drewN n) hx hl hm).mono fun e w' ⟨a, b⟩ => ⟨a, b.symm⟩
  have K1 := Lib.hid k1
  have K2 := Lib.hid k2
  have K3 := Lib.hid k3
  have K4 := Lib.hid k4
  clear k1 k2 k3 k4
  go_enter Try.func17, Try.ntmps17
  go_wp2_with fail
  go_quiet ((first | (go_at_call 24; exact Calls.quiet_of_same (K1.out _)) | (go_at_call 14; exact Calls.quiet_of_same (K2.out _)) | (go_at_call 15; exact Calls.quiet_of_same (K3.out _)) | (go_at_call 28; exact Calls.quiet_of_same (K4.out _))))
  go_wp2
  go_ret
  exact ⟨rfl, below_drewN (Below.refl _ _) _⟩
end Go.Proofs.Ytloomdanpnkbmaa
