/- Copy, New and Peek. -/
import Derived.Test.YtloomdanpnkbmaaObj
namespace Go.Proofs.Ytloomdanpnkbmaa
open Go.RowKit

def okR (r l : Int) : Bool := decide (1 ≤ r ∧ r ≤ 65535 ∧ 0 ≤ l ∧ l ≤ 4294967295)

set_option maxHeartbeats 400000 in
theorem allowed_any (r l : Int) (w : World) : Calls Try.prog 8 #[.int .i64 r, .int .i64 l] w fun e w' => e = .returned (.bool (okR r l)) ∧ w = w' := by
  by_cases h1 : 1 ≤ r
  · by_cases h2 : r ≤ 65535
    · by_cases h3 : 0 ≤ l
      · by_cases h4 : l ≤ 4294967295
        · rw [show okR r l = true from by simp [okR, h1, h2, h3, h4]]
          go_enter Try.func8, Try.ntmps8
          go_wp2
          go_ret
          exact ⟨rfl, rfl⟩
        · rw [show okR r l = false from by simp [okR, h4]]
          go_enter Try.func8, Try.ntmps8
          go_wp2
          go_ret
          exact ⟨rfl, rfl⟩
      · rw [show okR r l = false from by simp [okR, h3]]
        go_enter Try.func8, Try.ntmps8
        go_wp2
        go_ret
        exact ⟨rfl, rfl⟩
    · rw [show okR r l = false from by simp [okR, h2]]
      go_enter Try.func8, Try.ntmps8
      go_wp2
      go_ret
      exact ⟨rfl, rfl⟩
  · rw [show okR r l = false from by simp [okR, h1]]
    go_enter Try.func8, Try.ntmps8
    go_wp2
    go_ret
    exact ⟨rfl, rfl⟩

def okD (r c : Int) : Bool := decide (1 ≤ r ∧ r ≤ 65535 ∧ 1 ≤ c ∧ c ≤ 4294967295)
set_option maxHeartbeats 400000 in
theorem valid_any (r c : Int) (w : World) : Calls Try.prog 25 #[.agg #[.int .i64 r, .int .i64 c]] w fun e w' => e = .returned (.bool (okD r c)) ∧ Below w.heap.size w w' := by
  have hb : Below w.heap.size w (w.alloc (.cells #[.int .i64 r, .int .i64 c] 30)) := (Below.refl _ _).alloc (Nat.le_refl _) _
  by_cases h1 : 1 ≤ r
  · by_cases h2 : r ≤ 65535
    · by_cases h3 : 1 ≤ c
      · by_cases h4 : c ≤ 4294967295
        · rw [show okD r c = true from by simp [okD, h1, h2, h3, h4]]
          go_enter Try.func25, Try.ntmps25
          go_wp2
          go_ret
          exact ⟨rfl, hb⟩
        · rw [show okD r c = false from by simp [okD, h4]]
          go_enter Try.func25, Try.ntmps25
          go_wp2
          go_ret
          exact ⟨rfl, hb⟩
      · rw [show okD r c = false from by simp [okD, h3]]
        go_enter Try.func25, Try.ntmps25
        go_wp2
        go_ret
        exact ⟨rfl, hb⟩
    · rw [show okD r c = false from by simp [okD, h2]]
      go_enter Try.func25, Try.ntmps25
      go_wp2
      go_ret
      exact ⟨rfl, hb⟩
  · rw [show okD r c = false from by simp [okD, h1]]
    go_enter Try.func25, Try.ntmps25
    go_wp2
    go_ret
    exact ⟨rfl, hb⟩

/-- A new counter, in a block of its own from the old heap's end on. -/
def NewCnt (w : World) (r l : Int) (err : Int) (e : Ending) (w' : World) : Prop := ∃ c, e = .returned (.tuple #[.pointer (some ⟨c, 0, none⟩), .int .i64 err]) ∧ w.heap.size ≤ c ∧ Cnt w' c 52 r l ∧ Below w.heap.size w w'

set_option maxHeartbeats 400000 in
theorem new_yes (r l : Int) (w : World) (h : okR r l = true) : Calls Try.prog 10 #[.int .i64 r, .int .i64 l] w (NewCnt w r l 0) := by
  have hd : okD r 1 = true := by simp only [okR, decide_eq_true_eq] at h; simp [okD]; omega
  have h1 : ¬ l < 0 := by simp only [okR, decide_eq_true_eq] at h; omega
  have h2 : ¬ 4294967295 < l := by simp only [okR, decide_eq_true_eq] at h; omega
  have HD := Lib.hid hd
  clear hd h
  go_enter Try.func10, Try.ntmps10
  go_wp2_with fail
  refine (valid_any r 1 _).mono ?_
  rintro e w1 ⟨rfl, hb1⟩
  rw [HD.out]
  go_wp2_with fail
  go_ret2
  exact ⟨w1.heap.size, rfl, hb1.size, Blk.new' w1 52 _ rfl, hb1.alloc hb1.size _⟩

set_option maxHeartbeats 400000 in
theorem new_no (r l : Int) (w : World) (h : okR r l = false) : Calls Try.prog 10 #[.int .i64 r, .int .i64 l] w fun e w' => e = .returned (.tuple #[.pointer none, .int .i64 2]) ∧ Below w.heap.size w w' := by
  by_cases h1 : l < 0
  · go_enter Try.func10, Try.ntmps10
    go_wp2
    go_ret2
    exact ⟨rfl, Below.refl _ _⟩
  · by_cases h2 : 4294967295 < l
    · go_enter Try.func10, Try.ntmps10
      go_wp2
      go_ret2
      exact ⟨rfl, Below.refl _ _⟩
    · have HD := Lib.hid (show okD r 1 = false from by simp only [okR, decide_eq_false_iff_not] at h; simp [okD]; omega)
      clear h
      go_enter Try.func10, Try.ntmps10
      go_wp2_with fail
      refine (valid_any r 1 _).mono ?_
      rintro e w1 ⟨rfl, hb1⟩
      rw [HD.out]
      go_wp2_with fail
      go_ret2
      exact ⟨rfl, hb1⟩

/-- A copy, in a block of its own. -/
def CopyPost (w : World) (r l : Int) (e : Ending) (w' : World) : Prop := ∃ c, e = .returned (.pointer (some ⟨c, 0, none⟩)) ∧ w.heap.size ≤ c ∧ Cnt w' c 52 r l ∧ Below w.heap.size w w'
set_option maxHeartbeats 400000 in
theorem copy_any (c : Nat) (r l : Int) (w : World) (h : Cnt w c 52 r l) (hr : r ≠ 0) :
    Calls Try.prog 18 #[.pointer (some ⟨c, 0, none⟩)] w (CopyPost w r l) := by
  have h0 := h.at0
  have h1 := h.at1
  have hlt := h.lt
  go_enter Try.func18, Try.ntmps18
  go_wp2_with (go_at_call 27; refine (none_no c r _ h0 hr).mono ?_; rintro e w' ⟨rfl, rfl⟩)
  go_ret
  exact ⟨w.heap.size, rfl, Nat.le_refl _, Blk.new' w 52 _ rfl, (Below.refl _ _).alloc (Nat.le_refl _) _⟩

end Go.Proofs.Ytloomdanpnkbmaa
