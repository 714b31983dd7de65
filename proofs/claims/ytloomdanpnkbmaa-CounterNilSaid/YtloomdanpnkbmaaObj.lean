/- The counter's small methods: what each returns and what it leaves of the counter's block. -/
import Derived.Test.YtloomdanpnkbmaaBase
namespace Go.Proofs.Ytloomdanpnkbmaa
open Go.RowKit

/-- The counter at block c: its replica and its last number. -/
def Cnt (w : World) (c : Nat) (t : TypeId) (r l : Int) : Prop := Blk w c t [.int .i64 r, .int .i64 l]
theorem Cnt.at0 {w : World} {c : Nat} {t : TypeId} {r l : Int} (h : Cnt w c t r l) : w.cell? ⟨c, 0, none⟩ = some (.int .i64 r) := h.cell 0
theorem Cnt.at1 {w : World} {c : Nat} {t : TypeId} {r l : Int} (h : Cnt w c t r l) : w.cell? ⟨c, 1, none⟩ = some (.int .i64 l) := h.cell 1

theorem Cnt.below {w w' : World} {B c : Nat} {t : TypeId} {r l : Int} (h : Cnt w c t r l) (hb : Below B w w') (hg : c < B) : Cnt w' c t r l := Blk.below h hb hg
theorem Cnt.kept {w w' : World} {c : Nat} {t : TypeId} {r l : Int} (h : Cnt w c t r l) (hb : Below w.heap.size w w') : Cnt w' c t r l := Blk.kept h hb
theorem Cnt.grown {w w' : World} {c : Nat} {t : TypeId} {r l : Int} {row : Option Nat} (h : Cnt w c t r l) (hb : w.grownBy w' row) (hg : some c ≠ row) : Cnt w' c t r l := Blk.grown h hb hg
theorem Cnt.lt {w : World} {c : Nat} {t : TypeId} {r l : Int} (h : Cnt w c t r l) : c < w.heap.size := Blk.lt h
theorem Cnt.free {w : World} {c : Nat} {t : TypeId} {r l : Int} (h : Cnt w c t r l) (i : Nat) : w.frozen? ⟨c, i, none⟩ = false := Blk.free h i
theorem Cnt.ne_ {w : World} {c c' : Nat} {t t' : TypeId} {r l r' l' : Int} (h : Cnt w c t r l) (h' : Cnt w c' t' r' l') (ht : t ≠ t') : c ≠ c' := by
  rintro rfl
  unfold Cnt Blk at h h'
  rw [h] at h'
  injection h' with h'
  injection h' with _ e
  exact ht e

set_option maxHeartbeats 400000 in
theorem none_no (c : Nat) (r : Int) (w : World) (h0 : w.cell? ⟨c, 0, none⟩ = some (.int .i64 r)) (hr : r ≠ 0) :
    Calls Try.prog 27 #[.pointer (some ⟨c, 0, none⟩)] w fun e w' => e = .returned (.bool false) ∧ w = w' := by
  have hr' : (r == 0) = false := by simpa using hr
  clear hr
  go_enter Try.func27, Try.ntmps27
  go_wp2
  go_ret
  exact ⟨rfl, rfl⟩
set_option maxHeartbeats 400000 in
theorem none_nil (w : World) : Calls Try.prog 27 #[.pointer none] w fun e w' => e = .returned (.bool true) ∧ w = w' := by
  go_enter Try.func27, Try.ntmps27
  go_wp2
  go_ret
  exact ⟨rfl, rfl⟩
set_option maxHeartbeats 400000 in
theorem none_zero (c : Nat) (w : World) (h0 : w.cell? ⟨c, 0, none⟩ = some (.int .i64 0)) :
    Calls Try.prog 27 #[.pointer (some ⟨c, 0, none⟩)] w fun e w' => e = .returned (.bool true) ∧ w = w' := by
  go_enter Try.func27, Try.ntmps27
  go_wp2
  go_ret
  exact ⟨rfl, rfl⟩

set_option maxHeartbeats 400000 in
theorem last_any (c : Nat) (t : TypeId) (r l : Int) (w : World) (h : Cnt w c t r l) (hr : r ≠ 0) :
    Calls Try.prog 14 #[.pointer (some ⟨c, 0, none⟩)] w fun e w' => e = .returned (.int .i64 l) ∧ w = w' := by
  have h0 := h.at0
  have h1 := h.at1
  go_enter Try.func14, Try.ntmps14
  go_wp2_with (go_at_call 27; refine (none_no c r _ h0 hr).mono ?_; rintro e w' ⟨rfl, rfl⟩)
  go_ret
  exact ⟨rfl, rfl⟩
set_option maxHeartbeats 400000 in
theorem replica_any (c : Nat) (t : TypeId) (r l : Int) (w : World) (h : Cnt w c t r l) (hr : r ≠ 0) :
    Calls Try.prog 24 #[.pointer (some ⟨c, 0, none⟩)] w fun e w' => e = .returned (.int .i64 r) ∧ w = w' := by
  have h0 := h.at0
  go_enter Try.func24, Try.ntmps24
  go_wp2_with (go_at_call 27; refine (none_no c r _ h0 hr).mono ?_; rintro e w' ⟨rfl, rfl⟩)
  go_ret
  exact ⟨rfl, rfl⟩
set_option maxHeartbeats 400000 in
theorem left_any (c : Nat) (t : TypeId) (r l : Int) (w : World) (h : Cnt w c t r l) (hr : r ≠ 0) (hl : 0 ≤ l) (hm : l ≤ 4294967295) :
    Calls Try.prog 15 #[.pointer (some ⟨c, 0, none⟩)] w fun e w' => e = .returned (.int .i64 (4294967295 - l)) ∧ w = w' := by
  have h0 := h.at0
  have h1 := h.at1
  go_enter Try.func15, Try.ntmps15
  go_wp2_with (go_at_call 27; refine (none_no c r _ h0 hr).mono ?_; rintro e w' ⟨rfl, rfl⟩)
  go_ret
  exact ⟨rfl, rfl⟩
set_option maxHeartbeats 400000 in
theorem refLeft_any (c : Nat) (t : TypeId) (r l : Int) (w : World) (h : Cnt w c t r l) (hl : 0 ≤ l) (hm : l ≤ 4294967295) :
    Calls Try.prog 28 #[.pointer (some ⟨c, 0, none⟩)] w fun e w' => e = .returned (.int .i64 (4294967295 - l)) ∧ w = w' := by
  have h1 := h.at1
  go_enter Try.func28, Try.ntmps28
  go_wp2
  go_ret
  exact ⟨rfl, rfl⟩

/-- What Use(n) returns, and the last number behind it. -/
def useErr (l n : Int) : Int := if n < 0 then 2 else if 4294967295 - l < n then 15 else 0
def useNew (l n : Int) : Int := if n < 0 then l else if 4294967295 - l < n then l else l + n
/-- A call that gave v; block c holds the counter r, l now; nothing else of old has turned. -/
def CPost (w : World) (c : Nat) (t : TypeId) (r l : Int) (v : Value) (e : Ending) (w' : World) : Prop := e = .returned v ∧ Cnt w' c t r l ∧ w.grownBy w' (some c)

theorem grown_set (w : World) (c i : Nat) (u : Value) : w.grownBy (w.setCell ⟨c, i, none⟩ u) (some c) :=
  ⟨rfl, rfl, rfl, by simp, fun k _ hne => Below.heap_setCell w _ u k (fun e => hne (by rw [e]))⟩
theorem Cnt.set1 {w : World} {c : Nat} {t : TypeId} {r l : Int} (h : Cnt w c t r l) (x : Int) : Cnt (w.setCell ⟨c, 1, none⟩ (.int .i64 x)) c t r x := h.set_ 1 _

set_option maxHeartbeats 400000 in
theorem use_any (c : Nat) (t : TypeId) (r l n : Int) (w : World) (h : Cnt w c t r l) (hr : r ≠ 0) (hl : 0 ≤ l) (hm : l ≤ 4294967295) :
    Calls Try.prog 13 #[.pointer (some ⟨c, 0, none⟩), .int .i64 n] w (CPost w c t r (useNew l n) (.int .i64 (useErr l n))) := by
  have h0 := h.at0
  have h1 := h.at1
  have hf := h.free 1
  by_cases c1 : n < 0
  · have e1 : useErr l n = 2 := by simp [useErr, c1]
    have e2 : useNew l n = l := by simp [useNew, c1]
    rw [e1, e2]
    clear e1 e2
    go_enter Try.func13, Try.ntmps13
    go_wp2_with (go_at_call 27; refine (none_no c r _ h0 hr).mono ?_; rintro e w' ⟨rfl, rfl⟩)
    go_ret
    exact ⟨rfl, h, World.grownBy.refl w _⟩
  · by_cases c2 : 4294967295 - l < n
    · have e1 : useErr l n = 15 := by simp [useErr, c1, c2]
      have e2 : useNew l n = l := by simp [useNew, c1, c2]
      rw [e1, e2]
      clear e1 e2
      go_enter Try.func13, Try.ntmps13
      go_wp2_with (first | (go_at_call 27; refine (none_no c r _ h0 hr).mono ?_; rintro e w' ⟨rfl, rfl⟩) | (go_at_call 15; refine (left_any c t r l _ h hr hl hm).mono ?_; rintro e w' ⟨rfl, rfl⟩))
      go_ret
      exact ⟨rfl, h, World.grownBy.refl w _⟩
    · have e1 : useErr l n = 0 := by simp [useErr, c1, c2]
      have e2 : useNew l n = l + n := by simp [useNew, c1, c2]
      rw [e1, e2]
      clear e1 e2
      go_enter Try.func13, Try.ntmps13
      go_wp2_with (first | (go_at_call 27; refine (none_no c r _ h0 hr).mono ?_; rintro e w' ⟨rfl, rfl⟩) | (go_at_call 15; refine (left_any c t r l _ h hr hl hm).mono ?_; rintro e w' ⟨rfl, rfl⟩))
      go_ret
      exact ⟨rfl, h.set1 _, grown_set _ _ _ _⟩
set_option maxHeartbeats 400000 in
theorem refUse_any (c : Nat) (t : TypeId) (r l n : Int) (w : World) (h : Cnt w c t r l) (hl : 0 ≤ l) (hm : l ≤ 4294967295) :
    Calls Try.prog 23 #[.pointer (some ⟨c, 0, none⟩), .int .i64 n] w (CPost w c t r (useNew l n) (.int .i64 (useErr l n))) := by
  have h1 := h.at1
  have hf := h.free 1
  by_cases c1 : n < 0
  · have e1 : useErr l n = 2 := by simp [useErr, c1]
    have e2 : useNew l n = l := by simp [useNew, c1]
    rw [e1, e2]
    clear e1 e2
    go_enter Try.func23, Try.ntmps23
    go_wp2
    go_ret
    exact ⟨rfl, h, World.grownBy.refl w _⟩
  · by_cases c2 : 4294967295 - l < n
    · have e1 : useErr l n = 15 := by simp [useErr, c1, c2]
      have e2 : useNew l n = l := by simp [useNew, c1, c2]
      rw [e1, e2]
      clear e1 e2
      go_enter Try.func23, Try.ntmps23
      go_wp2_with (go_at_call 28; refine (refLeft_any c t r l _ h hl hm).mono ?_; rintro e w' ⟨rfl, rfl⟩)
      go_ret
      exact ⟨rfl, h, World.grownBy.refl w _⟩
    · have e1 : useErr l n = 0 := by simp [useErr, c1, c2]
      have e2 : useNew l n = l + n := by simp [useNew, c1, c2]
      rw [e1, e2]
      clear e1 e2
      go_enter Try.func23, Try.ntmps23
      go_wp2_with (go_at_call 28; refine (refLeft_any c t r l _ h hl hm).mono ?_; rintro e w' ⟨rfl, rfl⟩)
      go_ret
      exact ⟨rfl, h.set1 _, grown_set _ _ _ _⟩

end Go.Proofs.Ytloomdanpnkbmaa
