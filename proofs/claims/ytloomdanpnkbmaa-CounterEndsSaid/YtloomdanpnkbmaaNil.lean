/- Nil and zero counters. -/
import Derived.Test.YtloomdanpnkbmaaLaw
namespace Go.Proofs.Ytloomdanpnkbmaa
open Go.RowKit

/-- A nil pointer, or a pointer to a zero counter. -/
def Nil (w : World) (p : Option Addr) : Prop := p = none ∨ ∃ z, p = some ⟨z, 0, none⟩ ∧ Cnt w z 52 0 0
theorem Nil.kept {w w' : World} {p : Option Addr} (h : Nil w p) (hb : Below w.heap.size w w') : Nil w' p := by
  rcases h with h | ⟨z, h, hC⟩
  · exact .inl h
  · exact .inr ⟨z, h, hC.kept hb⟩
theorem nil_none (p : Option Addr) (w : World) (h : Nil w p) : Calls Try.prog 27 #[.pointer p] w fun e w' => e = .returned (.bool true) ∧ w = w' := by
  rcases h with rfl | ⟨z, rfl, hC⟩
  · exact none_nil w
  · exact none_zero z w hC.at0

set_option maxHeartbeats 400000 in
theorem nil_peek (p : Option Addr) (n : Int) (w : World) (h : Nil w p) : Calls Try.prog 19 #[.pointer p, .int .i64 n] w fun e w' => e = .returned (.tuple #[.slice none 0 0, .int .i64 1]) ∧ w = w' := by
  go_enter Try.func19, Try.ntmps19
  go_wp2_with (go_at_call 27; refine (nil_none p _ h).mono ?_; rintro e w' ⟨rfl, rfl⟩)
  go_ret2
  exact ⟨rfl, rfl⟩
set_option maxHeartbeats 400000 in
theorem nil_use (p : Option Addr) (n : Int) (w : World) (h : Nil w p) : Calls Try.prog 13 #[.pointer p, .int .i64 n] w fun e w' => e = .returned (.int .i64 1) ∧ w = w' := by
  go_enter Try.func13, Try.ntmps13
  go_wp2_with (go_at_call 27; refine (nil_none p _ h).mono ?_; rintro e w' ⟨rfl, rfl⟩)
  go_ret
  exact ⟨rfl, rfl⟩
set_option maxHeartbeats 400000 in
theorem nil_replica (p : Option Addr) (w : World) (h : Nil w p) : Calls Try.prog 24 #[.pointer p] w fun e w' => e = .returned (.int .i64 0) ∧ w = w' := by
  go_enter Try.func24, Try.ntmps24
  go_wp2_with (go_at_call 27; refine (nil_none p _ h).mono ?_; rintro e w' ⟨rfl, rfl⟩)
  go_ret
  exact ⟨rfl, rfl⟩
set_option maxHeartbeats 400000 in
theorem nil_last (p : Option Addr) (w : World) (h : Nil w p) : Calls Try.prog 14 #[.pointer p] w fun e w' => e = .returned (.int .i64 0) ∧ w = w' := by
  go_enter Try.func14, Try.ntmps14
  go_wp2_with (go_at_call 27; refine (nil_none p _ h).mono ?_; rintro e w' ⟨rfl, rfl⟩)
  go_ret
  exact ⟨rfl, rfl⟩
set_option maxHeartbeats 400000 in
theorem nil_left (p : Option Addr) (w : World) (h : Nil w p) : Calls Try.prog 15 #[.pointer p] w fun e w' => e = .returned (.int .i64 0) ∧ w = w' := by
  go_enter Try.func15, Try.ntmps15
  go_wp2_with (go_at_call 27; refine (nil_none p _ h).mono ?_; rintro e w' ⟨rfl, rfl⟩)
  go_ret
  exact ⟨rfl, rfl⟩
set_option maxHeartbeats 400000 in
theorem nil_copy (p : Option Addr) (w : World) (h : Nil w p) : Calls Try.prog 18 #[.pointer p] w fun e w' => e = .returned (.pointer none) ∧ w = w' := by
  go_enter Try.func18, Try.ntmps18
  go_wp2_with (go_at_call 27; refine (nil_none p _ h).mono ?_; rintro e w' ⟨rfl, rfl⟩)
  go_ret
  exact ⟨rfl, rfl⟩
set_option maxHeartbeats 400000 in
theorem nil_next (p : Option Addr) (w : World) (h : Nil w p) : Calls Try.prog 20 #[.pointer p] w fun e w' => e = .returned (.tuple #[.agg #[.int .i64 0, .int .i64 0], .int .i64 1]) ∧ Below w.heap.size w w' := by
  have hP := Lib.hid (nil_peek p 1 (w.alloc (.cells #[.int .i64 0, .int .i64 0] 30)) (h.kept ((Below.refl _ _).alloc (Nat.le_refl _) _)))
  go_enter Try.func20, Try.ntmps20
  go_wp2_with (go_at_call 19; refine hP.out.mono ?_; rintro e w' ⟨rfl, rfl⟩)
  refine bodyPost_ret (v := .tuple #[.agg #[.int .i64 0, .int .i64 0], .int .i64 1]) (by simp [results, Try.results20, go_sem]) rfl ⟨rfl, ?_⟩
  exact (Below.refl _ _).alloc (Nat.le_refl _) _
set_option maxHeartbeats 400000 in
theorem nil_gives (p : Option Addr) (w : World) (h : Nil w p) : Calls Try.prog 11 #[.pointer p, .agg #[.int .i64 0, .int .i64 0], .int .i64 1] w fun e w' => e = .returned (.bool true) ∧ Below w.heap.size w w' := by
  have HN := Lib.hid (nil_next p (w.alloc (.cells #[.int .i64 0, .int .i64 0] 30)) (h.kept ((Below.refl _ _).alloc (Nat.le_refl _) _)))
  have hq := dot_eql
  go_enter Try.func11, Try.ntmps11
  go_wp2_with fail
  refine HN.out.mono ?_
  rintro x w2 ⟨rfl, hb⟩
  have hB := (Blk.new' w 30 [.int .i64 0, .int .i64 0] rfl).kept hb
  have n0 := hB.cell 0
  have n1 := hB.cell 1
  simp only [List.getElem?_cons_zero, List.getElem?_cons_succ] at n0 n1
  have hsz : w.heap.size < w2.heap.size := hB.lt
  go_wp2_with fail
  go_ret
  exact ⟨rfl, (((Below.refl _ _).alloc (Nat.le_refl _) _).trans (hb.mono (by simp))).alloc (by omega) _⟩
set_option maxHeartbeats 400000 in
theorem nil_peeks (p : Option Addr) (n : Int) (w : World) (h : Nil w p) : Calls Try.prog 12 #[.pointer p, .int .i64 n, .slice none 0 0, .int .i64 1] w fun e w' => e = .returned (.bool true) ∧ Below w.heap.size w w' := by
  go_enter Try.func12, Try.ntmps12
  go_wp2_with fail
  refine (nil_peek p n _ h).mono ?_
  rintro x w' ⟨rfl, rfl⟩
  go_wp2_with fail
  refine (dots_any none none 0 0 [] [] _ (Rd.nil _ _ _) (Rd.nil _ _ _) (by decide) (by decide)).mono ?_
  rintro x w2 ⟨rfl, hb2⟩
  go_wp2_with fail
  go_ret
  exact ⟨rfl, hb2⟩
end Go.Proofs.Ytloomdanpnkbmaa
