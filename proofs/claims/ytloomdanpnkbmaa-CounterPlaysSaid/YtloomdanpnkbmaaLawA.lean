/- The walks of CounterNew, CounterNil and CounterEnds: each returns true. -/
import Derived.Test.YtloomdanpnkbmaaKnown
import Derived.Test.YtloomdanpnkbmaaNil
namespace Go.Proofs.Ytloomdanpnkbmaa
open Go.RowKit

theorem okR_parts {r l : Int} (h : okR r l = true) : 1 ≤ r ∧ r ≤ 65535 ∧ 0 ≤ l ∧ l ≤ 4294967295 := by simpa [okR] using h

set_option maxHeartbeats 400000 in
theorem counterNew_walk (r l : Int) (w : World) : Calls Try.prog 4 #[.int .i64 r, .int .i64 l] w fun e w' => e = .returned (.bool true) ∧ Below w.heap.size w w' := by
  by_cases h : okR r l = true
  · have hp := okR_parts h
    have HH := Lib.hid h
    clear h
    go_enter Try.func4, Try.ntmps4
    go_wp2_with fail
    refine (allowed_any r l _).mono ?_
    rintro e w' ⟨rfl, rfl⟩
    rw [HH.out]
    go_wp2_with fail
    refine (new_yes r l _ HH.out).mono ?_
    rintro e w1 ⟨c, rfl, hc, hC, hb⟩
    go_wp2_with fail
    refine (alike_any c _ 38 r l _ (Cnt.kept hC ((Below.refl _ _).alloc (Nat.le_refl _) _)) (Blk.new' w1 38 _ rfl) (by omega) hp.2.2.1 hp.2.2.2).mono ?_
    rintro e w2 ⟨rfl, hb2⟩
    go_wp2_with fail
    refine (known_any _).mono ?_
    rintro e w3 ⟨rfl, hb3⟩
    go_wp2_with fail
    go_ret
    exact ⟨rfl, below_step ((hb.alloc hb.size _).trans (hb2.mono (by have := hb.size; simp; omega))) hb3⟩
  · have HH := Lib.hid (show okR r l = false by simpa using h)
    clear h
    go_enter Try.func4, Try.ntmps4
    go_wp2_with fail
    refine (allowed_any r l _).mono ?_
    rintro e w' ⟨rfl, rfl⟩
    rw [HH.out]
    go_wp2_with fail
    refine (fails_any r l _ HH.out).mono ?_
    rintro e w2 ⟨rfl, hb2⟩
    go_wp2_with fail
    refine (known_any _).mono ?_
    rintro e w3 ⟨rfl, hb3⟩
    go_wp2_with fail
    go_ret
    exact ⟨rfl, below_step hb2 hb3⟩

/-- The k-th of the two pointers. -/
def two (z : Nat) : List Value := [.pointer none, .pointer (some ⟨z, 0, none⟩)]
def twoAt (z k : Nat) : Option Addr := if k = 0 then none else some ⟨z, 0, none⟩

set_option maxHeartbeats 1000000 in
theorem counterNil_walk (n : Int) (w : World) : Calls Try.prog 7 #[.int .i64 n] w fun e w' => e = .returned (.bool true) ∧ Below w.heap.size w w' := by
  go_enter Try.func7, Try.ntmps7
  go_wp2_with fail
  generalize hW : (World.alloc _ _) = W
  have hZ : Cnt W w.heap.size 52 0 0 := by rw [← hW]; exact (Blk.new' w 52 _ rfl).alloc _
  have hS : Blk W (w.heap.size + 1) 24 (two w.heap.size) := by rw [← hW]; exact Blk.new' (w.alloc _) 24 (two w.heap.size) (by simp)
  have hb : Below w.heap.size w W := by rw [← hW]; exact ((Below.refl _ _).alloc (Nat.le_refl _) _).alloc (by simp) _
  clear hW
  have hSL : w.heap.size + 1 < W.heap.size := hS.lt
  have hZL : w.heap.size < W.heap.size := by omega
  go_loopw [9] (fun i wr => ∃ k : Nat, k ≤ 2 ∧ i = .int .i64 k ∧ Below W.heap.size W wr) (fun i _ => 2 - (intOf i).toNat)
  case atStart => exact ⟨0, Nat.zero_le _, rfl, Below.refl _ _⟩
  case round =>
    obtain ⟨k, hk, rfl, hbr⟩ := hrel
    by_cases hlt : k < 2
    · have hi : (k : Int) < 2 := by omega
      have hcell : wr.cell? ⟨w.heap.size + 1, k, none⟩ = some (.pointer (twoAt w.heap.size k)) := by
        have := (hS.below hbr hSL).cell k
        rw [this]
        have : k = 0 ∨ k = 1 := by omega
        rcases this with rfl | rfl <;> rfl
      have hN : Nil wr (twoAt w.heap.size k) := by
        have : k = 0 ∨ k = 1 := by omega
        rcases this with rfl | rfl
        · exact .inl rfl
        · exact .inr ⟨w.heap.size, rfl, hZ.below hbr hZL⟩
      generalize twoAt w.heap.size k = p at *
      go_wp2_with fail
      refine (nil_gives p _ hN).mono ?_
      rintro e w1 ⟨rfl, hb1⟩
      have hN1 := hN.kept hb1
      go_wp2_with fail
      refine (nil_peeks p n _ hN1).mono ?_
      rintro e w2 ⟨rfl, hb2⟩
      have hN2 := hN1.kept hb2
      go_wp2_with fail
      refine (nil_use p n _ hN2).mono ?_
      rintro e w' ⟨rfl, rfl⟩
      go_wp2_with fail
      refine (nil_replica p _ hN2).mono ?_
      rintro e w' ⟨rfl, rfl⟩
      go_wp2_with fail
      refine (nil_last p _ hN2).mono ?_
      rintro e w' ⟨rfl, rfl⟩
      go_wp2_with fail
      refine (nil_left p _ hN2).mono ?_
      rintro e w' ⟨rfl, rfl⟩
      go_wp2_with fail
      refine (nil_copy p _ hN2).mono ?_
      rintro e w' ⟨rfl, rfl⟩
      go_wp2_with fail
      go_roundw
      case rel => exact ⟨k + 1, by omega, by go_num, (hbr.trans (hb1.mono hbr.size)).trans (hb2.mono (Nat.le_trans hbr.size hb1.size))⟩
      case measure => simp [intOf]; omega
    · go_wp2_with fail
      refine (known_any _).mono ?_
      rintro e w3 ⟨rfl, hb3⟩
      go_wp2_with fail
      go_ret
      exact ⟨rfl, below_step (below_step hb hbr) hb3⟩
end Go.Proofs.Ytloomdanpnkbmaa
