/- StockHolds: the walk, for every argument. -/
import Derived.Test.YtdancoblphkakaaLawE
namespace Go.Proofs.Ytdancoblphkakaa
open Go.RowKit

set_option maxRecDepth 100000 in
set_option maxHeartbeats 4000000 in
theorem stockHolds_walk (places : Int) (p : Option Addr) (cc : Nat) (l : List Ac) (w : World) (hl : Rd w w.heap.size p (acs l)) (hw : ∀ x ∈ l, x.Ok) :
    Calls Try.prog 5 #[.int .i64 places, .slice p l.length cc] w fun e w' => e = .returned (.bool true) ∧ Below w.heap.size w w' := by
  by_cases h1 : 1 ≤ places
  case neg =>
    have i1 : places < 1 := by omega
    clear hl hw h1
    go_enter Try.func5, Try.ntmps5
    go_wp2_with fail
    refine (known_any _).mono ?_
    rintro e w9 ⟨rfl, hb9⟩
    have HP := Lib.hid hb9
    clear hb9
    go_wp2_with fail
    go_ret
    exact ⟨rfl, HP.out⟩
  have i1b : decide (places < 1) = false := by simp; omega
  by_cases h6 : places ≤ 6
  case neg =>
    have i6 : 6 < places := by omega
    clear hl hw h6
    go_enter Try.func5, Try.ntmps5
    go_wp2_with fail
    refine (known_any _).mono ?_
    rintro e w9 ⟨rfl, hb9⟩
    have HP := Lib.hid hb9
    clear hb9
    go_wp2_with fail
    go_ret
    exact ⟨rfl, HP.out⟩
  have i6b : decide (6 < places) = false := by simp; omega
  by_cases h80 : l.length ≤ 80
  case neg =>
    have i80 : 80 < (l.length : Int) := by omega
    clear hl hw h80
    go_enter Try.func5, Try.ntmps5
    go_wp2_with fail
    refine (known_any _).mono ?_
    rintro e w9 ⟨rfl, hb9⟩
    have HP := Lib.hid hb9
    clear hb9
    go_wp2_with fail
    go_ret
    exact ⟨rfl, HP.out⟩
  obtain ⟨n, rfl⟩ : ∃ n : Nat, places = (n : Int) := ⟨places.toNat, by omega⟩
  exact stockHolds_core n p cc l w (by omega) (by omega) h80 hl hw
end Go.Proofs.Ytdancoblphkakaa
