/- HistoryOverlaps, walked. -/
import Derived.Test.YtbkkplednfdfdaaArgs
import Derived.Test.YtbkkplednfdfdaaKnown
import Derived.Test.YtbkkplednfdfdaaSmall
import Derived.Test.YtbkkplednfdfdaaEvsC
namespace Go.Proofs.Ytbkkplednfdfdaa
open Go.RowKit Go.Maps

set_option maxRecDepth 100000 in
theorem historyOverlaps_walk (p : Option Addr) (c : Nat) (xs : List Ev) (W : World) (hr : Rd W W.heap.size p (evs xs)) (hc : xs.length ≤ c) (hm : c ≤ maxLen) (hok : ∀ x ∈ xs, EvOk W x) :
    Calls Try.prog 4 #[.slice p xs.length c] W fun e w' => e = .returned (.bool true) ∧ Below W.heap.size W w' := by
  obtain ⟨l, hl, hrel⟩ := choose_list hok
  have HS := Lib.hid (small_any W p c xs l hr hl (by unfold maxLen at hm; omega) (fun j x q hx hq => (hrel j x q hx hq).1))
  have HK := Lib.hid known_any
  have HO := Lib.hid (fun (h : xs.length ≤ 4096) => overlaps_any p c xs hr hc h hm)
  have HP := Lib.hid (fun w' (hb : Below W.heap.size W w') (h : xs.length ≤ 4096) => refOverlaps_any (w := w') p c xs (hr.kept hb) h)
  have HL := Lib.hid hl
  clear hr hm hok hrel
  obtain ⟨n, hn⟩ : ∃ n, xs.length = n := ⟨_, rfl⟩
  rw [hn] at HS HO HP HL hc ⊢
  clear hn hl
  go_enter Try.func4, Try.ntmps4
  go_wp2_with fail
  refine HS.out.mono ?_
  rintro e w1 ⟨r, rfl, rfl, hx⟩
  cases r with
  | false =>
    clear hx
    go_wp2_with fail
    refine (HK.out _).mono ?_
    rintro e w2 ⟨rfl, hb⟩
    have HB := Lib.hid hb
    clear hb
    go_wp2_with fail
    go_ret
    exact ⟨rfl, HB.out⟩
  | true =>
    have hle : n ≤ 4096 := by have := (hx rfl).1; have := HL.out; omega
    have HLE := Lib.hid hle
    clear hx hle
    go_wp2_with fail
    refine (HO.out HLE.out).mono ?_
    rintro e w2 ⟨rfl, hb⟩
    have HB := Lib.hid hb
    clear hb
    generalize ovL xs = k at *
    go_wp2_with fail
    refine (HP.out _ HB.out HLE.out).mono ?_
    rintro e w3 ⟨rfl, hb⟩
    have HB3 := Lib.hid (below_step HB.out hb)
    clear hb
    go_wp2_with fail
    refine (HK.out _).mono ?_
    rintro e w4 ⟨rfl, hb⟩
    have HB4 := Lib.hid (below_step HB3.out hb)
    clear hb
    go_wp2_with fail
    go_ret
    exact ⟨rfl, HB4.out⟩
end Go.Proofs.Ytbkkplednfdfdaa
