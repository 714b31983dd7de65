/- The walk of CounterHolds: it returns true. -/
import Derived.Test.YtloomdanpnkbmaaLawC
namespace Go.Proofs.Ytloomdanpnkbmaa
open Go.RowKit

/-- The cells of a list of bytes. -/
def bytesCells (l : List Int) : List Value := l.map (Value.int .u8)
theorem Rd.byte {w : World} {B : Nat} {p : Option Addr} {l : List Int} (h : Rd w B p (l.map (Value.int .u8))) {k : Nat} (hk : k < l.length) : ∃ b o, p = some ⟨b, o, none⟩ ∧ b < B ∧ w.cell? ⟨b, o + k, none⟩ = some (.int .u8 l[k]) := by
  obtain ⟨b, o, hp, hb, hc, _⟩ := h.at_ (k := k) (by simpa using hk)
  exact ⟨b, o, hp, hb, by simpa using hc⟩
theorem run_at (r l : Int) (n k : Nat) (h : k < (run r l n).length) : (run r l n)[k] = (r, l + 1 + (k : Int)) := by simp [run]

set_option maxRecDepth 100000 in
set_option maxHeartbeats 2000000 in
theorem counterHolds_core (r l : Int) (p : Option Addr) (cc : Nat) (xs : List Int) (w : World) (h : okR r l = true) (hxs : Rd w w.heap.size p (xs.map (Value.int .u8))) (hby : ∀ x ∈ xs, 0 ≤ x ∧ x ≤ 255) (hlen : xs.length ≤ 20) :
    Calls Try.prog 5 #[.int .i64 r, .int .i64 l, .slice p xs.length cc] w fun e w' => e = .returned (.bool true) ∧ Below w.heap.size w w' := by
  have hp := okR_parts h
  have HH := Lib.hid h
  clear h
  have HBY := Lib.hid hby
  clear hby
  have hr : r ≠ 0 := by omega
  go_enter Try.func5, Try.ntmps5
  go_wp2_with fail
  refine (allowed_any r l _).mono ?_
  rintro e w' ⟨rfl, rfl⟩
  rw [HH.out]
  go_wp2_with fail
  refine (new_yes r l _ HH.out).mono ?_
  rintro e w1 ⟨C, rfl, hc0, hC, hb⟩
  go_wp2_with fail
  go_loopw [9, 10] (fun a i wr => ∃ (k : Nat) (L : Int), k ≤ xs.length ∧ i = .int .i64 k ∧ a = .int .i64 L ∧ Cnt wr C 52 r L ∧ 0 ≤ L ∧ L ≤ 4294967295 ∧ Below w.heap.size w wr) (fun _ i _ => xs.length - (intOf i).toNat)
  case atStart => exact ⟨0, l, Nat.zero_le _, rfl, rfl, hC, hp.2.2.1, hp.2.2.2, hb⟩
  case round =>
    clear hC hb
    obtain ⟨k, L, hk, rfl, rfl, hC, hL0, hL1, hb⟩ := hrel
    by_cases hlt : k < xs.length
    · obtain ⟨bb, o, rfl, _, hc1⟩ := (hxs.below hb).byte hlt
      have hi : (k : Int) < (xs.length : Int) := by omega
      have hy := HBY.out xs[k] (List.getElem_mem hlt)
      have hy0 := hy.1
      have hy1 := hy.2
      obtain ⟨n, hn⟩ : ∃ n : Nat, xs[k] % 41 = (n : Int) := ⟨(xs[k] % 41).toNat, by omega⟩
      have hn40 : (n : Int) ≤ 40 := by omega
      clear hy
      have hLL : (4294967295 - L == 4294967295 - L) = true := by simp
      have hL2 : (L != L) = false := by simp
      by_cases hfit : (n : Int) ≤ 4294967295 - L
      · have e1 : peekErr L n = 0 := by rw [peekErr, if_neg (by omega), if_neg (by omega)]
        have e2 : peekDots r L n = run r L n := by rw [peekDots, if_neg (by omega), if_neg (by omega), Int.toNat_natCast]
        have e3 : useErr L n = 0 := by rw [useErr, if_neg (by omega), if_neg (by omega)]
        have e4 : useNew L n = L + n := by rw [useNew, if_neg (by omega), if_neg (by omega)]
        have E12 := Lib.hid (And.intro e1 e2)
        have E34 := Lib.hid (And.intro e3 e4)
        clear e1 e2 e3 e4
        go_wp2_with fail
        refine (copy_any C r L _ hC hr).mono ?_
        rintro e w2 ⟨D, rfl, hD, hD2, hb2⟩
        have hC2 := hC.kept hb2
        have hCD : C ≠ D := by have := hC.lt; omega
        have hwD : w.heap.size ≤ D := Nat.le_trans hb.size hD
        have hb3 := below_step hb hb2
        clear hC hb hb2
        have HP := Lib.hid (peek_any C r L n w2 hC2 hr hL0 hL1)
        rw [E12.out.1, E12.out.2] at HP
        go_wp2_with fail
        refine HP.out.mono ?_
        rintro e w3 ⟨v, rfl, ⟨q, d, rfl, _, _, hq, hqf⟩, hb4⟩
        clear HP
        have hqC : ∀ a, q = some a → a.block ≠ C := fun a ha => by have h1 := hqf a ha; have h2 := hC2.lt; omega
        have hqD : ∀ a, q = some a → a.block ≠ D := fun a ha => by have h1 := hqf a ha; have h2 := hD2.lt; omega
        have hC3 := hC2.kept hb4
        have hD3 := hD2.kept hb4
        have hb5 := below_step hb3 hb4
        clear hC2 hD2 hb3 hb4 hqf
        go_wp2_with fail
        refine (last_any C 52 r L _ hC3 hr).mono ?_
        rintro e w' ⟨rfl, rfl⟩
        go_wp2_with fail
        refine (last_any C 52 r L _ hC3 hr).mono ?_
        rintro e w' ⟨rfl, rfl⟩
        go_wp2_with fail
        refine (left_any C 52 r L _ hC3 hr hL0 hL1).mono ?_
        rintro e w' ⟨rfl, rfl⟩
        have hsum : L + (4294967295 - L) = 4294967295 := by omega
        go_wp2_with fail
        refine (left_any C 52 r L _ hC3 hr hL0 hL1).mono ?_
        rintro e w' ⟨rfl, rfl⟩
        go_wp2_with fail
        have HU := Lib.hid (use_any D 52 r L n w3 hD3 hr hL0 hL1)
        rw [E34.out.1, E34.out.2] at HU
        refine HU.out.mono ?_
        rintro e w4 ⟨rfl, hD4, hg4⟩
        have hC4 := hC3.grown hg4 (fun e => hCD (by injection e))
        have hq4 := hq.gb hg4 hqD
        have hb6 := below_gb hb5 hg4 hwD
        clear hC3 hD3 hq hb5 hg4 HU hsum hLL hL2
        have hrl : (((run r L n).length : Int) != (n : Int)) = false := by rw [run_len]; simp
        go_wp2_with fail
        go_loopw [9, 15] (fun a j wx => ∃ m : Nat, m ≤ n ∧ j = .int .i64 m ∧ a = .int .i64 (L + (m : Int)) ∧ Cnt wx C 52 r (L + (m : Int)) ∧ w4.grownBy wx (some C)) (fun _ j _ => n - (intOf j).toNat)
        case atStart => exact ⟨0, Nat.zero_le _, rfl, by simp, by simpa using hC4, gb_refl _ _⟩
        case round =>
          obtain ⟨m, hm, rfl, rfl, hCm, hgm⟩ := hrel
          by_cases hlt2 : m < n
          · have hi2 : (m : Int) < (n : Int) := by omega
            have hx : L + (m : Int) < 4294967295 := by omega
            have HN := Lib.hid (next_any C r (L + (m : Int)) wr hCm hr (by omega) (by omega))
            rw [nextV, nextR, nextC, nextErr, nextNew, if_pos hx, if_pos hx, if_pos hx, if_pos hx] at HN
            go_wp2_with fail
            refine HN.out.mono ?_
            rintro e w5 ⟨rfl, hC5, hg5⟩
            have hg6 := gb_step hgm hg5 (.inl rfl)
            obtain ⟨b2, o2, rfl, hb2lt, hd1, hd2⟩ := (hq4.gb hg6 hqC).dot (k := m) (by rw [run_len]; exact hlt2)
            rw [run_at] at hd1 hd2
            have hl2 : (m : Int) < ((run r L n).length : Int) := by rw [run_len]; exact hi2
            rw [show L + 1 + (m : Int) = L + (m : Int) + 1 from by omega] at hd2
            have k1 : (r == r) = true := by simp
            have k2 : (L + (m : Int) + 1 == L + (m : Int) + 1) = true := by simp
            have hq := dot_neq
            clear HN hCm
            go_wp2_with fail
            go_quiet (fail)
            go_wp2
            go_roundw
            case rel =>
              refine ⟨m + 1, by omega, by go_num, by go_num, ?_, gb_drewN (gb_alloc hg6 _) _⟩
              rw [show L + ((m + 1 : Nat) : Int) = L + (m : Int) + 1 from by omega]
              exact Blk.alloc hC5 _
            case measure => simp [intOf]; omega
          · have hmn : m = n := by omega
            subst hmn
            have hD5 := hD4.grown hgm (fun e => hCD (by injection e with e; exact e.symm))
            have hbd0 : 0 ≤ L + (m : Int) := by omega
            have hbd1 : L + (m : Int) ≤ 4294967295 := by omega
            have k1 : (L + (m : Int) != L + (m : Int)) = false := by simp
            have k2 : (4294967295 - (L + (m : Int)) != 4294967295 - (L + (m : Int))) = false := by simp
            go_wp2_with fail
            refine (last_any C 52 r (L + (m : Int)) _ hCm hr).mono ?_
            rintro e w' ⟨rfl, rfl⟩
            go_wp2_with fail
            refine (last_any D 52 r (L + (m : Int)) _ hD5 hr).mono ?_
            rintro e w' ⟨rfl, rfl⟩
            go_wp2_with fail
            refine (left_any C 52 r (L + (m : Int)) _ hCm hr hbd0 hbd1).mono ?_
            rintro e w' ⟨rfl, rfl⟩
            go_wp2_with fail
            refine (left_any D 52 r (L + (m : Int)) _ hD5 hr hbd0 hbd1).mono ?_
            rintro e w' ⟨rfl, rfl⟩
            go_wp2_with fail
            go_roundw
            case rel => exact ⟨k + 1, L + (m : Int), by omega, by go_num, rfl, hCm, hbd0, hbd1, below_gb hb6 hgm hc0⟩
            case measure => simp [intOf]; omega
      · have e1 : peekErr L n = 15 := by rw [peekErr, if_neg (by omega), if_pos (by omega)]
        have e2 : peekDots r L n = [] := by rw [peekDots, if_neg (by omega), if_pos (by omega)]
        have e3 : useErr L n = 15 := by rw [useErr, if_neg (by omega), if_pos (by omega)]
        have e4 : useNew L n = L := by rw [useNew, if_neg (by omega), if_pos (by omega)]
        have E12 := Lib.hid (And.intro e1 e2)
        have E34 := Lib.hid (And.intro e3 e4)
        clear e1 e2 e3 e4
        go_wp2_with fail
        refine (copy_any C r L _ hC hr).mono ?_
        rintro e w2 ⟨D, rfl, hD, hD2, hb2⟩
        have hC2 := hC.kept hb2
        have hCD : C ≠ D := by have := hC.lt; omega
        have hwD : w.heap.size ≤ D := Nat.le_trans hb.size hD
        have hb3 := below_step hb hb2
        clear hC hb hb2
        have HP := Lib.hid (peek_any C r L n w2 hC2 hr hL0 hL1)
        rw [E12.out.1, E12.out.2] at HP
        go_wp2_with fail
        refine HP.out.mono ?_
        rintro e w3 ⟨v, rfl, ⟨q, d, rfl, _, _, hq, hqf⟩, hb4⟩
        clear HP hq hqf
        have hC3 := hC2.kept hb4
        have hD3 := hD2.kept hb4
        have hb5 := below_step hb3 hb4
        clear hC2 hD2 hb3 hb4
        go_wp2_with fail
        refine (last_any C 52 r L _ hC3 hr).mono ?_
        rintro e w' ⟨rfl, rfl⟩
        go_wp2_with fail
        refine (last_any C 52 r L _ hC3 hr).mono ?_
        rintro e w' ⟨rfl, rfl⟩
        go_wp2_with fail
        refine (left_any C 52 r L _ hC3 hr hL0 hL1).mono ?_
        rintro e w' ⟨rfl, rfl⟩
        have hsum : L + (4294967295 - L) = 4294967295 := by omega
        go_wp2_with fail
        refine (left_any C 52 r L _ hC3 hr hL0 hL1).mono ?_
        rintro e w' ⟨rfl, rfl⟩
        go_wp2_with fail
        have HU := Lib.hid (use_any D 52 r L n w3 hD3 hr hL0 hL1)
        rw [E34.out.1, E34.out.2] at HU
        refine HU.out.mono ?_
        rintro e w4 ⟨rfl, hD4, hg4⟩
        have hC4 := hC3.grown hg4 (fun e => hCD (by injection e))
        have hb6 := below_gb hb5 hg4 hwD
        clear hC3 hD3 hb5 hg4 HU hsum hLL
        go_wp2_with fail
        refine (last_any C 52 r L _ hC4 hr).mono ?_
        rintro e w' ⟨rfl, rfl⟩
        go_wp2_with fail
        refine (last_any D 52 r L _ hD4 hr).mono ?_
        rintro e w' ⟨rfl, rfl⟩
        go_wp2_with fail
        go_roundw
        case rel => exact ⟨k + 1, L, by omega, by go_num, rfl, hC4, hL0, hL1, hb6⟩
        case measure => simp [intOf]; omega
    · go_wp2_with fail
      refine (known_any _).mono ?_
      rintro e w3 ⟨rfl, hb3⟩
      go_wp2_with fail
      go_ret
      exact ⟨rfl, below_step hb hb3⟩

set_option maxRecDepth 100000 in
set_option maxHeartbeats 400000 in
theorem counterHolds_walk (r l : Int) (p : Option Addr) (cc : Nat) (xs : List Int) (w : World) (hxs : Rd w w.heap.size p (xs.map (Value.int .u8))) (hby : ∀ x ∈ xs, (Lit.int .u8 x).wf = true) :
    Calls Try.prog 5 #[.int .i64 r, .int .i64 l, .slice p xs.length cc] w fun e w' => e = .returned (.bool true) ∧ Below w.heap.size w w' := by
  by_cases h : okR r l = true
  · by_cases h1 : 20 < xs.length
    · have HH := Lib.hid h
      clear h hby
      go_enter Try.func5, Try.ntmps5
      go_wp2_with fail
      refine (allowed_any r l _).mono ?_
      rintro e w' ⟨rfl, rfl⟩
      rw [HH.out]
      go_wp2_with fail
      refine (known_any _).mono ?_
      rintro e w3 ⟨rfl, hb3⟩
      go_wp2_with fail
      go_ret
      exact ⟨rfl, hb3⟩
    · exact counterHolds_core r l p cc xs w h hxs (fun x hx => bounds_u8 (hby x hx)) (by omega)
  · have HH := Lib.hid (show okR r l = false by simpa using h)
    clear h hby
    go_enter Try.func5, Try.ntmps5
    go_wp2_with fail
    refine (allowed_any r l _).mono ?_
    rintro e w' ⟨rfl, rfl⟩
    rw [HH.out]
    go_wp2_with fail
    refine (known_any _).mono ?_
    rintro e w3 ⟨rfl, hb3⟩
    go_wp2_with fail
    go_ret
    exact ⟨rfl, hb3⟩
end Go.Proofs.Ytloomdanpnkbmaa
