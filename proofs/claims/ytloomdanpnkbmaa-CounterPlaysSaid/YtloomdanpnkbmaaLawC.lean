/- The walk of CounterPlays: it returns true. -/
import Derived.Test.YtloomdanpnkbmaaLawA
namespace Go.Proofs.Ytloomdanpnkbmaa
open Go.RowKit

theorem nextNew_bd (l : Int) (h0 : 0 ≤ l) (h1 : l ≤ 4294967295) : 0 ≤ nextNew l ∧ nextNew l ≤ 4294967295 := by unfold nextNew; split <;> omega
theorem useNew_bd (l n : Int) (h0 : 0 ≤ l) (h1 : l ≤ 4294967295) : 0 ≤ useNew l n ∧ useNew l n ≤ 4294967295 := by unfold useNew; split <;> (try split) <;> omega

set_option maxRecDepth 100000 in
set_option maxHeartbeats 2000000 in
theorem counterPlays_core (r l : Int) (p : Option Addr) (cc : Nat) (xs : List (Int × Int)) (w : World) (h : okR r l = true) (hxs : Rd w w.heap.size p (dotCells xs)) (hlen : xs.length ≤ 60) :
    Calls Try.prog 6 #[.int .i64 r, .int .i64 l, .slice p xs.length cc] w fun e w' => e = .returned (.bool true) ∧ Below w.heap.size w w' := by
  have hp := okR_parts h
  have HH := Lib.hid h
  clear h
  have hr : r ≠ 0 := by omega
  go_enter Try.func6, Try.ntmps6
  go_wp2_with fail
  refine (allowed_any r l _).mono ?_
  rintro e w' ⟨rfl, rfl⟩
  rw [HH.out]
  go_wp2_with fail
  refine (new_yes r l _ HH.out).mono ?_
  rintro e w1 ⟨c0, rfl, hc0, hC0, hb0⟩
  go_wp2_with fail
  generalize hW : (World.alloc _ _) = W
  have hX0 : Cnt W w1.heap.size 38 r l := by rw [← hW]; exact Blk.new' w1 38 _ rfl
  have hC : Cnt W c0 52 r l := by rw [← hW]; exact Blk.alloc hC0 _
  have hb : Below w.heap.size w W := by rw [← hW]; exact hb0.alloc hb0.size _
  have hX : w.heap.size ≤ w1.heap.size := hb0.size
  clear hW hC0 hb0
  generalize w1.heap.size = X at *
  go_loopw [7, 10] (fun c i wr => ∃ (k C : Nat) (L : Int), k ≤ xs.length ∧ i = .int .i64 k ∧ c = .pointer (some ⟨C, 0, none⟩) ∧ w.heap.size ≤ C ∧ Cnt wr C 52 r L ∧ Cnt wr X 38 r L ∧ 0 ≤ L ∧ L ≤ 4294967295 ∧ Below w.heap.size w wr) (fun _ i _ => xs.length - (intOf i).toNat)
  case atStart => exact ⟨0, c0, l, Nat.zero_le _, rfl, rfl, hc0, hC, hX0, hp.2.2.1, hp.2.2.2, hb⟩
  case round =>
    clear hC hX0 hb
    obtain ⟨k, C, L, hk, rfl, rfl, hcw, hC, hX1, hL0, hL1, hb⟩ := hrel
    by_cases hlt : k < xs.length
    · obtain ⟨bb, o, rfl, _, hc1, hc2⟩ := (hxs.below hb).dot hlt
      have hi : (k : Int) < (xs.length : Int) := by omega
      have hne : C ≠ X := hC.ne_ hX1 (by decide)
      generalize hw1 : (xs[k]).1 = a at *
      generalize hw2 : (xs[k]).2 = n at *
      clear hw1 hw2
      by_cases a0 : a = 0
      · subst a0
        go_wp2_with fail
        refine (refNext_any X 38 r L _ hX1 hL0 hL1).mono ?_
        rintro e w2 ⟨rfl, hX2, hg2⟩
        rw [nextV]
        have hC2 := hC.grown hg2 (fun e => hne (by injection e))
        have hb2 := below_gb hb hg2 hX
        have hbd := nextNew_bd L hL0 hL1
        have hbd0 := hbd.1
        have hbd1 := hbd.2
        clear hC hX1 hb hg2 hbd
        go_wp2_with fail
        refine (gives_any C r L _ _ _ _ (Cnt.kept hC2 ((Below.refl _ _).alloc (Nat.le_refl _) _)) hr hL0 hL1 rfl rfl rfl).mono ?_
        rintro e w3 ⟨rfl, hC3, hg3⟩
        have hX3 := (Cnt.kept hX2 ((Below.refl _ _).alloc (Nat.le_refl _) (.cells #[.int .i64 (nextR r L), .int .i64 (nextC L)] 30))).grown hg3 (fun e => hne (by injection e with e; exact e.symm))
        have hb3 := below_gb (hb2.alloc hb2.size _) hg3 hcw
        clear hC2 hX2 hb2 hg3
        generalize nextNew L = L2 at *
        go_wp2_with fail
        refine (alike_any C X 38 r L2 _ hC3 hX3 hr hbd0 hbd1).mono ?_
        rintro e w4 ⟨rfl, hb4⟩
        go_wp2_with fail
        go_roundw
        case rel => exact ⟨k + 1, C, L2, by omega, by go_num, rfl, hcw, hC3.kept hb4, hX3.kept hb4, hbd0, hbd1, below_step hb3 hb4⟩
        case measure => simp [intOf]; omega
      · have ha0 : (a == 0) = false := by simpa using a0
        by_cases a1 : a = 1
        · subst a1
          go_wp2_with fail
          refine (refPeek_any X 38 r L n _ hX1 hL0 hL1).mono ?_
          rintro e w2 ⟨v, rfl, ⟨q, d, rfl, _, _, hq, _⟩, hb2⟩
          have hC2 := hC.kept hb2
          have hX2 := hX1.kept hb2
          have hb3 := below_step hb hb2
          clear hC hX1 hb hb2
          go_wp2_with fail
          refine (peeks_any C r L n q d _ _ _ rfl _ hC2 hr hL0 hL1 hq rfl rfl).mono ?_
          rintro e w3 ⟨rfl, hb4⟩
          have hC3 := hC2.kept hb4
          have hX3 := hX2.kept hb4
          have hb5 := below_step hb3 hb4
          clear hC2 hX2 hb3 hb4
          go_wp2_with fail
          refine (alike_any C X 38 r L _ hC3 hX3 hr hL0 hL1).mono ?_
          rintro e w4 ⟨rfl, hb4⟩
          go_wp2_with fail
          go_roundw
          case rel => exact ⟨k + 1, C, L, by omega, by go_num, rfl, hcw, hC3.kept hb4, hX3.kept hb4, hL0, hL1, below_step hb5 hb4⟩
          case measure => simp [intOf]; omega
        · have ha1 : (a == 1) = false := by simpa using a1
          have hbd := useNew_bd L n hL0 hL1
          have hbd0 := hbd.1
          have hbd1 := hbd.2
          clear hbd
          by_cases a2 : a = 2
          · subst a2
            go_wp2_with fail
            refine (use_any C 52 r L n _ hC hr hL0 hL1).mono ?_
            rintro e w2 ⟨rfl, hC2, hg2⟩
            have hX2 := hX1.grown hg2 (fun e => hne (by injection e with e; exact e.symm))
            have hb2 := below_gb hb hg2 hcw
            clear hC hX1 hb hg2
            go_wp2_with fail
            refine (refUse_any X 38 r L n _ hX2 hL0 hL1).mono ?_
            rintro e w3 ⟨rfl, hX3, hg3⟩
            have hC3 := hC2.grown hg3 (fun e => hne (by injection e))
            have hb3 := below_gb hb2 hg3 hX
            clear hC2 hX2 hb2 hg3
            have hee : (useErr L n != useErr L n) = false := by simp
            generalize useNew L n = L2 at *
            generalize useErr L n = er at *
            go_wp2_with fail
            refine (alike_any C X 38 r L2 _ hC3 hX3 hr hbd0 hbd1).mono ?_
            rintro e w4 ⟨rfl, hb4⟩
            go_wp2_with fail
            go_roundw
            case rel => exact ⟨k + 1, C, L2, by omega, by go_num, rfl, hcw, hC3.kept hb4, hX3.kept hb4, hbd0, hbd1, below_step hb3 hb4⟩
            case measure => simp [intOf]; omega
          · have ha2 : (a == 2) = false := by simpa using a2
            clear hbd0 hbd1 a0 a1 a2
            go_wp2_with fail
            refine (copy_any C r L _ hC hr).mono ?_
            rintro e w2 ⟨D, rfl, hD, hD2, hb2⟩
            have hC2 := hC.kept hb2
            have hX2 := hX1.kept hb2
            have hCD : C ≠ D := by have := hC.lt; omega
            have hwD : w.heap.size ≤ D := Nat.le_trans hb.size hD
            have hb3 := below_step hb hb2
            clear hC hX1 hb hb2
            have hbd := useNew_bd L 1 hL0 hL1
            go_wp2_with fail
            refine (use_any C 52 r L 1 _ hC2 hr hL0 hL1).mono ?_
            rintro e w3 ⟨rfl, hC3, hg3⟩
            have hX3 := hX2.grown hg3 (fun e => hne (by injection e with e; exact e.symm))
            have hD3 := hD2.grown hg3 (fun e => hCD (by injection e with e; exact e.symm))
            have hb4 := below_gb hb3 hg3 hcw
            clear hC2 hX2 hb3 hg3 hD2
            go_wp2_with fail
            refine (next_any C r (useNew L 1) _ hC3 hr hbd.1 hbd.2).mono ?_
            rintro e w4 ⟨rfl, hC4, hg4⟩
            have hX4 := hX3.grown hg4 (fun e => hne (by injection e with e; exact e.symm))
            have hD4 := hD3.grown hg4 (fun e => hCD (by injection e with e; exact e.symm))
            have hb5 := below_gb hb4 hg4 hcw
            clear hC3 hX3 hb4 hg4 hD3 hC4
            go_wp2_with fail
            refine (alike_any D X 38 r L _ hD4 hX4 hr hL0 hL1).mono ?_
            rintro e w5 ⟨rfl, hb6⟩
            go_wp2_with fail
            go_roundw
            case rel => exact ⟨k + 1, D, L, by omega, by go_num, rfl, hwD, hD4.kept hb6, hX4.kept hb6, hL0, hL1, below_step hb5 hb6⟩
            case measure => simp [intOf]; omega
    · go_wp2_with fail
      refine (known_any _).mono ?_
      rintro e w3 ⟨rfl, hb3⟩
      go_wp2_with fail
      go_ret
      exact ⟨rfl, below_step hb hb3⟩

set_option maxHeartbeats 400000 in
theorem counterPlays_walk (r l : Int) (p : Option Addr) (cc : Nat) (xs : List (Int × Int)) (w : World) (hxs : Rd w w.heap.size p (dotCells xs)) :
    Calls Try.prog 6 #[.int .i64 r, .int .i64 l, .slice p xs.length cc] w fun e w' => e = .returned (.bool true) ∧ Below w.heap.size w w' := by
  by_cases h : okR r l = true
  · by_cases h1 : 60 < xs.length
    · have HH := Lib.hid h
      clear h
      go_enter Try.func6, Try.ntmps6
      go_wp2_with fail
      refine (allowed_any r l _).mono ?_
      rintro e w' ⟨rfl, rfl⟩
      rw [HH.out]
      go_wp2_with fail
      refine (known_any _).mono ?_
      rintro e w3 ⟨rfl, hb3⟩
      go_wp2_with fail
      go_ret
      exact ⟨rfl, hb3⟩
    · exact counterPlays_core r l p cc xs w h hxs (by omega)
  · have HH := Lib.hid (show okR r l = false by simpa using h)
    clear h
    go_enter Try.func6, Try.ntmps6
    go_wp2_with fail
    refine (allowed_any r l _).mono ?_
    rintro e w' ⟨rfl, rfl⟩
    rw [HH.out]
    go_wp2_with fail
    refine (known_any _).mono ?_
    rintro e w3 ⟨rfl, hb3⟩
    go_wp2_with fail
    go_ret
    exact ⟨rfl, hb3⟩
end Go.Proofs.Ytloomdanpnkbmaa
