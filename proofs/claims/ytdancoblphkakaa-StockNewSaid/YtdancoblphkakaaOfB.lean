/- fresh; Of for states of a wrong shape. -/
import Derived.Test.YtdancoblphkakaaLaw
import Derived.Test.YtdancoblphkakaaDoes2
namespace Go.Proofs.Ytdancoblphkakaa
open Go.RowKit

section
variable {w : World} {G : List (List Int)} {D : List Int}
/-- Of for a state that has not the right shape. -/
theorem of_size (pg qd : Option Addr) (cg cd : Nat) (h : ¬ (1 ≤ G.length ∧ G.length ≤ 16 ∧ D.length = G.length)) : Calls Try.prog 11 #[.agg #[.slice pg G.length cg, .slice qd D.length cd]] w fun e w' => e = .returned (.tuple #[.pointer none, .int .i64 2]) ∧ Below w.heap.size w w' := by
  by_cases h1 : 1 ≤ G.length
  case neg =>
    have i1 : (G.length : Int) < 1 := by omega
    clear h h1
    go_enter Try.func11, Try.ntmps11
    go_wp2_with fail
    go_ret2
    exact ⟨rfl, (Below.refl _ _).alloc (Nat.le_refl _) _⟩
  have i1 : (1 : Int) ≤ (G.length : Int) := by omega
  have i1b : decide ((G.length : Int) < 1) = false := by simp; omega
  by_cases h16 : G.length ≤ 16
  case neg =>
    have i2 : 16 < (G.length : Int) := by omega
    clear h h16
    go_enter Try.func11, Try.ntmps11
    go_wp2_with fail
    go_ret2
    exact ⟨rfl, (Below.refl _ _).alloc (Nat.le_refl _) _⟩
  have i2 : (G.length : Int) ≤ 16 := by omega
  have i2b : decide (16 < (G.length : Int)) = false := by simp; omega
  have hne : ((D.length : Int) != (G.length : Int)) = true := by rw [bne_iff_ne]; omega
  clear h
  go_enter Try.func11, Try.ntmps11
  go_wp2_with fail
  go_ret2
  exact ⟨rfl, (Below.refl _ _).alloc (Nat.le_refl _) _⟩
set_option maxHeartbeats 1000000 in
theorem of_bad (pg qd : Option Addr) (cg cd : Nat) (hG : MR w pg G) (hD : Rd w w.heap.size qd (ints D)) (h1 : 1 ≤ G.length) (h16 : G.length ≤ 16) (hd : D.length = G.length) (hs : ∀ i (_ : i < G.length), (G[i]).length ≤ 1000)
    (h : ¬ (D.any bad = false ∧ ∀ i (_ : i < G.length), (G[i]).length = G.length ∧ (G[i]).any bad = false)) : Calls Try.prog 11 #[.agg #[.slice pg G.length cg, .slice qd D.length cd]] w fun e w' => e = .returned (.tuple #[.pointer none, .int .i64 2]) ∧ Below w.heap.size w w' := by
  have i1 : (1 : Int) ≤ (G.length : Int) := by omega
  have i1b : decide ((G.length : Int) < 1) = false := by simp; omega
  have i2 : (G.length : Int) ≤ 16 := by omega
  have i2b : decide (16 < (G.length : Int)) = false := by simp; omega
  have HCT := Lib.hid (show ∀ w', Below w.heap.size w w' → Calls Try.prog 32 #[.slice qd G.length cd, .func (.func 33) #[] #[]] w' fun e w'' => e = .returned (.bool (D.any bad)) ∧ w'' = w' by
    intro w' hb
    have := contains_any qd cd D w' (hD.kept hb) (by omega)
    rw [hd] at this
    exact this)
  rw [hd]
  have hne : ((G.length : Int) != (G.length : Int)) = false := by simp
  have HG := Lib.hid hG
  have HS := Lib.hid hs
  have HBAD := Lib.hid h
  clear hG hD hd hs h
  by_cases hb : D.any bad = true
  · rw [hb] at HCT
    clear hb HBAD
    go_enter Try.func11, Try.ntmps11
    go_wp2_with fail
    generalize hW : (World.alloc _ _) = W
    have hWb : Below w.heap.size w W := by rw [← hW]; exact (Below.refl _ _).alloc (Nat.le_refl _) _
    have HWB := Lib.hid hWb
    clear hW hWb
    refine (HCT.out _ HWB.out).mono ?_
    rintro e w' ⟨rfl, hw⟩
    have HE := Lib.hid hw
    clear hw
    go_wp2_with fail
    go_ret2
    exact ⟨rfl, by rw [HE.out]; exact HWB.out⟩
  rw [Bool.not_eq_true] at hb
  rw [hb] at HCT
  have HB0 := Lib.hid hb
  clear hb
  go_enter Try.func11, Try.ntmps11
  go_wp2_with fail
  generalize hW : (World.alloc _ _) = W
  have hWb : Below w.heap.size w W := by rw [← hW]; exact (Below.refl _ _).alloc (Nat.le_refl _) _
  have hBk : Blk W w.heap.size 25 [.slice pg G.length cg, .slice qd G.length cd] := by rw [← hW]; exact Blk.new w 25 _
  obtain ⟨N, hNe⟩ : ∃ N, w.heap.size = N := ⟨_, rfl⟩
  rw [hNe] at hBk ⊢
  have HB := Lib.hid hBk
  have HWB := Lib.hid hWb
  have c0 := hBk.cell 0
  have c1 := hBk.cell 1
  clear hW hNe hBk hWb
  refine (HCT.out _ HWB.out).mono ?_
  rintro e w' ⟨rfl, rfl⟩
  go_wp2_with fail
  go_loopw [32] (fun i wr => ∃ k : Nat, k ≤ G.length ∧ i = .int .i64 k ∧ wr = w' ∧ ∀ j (_ : j < G.length), j < k → (G[j]).length = G.length ∧ (G[j]).any bad = false) (fun i _ => G.length - (intOf i).toNat)
  case atStart => exact ⟨0, Nat.zero_le _, rfl, rfl, fun j _ h => by omega⟩
  case round =>
    clear c0 c1
    obtain ⟨k, hk, rfl, hwr, hall⟩ := hrel
    have hb : Below w'.heap.size w' wr := by rw [hwr]; exact Below.refl _ _
    have hbk := Lib.hid hwr
    have HALL := Lib.hid hall
    clear hwr hall
    by_cases hlt : k < G.length
    · have hki : (k : Int) < (G.length : Int) := by omega
      have HB9 := Lib.hid (below_step HWB.out hb)
      obtain ⟨b, o, q, c, rfl, lb, y1, r1⟩ := (HG.out.kept HB9.out).at_ hlt
      by_cases hl : (G[k]).length = G.length
      case neg =>
        have hne2 : (((G[k]).length : Int) != (G.length : Int)) = true := by rw [bne_iff_ne]; omega
        clear r1 hl
        go_wp2_with fail
        go_ret2
        exact ⟨rfl, HB9.out⟩
      have HLK := Lib.hid hl
      have HC2 := Lib.hid (contains_any q c G[k] wr r1 (by rw [hl]; omega))
      rw [hl] at HC2 y1
      clear r1 hl
      by_cases hbk2 : (G[k]).any bad = true
      · rw [hbk2] at HC2
        clear hbk2
        go_wp2_with fail
        refine HC2.out.mono ?_
        rintro e w4 ⟨rfl, hw4⟩
        have HW4 := Lib.hid hw4
        clear hw4
        go_wp2_with fail
        go_ret2
        exact ⟨rfl, by rw [HW4.out]; exact HB9.out⟩
      · rw [Bool.not_eq_true] at hbk2
        rw [hbk2] at HC2
        have HNX := Lib.hid (show ∀ j (_ : j < G.length), j < k + 1 → (G[j]).length = G.length ∧ (G[j]).any bad = false from fun j hj hjk => by
          by_cases e : j = k
          · subst e; exact ⟨HLK.out, hbk2⟩
          · exact HALL.out j hj (by omega))
        clear hbk2
        go_wp2_with fail
        refine HC2.out.mono ?_
        rintro e w4 ⟨rfl, hw4⟩
        have HW4 := Lib.hid hw4
        clear hw4
        go_wp2_with fail
        go_roundw
        case rel => exact ⟨k + 1, by omega, by go_num, by rw [HW4.out, hbk.out], HNX.out⟩
        case measure => simp [intOf]; omega
    · exact absurd ⟨HB0.out, fun j hj => HALL.out j hj (by omega)⟩ HBAD.out
theorem of_no {U : Nat → Prop} {v : Value} (hv : VS w U v G D) (hs : Small G D) (h : ¬ Valid G D) : Calls Try.prog 11 #[v] w fun e w' => e = .returned (.tuple #[.pointer none, .int .i64 2]) ∧ Below w.heap.size w w' := by
  obtain ⟨pg, cg, qd, cd, rfl, hM, hR⟩ := hv.reads
  by_cases h1 : 1 ≤ G.length ∧ G.length ≤ 16 ∧ D.length = G.length
  case neg => exact of_size pg qd cg cd h1
  obtain ⟨a1, a2, a3⟩ := h1
  by_cases h2 : D.any bad = false ∧ ∀ i (_ : i < G.length), (G[i]).length = G.length ∧ (G[i]).any bad = false
  case neg => exact of_bad pg qd cg cd hM hR a1 a2 a3 (fun i hi => by have := hs.2.1 i hi; omega) h2
  obtain ⟨b1, b2⟩ := h2
  have inD : ∀ (l : List Int), l.any bad = false → ∀ i, inU (l.getD i 0) := fun l hl i => by
    by_cases hi : i < l.length
    · rw [List.any_eq_false] at hl
      have := hl l[i] (List.getElem_mem hi)
      rw [Bool.not_eq_true] at this
      have h3 := (bad_iff _).1 this
      simpa [hi] using h3
    · rw [List.getD_eq_getElem?_getD, List.getElem?_eq_none (by omega)]; simp [inU]
  have hN : Num G D := by
    refine ⟨fun i k => ?_, fun i => inD D b1 i⟩
    by_cases hi : i < G.length
    · have := inD G[i] (b2 i hi).2 k
      unfold ga
      rw [show G.getD i [] = G[i] by simp [hi]]
      exact this
    · unfold ga
      rw [show G.getD i [] = [] by rw [List.getD_eq_getElem?_getD, List.getElem?_eq_none (by omega)]; rfl]
      simp
  have hS : Shape G D := shape_of a1 a2 hN a3 (fun i hi => (b2 i hi).1)
  have hr : ¬ Right G D := fun r => h ⟨hS, r⟩
  have := of_any pg qd cg cd hM hR hN a1 a2 hS.len a3 b1 (fun i hi => (b2 i hi).2)
  rw [a3]
  refine this.mono ?_
  rintro e w' (⟨hr2, _⟩ | ⟨_, rfl, hb⟩)
  · exact absurd hr2 hr
  · exact ⟨rfl, hb⟩
end
end Go.Proofs.Ytdancoblphkakaa
