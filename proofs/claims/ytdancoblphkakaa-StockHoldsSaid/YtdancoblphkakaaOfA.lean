/- Of: a stock with a state; numbers of units in rows as long as they are many. -/
import Derived.Test.YtdancoblphkakaaSame
namespace Go.Proofs.Ytdancoblphkakaa
open Go.RowKit

/-- What Of gives for a state of the right shape. -/
def RetOf (w : World) (G : List (List Int)) (D : List Int) (e : Ending) (w' : World) : Prop :=
  (Right G D ∧ ∃ X, e = .returned (.tuple #[.pointer (some ⟨X, 0, none⟩), .int .i64 0]) ∧ NewSt w X G D w') ∨ (¬ Right G D ∧ e = .returned (.tuple #[.pointer none, .int .i64 2]) ∧ Below w.heap.size w w')
set_option maxHeartbeats 2000000 in
theorem of_any {w : World} {G : List (List Int)} {D : List Int} (pg qd : Option Addr) (cg cd : Nat) (hG : MR w pg G) (hD : Rd w w.heap.size qd (ints D)) (hN : Num G D) (h0 : 1 ≤ G.length) (h16 : G.length ≤ 16) (hl : ∀ i (_ : i < G.length), (G[i]).length = G.length) (hlD : D.length = G.length) (hbD : D.any bad = false) (hbG : ∀ i (_ : i < G.length), (G[i]).any bad = false) :
    Calls Try.prog 11 #[.agg #[.slice pg G.length cg, .slice qd G.length cd]] w (RetOf w G D) := by
  have HG := Lib.hid hG
  have HD := Lib.hid hD
  have HN := Lib.hid hN
  have HL := Lib.hid hl
  have HLD := Lib.hid hlD
  have HBG := Lib.hid hbG
  have hn1 : (1 : Int) ≤ (G.length : Int) := by omega
  have hn2 : (G.length : Int) ≤ 16 := by omega
  have hne : ((G.length : Int) != (G.length : Int)) = false := by simp
  have HCT := Lib.hid (show ∀ w', Below w.heap.size w w' → Calls Try.prog 32 #[.slice qd G.length cd, .func (.func 33) #[] #[]] w' fun e w'' => e = .returned (.bool false) ∧ w'' = w' by
    intro w' hb
    have := contains_any qd cd D w' (hD.kept hb) (by omega)
    rw [hbD, hlD] at this
    exact this)
  clear hG hD hN hl hlD hbD hbG
  go_enter Try.func11, Try.ntmps11
  go_wp2_with fail
  generalize hW : (World.alloc _ _) = W
  have hWb : Below w.heap.size w W := by rw [← hW]; exact (Below.refl _ _).alloc (Nat.le_refl _) _
  have hBk : Blk W w.heap.size 25 [.slice pg G.length cg, .slice qd G.length cd] := by rw [← hW]; exact Blk.new w 25 _
  obtain ⟨N, hNe⟩ : ∃ N, w.heap.size = N := ⟨_, rfl⟩
  rw [hNe] at hBk ⊢
  have HB := Lib.hid hBk
  have HWB := Lib.hid hWb
  have c0 := hBk.cell 0
  have c1 := hBk.cell 1
  clear hW hNe hBk hWb
  refine (HCT.out _ HWB.out).mono ?_
  rintro e w' ⟨rfl, rfl⟩
  go_wp2_with fail
  go_loopw [32] (fun i wr => ∃ k : Nat, k ≤ G.length ∧ i = .int .i64 k ∧ wr = w') (fun i _ => G.length - (intOf i).toNat)
  case atStart => exact ⟨0, Nat.zero_le _, rfl, rfl⟩
  case round =>
    clear c0 c1
    obtain ⟨k, hk, rfl, hwr⟩ := hrel
    have hb : Below w'.heap.size w' wr := by rw [hwr]; exact Below.refl _ _
    have hbk := Lib.hid hwr
    clear hwr
    have hBk := HB.out.kept hb
    have c0 := hBk.cell 0
    have c1 := hBk.cell 1
    have lN := hBk.lt
    clear hBk
    by_cases hlt : k < G.length
    · have hki : (k : Int) < (G.length : Int) := by omega
      obtain ⟨b, o, q, c, rfl, lb, y1, r1⟩ := (HG.out.kept (below_step HWB.out hb)).at_ hlt
      have HC2 := Lib.hid (contains_any q c G[k] wr r1 (by rw [HL.out k hlt]; omega))
      rw [HBG.out k hlt, HL.out k hlt] at HC2
      rw [HL.out k hlt] at y1
      clear r1
      go_wp2_with fail
      refine HC2.out.mono ?_
      rintro e w4 ⟨rfl, hw4⟩
      have HW4 := Lib.hid hw4
      clear hw4
      go_wp2_with fail
      go_roundw
      case rel => exact ⟨k + 1, by omega, by go_num, by rw [HW4.out, hbk.out]⟩
      case measure => simp [intOf]; omega
    · have hki : ¬ (k : Int) < (G.length : Int) := by omega
      have HMR := Lib.hid (fun w5 (hb5 : Below wr.heap.size wr w5) => HG.out.kept (below_step (below_step HWB.out hb) hb5))
      have HRD := Lib.hid (fun w5 (hb5 : Below wr.heap.size wr w5) => HD.out.kept (below_step (below_step HWB.out hb) hb5))
      go_upto_region 10 with fail
      refine wp_region_noPanic ?_
      refine wp_region_held_drew (S := fun w' => w'.cell? ⟨N, 0, none⟩ = some (.slice pg G.length cg) ∧ w'.cell? ⟨N, 1, none⟩ = some (.slice qd G.length cd)) (by kernel_rfl) (⟨c0, c1⟩) (fun hHeld => ?_)
      refine wpAnyH_take (i := 0) (oi := ⟨some 45, _, _, _, _, _⟩) (v := ?_) rfl (by kernel_rfl) (by kernel_rfl) (by kernel_rfl) (fun _ _ _ h => h) (Or.inl ⟨by rfl, ?_⟩) hHeld ?_
      rotate_left
      · (intro w hSw; obtain ⟨s0, s1⟩ := hSw; go_simp; try with_reducible rfl)
      try simp only [Act.put, List.setIfInBounds_toArray, List.set_cons_zero, List.set_cons_succ]
      refine wpAnyH_take (i := 1) (oi := ⟨some 46, _, _, _, _, _⟩) (v := ?_) rfl (by kernel_rfl) (by kernel_rfl) (by kernel_rfl) (fun _ _ _ h => h) (Or.inl ⟨by rfl, ?_⟩) hHeld ?_
      rotate_left
      · (intro w hSw; obtain ⟨s0, s1⟩ := hSw; go_simp; try with_reducible rfl)
      try simp only [Act.put, List.setIfInBounds_toArray, List.set_cons_zero, List.set_cons_succ]
      refine wpAnyH_take (i := 3) (oi := ⟨some 48, _, _, _, _, _⟩) (v := ?_) rfl (by kernel_rfl) (by kernel_rfl) (by kernel_rfl) (fun _ _ _ h => h) (Or.inl ⟨by rfl, ?_⟩) hHeld ?_
      rotate_left
      · (intro w hSw; obtain ⟨s0, s1⟩ := hSw; go_simp; try with_reducible rfl)
      try simp only [Act.put, List.setIfInBounds_toArray, List.set_cons_zero, List.set_cons_succ]
      refine wpAnyH_take (i := 4) (oi := ⟨some 49, _, _, _, _, _⟩) (v := ?_) rfl (by kernel_rfl) (by kernel_rfl) (by kernel_rfl) (fun _ _ _ h => h) (Or.inl ⟨by rfl, ?_⟩) hHeld ?_
      rotate_left
      · (intro w hSw; obtain ⟨s0, s1⟩ := hSw; go_simp; try with_reducible rfl)
      try simp only [Act.put, List.setIfInBounds_toArray, List.set_cons_zero, List.set_cons_succ]
      refine wpAnyH_ready (rs := [2]) (by kernel_rfl) (by simp) ?_
      refine (AllReadyH.cons (o := ⟨some 47, _, _, _, _, _⟩) rfl (fun K hK => ?_) AllReadyH.nil)
      go_simp
      (refine (rows_any _ _ (HMR.out _ (Below.refl wr.heap.size wr).drew) h0 (by omega) HL.out).mono ?_; rintro e w1 ⟨ob, rs, rfl, hR0⟩)
      have hR := RowsP.first (Below.refl wr.heap.size wr).drew hR0
      refine hK.out _ _ (⟨((hR.hb).cell (p := ⟨N, 0, none⟩) lN).trans c0, ((hR.hb).cell (p := ⟨N, 1, none⟩) lN).trans c1⟩) (fun hHeld => ?_)
      clear hK K
      try simp only [Act.put, List.setIfInBounds_toArray, List.set_cons_zero, List.set_cons_succ]
      refine wpAnyH_ready (rs := [5]) (by kernel_rfl) (by simp) ?_
      refine (AllReadyH.cons (o := ⟨some 50, _, _, _, _, _⟩) rfl (fun K hK => ?_) AllReadyH.nil)
      go_simp
      (refine (cloneN_any _ G.length _ D _ (HRD.out _ hR.hb) HLD.out (by omega) (by omega)).mono ?_; rintro e w2 ⟨g, d, rfl, hrow, hg, hd1, hd2, hb2⟩)
      have hM := made1 hR hb2 hrow hg HLD.out hd1 hd2
      refine hK.out _ _ (⟨((hM.r.hb).cell (p := ⟨N, 0, none⟩) lN).trans c0, ((hM.r.hb).cell (p := ⟨N, 1, none⟩) lN).trans c1⟩) (fun hHeld => ?_)
      clear hK K
      try simp only [Act.put, List.setIfInBounds_toArray, List.set_cons_zero, List.set_cons_succ]
      refine wpAnyH_take (i := 6) (oi := ⟨some 51, _, _, _, _, _⟩) (v := ?_) rfl (by kernel_rfl) (by kernel_rfl) (by kernel_rfl) (fun _ _ _ h => h) (Or.inl ⟨by rfl, ?_⟩) hHeld ?_
      rotate_left
      · (intro w hSw; obtain ⟨s0, s1⟩ := hSw; go_simp; try with_reducible rfl)
      try simp only [Act.put, List.setIfInBounds_toArray, List.set_cons_zero, List.set_cons_succ]
      refine wpAnyH_ready (rs := [7]) (by kernel_rfl) (by simp) ?_
      refine (AllReadyH.cons (o := ⟨some 52, _, _, _, _, _⟩) rfl (fun K hK => ?_) AllReadyH.nil)
      go_simp
      refine hK.out _ _ (⟨((hM.r.hb.alloc hM.r.hb.size _).cell (p := ⟨N, 0, none⟩) lN).trans c0, ((hM.r.hb.alloc hM.r.hb.size _).cell (p := ⟨N, 1, none⟩) lN).trans c1⟩) (fun hHeld => ?_)
      clear hK K
      try simp only [Act.put, List.setIfInBounds_toArray, List.set_cons_zero, List.set_cons_succ]
      refine wpAnyH_take (i := 8) (oi := ⟨some 7, _, _, _, _, _⟩) (v := ?_) rfl (by kernel_rfl) (by kernel_rfl) (by kernel_rfl) (fun _ _ _ h => h) (Or.inl ⟨by rfl, ?_⟩) hHeld ?_
      rotate_left
      · (intro w hSw; obtain ⟨s0, s1⟩ := hSw; go_simp; try with_reducible rfl)
      try simp only [Act.put, List.setIfInBounds_toArray, List.set_cons_zero, List.set_cons_succ]
      refine wpAnyH_done (by kernel_rfl) ?_ _
      refine NoPanic.normal ?_
      clear c0 c1 lN
      have hNS := hM.obj h0 h16 HN.out HL.out
      generalize hV : (World.alloc _ _) = V at hNS ⊢
      have HNS := Lib.hid hNS
      obtain ⟨S, hST, hbV, hS⟩ := hNS
      have HBW := Lib.hid (below_step HWB.out hb)
      clear hV hM hR hR0 hrow hb2 hb
      go_wp2_with fail
      refine (right_any hST).mono ?_
      rintro e w3 ⟨rfl, hb3⟩
      have HB3 := Lib.hid (below_step HBW.out (below_step hbV hb3))
      by_cases hr : Right G D
      · have HO := Lib.hid (show RetOf w G D (.returned (.tuple #[.pointer (some ⟨w2.heap.size, 0, none⟩), .int .i64 0])) w3 from .inl ⟨hr, _, rfl, S, hST.kept hb3, HB3.out, fun b hb => by have := hS b hb; have := HBW.out.size; omega⟩)
        rw [decide_eq_true hr]
        clear hST hbV hS hb3 hr
        go_wp2_with fail
        go_ret2
        exact HO.out
      · have HO := Lib.hid (show RetOf w G D (.returned (.tuple #[.pointer none, .int .i64 2])) w3 from .inr ⟨hr, rfl, HB3.out⟩)
        rw [decide_eq_false hr]
        clear hST hbV hS hb3 hr
        go_wp2_with fail
        go_ret2
        exact HO.out
end Go.Proofs.Ytdancoblphkakaa
