/- StockNone: the walk. -/
import Derived.Test.YtdancoblphkakaaAll
import Derived.Test.YtdancoblphkakaaArgs
namespace Go.Proofs.Ytdancoblphkakaa
open Go.RowKit

section
variable {w : World} {p : Option Addr}
/-- State of none is the empty state. -/
theorem nil_state (h : Nil w p) : Calls Try.prog 26 #[.pointer p] w fun e w' => e = .returned (.agg #[.slice none 0 0, .slice none 0 0]) ∧ Below w.heap.size w w' := by
  have HC := Lib.hid h
  clear h
  go_enter Try.func26, Try.ntmps26
  go_wp2_with fail
  generalize hW : (World.alloc _ _) = W
  have hWb : Below w.heap.size w W := by rw [← hW]; exact (Below.refl _ _).alloc (Nat.le_refl _) _
  have hB : Blk W w.heap.size 25 [.slice none 0 0, .slice none 0 0] := by rw [← hW]; exact Blk.new w 25 _
  obtain ⟨N, hN⟩ : ∃ N, w.heap.size = N := ⟨_, rfl⟩
  have HN := Lib.hid hN
  rw [hN] at hB ⊢
  have HB := Lib.hid hB
  have HW := Lib.hid hWb
  have hc0 := hB.cell 0
  have hc1 := hB.cell 1
  have hf0 := hB.free 0
  have hf1 := hB.free 1
  clear hW hN hB hWb
  refine (nil_none (HC.out.kept HW.out)).mono ?_
  rintro e w' ⟨rfl, rfl⟩
  go_wp2_with fail
  try simp only [Exit.inBlock, Exit.then]
  have hZ := (HB.out.set_ 0 (.slice none 0 0)).set_ 1 (.slice none 0 0)
  have HZ : Blk _ N 25 [.slice none 0 0, .slice none 0 0] := hZ
  refine bodyPost_ret (results_cell_row rfl _ _ N 25 _ (0, 0) _ (by rfl) HZ Try.underlying25 (by rfl) (by kernel_rfl)) rfl ?_
  exact ⟨rfl, (HW.out.setCell (p := ⟨N, 0, none⟩) (by have := HN.out; simp only; omega) _).setCell (p := ⟨N, 1, none⟩) (by have := HN.out; simp only; omega) _⟩
theorem same_nil : Calls Try.prog 25 #[.agg #[.slice none 0 0, .slice none 0 0], .agg #[.slice none 0 0, .slice none 0 0]] w fun e w' => e = .returned (.bool true) ∧ Below w.heap.size w w' := by
  have hm : MR w none [] := ⟨[], .inl rfl, rfl, fun i h => by simp at h⟩
  exact same_any (G := []) (D := []) none none none none 0 0 0 0 0 0 hm (Rd.nil _ _ _) hm (Rd.nil _ _ _) rfl rfl (by decide) (by decide) (by simp)
end
set_option maxRecDepth 100000 in
set_option maxHeartbeats 8000000 in
theorem stockNone_walk (x : Ac) (w : World) : Calls Try.prog 4 #[.agg #[.int .i64 x.a, .int .i64 x.p, .int .i64 x.t, .int .i64 x.u]] w fun e w' => e = .returned (.bool true) ∧ Below w.heap.size w w' := by
  obtain ⟨a, p, t, u⟩ := x
  dsimp only
  go_enter Try.func4, Try.ntmps4
  go_wp2_with fail
  generalize hW : (World.alloc _ _) = W
  have hWb : Below w.heap.size w W := by rw [← hW]; exact (Below.refl _ _).alloc (Nat.le_refl _) _
  have hB : Blk W w.heap.size 40 [.int .i64 a, .int .i64 p, .int .i64 t, .int .i64 u] := by rw [← hW]; exact Blk.new w 40 _
  have hA := (All.nil w).box hWb hB (Nat.le_refl _)
  obtain ⟨N, hN⟩ : ∃ N, w.heap.size = N := ⟨_, rfl⟩
  rw [hN] at hA ⊢
  clear hW hN hB hWb
  refine (newA hA 1 (by decide) (by decide)).mono ?_
  rintro e w1 ⟨X, S, rfl, hA1⟩
  have HA1 := Lib.hid hA1
  clear hA1 hA
  go_wp2_with fail
  generalize hV : (World.alloc _ _) = V
  have hVb : Below w1.heap.size w1 V := by rw [← hV]; exact ((Below.refl _ _).alloc (Nat.le_refl _) _).alloc (by simp) _
  have hZ : Blk V w1.heap.size 43 [.slice none 0 0, .slice none 0 0] := by rw [← hV]; exact (Blk.new w1 43 _).alloc _
  have hL : Blk V (w1.heap.size + 1) 28 [.pointer none, .pointer (some ⟨w1.heap.size, 0, none⟩)] := by rw [← hV]; exact Blk.new' _ 28 _ (by simp)
  obtain ⟨Z, hZe⟩ : ∃ n, w1.heap.size = n := ⟨_, rfl⟩
  obtain ⟨M, hMe⟩ : ∃ n, Z + 1 = n := ⟨_, rfl⟩
  rw [hZe] at hZ hL ⊢
  rw [hMe] at hL ⊢
  have HA := Lib.hid (HA1.out.kept hVb)
  have HZ := Lib.hid hZ
  have HM := Lib.hid hL
  have HB := Lib.hid (HA.out.blk (i := 0) rfl)
  have hI : Below V.heap.size V V := Below.refl _ _
  clear hV hZe hMe hZ hL hVb
  go_wp2_with fail
  go_loopw [21] (fun i wr => ∃ k : Nat, k ≤ 2 ∧ i = .int .i64 k ∧ Below V.heap.size V wr) (fun i _ => 2 - (intOf i).toNat)
  case atStart => exact ⟨0, Nat.zero_le _, rfl, hI⟩
  case round =>
    clear hI
    obtain ⟨k, hk, rfl, hb⟩ := hrel
    have hL := HM.out.kept hb
    by_cases hlt : k < 2
    · have hki : (k : Int) < 2 := by omega
      have HST := Lib.hid (fun w2 (h : Below wr.heap.size wr w2) => (HA.out.kept (below_step hb h)).at_ (i := 0) rfl)
      have HNZ := Lib.hid (show ∀ w2, Below wr.heap.size wr w2 → Nil w2 (some ⟨Z, 0, none⟩) from fun w2 h => .inr ⟨Z, rfl, HZ.out.kept (below_step hb h)⟩)
      have hBk := HB.out.kept hb
      have HBk := Lib.hid hBk
      have x1 := hBk.cell 1
      have x2 := hBk.cell 2
      have x3 := hBk.cell 3
      have HR := Lib.hid (Below.refl wr.heap.size wr)
      have HBB := Lib.hid hb
      by_cases hk0 : k = 0
      · subst hk0
        have y0 := hL.cell 0
        have HN0 := Lib.hid (show ∀ w2, Below wr.heap.size wr w2 → Nil w2 none from fun w2 h => .inl rfl)
        clear hL hBk hb
        go_wp2_with fail
        refine (nil_restock p u (HN0.out _ HR.out)).mono ?_
        rintro e w' ⟨rfl, rfl⟩
        go_wp2_with fail
        refine (nil_give p t u (HN0.out _ HR.out)).mono ?_
        rintro e w' ⟨rfl, rfl⟩
        go_wp2_with fail
        refine (nil_sell p u (HN0.out _ HR.out)).mono ?_
        rintro e w' ⟨rfl, rfl⟩
        go_wp2_with fail
        refine (nil_join1 _ (HN0.out _ HR.out)).mono ?_
        rintro e w' ⟨rfl, rfl⟩
        go_wp2_with fail
        refine (nil_join2 (HST.out _ HR.out) (HN0.out _ HR.out)).mono ?_
        rintro e w' ⟨rfl, rfl⟩
        go_wp2_with fail
        refine (nil_shares p (HN0.out _ HR.out)).mono ?_
        rintro e w' ⟨rfl, rfl⟩
        go_wp2_with fail
        refine (nil_places (HN0.out _ HR.out)).mono ?_
        rintro e w' ⟨rfl, rfl⟩
        go_wp2_with fail
        refine (nil_left (HN0.out _ HR.out)).mono ?_
        rintro e w' ⟨rfl, rfl⟩
        go_wp2_with fail
        refine (nil_sold (HN0.out _ HR.out)).mono ?_
        rintro e w' ⟨rfl, rfl⟩
        go_wp2_with fail
        refine (nil_state (HN0.out _ HR.out)).mono ?_
        rintro e w4 ⟨rfl, hb4⟩
        have HB4 := Lib.hid hb4
        clear hb4 x1 x2 x3 y0
        go_wp2_with fail
        refine same_nil.mono ?_
        rintro e w5 ⟨rfl, hb5⟩
        have HB5 := Lib.hid (below_step HB4.out hb5)
        clear hb5
        go_wp2_with fail
        refine (nil_copy (HN0.out _ HB5.out)).mono ?_
        rintro e w' ⟨rfl, rfl⟩
        have HB6 := Lib.hid (below_step HBB.out HB5.out)
        go_wp2_with fail
        go_roundw
        case rel => exact ⟨1, by omega, by go_num, HB6.out⟩
        case measure => simp [intOf]
      · have hk1 : k = 1 := by omega
        subst hk1
        have y0 := hL.cell 1
        clear hL hBk hb hk0
        go_wp2_with fail
        refine (nil_restock p u (HNZ.out _ HR.out)).mono ?_
        rintro e w' ⟨rfl, rfl⟩
        go_wp2_with fail
        refine (nil_give p t u (HNZ.out _ HR.out)).mono ?_
        rintro e w' ⟨rfl, rfl⟩
        go_wp2_with fail
        refine (nil_sell p u (HNZ.out _ HR.out)).mono ?_
        rintro e w' ⟨rfl, rfl⟩
        go_wp2_with fail
        refine (nil_join1 _ (HNZ.out _ HR.out)).mono ?_
        rintro e w' ⟨rfl, rfl⟩
        go_wp2_with fail
        refine (nil_join2 (HST.out _ HR.out) (HNZ.out _ HR.out)).mono ?_
        rintro e w' ⟨rfl, rfl⟩
        go_wp2_with fail
        refine (nil_shares p (HNZ.out _ HR.out)).mono ?_
        rintro e w' ⟨rfl, rfl⟩
        go_wp2_with fail
        refine (nil_places (HNZ.out _ HR.out)).mono ?_
        rintro e w' ⟨rfl, rfl⟩
        go_wp2_with fail
        refine (nil_left (HNZ.out _ HR.out)).mono ?_
        rintro e w' ⟨rfl, rfl⟩
        go_wp2_with fail
        refine (nil_sold (HNZ.out _ HR.out)).mono ?_
        rintro e w' ⟨rfl, rfl⟩
        go_wp2_with fail
        refine (nil_state (HNZ.out _ HR.out)).mono ?_
        rintro e w4 ⟨rfl, hb4⟩
        have HB4 := Lib.hid hb4
        clear hb4 x1 x2 x3 y0
        go_wp2_with fail
        refine same_nil.mono ?_
        rintro e w5 ⟨rfl, hb5⟩
        have HB5 := Lib.hid (below_step HB4.out hb5)
        clear hb5
        go_wp2_with fail
        refine (nil_copy (HNZ.out _ HB5.out)).mono ?_
        rintro e w' ⟨rfl, rfl⟩
        have HB6 := Lib.hid (below_step HBB.out HB5.out)
        go_wp2_with fail
        go_roundw
        case rel => exact ⟨2, by omega, by go_num, HB6.out⟩
        case measure => simp [intOf]
    · have hk2 : k = 2 := by omega
      subst hk2
      have HO := Lib.hid (HA.out.kept hb)
      clear hL hb
      go_wp2_with fail
      refine (known_any _).mono ?_
      rintro e w9 ⟨rfl, hb9⟩
      have HP := Lib.hid (HO.out.kept hb9).b
      clear hb9
      go_wp2_with fail
      go_ret
      exact ⟨rfl, HP.out⟩
end Go.Proofs.Ytdancoblphkakaa
