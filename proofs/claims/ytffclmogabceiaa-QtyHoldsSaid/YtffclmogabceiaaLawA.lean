/- The walks of QtyValid, QtyOrders and QtyLists: each returns true. -/
import Derived.Test.YtffclmogabceiaaKnown
namespace Go.Proofs.Ytffclmogabceiaa
open Go.RowKit

set_option maxHeartbeats 1000000 in
theorem qtyValid_walk (q r c y t : Int) (p : Option Addr) (cc : Nat) (l : List Int) (w : World) (h : Rd w w.heap.size p (ints l)) (hwf : ∀ x ∈ l, (Lit.int .i64 x).wf = true) (ht : 0 ≤ t) (hm : l.length ≤ maxLen) :
    Calls Try.prog 3 #[.int .i64 q, .agg #[.int .i64 r, .int .i64 c, .int .i64 y, .int .u64 t], .slice p l.length cc] w fun e w' => e = .returned (.bool true) ∧ Below w.heap.size w w' := by
  unfold maxLen at hm
  have hB : Below w.heap.size w (w.alloc (.cells #[.int .i64 r, .int .i64 c, .int .i64 y, .int .u64 t] 26)) := (Below.refl _ _).alloc (Nat.le_refl _) _
  by_cases hl : l.length ≤ 40
  · have HW := Lib.hid hwf
    clear hwf
    go_enter Try.func3, Try.ntmps3
    go_wp2_with fail
    generalize hW : (World.alloc _ _) = W at *
    have hK : Blk W w.heap.size 26 [.int .i64 r, .int .i64 c, .int .i64 y, .int .u64 t] := by rw [← hW]; exact Blk.new' w 26 _ rfl
    have hR := h.kept hB
    clear hW
    refine (refSum_any p cc l W hR (by omega)).mono ?_
    rintro e w' ⟨rfl, rfl⟩
    go_wp2_with fail
    have a0 := hK.cell 0
    have a1 := hK.cell 1
    have a2 := hK.cell 2
    have a3 := hK.cell 3
    simp only [List.getElem?_cons_zero, List.getElem?_cons_succ] at a0 a1 a2 a3
    have la := hK.lt
    have g0 := fun g => Gr.at_ la a0 g
    have g1 := fun g => Gr.at_ la a1 g
    have g2 := fun g => Gr.at_ la a2 g
    have g3 := fun g => Gr.at_ la a3 g
    refine wp_region_grows (by kernel_rfl) (by kernel_rfl) ?_
    repeat (go_big_quiet_step ((first | (go_at_call 10; exact Calls.gr_same _ (valid_any _ _)) | (go_at_call 11; exact Calls.gr_same _ (refValid_any _ _)) | (go_at_call 12; exact Calls.gr _ (validMark_any _ _ _ _ _)) | (go_at_call 13; exact Calls.gr _ (refValidMark_any _ _ _ _ _ ht)) | (go_at_call 14; exact Calls.gr_same _ (sums_any p cc l _ _ _ (Gr.rd hR _) (by omega) HW.out rfl rfl _ rfl)) | (go_at_call 8; exact Calls.gr _ (known_any _)))))
    refine wpQuiet_nil ?_
    rintro _ ⟨g, rfl⟩
    have hg := below_step hB g.h
    go_wp2_with fail
    go_ret
    exact ⟨rfl, hg⟩
  · go_enter Try.func3, Try.ntmps3
    go_wp2_with fail
    refine (known_any _).mono ?_
    rintro e w3 ⟨rfl, hb3⟩
    go_wp2_with fail
    go_ret
    exact ⟨rfl, below_step hB hb3⟩

theorem refCompare_raw (ar ac aq at' br bc bq bt : Int) (w : World) : Calls Try.prog 16 #[.agg #[.int .i64 ar, .int .i64 ac, .int .i64 aq, .int .u64 at'], .agg #[.int .i64 br, .int .i64 bc, .int .i64 bq, .int .u64 bt]] w fun e w' => e = .returned (.int .i64 (cmpM ⟨ar, ac, aq, at'⟩ ⟨br, bc, bq, bt⟩)) ∧ Below w.heap.size w w' := refCompare_any ⟨ar, ac, aq, at'⟩ ⟨br, bc, bq, bt⟩ w

set_option maxHeartbeats 1000000 in
theorem qtyOrders_walk (r c y t r' c' y' t' : Int) (w : World) :
    Calls Try.prog 4 #[.agg #[.int .i64 r, .int .i64 c, .int .i64 y, .int .u64 t], .agg #[.int .i64 r', .int .i64 c', .int .i64 y', .int .u64 t']] w fun e w' => e = .returned (.bool true) ∧ Below w.heap.size w w' := by
  have z := cmpM_zero.2 (rfl : (⟨r, c, y, t⟩ : Mk) = ⟨r, c, y, t⟩)
  go_enter Try.func4, Try.ntmps4
  go_wp2_with fail
  generalize hW : (World.alloc _ _) = W at *
  have hK : Blk W w.heap.size 26 [.int .i64 r, .int .i64 c, .int .i64 y, .int .u64 t] := by rw [← hW]; exact (Blk.new' w 26 _ rfl).alloc _
  have hL : Blk W (w.heap.size + 1) 26 [.int .i64 r', .int .i64 c', .int .i64 y', .int .u64 t'] := by rw [← hW]; exact Blk.new' _ 26 _ (by simp)
  have hB : Below w.heap.size w W := by rw [← hW]; exact ((Below.refl _ _).alloc (Nat.le_refl _) _).alloc (by simp) _
  clear hW
  have a0 := hK.cell 0
  have a1 := hK.cell 1
  have a2 := hK.cell 2
  have a3 := hK.cell 3
  have b0 := hL.cell 0
  have b1 := hL.cell 1
  have b2 := hL.cell 2
  have b3 := hL.cell 3
  simp only [List.getElem?_cons_zero, List.getElem?_cons_succ] at a0 a1 a2 a3 b0 b1 b2 b3
  have la := hK.lt
  have lb := hL.lt
  have g0 := fun g => Gr.at_ la a0 g
  have g1 := fun g => Gr.at_ la a1 g
  have g2 := fun g => Gr.at_ la a2 g
  have g3 := fun g => Gr.at_ la a3 g
  have g4 := fun g => Gr.at_ lb b0 g
  have g5 := fun g => Gr.at_ lb b1 g
  have g6 := fun g => Gr.at_ lb b2 g
  have g7 := fun g => Gr.at_ lb b3 g
  refine wp_region_grows (by kernel_rfl) (by kernel_rfl) ?_
  repeat (go_big_quiet_step ((first | (go_at_call 15; exact Calls.gr _ (compare_raw _ _ _ _ _ _ _ _ _)) | (go_at_call 16; exact Calls.gr _ (refCompare_raw _ _ _ _ _ _ _ _ _)) | (go_at_call 8; exact Calls.gr _ (known_any _)))))
  refine wpQuiet_nil ?_
  rintro _ ⟨g, rfl⟩
  have hg := below_step hB g.h
  go_wp2_with fail
  go_ret
  exact ⟨rfl, hg⟩

theorem sameDots_same (p q : Option Addr) (c d : Nat) (n : Nat) (xs : List (Int × Int)) (w : World) (hx : Rd w w.heap.size p (dotCells xs)) (hy : Rd w w.heap.size q (dotCells xs)) (hl : xs.length ≤ 100000) (hn : n = xs.length) :
    Calls Try.prog 25 #[.slice p n c, .slice q n d] w fun e w' => e = .returned (.bool true) ∧ Below w.heap.size w w' := by
  subst hn
  exact (sameDots_any p q c d xs xs w hx hy hl hl).mono fun _ _ ⟨he, hb⟩ => ⟨by simpa using he, hb⟩

set_option maxHeartbeats 1000000 in
theorem qtyLists_walk (p : Option Addr) (cc : Nat) (l : List Mk) (w : World) (h : Rd w w.heap.size p (mks l)) (hm : l.length ≤ maxLen) :
    Calls Try.prog 6 #[.slice p l.length cc] w fun e w' => e = .returned (.bool true) ∧ Below w.heap.size w w' := by
  unfold maxLen at hm
  by_cases hl : l.length ≤ 40
  · have e1 : (isSetB (dotsOf l) == isSetB (dotsOf l)) = true := by simp
    go_enter Try.func6, Try.ntmps6
    go_wp2_with fail
    refine (isList_any p cc l w h (by omega)).mono ?_
    rintro e w1 ⟨rfl, hb1⟩
    have h1 := h.kept hb1
    go_wp2_with fail
    refine (refIsList_any p cc l w1 h1 (by omega)).mono ?_
    rintro e w2 ⟨rfl, hb2⟩
    have h2 := h1.kept hb2
    have hb := below_step hb1 hb2
    go_wp2_with fail
    refine (dots_any p cc l w2 h2 (by omega)).mono ?_
    rintro e w3 ⟨q, d, rfl, hq, hb3⟩
    have h3 := h2.kept hb3
    have hb' := below_step hb hb3
    go_wp2_with fail
    refine (refDots_any p cc l w3 h3 (by omega)).mono ?_
    rintro e w4 ⟨q', d', rfl, hq', hb4⟩
    have hq4 := hq.kept hb4
    have hb'' := below_step hb' hb4
    clear hb1 hb2 hb3 hb4 hb hb'
    have hdl : (dotsOf l).length ≤ 40 := by rw [dotsOf_len]; exact hl
    go_wp2_with fail
    refine (sameDots_same q q' d d' _ (dotsOf l) w4 hq4 hq' (by omega) rfl).mono ?_
    rintro e w5 ⟨rfl, hb5⟩
    go_wp2_with fail
    refine (known_any _).mono ?_
    rintro e w6 ⟨rfl, hb6⟩
    go_wp2_with fail
    go_ret
    exact ⟨rfl, below_step (below_step hb'' hb5) hb6⟩
  · go_enter Try.func6, Try.ntmps6
    go_wp2_with fail
    refine (known_any _).mono ?_
    rintro e w3 ⟨rfl, hb3⟩
    go_wp2_with fail
    go_ret
    exact ⟨rfl, hb3⟩
end Go.Proofs.Ytffclmogabceiaa
