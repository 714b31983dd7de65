/- The order of marks and dots: Compare, Newer, Less. -/
import Derived.Test.YtffclmogabceiaaValid
namespace Go.Proofs.Ytffclmogabceiaa
open Go.RowKit

theorem mk_eql (a b : Mk) (w : World) : (binOp .eql 26 (.agg #[.int .i64 a.r, .int .i64 a.c, .int .i64 a.q, .int .u64 a.t]) (.agg #[.int .i64 b.r, .int .i64 b.c, .int .i64 b.q, .int .u64 b.t])).run Try.prog w = .ok (.bool (decide (a = b))) w := by
  simp only [binOp]
  simp [Op.equal, Op.maxDepth, run_equalIn_struct, go_sem]
  obtain ⟨r, c, q, t⟩ := a
  obtain ⟨r', c', q', t'⟩ := b
  by_cases h1 : r = r' <;> by_cases h2 : c = c' <;> by_cases h3 : q = q' <;> by_cases h4 : t = t' <;> simp [h1, h2, h3, h4]
theorem mk_neq (a b : Mk) (w : World) : (binOp .neq 26 (.agg #[.int .i64 a.r, .int .i64 a.c, .int .i64 a.q, .int .u64 a.t]) (.agg #[.int .i64 b.r, .int .i64 b.c, .int .i64 b.q, .int .u64 b.t])).run Try.prog w = .ok (.bool (!decide (a = b))) w := by
  simp only [binOp]
  simp [Op.equal, Op.maxDepth, run_equalIn_struct, go_sem]
  obtain ⟨r, c, q, t⟩ := a
  obtain ⟨r', c', q', t'⟩ := b
  by_cases h1 : r = r' <;> by_cases h2 : c = c' <;> by_cases h3 : q = q' <;> by_cases h4 : t = t' <;> simp [h1, h2, h3, h4]

theorem rd_drew {w : World} {g : Nat} {t : TypeId} {cs : List Value} (h : Blk w g t cs) : Rd w.drew w.drew.heap.size (some ⟨g, 0, none⟩) cs := Rd.of_blk (w := w.drew) (t := t) h (List.prefix_refl _)
theorem or4 (x1 x2 x3 x4 : Int) (W : World) : Calls Try.prog 34 #[.slice (some ⟨W.heap.size, 0, none⟩) 4 4] (W.alloc (.cells #[.int .i64 x1, .int .i64 x2, .int .i64 x3, .int .i64 x4] 3)).drew
    fun e w' => e = .returned (.int .i64 (firstNZ [x1, x2, x3, x4])) ∧ w' = (W.alloc (.cells #[.int .i64 x1, .int .i64 x2, .int .i64 x3, .int .i64 x4] 3)).drew :=
  or_any _ 4 [x1, x2, x3, x4] _ (rd_drew (Blk.new W 3 (ints [x1, x2, x3, x4]))) (by simp)
theorem or2 (x1 x2 : Int) (W : World) : Calls Try.prog 34 #[.slice (some ⟨W.heap.size, 0, none⟩) 2 2] (W.alloc (.cells #[.int .i64 x1, .int .i64 x2] 3)).drew
    fun e w' => e = .returned (.int .i64 (firstNZ [x1, x2])) ∧ w' = (W.alloc (.cells #[.int .i64 x1, .int .i64 x2] 3)).drew :=
  or_any _ 2 [x1, x2] _ (rd_drew (Blk.new W 3 (ints [x1, x2]))) (by simp)

set_option maxHeartbeats 1000000 in
theorem compare_any (a b : Mk) (w : World) : Calls Try.prog 15 #[.agg #[.int .i64 a.r, .int .i64 a.c, .int .i64 a.q, .int .u64 a.t], .agg #[.int .i64 b.r, .int .i64 b.c, .int .i64 b.q, .int .u64 b.t]] w
    fun e w' => e = .returned (.int .i64 (cmpM a b)) ∧ Below w.heap.size w w' := by
  have hq := mk_eql a b
  by_cases h : a = b
  · have hd : decide (a = b) = true := by simpa using h
    rw [hd] at hq
    have H := Lib.hid h
    clear h hd
    go_enter Try.func15, Try.ntmps15
    go_wp2_with fail
    go_ret
    exact ⟨ret_int (by rw [cmpM_zero.2 H.out]), ((Below.refl _ _).alloc (Nat.le_refl _) _).alloc (by simp) _⟩
  · have hd : decide (a = b) = false := by simpa using h
    rw [hd] at hq
    clear h hd
    go_enter Try.func15, Try.ntmps15
    go_wp2_with fail
    generalize hW : (World.alloc _ _) = W
    have ha : Blk W w.heap.size 26 a.cells := by
      rw [← hW]; exact (Blk.new w 26 a.cells).alloc _
    have hb : Blk W (w.heap.size + 1) 26 b.cells := by
      rw [← hW]; exact Blk.new' _ 26 b.cells (by simp)
    have hB : Below w.heap.size w W := by rw [← hW]; exact ((Below.refl _ _).alloc (Nat.le_refl _) _).alloc (by simp) _
    clear hW
    have a0 := ha.cell 0
    have a1 := ha.cell 1
    have a2 := ha.cell 2
    have a3 := ha.cell 3
    have b0 := hb.cell 0
    have b1 := hb.cell 1
    have b2 := hb.cell 2
    have b3 := hb.cell 3
    simp only [Mk.cells, List.getElem?_cons_zero, List.getElem?_cons_succ] at a0 a1 a2 a3 b0 b1 b2 b3
    clear ha hb
    go_region_held3 (fun w' => w'.cell? ⟨w.heap.size, 0, none⟩ = some (.int .i64 a.r) ∧ w'.cell? ⟨w.heap.size, 1, none⟩ = some (.int .i64 a.c) ∧ w'.cell? ⟨w.heap.size, 2, none⟩ = some (.int .i64 a.q) ∧ w'.cell? ⟨w.heap.size, 3, none⟩ = some (.int .u64 a.t) ∧
      w'.cell? ⟨w.heap.size + 1, 0, none⟩ = some (.int .i64 b.r) ∧ w'.cell? ⟨w.heap.size + 1, 1, none⟩ = some (.int .i64 b.c) ∧ w'.cell? ⟨w.heap.size + 1, 2, none⟩ = some (.int .i64 b.q) ∧ w'.cell? ⟨w.heap.size + 1, 3, none⟩ = some (.int .u64 b.t))
      (first | exact ⟨a0, a1, a2, a3, b0, b1, b2, b3⟩ | (go_keep; done))
      ((first
        | (go_at_call 35; refine (cmpU_any _ _ _).mono ?_; rintro e w' ⟨rfl, rfl⟩)
        | (go_at_call 36; refine (cmp_any _ _ _).mono ?_; rintro e w' ⟨rfl, rfl⟩)
        | (go_at_call 34; refine (or4 _ _ _ _ _).mono ?_; rintro e w' ⟨rfl, rfl⟩)))
    go_wp2_with fail
    go_ret
    exact ⟨rfl, (hB.alloc hB.size _).drew⟩

set_option maxHeartbeats 1000000 in
theorem dotCompare_any (r c r' c' : Int) (w : World) : Calls Try.prog 45 #[.agg #[.int .i64 r, .int .i64 c], .agg #[.int .i64 r', .int .i64 c']] w
    fun e w' => e = .returned (.int .i64 (firstNZ [cmpI c c', cmpI r r'])) ∧ Below w.heap.size w w' := by
  go_enter Try.func45, Try.ntmps45
  go_wp2_with fail
  generalize hW : (World.alloc _ _) = W
  have ha : Blk W w.heap.size 23 [.int .i64 r, .int .i64 c] := by
    rw [← hW]; exact (Blk.new w 23 [.int .i64 r, .int .i64 c]).alloc _
  have hb : Blk W (w.heap.size + 1) 23 [.int .i64 r', .int .i64 c'] := by
    rw [← hW]; exact Blk.new' _ 23 [.int .i64 r', .int .i64 c'] (by simp)
  have hB : Below w.heap.size w W := by rw [← hW]; exact ((Below.refl _ _).alloc (Nat.le_refl _) _).alloc (by simp) _
  clear hW
  have a0 := ha.cell 0
  have a1 := ha.cell 1
  have b0 := hb.cell 0
  have b1 := hb.cell 1
  simp only [List.getElem?_cons_zero, List.getElem?_cons_succ] at a0 a1 b0 b1
  clear ha hb
  go_region_held3 (fun w' => w'.cell? ⟨w.heap.size, 0, none⟩ = some (.int .i64 r) ∧ w'.cell? ⟨w.heap.size, 1, none⟩ = some (.int .i64 c) ∧
    w'.cell? ⟨w.heap.size + 1, 0, none⟩ = some (.int .i64 r') ∧ w'.cell? ⟨w.heap.size + 1, 1, none⟩ = some (.int .i64 c'))
    (first | exact ⟨a0, a1, b0, b1⟩ | (go_keep; done))
    ((first
      | (go_at_call 36; refine (cmp_any _ _ _).mono ?_; rintro e w' ⟨rfl, rfl⟩)
      | (go_at_call 34; refine (or2 _ _ _).mono ?_; rintro e w' ⟨rfl, rfl⟩)))
  go_wp2_with fail
  go_ret
  exact ⟨rfl, (hB.alloc hB.size _).drew⟩

set_option maxHeartbeats 1000000 in
theorem newer_any (a b : Mk) (w : World) : Calls Try.prog 37 #[.agg #[.int .i64 a.r, .int .i64 a.c, .int .i64 a.q, .int .u64 a.t], .agg #[.int .i64 b.r, .int .i64 b.c, .int .i64 b.q, .int .u64 b.t]] w
    fun e w' => e = .returned (.bool (decide (GT a b))) ∧ Below w.heap.size w w' := by
  have hB : Below w.heap.size w ((w.alloc (.cells #[.int .i64 a.r, .int .i64 a.c, .int .i64 a.q, .int .u64 a.t] 26)).alloc (.cells #[.int .i64 b.r, .int .i64 b.c, .int .i64 b.q, .int .u64 b.t] 26)) := ((Below.refl _ _).alloc (Nat.le_refl _) _).alloc (by simp) _
  have fin : ∀ x : Bool, (x = true ↔ GT a b) → x = decide (GT a b) := fun x h => by rw [Bool.eq_iff_iff, decide_eq_true_eq]; exact h
  by_cases h1 : a.t = b.t
  · have n1 : (a.t != b.t) = false := by simpa using h1
    have H1 := Lib.hid h1
    clear h1
    by_cases h2 : a.r = b.r
    · have n2 : (a.r != b.r) = false := by simpa using h2
      have H2 := Lib.hid h2
      clear h2
      by_cases h3 : a.c = b.c
      · have n3 : (a.c != b.c) = false := by simpa using h3
        have H3 := Lib.hid h3
        clear h3
        go_enter Try.func37, Try.ntmps37
        go_wp2_with fail
        go_ret
        refine ⟨ret_bool (fin _ ?_), hB⟩
        have := H1.out; have := H2.out; have := H3.out
        unfold GT; simp; omega
      · have n3 : (a.c != b.c) = true := by simpa using h3
        have H3 := Lib.hid h3
        clear h3
        go_enter Try.func37, Try.ntmps37
        go_wp2_with fail
        go_ret
        refine ⟨ret_bool (fin _ ?_), hB⟩
        have := H1.out; have := H2.out; have := H3.out
        unfold GT; simp; omega
    · have n2 : (a.r != b.r) = true := by simpa using h2
      have H2 := Lib.hid h2
      clear h2
      go_enter Try.func37, Try.ntmps37
      go_wp2_with fail
      go_ret
      refine ⟨ret_bool (fin _ ?_), hB⟩
      have := H1.out; have := H2.out
      unfold GT; simp; omega
  · have n1 : (a.t != b.t) = true := by simpa using h1
    have H1 := Lib.hid h1
    clear h1
    go_enter Try.func37, Try.ntmps37
    go_wp2_with fail
    go_ret
    refine ⟨ret_bool (fin _ ?_), hB⟩
    have := H1.out
    unfold GT; simp; omega

set_option maxHeartbeats 400000 in
theorem refCompare_any (a b : Mk) (w : World) : Calls Try.prog 16 #[.agg #[.int .i64 a.r, .int .i64 a.c, .int .i64 a.q, .int .u64 a.t], .agg #[.int .i64 b.r, .int .i64 b.c, .int .i64 b.q, .int .u64 b.t]] w
    fun e w' => e = .returned (.int .i64 (cmpM a b)) ∧ Below w.heap.size w w' := by
  go_enter Try.func16, Try.ntmps16
  go_wp2_with fail
  generalize hW : (World.alloc _ _) = W
  have ha : Blk W w.heap.size 26 a.cells := by
    rw [← hW]; exact (Blk.new w 26 a.cells).alloc _
  have hb : Blk W (w.heap.size + 1) 26 b.cells := by
    rw [← hW]; exact Blk.new' _ 26 b.cells (by simp)
  have hB : Below w.heap.size w W := by rw [← hW]; exact ((Below.refl _ _).alloc (Nat.le_refl _) _).alloc (by simp) _
  clear hW
  refine (newer_any a b _).mono ?_
  rintro e w1 ⟨rfl, hb1⟩
  have ha1 := ha.kept hb1
  have hb1' := hb.kept hb1
  have hB1 := hB.trans (hb1.mono hB.size)
  clear ha hb hB hb1
  by_cases h : GT a b
  · have hd : decide (GT a b) = true := by simpa using h
    rw [hd]
    have H := Lib.hid h
    clear h hd
    go_wp2_with fail
    go_ret
    exact ⟨ret_int (by rw [cmpM_one.2 H.out]), hB1⟩
  · have hd : decide (GT a b) = false := by simpa using h
    rw [hd]
    have H := Lib.hid h
    clear h hd
    have a0 := ha1.cell 0
    have a1 := ha1.cell 1
    have a2 := ha1.cell 2
    have a3 := ha1.cell 3
    have b0 := hb1'.cell 0
    have b1 := hb1'.cell 1
    have b2 := hb1'.cell 2
    have b3 := hb1'.cell 3
    simp only [Mk.cells, List.getElem?_cons_zero, List.getElem?_cons_succ] at a0 a1 a2 a3 b0 b1 b2 b3
    go_wp2_with fail
    refine (newer_any b a _).mono ?_
    rintro e w2 ⟨rfl, hb2⟩
    have hB2 := hB1.trans (hb2.mono hB1.size)
    by_cases k : GT b a
    · have hd : decide (GT b a) = true := by simpa using k
      rw [hd]
      have K := Lib.hid k
      clear k hd
      go_wp2_with fail
      go_ret
      exact ⟨ret_int (by rw [cmpM_eq, if_neg H.out, if_pos K.out]), hB2⟩
    · have hd : decide (GT b a) = false := by simpa using k
      rw [hd]
      have K := Lib.hid k
      clear k hd
      go_wp2_with fail
      go_ret
      exact ⟨ret_int (by rw [cmpM_eq, if_neg H.out, if_neg K.out]), hB2⟩
end Go.Proofs.Ytffclmogabceiaa
