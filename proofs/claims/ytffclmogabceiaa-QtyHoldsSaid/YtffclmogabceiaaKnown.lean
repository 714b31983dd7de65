/- The law's examples: known returns true. -/
import Derived.Test.YtffclmogabceiaaRefNewest
import Derived.Test.YtffclmogabceiaaSums
namespace Go.Proofs.Ytffclmogabceiaa
open Go.RowKit

theorem valid_is (q : Int) (v : Bool) (w : World) (h : validQ q = v) : Calls Try.prog 10 #[.int .i64 q] w fun e w' => e = .returned (.bool v) ∧ w' = w := by rw [← h]; exact valid_any q w
theorem validMark_is (r c q t : Int) (v : Bool) (w : World) (h : validM ⟨r, c, q, t⟩ = v) : Calls Try.prog 12 #[.agg #[.int .i64 r, .int .i64 c, .int .i64 q, .int .u64 t]] w fun e w' => e = .returned (.bool v) ∧ Below w.heap.size w w' := by rw [← h]; exact validMark_any r c q t w
theorem compare_is (a b : Mk) (v : Int) (w : World) (h : cmpM a b = v) : Calls Try.prog 15 #[.agg #[.int .i64 a.r, .int .i64 a.c, .int .i64 a.q, .int .u64 a.t], .agg #[.int .i64 b.r, .int .i64 b.c, .int .i64 b.q, .int .u64 b.t]] w fun e w' => e = .returned (.int .i64 v) ∧ Below w.heap.size w w' := by rw [← h]; exact compare_any a b w
theorem isList_is (p : Option Addr) (c n : Nat) (l : List Mk) (v : Bool) (w : World) (h : Rd w w.heap.size p (mks l)) (hl : l.length ≤ 1000) (hv : isSetB (dotsOf l) = v) (hn : n = l.length) :
    Calls Try.prog 23 #[.slice p n c] w fun e w' => e = .returned (.bool v) ∧ Below w.heap.size w w' := by subst hn; rw [← hv]; exact isList_any p c l w h hl
theorem sums_is (p : Option Addr) (c : Nat) (l : List Int) (n no : Int) (m : Nat) (w : World) (h : Rd w w.heap.size p (ints l)) (hl : l.length ≤ 100000) (hwf : ∀ x ∈ l, (Lit.int .i64 x).wf = true) (h1 : sumN l = n) (h2 : sumE l = no) (hm : m = l.length) :
    Calls Try.prog 14 #[.slice p m c, .int .i64 n, .int .i64 no] w fun e w' => e = .returned (.bool true) ∧ Below w.heap.size w w' := (sums_any p c l n no w h hl hwf h1 h2 m hm).mono fun _ _ ⟨he, hw⟩ => ⟨he, hw ▸ Below.refl _ _⟩
theorem cells4 {w : World} {g : Nat} {m : Mk} (h : Blk w g 26 m.cells) : w.cell? ⟨g, 0, none⟩ = some (.int .i64 m.r) ∧ w.cell? ⟨g, 1, none⟩ = some (.int .i64 m.c) ∧ w.cell? ⟨g, 2, none⟩ = some (.int .i64 m.q) ∧ w.cell? ⟨g, 3, none⟩ = some (.int .u64 m.t) := h.mk4.1

theorem compare_raw (ar ac aq at' br bc bq bt : Int) (w : World) : Calls Try.prog 15 #[.agg #[.int .i64 ar, .int .i64 ac, .int .i64 aq, .int .u64 at'], .agg #[.int .i64 br, .int .i64 bc, .int .i64 bq, .int .u64 bt]] w fun e w' => e = .returned (.int .i64 (cmpM ⟨ar, ac, aq, at'⟩ ⟨br, bc, bq, bt⟩)) ∧ Below w.heap.size w w' := compare_any ⟨ar, ac, aq, at'⟩ ⟨br, bc, bq, bt⟩ w
theorem okBig : ∀ x ∈ [(⟨1, 1, 5, 18446744073709551615⟩ : Mk)], x.Ok := by intro x hx; simp at hx; subst hx; exact ⟨by decide, by decide⟩
theorem nextBig0 : nextN [⟨1, 1, 5, 18446744073709551615⟩] = 0 := by decide
theorem nextBig1 : nextE [⟨1, 1, 5, 18446744073709551615⟩] = 15 := by decide
def mA : Mk := ⟨1, 1, 5, 3⟩
def mB : Mk := ⟨2, 1, 7, 4⟩
theorem okTwo : ∀ x ∈ [mA, mB], x.Ok := by intro x hx; simp at hx; rcases hx with rfl | rfl <;> exact ⟨by decide, by decide⟩
/-- The three marks of the examples. -/
structure Kn (w0 w : World) (a b n : Nat) : Prop where
  ha : Blk w a 26 mA.cells
  hb : Blk w b 26 mB.cells
  hn : Blk w n 26 Mk.zero.cells
  h : Below w0.heap.size w0 w
theorem Kn.step {w0 w w' : World} {a b n : Nat} (k : Kn w0 w a b n) (h : Below w.heap.size w w') : Kn w0 w' a b n := ⟨k.ha.kept h, k.hb.kept h, k.hn.kept h, below_step k.h h⟩
theorem Kn.alloc {w0 w : World} {a b n : Nat} (k : Kn w0 w a b n) (o : Obj) : Kn w0 (w.alloc o) a b n := k.step ((Below.refl _ _).alloc (Nat.le_refl _) _)
theorem Kn.drew {w0 w : World} {a b n : Nat} (k : Kn w0 w a b n) : Kn w0 w.drew a b n := k.step (Below.refl _ _).drew

theorem dots_two (p : Option Addr) (c : Nat) (w : World) (h : Rd w w.heap.size p (mks [mB, mA])) :
    Calls Try.prog 26 #[.slice p 2 c] w fun e w' => ∃ q d, e = .returned (.slice q 2 d) ∧ Rd w' w'.heap.size q (dotCells [(2, 1), (1, 1)]) ∧ Below w.heap.size w w' :=
  (dots_any p c [mB, mA] w h (by decide)).mono fun _ _ ⟨q, d, he, hr, hb⟩ => ⟨q, d, he, hr, hb⟩
theorem same_two (p q : Option Addr) (c d : Nat) (w : World) (hx : Rd w w.heap.size p (dotCells [(2, 1), (1, 1)])) (hy : Rd w w.heap.size q (dotCells [(2, 1), (1, 1)])) :
    Calls Try.prog 25 #[.slice p 2 c, .slice q 2 d] w fun e w' => e = .returned (.bool true) ∧ Below w.heap.size w w' := sameDots_any p q c d [(2, 1), (1, 1)] [(2, 1), (1, 1)] w hx hy (by decide) (by decide)
theorem below_alloc {w w1 : World} (h : Below w.heap.size w w1) (o : Obj) : Below w.heap.size w (w1.alloc o) := h.alloc h.size o
theorem kn_keep {w0 w w' : World} {a b n : Nat} (k : Kn w0 w a b n) (h : Below w.heap.size w w') : w'.cell? ⟨a, 0, none⟩ = some (.int .i64 1) ∧ w'.cell? ⟨a, 1, none⟩ = some (.int .i64 1) ∧ w'.cell? ⟨a, 2, none⟩ = some (.int .i64 5) ∧ w'.cell? ⟨a, 3, none⟩ = some (.int .u64 3) ∧
    w'.cell? ⟨b, 0, none⟩ = some (.int .i64 2) ∧ w'.cell? ⟨b, 1, none⟩ = some (.int .i64 1) ∧ w'.cell? ⟨b, 2, none⟩ = some (.int .i64 7) ∧ w'.cell? ⟨b, 3, none⟩ = some (.int .u64 4) ∧ Below w.heap.size w w' := by
  obtain ⟨a0, a1, a2, a3⟩ := cells4 (k.step h).ha
  obtain ⟨b0, b1, b2, b3⟩ := cells4 (k.step h).hb
  exact ⟨a0, a1, a2, a3, b0, b1, b2, b3, h⟩
/-- The first examples: quantities, marks and sums. -/
def Post2 (w0 : World) (a b n : Nat) (w : World) : Prop := Kn w0 w a b n

set_option maxHeartbeats 4000000 in
theorem known_any (w : World) : Calls Try.prog 8 #[] w fun e w' => e = .returned (.bool true) ∧ Below w.heap.size w w' := by
  go_enter Try.func8, Try.ntmps8
  go_wp2_with fail
  refine (mark_any 1 1 5 3 _).mono ?_
  rintro e w1 ⟨rfl, hb1⟩
  go_wp2_with fail
  refine (mark_any 2 1 7 4 _).mono ?_
  rintro e w2 ⟨rfl, hb2⟩
  have hb := below_step hb1 hb2
  clear hb1 hb2
  go_wp2_with fail
  generalize hW : (World.alloc _ _) = W
  have hK : Kn w W w2.heap.size (w2.heap.size + 1) (w2.heap.size + 1 + 1) := by
    rw [← hW]
    exact ⟨((Blk.new w2 26 mA.cells).alloc _).alloc _, (Blk.new' _ 26 mB.cells (by simp)).alloc _, Blk.new' _ 26 Mk.zero.cells (by simp), ((hb.alloc hb.size _).alloc (by have := hb.size; simp; omega) _).alloc (by have := hb.size; simp; omega) _⟩
  obtain ⟨A, hA⟩ : ∃ A, w2.heap.size = A := ⟨_, rfl⟩
  rw [hA] at hK ⊢
  obtain ⟨B, hB⟩ : ∃ B, A + 1 = B := ⟨_, rfl⟩
  rw [hB] at hK ⊢
  obtain ⟨C, hC⟩ : ∃ C, B + 1 = C := ⟨_, rfl⟩
  rw [hC] at hK ⊢
  clear hW hb hA hB hC
  go_wp2_with fail
  refine (valid_is 0 false _ (by decide)).mono ?_
  rintro e w' ⟨rfl, rfl⟩
  go_wp2_with fail
  refine (valid_is 2147483647 true _ (by decide)).mono ?_
  rintro e w' ⟨rfl, rfl⟩
  go_wp2_with fail
  refine (valid_is 2147483648 false _ (by decide)).mono ?_
  rintro e w' ⟨rfl, rfl⟩
  go_wp2_with fail
  refine (mark_any 1 1 5 0 _).mono ?_
  rintro e w4 ⟨rfl, hb4⟩
  replace hK := Kn.step hK hb4
  clear hb4
  go_wp2_with fail
  refine (validMark_is 1 1 5 0 false _ (by decide)).mono ?_
  rintro e w5 ⟨rfl, hb5⟩
  replace hK := Kn.step hK hb5
  clear hb5
  go_wp2_with fail
  refine (sums_is _ 2 [3, 4] 7 0 2 _ (Rd.of_blk (Blk.new' _ 3 (ints [3, 4]) rfl) (List.prefix_refl _)) (by decide) (by decide) (by decide) (by decide) rfl).mono ?_
  rintro e w6 ⟨rfl, hb6⟩
  replace hK := Kn.step (Kn.alloc hK _) hb6
  clear hb6
  go_wp2_with fail
  refine (sums_is _ 2 [2147483647, 1] 0 14 2 _ (Rd.of_blk (Blk.new' _ 3 (ints [2147483647, 1]) rfl) (List.prefix_refl _)) (by decide) (by decide) (by decide) (by decide) rfl).mono ?_
  rintro e w7 ⟨rfl, hb7⟩
  replace hK := Kn.step (Kn.alloc hK _) hb7
  clear hb7
  go_wp2_with fail
  refine (sums_is _ 2 [3, 0] 0 14 2 _ (Rd.of_blk (Blk.new' _ 3 (ints [3, 0]) rfl) (List.prefix_refl _)) (by decide) (by decide) (by decide) (by decide) rfl).mono ?_
  rintro e w8 ⟨rfl, hb8⟩
  replace hK := Kn.step (Kn.alloc hK _) hb8
  clear hb8
  go_wp2_with fail
  refine (sums_is none 0 [] 0 9 0 _ (Rd.nil _ _ _) (by decide) (by decide) (by decide) (by decide) rfl).mono ?_
  rintro e w9 ⟨rfl, hb9⟩
  replace hK := Kn.step hK hb9
  clear hb9
  go_wp2_with fail
  obtain ⟨a0, a1, a2, a3⟩ := cells4 hK.ha
  simp only [mA] at a0 a1 a2 a3
  have la := hK.ha.lt
  have g0 := fun g => Gr.at_ la a0 g
  have g1 := fun g => Gr.at_ la a1 g
  have g2 := fun g => Gr.at_ la a2 g
  have g3 := fun g => Gr.at_ la a3 g
  have c1 : cmpM ⟨1, 1, 5, 3⟩ ⟨2, 9, 5, 2⟩ = 1 := by decide
  have c2 : cmpM ⟨1, 9, 5, 3⟩ ⟨2, 1, 5, 3⟩ = -1 := by decide
  have c3 : cmpM ⟨1, 1, 5, 3⟩ ⟨1, 1, 6, 3⟩ = -1 := by decide
  have c4 : cmpM ⟨1, 1, 5, 3⟩ ⟨1, 1, 5, 3⟩ = 0 := by decide
  refine wp_region_grows (by kernel_rfl) (by kernel_rfl) ?_
  repeat (go_big_quiet_step ((first | (go_at_call 31; exact Calls.gr _ (mark_any _ _ _ _ _)) | (go_at_call 15; exact Calls.gr _ (compare_raw _ _ _ _ _ _ _ _ _)))))
  refine wpQuiet_nil ?_
  rintro _ ⟨g, rfl⟩
  have hK := hK.step g.h
  clear a0 a1 a2 a3 la g0 g1 g2 g3 c1 c2 c3 c4
  generalize g.w = w9 at hK ⊢
  clear g
  obtain ⟨a0, a1, a2, a3⟩ := cells4 hK.ha
  obtain ⟨b0, b1, b2, b3⟩ := cells4 hK.hb
  obtain ⟨n0, n1, n2, n3⟩ := cells4 hK.hn
  simp only [mA, mB, Mk.zero] at a0 a1 a2 a3 b0 b1 b2 b3 n0 n1 n2 n3
  have la := hK.ha.lt
  have lb := hK.hb.lt
  have ln := hK.hn.lt
  go_wp2_with fail
  refine (isNewest_any _ 2 [mA, mB] mB 0 _ (Rd.of_blk (Blk.new' _ 26 (mks [mA, mB]) (by rfl)) (List.prefix_refl _)) (by decide) (by decide) (by decide) 2 rfl).mono ?_
  rintro e w10 ⟨rfl, hb10⟩
  replace hK := Kn.step (Kn.alloc hK _) hb10
  clear hb10
  clear a0 a1 a2 a3 b0 b1 b2 b3 n0 n1 n2 n3 la lb ln
  obtain ⟨a0, a1, a2, a3⟩ := cells4 hK.ha
  obtain ⟨b0, b1, b2, b3⟩ := cells4 hK.hb
  obtain ⟨n0, n1, n2, n3⟩ := cells4 hK.hn
  simp only [mA, mB, Mk.zero] at a0 a1 a2 a3 b0 b1 b2 b3 n0 n1 n2 n3
  have la := hK.ha.lt
  have lb := hK.hb.lt
  have ln := hK.hn.lt
  go_wp2_with fail
  refine (isNewest_any none 0 [] Mk.zero 9 _ (Rd.nil _ _ _) (by decide) (by decide) (by decide) 0 rfl).mono ?_
  rintro e w11 ⟨rfl, hb11⟩
  replace hK := Kn.step hK hb11
  clear hb11
  clear a0 a1 a2 a3 b0 b1 b2 b3 n0 n1 n2 n3 la lb ln
  obtain ⟨a0, a1, a2, a3⟩ := cells4 hK.ha
  obtain ⟨b0, b1, b2, b3⟩ := cells4 hK.hb
  obtain ⟨n0, n1, n2, n3⟩ := cells4 hK.hn
  simp only [mA, mB, Mk.zero] at a0 a1 a2 a3 b0 b1 b2 b3 n0 n1 n2 n3
  have la := hK.ha.lt
  have lb := hK.hb.lt
  have ln := hK.hn.lt
  go_wp2_with fail
  refine (isNext_any _ 2 [mA, mB] 5 0 _ (Rd.of_blk (Blk.new' _ 26 (mks [mA, mB]) (by rfl)) (List.prefix_refl _)) (by decide) okTwo (by decide) (by decide) 2 rfl).mono ?_
  rintro e w12 ⟨rfl, hb12⟩
  replace hK := Kn.step (Kn.alloc hK _) hb12
  clear hb12
  clear a0 a1 a2 a3 b0 b1 b2 b3 n0 n1 n2 n3 la lb ln
  go_wp2_with fail
  refine (isNext_any none 0 [] 1 0 _ (Rd.nil _ _ _) (by decide) (by simp) (by decide) (by decide) 0 rfl).mono ?_
  rintro e w13 ⟨rfl, hb13⟩
  replace hK := Kn.step hK hb13
  clear hb13
  go_wp2_with fail
  refine (mark_any 1 1 5 18446744073709551615 _).mono ?_
  rintro e w14 ⟨rfl, hb14⟩
  replace hK := Kn.step hK hb14
  clear hb14
  go_wp2_with fail
  refine (isNext_any _ 1 [⟨1, 1, 5, 18446744073709551615⟩] 0 15 _ (Rd.of_blk (Blk.new' _ 26 (mks [⟨1, 1, 5, 18446744073709551615⟩]) (by rfl)) (List.prefix_refl _)) (by decide) okBig nextBig0 nextBig1 1 rfl).mono ?_
  rintro e w15 ⟨rfl, hb15⟩
  replace hK := Kn.step (Kn.alloc hK _) hb15
  clear hb15
  go_wp2_with fail
  obtain ⟨a0, a1, a2, a3⟩ := cells4 hK.ha
  obtain ⟨b0, b1, b2, b3⟩ := cells4 hK.hb
  obtain ⟨n0, n1, n2, n3⟩ := cells4 hK.hn
  simp only [mA, mB, Mk.zero] at a0 a1 a2 a3 b0 b1 b2 b3 n0 n1 n2 n3
  have la := hK.ha.lt
  have lb := hK.hb.lt
  have ln := hK.hn.lt
  clear a0 a1 a2 a3 b0 b1 b2 b3 n0 n1 n2 n3
  go_region_held3 (fun w' => w'.cell? ⟨A, 0, none⟩ = some (.int .i64 1) ∧ w'.cell? ⟨A, 1, none⟩ = some (.int .i64 1) ∧ w'.cell? ⟨A, 2, none⟩ = some (.int .i64 5) ∧ w'.cell? ⟨A, 3, none⟩ = some (.int .u64 3) ∧
      w'.cell? ⟨B, 0, none⟩ = some (.int .i64 2) ∧ w'.cell? ⟨B, 1, none⟩ = some (.int .i64 1) ∧ w'.cell? ⟨B, 2, none⟩ = some (.int .i64 7) ∧ w'.cell? ⟨B, 3, none⟩ = some (.int .u64 4) ∧ Below w15.heap.size w15 w')
    ((go_split_ands; refine kn_keep hK ?_; first | exact (Below.refl _ _).drew | assumption | exact (Below.alloc (Below.refl _ _) (Nat.le_refl _) _).drew | exact below_alloc (by assumption) _ | exact below_step (Below.alloc (Below.refl _ _) (Nat.le_refl _) _).drew (by assumption) | exact below_step (by assumption) (by assumption) | exact below_step (below_alloc (by assumption) _) (by assumption)))
    ((first
        | (go_at_call 31; refine (mark_any _ _ _ _ _).mono ?_; rintro e w' ⟨rfl, hb'⟩)
        | (go_at_call 23; refine (isList_is _ 2 2 [mA, mB] true _ (rd_drew (Blk.new' _ 26 (mks [mA, mB]) (by rfl))) (by decide) (by decide) rfl).mono ?_; rintro e w' ⟨rfl, hb'⟩)
        | (go_at_call 23; refine (isList_is _ 2 2 [mB, mA] false _ (Rd.of_blk (Blk.new' _ 26 (mks [mB, mA]) (by rfl)) (List.prefix_refl _)) (by decide) (by decide) rfl).mono ?_; rintro e w' ⟨rfl, hb'⟩)
        | (go_at_call 23; refine (isList_is _ 2 2 [mA, ⟨1, 1, 7, 4⟩] false _ (Rd.of_blk (Blk.new' _ 26 (mks [mA, ⟨1, 1, 7, 4⟩]) (by rfl)) (List.prefix_refl _)) (by decide) (by decide) rfl).mono ?_; rintro e w' ⟨rfl, hb'⟩)
        | (go_at_call 26; refine (dots_two _ _ _ ?_).mono ?_; (first | exact Rd.of_blk (Blk.new' _ 26 (mks [mB, mA]) (by first | rfl | simp)) (List.prefix_refl _) | exact Rd.of_blk (Blk.alloc (Blk.new' _ 26 (mks [mB, mA]) (by first | rfl | simp)) _) (List.prefix_refl _)); rintro e w' ⟨q, d, rfl, hr, hb'⟩)
        | (go_at_call 25; refine (same_two _ _ _ _ _ ?_ ?_).mono ?_; (first | exact hr | exact Rd.kept hr ((Below.refl _ _).alloc (Nat.le_refl _) _)); (first | exact Rd.kept (Rd.of_blk (Blk.new' _ 23 (dotCells [(2, 1), (1, 1)]) (by first | rfl | simp)) (List.prefix_refl _)) hb' | exact Rd.kept (Rd.of_blk (Blk.alloc (Blk.new' _ 23 (dotCells [(2, 1), (1, 1)]) (by first | rfl | simp)) _) (List.prefix_refl _)) hb' | exact Rd.of_blk (Blk.new' _ 23 (dotCells [(2, 1), (1, 1)]) (by first | rfl | simp)) (List.prefix_refl _)); rintro e w' ⟨rfl, hb'⟩)
        ))
  all_goals
    go_split_ands
    go_wp2_with fail
    go_ret
    exact ⟨rfl, below_step hK.h (by assumption)⟩
end Go.Proofs.Ytffclmogabceiaa
