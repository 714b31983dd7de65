/- known returns true. Printed by sched_known.py. -/
import Derived.Test.YtfidnecdojgkjaaLil
namespace Go.Proofs.Ytfidnecdojgkjaa
open Go.RowKit

theorem new_ok {w : World} (p : Option Addr) (c : Nat) (kind : Int) (nums : List Int) (h : Rd w w.heap.size p (ints nums)) (hl : nums.length ≤ 1000000) (he : newE kind nums = 0) :
    Calls Try.prog 11 #[.int .i64 kind, .slice p nums.length c] w fun e w' => ∃ R b q d, e = .returned (.tuple #[.pointer (some ⟨R, 0, none⟩), .int .i64 0]) ∧ SS w' R b q d kind nums [] ∧ w.heap.size ≤ R ∧ w.heap.size ≤ b ∧ Below w.heap.size w w' :=
  (new_any p c kind nums h hl).mono fun e w' h => by
    obtain ⟨R, b, q, d, h1, h2, h3, h4, _⟩ := h.2.1 he
    exact ⟨R, b, q, d, h1, h2, h3, h4, h.2.2⟩
/-- The state of a walk: a world behind w0, a scheduler in it. -/
structure St (w0 w : World) (R b : Nat) (q : Option Addr) (c : Nat) (kind : Int) (nums L : List Int) : Prop where
  ss : SS w R b q c kind nums L
  below : Below w0.heap.size w0 w
  r : w0.heap.size ≤ R
  b : w0.heap.size ≤ b
theorem St.step {w0 w w' : World} {R b c : Nat} {q : Option Addr} {kind : Int} {nums L L' : List Int} (h : St w0 w R b q c kind nums L) (k : SStep w w' R b q c kind nums L') : St w0 w' R b q c kind nums L' :=
  ⟨k.1, SStep.below h.below k h.r h.b, h.r, h.b⟩
theorem St.alloc {w0 w : World} {R b c : Nat} {q : Option Addr} {kind : Int} {nums L : List Int} (h : St w0 w R b q c kind nums L) (o : Obj) : St w0 (w.alloc o) R b q c kind nums L :=
  ⟨h.ss.kept ((Below.refl _ _).alloc (Nat.le_refl _) o), h.below.alloc h.below.size o, h.r, h.b⟩
/-- A list that has just been built. -/
theorem rd_new (w : World) (l : List Int) : Rd (w.alloc (.cells (ints l).toArray 3)) (w.alloc (.cells (ints l).toArray 3)).heap.size (some ⟨w.heap.size, 0, none⟩) (ints l) := Rd.of_blk (Blk.new w 3 (ints l)) (List.prefix_refl _)
/-- A pick with a list that has just been built. -/
theorem picks_new {w0 w : World} {R b c : Nat} {q : Option Addr} {kind : Int} {nums L : List Int} (h : St w0 w R b q c kind nums L) (hL : L.length ≤ 1000000) (l : List Int) (h1 : l.length ≤ 1000000) (t e : Int) (ht : nxT kind nums L l = t) (he : nxE l = e) :
    Calls Try.prog 27 #[.pointer (some ⟨R, 0, none⟩), .int .i64 t, .int .i64 e, .slice (some ⟨w.heap.size, 0, none⟩) l.length l.length] (w.alloc (.cells (ints l).toArray 3)) fun e w' => e = .returned (.bool true) ∧ St w0 w' R b q c kind nums (nxL kind nums L l) :=
  (picks_any (h.alloc _).ss hL _ _ l (rd_new w l) h1 t e ht he).mono fun _ _ hh => ⟨hh.1, (h.alloc _).step hh.2⟩
theorem picks_nil {w0 w : World} {R b c : Nat} {q : Option Addr} {kind : Int} {nums L : List Int} (h : St w0 w R b q c kind nums L) (hL : L.length ≤ 1000000) (t e : Int) (ht : nxT kind nums L [] = t) (he : nxE [] = e) :
    Calls Try.prog 27 #[.pointer (some ⟨R, 0, none⟩), .int .i64 t, .int .i64 e, .slice none 0 0] w fun e w' => e = .returned (.bool true) ∧ St w0 w' R b q c kind nums (nxL kind nums L []) :=
  (picks_any h.ss hL none 0 [] (Rd.nil _ _ _) (by simp) t e ht he).mono fun _ _ hh => ⟨hh.1, h.step hh.2⟩
theorem below_al {w0 w : World} (h : Below w0.heap.size w0 w) (o : Obj) : Below w0.heap.size w0 (w.alloc o) := h.alloc h.size o
/-- The run of the chapter's example. -/
def ex3 (n : Nat) : List Tp := [⟨some ⟨n, 0, none⟩, 2, [1, 3], 1⟩, ⟨some ⟨n + 1, 0, none⟩, 2, [1, 3], 1⟩, ⟨some ⟨n + 1 + 1, 0, none⟩, 2, [3, 4], 4⟩]
theorem ex3_rd (w : World) : TR ((((w.alloc (.cells #[.int .i64 1, .int .i64 3] 3)).alloc (.cells #[.int .i64 1, .int .i64 3] 3)).alloc (.cells #[.int .i64 3, .int .i64 4] 3)).alloc (.cells #[.slice (some ⟨w.heap.size, 0, none⟩) 2 2, .int .i64 1, .slice (some ⟨w.heap.size + 1, 0, none⟩) 2 2, .int .i64 1, .slice (some ⟨w.heap.size + 1 + 1, 0, none⟩) 2 2, .int .i64 4] 44))
    ((((w.alloc (.cells #[.int .i64 1, .int .i64 3] 3)).alloc (.cells #[.int .i64 1, .int .i64 3] 3)).alloc (.cells #[.int .i64 3, .int .i64 4] 3)).alloc (.cells #[.slice (some ⟨w.heap.size, 0, none⟩) 2 2, .int .i64 1, .slice (some ⟨w.heap.size + 1, 0, none⟩) 2 2, .int .i64 1, .slice (some ⟨w.heap.size + 1 + 1, 0, none⟩) 2 2, .int .i64 4] 44)).heap.size
    (some ⟨w.heap.size + 1 + 1 + 1, 0, none⟩) (ex3 w.heap.size) := by
  have h1 := (((Blk.new w 3 [.int .i64 1, .int .i64 3]).alloc (.cells #[.int .i64 1, .int .i64 3] 3)).alloc (.cells #[.int .i64 3, .int .i64 4] 3)).alloc (.cells #[.slice (some ⟨w.heap.size, 0, none⟩) 2 2, .int .i64 1, .slice (some ⟨w.heap.size + 1, 0, none⟩) 2 2, .int .i64 1, .slice (some ⟨w.heap.size + 1 + 1, 0, none⟩) 2 2, .int .i64 4] 44)
  have h2 := ((Blk.new' (n := w.heap.size + 1) (w.alloc (.cells #[.int .i64 1, .int .i64 3] 3)) 3 [.int .i64 1, .int .i64 3] (by simp)).alloc (.cells #[.int .i64 3, .int .i64 4] 3)).alloc (.cells #[.slice (some ⟨w.heap.size, 0, none⟩) 2 2, .int .i64 1, .slice (some ⟨w.heap.size + 1, 0, none⟩) 2 2, .int .i64 1, .slice (some ⟨w.heap.size + 1 + 1, 0, none⟩) 2 2, .int .i64 4] 44)
  have h3 := (Blk.new' (n := w.heap.size + 1 + 1) ((w.alloc (.cells #[.int .i64 1, .int .i64 3] 3)).alloc (.cells #[.int .i64 1, .int .i64 3] 3)) 3 [.int .i64 3, .int .i64 4] (by simp)).alloc (.cells #[.slice (some ⟨w.heap.size, 0, none⟩) 2 2, .int .i64 1, .slice (some ⟨w.heap.size + 1, 0, none⟩) 2 2, .int .i64 1, .slice (some ⟨w.heap.size + 1 + 1, 0, none⟩) 2 2, .int .i64 4] 44)
  have h4 := Blk.new' (n := w.heap.size + 1 + 1 + 1) (((w.alloc (.cells #[.int .i64 1, .int .i64 3] 3)).alloc (.cells #[.int .i64 1, .int .i64 3] 3)).alloc (.cells #[.int .i64 3, .int .i64 4] 3)) 44 [.slice (some ⟨w.heap.size, 0, none⟩) 2 2, .int .i64 1, .slice (some ⟨w.heap.size + 1, 0, none⟩) 2 2, .int .i64 1, .slice (some ⟨w.heap.size + 1 + 1, 0, none⟩) 2 2, .int .i64 4] (by simp)
  refine ⟨Rd.of_blk h4 (List.prefix_refl _), fun x hx => ?_⟩
  simp only [ex3, List.mem_cons, List.not_mem_nil, or_false] at hx
  rcases hx with rfl | rfl | rfl
  · exact ⟨Rd.of_blk h1 (List.prefix_refl _), by simp⟩
  · exact ⟨Rd.of_blk h2 (List.prefix_refl _), by simp⟩
  · exact ⟨Rd.of_blk h3 (List.prefix_refl _), by simp⟩
theorem ex3_tn (n : Nat) : (ex3 n).map Tp.tn = [⟨[1, 3], 1⟩, ⟨[1, 3], 1⟩, ⟨[3, 4], 4⟩] := rfl
set_option maxRecDepth 100000 in
set_option maxHeartbeats 8000000 in
theorem known_any (w : World) : Calls Try.prog 10 #[] w fun e w' => e = .returned (.bool true) ∧ Below w.heap.size w w' := by
  go_enter Try.func10, Try.ntmps10
  go_wp2_with fail
  refine (new_ok (some ⟨w.heap.size, 0, none⟩) 3 1 [0, 5, 1] (rd_new w [0, 5, 1]) (by simp) (by kernel_rfl)).mono ?_
  rintro e w1 ⟨R, b, q, d, rfl, hs, hr, hb, hbl⟩
  have HBx := Lib.hid (below_step ((Below.refl w.heap.size w).alloc (Nat.le_refl _) _) hbl)
  have HS := Lib.hid (show St w w1 R b q d 1 [0, 5, 1] [] from ⟨hs, HBx.out, Nat.le_trans ((Below.refl w.heap.size w).alloc (Nat.le_refl _) _).size hr, Nat.le_trans ((Below.refl w.heap.size w).alloc (Nat.le_refl _) _).size hb⟩)
  clear hs hr hb hbl HBx
  go_wp2_with fail
  refine (picks_new HS.out (by simp) [2, 4, 7] (by simp) 2 0 (by kernel_rfl) (by kernel_rfl)).mono ?_
  rintro e w2 ⟨rfl, hs⟩
  replace HS := Lib.hid (show St w w2 R b q d 1 [0, 5, 1] [2] from hs)
  clear hs
  go_wp2_with fail
  refine (picks_new HS.out (by simp) [2, 4, 7] (by simp) 7 0 (by kernel_rfl) (by kernel_rfl)).mono ?_
  rintro e w3 ⟨rfl, hs⟩
  replace HS := Lib.hid (show St w w3 R b q d 1 [0, 5, 1] [2, 7] from hs)
  clear hs
  go_wp2_with fail
  refine (picks_new HS.out (by simp) [2] (by simp) 2 0 (by kernel_rfl) (by kernel_rfl)).mono ?_
  rintro e w4 ⟨rfl, hs⟩
  replace HS := Lib.hid (show St w w4 R b q d 1 [0, 5, 1] [2, 7, 2] from hs)
  clear hs
  go_wp2_with fail
  refine (picks_new HS.out (by simp) [3, 8] (by simp) 3 0 (by kernel_rfl) (by kernel_rfl)).mono ?_
  rintro e w5 ⟨rfl, hs⟩
  replace HS := Lib.hid (show St w w5 R b q d 1 [0, 5, 1] [2, 7, 2, 3] from hs)
  clear hs
  go_wp2_with fail
  refine (turns_any HS.out.ss).mono ?_
  rintro e w6 ⟨rfl, rfl⟩
  have HB6 := Lib.hid HS.out.below
  clear HS
  go_wp2_with fail
  refine (new_ok none 0 2 [] (Rd.nil _ _ _) (by simp) (by kernel_rfl)).mono ?_
  rintro e w7 ⟨R, b, q, d, rfl, hs, hr, hb, hbl⟩
  have HBx := Lib.hid (below_step HB6.out hbl)
  have HS := Lib.hid (show St w w7 R b q d 2 [] [] from ⟨hs, HBx.out, Nat.le_trans HB6.out.size hr, Nat.le_trans HB6.out.size hb⟩)
  clear hs hr hb hbl HBx
  go_wp2_with fail
  refine (picks_new HS.out (by simp) [1, 3] (by simp) 1 0 (by kernel_rfl) (by kernel_rfl)).mono ?_
  rintro e w8 ⟨rfl, hs⟩
  replace HS := Lib.hid (show St w w8 R b q d 2 [] [1] from hs)
  clear hs
  go_wp2_with fail
  refine (picks_new HS.out (by simp) [1, 3] (by simp) 3 0 (by kernel_rfl) (by kernel_rfl)).mono ?_
  rintro e w9 ⟨rfl, hs⟩
  replace HS := Lib.hid (show St w w9 R b q d 2 [] [1, 3] from hs)
  clear hs
  go_wp2_with fail
  refine (picks_new HS.out (by simp) [1, 3] (by simp) 1 0 (by kernel_rfl) (by kernel_rfl)).mono ?_
  rintro e w10 ⟨rfl, hs⟩
  replace HS := Lib.hid (show St w w10 R b q d 2 [] [1, 3, 1] from hs)
  clear hs
  go_wp2_with fail
  refine (picks_new HS.out (by simp) [0, 2] (by simp) 2 0 (by kernel_rfl) (by kernel_rfl)).mono ?_
  rintro e w11 ⟨rfl, hs⟩
  replace HS := Lib.hid (show St w w11 R b q d 2 [] [1, 3, 1, 2] from hs)
  clear hs
  go_wp2_with fail
  refine (picks_nil HS.out (by simp) 0 9 (by kernel_rfl) (by kernel_rfl)).mono ?_
  rintro e w12 ⟨rfl, hs⟩
  replace HS := Lib.hid (show St w w12 R b q d 2 [] [1, 3, 1, 2] from hs)
  clear hs
  have HB12 := Lib.hid HS.out.below
  clear HS
  go_wp2_with fail
  refine (new_ok none 0 3 [] (Rd.nil _ _ _) (by simp) (by kernel_rfl)).mono ?_
  rintro e w13 ⟨R, b, q, d, rfl, hs, hr, hb, hbl⟩
  have HBx := Lib.hid (below_step HB12.out hbl)
  have HS := Lib.hid (show St w w13 R b q d 3 [] [] from ⟨hs, HBx.out, Nat.le_trans HB12.out.size hr, Nat.le_trans HB12.out.size hb⟩)
  clear hs hr hb hbl HBx
  go_wp2_with fail
  refine (picks_new HS.out (by simp) [1, 3] (by simp) 1 0 (by kernel_rfl) (by kernel_rfl)).mono ?_
  rintro e w14 ⟨rfl, hs⟩
  replace HS := Lib.hid (show St w w14 R b q d 3 [] [1] from hs)
  clear hs
  go_wp2_with fail
  refine (picks_new HS.out (by simp) [1, 3] (by simp) 1 0 (by kernel_rfl) (by kernel_rfl)).mono ?_
  rintro e w15 ⟨rfl, hs⟩
  replace HS := Lib.hid (show St w w15 R b q d 3 [] [1, 1] from hs)
  clear hs
  go_wp2_with fail
  refine (picks_new HS.out (by simp) [3] (by simp) 3 0 (by kernel_rfl) (by kernel_rfl)).mono ?_
  rintro e w16 ⟨rfl, hs⟩
  replace HS := Lib.hid (show St w w16 R b q d 3 [] [1, 1, 3] from hs)
  clear hs
  go_wp2_with fail
  refine (picks_new HS.out (by simp) [1, 3] (by simp) 3 0 (by kernel_rfl) (by kernel_rfl)).mono ?_
  rintro e w17 ⟨rfl, hs⟩
  replace HS := Lib.hid (show St w w17 R b q d 3 [] [1, 1, 3, 3] from hs)
  clear hs
  have HB17 := Lib.hid HS.out.below
  clear HS
  go_wp2_with fail
  refine (new_ok none 0 4 [] (Rd.nil _ _ _) (by simp) (by kernel_rfl)).mono ?_
  rintro e w18 ⟨R, b, q, d, rfl, hs, hr, hb, hbl⟩
  have HBx := Lib.hid (below_step HB17.out hbl)
  have HS := Lib.hid (show St w w18 R b q d 4 [] [] from ⟨hs, HBx.out, Nat.le_trans HB17.out.size hr, Nat.le_trans HB17.out.size hb⟩)
  clear hs hr hb hbl HBx
  go_wp2_with fail
  refine (picks_new HS.out (by simp) [1, 3] (by simp) 1 0 (by kernel_rfl) (by kernel_rfl)).mono ?_
  rintro e w19 ⟨rfl, hs⟩
  replace HS := Lib.hid (show St w w19 R b q d 4 [] [1] from hs)
  clear hs
  go_wp2_with fail
  refine (picks_new HS.out (by simp) [1, 3] (by simp) 3 0 (by kernel_rfl) (by kernel_rfl)).mono ?_
  rintro e w20 ⟨rfl, hs⟩
  replace HS := Lib.hid (show St w w20 R b q d 4 [] [1, 3] from hs)
  clear hs
  go_wp2_with fail
  refine (picks_new HS.out (by simp) [1, 3, 5] (by simp) 5 0 (by kernel_rfl) (by kernel_rfl)).mono ?_
  rintro e w21 ⟨rfl, hs⟩
  replace HS := Lib.hid (show St w w21 R b q d 4 [] [1, 3, 5] from hs)
  clear hs
  go_wp2_with fail
  refine (picks_new HS.out (by simp) [1, 3] (by simp) 1 0 (by kernel_rfl) (by kernel_rfl)).mono ?_
  rintro e w22 ⟨rfl, hs⟩
  replace HS := Lib.hid (show St w w22 R b q d 4 [] [1, 3, 5, 1] from hs)
  clear hs
  go_wp2_with fail
  refine (picks_new HS.out (by simp) [3, 1] (by simp) 0 2 (by kernel_rfl) (by kernel_rfl)).mono ?_
  rintro e w23 ⟨rfl, hs⟩
  replace HS := Lib.hid (show St w w23 R b q d 4 [] [1, 3, 5, 1] from hs)
  clear hs
  have HB23 := Lib.hid HS.out.below
  clear HS
  have hE := ex3_rd w23
  have hB := below_al (below_al (below_al (below_al (Below.refl w23.heap.size w23) (.cells #[.int .i64 1, .int .i64 3] 3)) (.cells #[.int .i64 1, .int .i64 3] 3)) (.cells #[.int .i64 3, .int .i64 4] 3)) (.cells #[.slice (some ⟨w23.heap.size, 0, none⟩) 2 2, .int .i64 1, .slice (some ⟨w23.heap.size + 1, 0, none⟩) 2 2, .int .i64 1, .slice (some ⟨w23.heap.size + 1 + 1, 0, none⟩) 2 2, .int .i64 4] 44)
  have HE := Lib.hid hE
  have HBA := Lib.hid (below_step HB23.out hB)
  clear hE hB
  go_wp2_with fail
  refine (worstIs_any _ 3 (ex3 w23.heap.size) HE.out (by simp [ex3]) 3 3 0 (by rw [ex3_tn]; kernel_rfl) (by rw [ex3_tn]; kernel_rfl) (by rw [ex3_tn]; kernel_rfl)).mono ?_
  rintro e wa ⟨rfl, hb⟩
  have HE2 := Lib.hid (HE.out.kept hb)
  have HBB := Lib.hid (below_step HBA.out hb)
  clear hb
  go_wp2_with fail
  refine (fairIs_any _ 3 (ex3 w23.heap.size) HE2.out (by simp [ex3]) 2 1 0 (by rw [ex3_tn]; kernel_rfl) (by rw [ex3_tn]; kernel_rfl)).mono ?_
  rintro e wb ⟨rfl, hb⟩
  have HBC := Lib.hid (below_step HBB.out hb)
  clear hb
  go_wp2_with fail
  refine (none_any none 0 1 [] (Rd.nil _ _ _) (by simp) 2 (by kernel_rfl) (by decide)).mono ?_
  rintro e wc ⟨rfl, hb⟩
  have HBD := Lib.hid (below_step HBC.out hb)
  clear hb
  go_wp2_with fail
  refine (none_any _ 1 2 [1] (rd_new wc [1]) (by simp) 2 (by kernel_rfl) (by decide)).mono ?_
  rintro e wd ⟨rfl, hb⟩
  have HBE := Lib.hid (below_step (HBD.out.alloc HBD.out.size _) hb)
  clear hb
  go_wp2_with fail
  refine (none_any none 0 5 [] (Rd.nil _ _ _) (by simp) 2 (by kernel_rfl) (by decide)).mono ?_
  rintro e we ⟨rfl, hb⟩
  have HBF := Lib.hid (below_step HBE.out hb)
  clear hb
  go_wp2_with fail
  refine (fairIs_any none 0 [] ⟨Rd.nil _ _ _, by simp⟩ (by simp) 0 0 2 (by kernel_rfl) (by kernel_rfl)).mono ?_
  rintro e wf ⟨rfl, hb⟩
  have HBG := Lib.hid (below_step HBF.out hb)
  clear hb
  go_wp2_with fail
  refine (worstIs_any none 0 [] ⟨Rd.nil _ _ _, by simp⟩ (by simp) 0 0 0 (by kernel_rfl) (by kernel_rfl) (by kernel_rfl)).mono ?_
  rintro e wg ⟨rfl, hb⟩
  have HBH := Lib.hid (below_step HBG.out hb)
  clear hb
  go_wp2_with fail
  go_ret
  exact ⟨rfl, HBH.out⟩
end Go.Proofs.Ytfidnecdojgkjaa
