/- SchedNew, SchedNil. Printed by sched_lawb.py. -/
import Derived.Test.YtfidnecdojgkjaaLawA
import Derived.Test.YtfidnecdojgkjaaRefN
namespace Go.Proofs.Ytfidnecdojgkjaa
open Go.RowKit

/-- A list of as many zeros. -/
theorem zeros (m : Nat) : ∃ Z : List Int, List.replicate m (Value.int .i64 0) = ints Z ∧ Z.length = m := ⟨List.replicate m 0, by simp [ints], by simp⟩
theorem replicate_eq (m : Nat) (Z : List Int) (h : List.replicate m (Value.int .i64 0) = ints Z) : (List.replicate m (Value.int .i64 0)).toArray = (ints Z).toArray := by rw [h]
set_option maxRecDepth 100000 in
theorem schedNew_walk (kind : Int) (p : Option Addr) (c : Nat) (l : List Int) (many : Int) (W : World) (h : Rd W W.heap.size p (ints l)) (hc : l.length ≤ c) (hm : c ≤ maxLen) :
    Calls Try.prog 3 #[.int .i64 kind, .slice p l.length c, .int .i64 many] W fun e w' => e = .returned (.bool true) ∧ Below W.heap.size W w' := by
  have HK := Lib.hid known_any
  have hlm : l.length ≤ 9223372036854775807 := by have := maxLen_le hm; omega
  by_cases hmm : 4094 ≤ many ∧ many ≤ 4098
  · obtain ⟨h1, h2⟩ := hmm
    obtain ⟨m, rfl⟩ : ∃ m : Nat, many = m := ⟨many.toNat, by omega⟩
    obtain ⟨Z, hZ, hZl⟩ := zeros m
    have hmk := fun w => run_mk (P := Try.prog) 23 3 (.int .i64 0) 8 Try.underlying23 int_info rfl .i64 .i64 (m : Int) (by omega) (by omega) (by omega) w
    rw [show ((m : Int)).toNat = m by omega, hZ] at hmk
    have HN0 := Lib.hid (fun (w : World) (w1 : World) (hb : Below (w.alloc (.cells (ints Z).toArray 3)).heap.size (w.alloc (.cells (ints Z).toArray 3)) w1) => new_any (w := w1) (some ⟨w.heap.size, 0, none⟩) m kind Z ((rd_new w Z).kept hb) (by omega))
    have HR0 := Lib.hid (fun (w : World) (w1 : World) (hb : Below (w.alloc (.cells (ints Z).toArray 3)).heap.size (w.alloc (.cells (ints Z).toArray 3)) w1) => refNew_any (w := w1) (some ⟨w.heap.size, 0, none⟩) m kind Z ((rd_new w Z).kept hb) (by omega))
    rw [hZl] at HN0 HR0
    have HNE := Lib.hid (HN0.out W _ (Below.refl _ _))
    have HRE := Lib.hid (HR0.out W)
    have HB0 := Lib.hid ((Below.refl W.heap.size W).alloc (Nat.le_refl _) (.cells (ints Z).toArray 3))
    clear h hc hm hlm hZ HN0 HR0 hZl
    generalize newE kind Z = r at *
    generalize l.length = n at *
    obtain ⟨W1, hW1⟩ : ∃ W1, W.alloc (.cells (ints Z).toArray 3) = W1 := ⟨_, rfl⟩
    rw [hW1] at HNE HRE HB0
    go_enter Try.func3, Try.ntmps3
    go_wp2_with fail
    try clear hW1
    refine HNE.out.mono ?_
    rintro e w1 ⟨h1e, h0e, hb1⟩
    have HB := Lib.hid hb1
    by_cases hr : r = 0
    · subst hr
      obtain ⟨R, b, q, d, rfl, hss, _, _, _⟩ := h0e rfl
      have HS := Lib.hid hss
      clear h1e h0e hb1 hss
      go_wp2_with fail
      refine (HRE.out w1 HB.out).mono ?_
      rintro e w2 ⟨a, q1, n1, c1, q2, n2, c2, rfl, -, hb2⟩
      have HS2 := Lib.hid ((HS.out.kept hb2).kept ((Below.refl _ _).alloc (Nat.le_refl _) (.cells #[.int .i64 a, .slice q1 n1 c1, .slice q2 n2 c2] 30)))
      have HB2 := Lib.hid (below_al (below_step HB0.out (below_step HB.out hb2)) (.cells #[.int .i64 a, .slice q1 n1 c1, .slice q2 n2 c2] 30))
      clear hb2
      go_wp2_with fail
      refine (turns_any HS2.out).mono ?_
      rintro e w3 ⟨rfl, rfl⟩
      go_wp2_with fail
      refine (HK.out _).mono ?_
      rintro e w4 ⟨rfl, hb4⟩
      have HB4 := Lib.hid (below_step HB2.out hb4)
      clear hb4
      go_wp2_with fail
      go_ret
      exact ⟨rfl, HB4.out⟩
    · obtain rfl := h1e hr
      have hr2 : (r == 0) = false := by simpa using hr
      have hr3 : (r != 0) = true := by simpa using hr
      clear h1e h0e hb1
      go_wp2_with fail
      refine (HRE.out w1 HB.out).mono ?_
      rintro e w2 ⟨a, q1, n1, c1, q2, n2, c2, rfl, -, hb2⟩
      have HB2 := Lib.hid (below_al (below_step HB0.out (below_step HB.out hb2)) (.cells #[.int .i64 a, .slice q1 n1 c1, .slice q2 n2 c2] 30))
      clear hb2
      go_wp2_with fail
      refine (HK.out _).mono ?_
      rintro e w4 ⟨rfl, hb4⟩
      have HB4 := Lib.hid (below_step HB2.out hb4)
      clear hb4
      go_wp2_with fail
      go_ret
      exact ⟨rfl, HB4.out⟩
  · have HNE := Lib.hid (fun (hl : l.length ≤ 100) => new_any p c kind l h (by omega))
    have HRE := Lib.hid (fun (hl : l.length ≤ 100) (w1 : World) (hb : Below W.heap.size W w1) => refNew_any (w := w1) p c kind l (h.kept hb) (by omega))
    have HB0 := Lib.hid (Below.refl W.heap.size W)
    generalize newE kind l = r at *
    clear h hc hm
    generalize l.length = n at *
    by_cases hn : 100 < n
    · have hni : (100 : Int) < (n : Int) := by omega
      by_cases hg : 4094 ≤ many
      · have h3 : decide (many ≤ 4098) = false := by simp; omega
        clear hmm hn
        go_enter Try.func3, Try.ntmps3
        go_wp2_with fail
        refine (HK.out _).mono ?_
        rintro e w1 ⟨rfl, hb1⟩
        have HB := Lib.hid hb1
        clear hb1
        go_wp2_with fail
        go_ret
        exact ⟨rfl, HB.out⟩
      · have h3 : decide (4094 ≤ many) = false := by simp; omega
        clear hmm hn hg
        go_enter Try.func3, Try.ntmps3
        go_wp2_with fail
        refine (HK.out _).mono ?_
        rintro e w1 ⟨rfl, hb1⟩
        have HB := Lib.hid hb1
        clear hb1
        go_wp2_with fail
        go_ret
        exact ⟨rfl, HB.out⟩
    · have hni : (n : Int) ≤ 100 := by omega
      replace HNE := Lib.hid (HNE.out (by omega))
      replace HRE := Lib.hid (HRE.out (by omega))
      obtain ⟨W1, hW1⟩ : ∃ W1, W = W1 := ⟨_, rfl⟩
      by_cases hg : 4094 ≤ many
      · have h3 : decide (many ≤ 4098) = false := by simp; omega
        clear hmm hn hW1 W1
        go_enter Try.func3, Try.ntmps3
        go_wp2_with fail
        try clear hW1
        refine HNE.out.mono ?_
        rintro e w1 ⟨h1e, h0e, hb1⟩
        have HB := Lib.hid hb1
        by_cases hr : r = 0
        · subst hr
          obtain ⟨R, b, q, d, rfl, hss, _, _, _⟩ := h0e rfl
          have HS := Lib.hid hss
          clear h1e h0e hb1 hss
          go_wp2_with fail
          refine (HRE.out w1 HB.out).mono ?_
          rintro e w2 ⟨a, q1, n1, c1, q2, n2, c2, rfl, -, hb2⟩
          have HS2 := Lib.hid ((HS.out.kept hb2).kept ((Below.refl _ _).alloc (Nat.le_refl _) (.cells #[.int .i64 a, .slice q1 n1 c1, .slice q2 n2 c2] 30)))
          have HB2 := Lib.hid (below_al (below_step HB0.out (below_step HB.out hb2)) (.cells #[.int .i64 a, .slice q1 n1 c1, .slice q2 n2 c2] 30))
          clear hb2
          go_wp2_with fail
          refine (turns_any HS2.out).mono ?_
          rintro e w3 ⟨rfl, rfl⟩
          go_wp2_with fail
          refine (HK.out _).mono ?_
          rintro e w4 ⟨rfl, hb4⟩
          have HB4 := Lib.hid (below_step HB2.out hb4)
          clear hb4
          go_wp2_with fail
          go_ret
          exact ⟨rfl, HB4.out⟩
        · obtain rfl := h1e hr
          have hr2 : (r == 0) = false := by simpa using hr
          have hr3 : (r != 0) = true := by simpa using hr
          clear h1e h0e hb1
          go_wp2_with fail
          refine (HRE.out w1 HB.out).mono ?_
          rintro e w2 ⟨a, q1, n1, c1, q2, n2, c2, rfl, -, hb2⟩
          have HB2 := Lib.hid (below_al (below_step HB0.out (below_step HB.out hb2)) (.cells #[.int .i64 a, .slice q1 n1 c1, .slice q2 n2 c2] 30))
          clear hb2
          go_wp2_with fail
          refine (HK.out _).mono ?_
          rintro e w4 ⟨rfl, hb4⟩
          have HB4 := Lib.hid (below_step HB2.out hb4)
          clear hb4
          go_wp2_with fail
          go_ret
          exact ⟨rfl, HB4.out⟩
      · have h3 : decide (4094 ≤ many) = false := by simp; omega
        clear hmm hn hg hW1 W1
        go_enter Try.func3, Try.ntmps3
        go_wp2_with fail
        try clear hW1
        refine HNE.out.mono ?_
        rintro e w1 ⟨h1e, h0e, hb1⟩
        have HB := Lib.hid hb1
        by_cases hr : r = 0
        · subst hr
          obtain ⟨R, b, q, d, rfl, hss, _, _, _⟩ := h0e rfl
          have HS := Lib.hid hss
          clear h1e h0e hb1 hss
          go_wp2_with fail
          refine (HRE.out w1 HB.out).mono ?_
          rintro e w2 ⟨a, q1, n1, c1, q2, n2, c2, rfl, -, hb2⟩
          have HS2 := Lib.hid ((HS.out.kept hb2).kept ((Below.refl _ _).alloc (Nat.le_refl _) (.cells #[.int .i64 a, .slice q1 n1 c1, .slice q2 n2 c2] 30)))
          have HB2 := Lib.hid (below_al (below_step HB0.out (below_step HB.out hb2)) (.cells #[.int .i64 a, .slice q1 n1 c1, .slice q2 n2 c2] 30))
          clear hb2
          go_wp2_with fail
          refine (turns_any HS2.out).mono ?_
          rintro e w3 ⟨rfl, rfl⟩
          go_wp2_with fail
          refine (HK.out _).mono ?_
          rintro e w4 ⟨rfl, hb4⟩
          have HB4 := Lib.hid (below_step HB2.out hb4)
          clear hb4
          go_wp2_with fail
          go_ret
          exact ⟨rfl, HB4.out⟩
        · obtain rfl := h1e hr
          have hr2 : (r == 0) = false := by simpa using hr
          have hr3 : (r != 0) = true := by simpa using hr
          clear h1e h0e hb1
          go_wp2_with fail
          refine (HRE.out w1 HB.out).mono ?_
          rintro e w2 ⟨a, q1, n1, c1, q2, n2, c2, rfl, -, hb2⟩
          have HB2 := Lib.hid (below_al (below_step HB0.out (below_step HB.out hb2)) (.cells #[.int .i64 a, .slice q1 n1 c1, .slice q2 n2 c2] 30))
          clear hb2
          go_wp2_with fail
          refine (HK.out _).mono ?_
          rintro e w4 ⟨rfl, hb4⟩
          have HB4 := Lib.hid (below_step HB2.out hb4)
          clear hb4
          go_wp2_with fail
          go_ret
          exact ⟨rfl, HB4.out⟩
/-! ### nil and zero schedulers -/
/-- A zero scheduler. -/
def ZS (w : World) (g : Nat) : Prop := Blk w g 66 [.int .i64 0, .slice none 0 0, .int .i64 0, .int .i64 0, .map none]
theorem next_nil (w : World) (p : Option Addr) (n c : Nat) : Calls Try.prog 22 #[.pointer none, .slice p n c] w fun e w' => e = .returned (.tuple #[.int .i64 0, .int .i64 1]) ∧ w' = w := by
  go_enter Try.func22, Try.ntmps22
  go_wp2_with fail
  go_ret2
  exact ⟨rfl, rfl⟩
theorem next_zero {w : World} {g : Nat} (h : ZS w g) (p : Option Addr) (n c : Nat) : Calls Try.prog 22 #[.pointer (some ⟨g, 0, none⟩), .slice p n c] w fun e w' => e = .returned (.tuple #[.int .i64 0, .int .i64 1]) ∧ w' = w := by
  have c0 := Blk.cell h 0
  simp only [List.getElem?_cons_zero] at c0
  clear h
  go_enter Try.func22, Try.ntmps22
  go_wp2_with fail
  go_ret2
  exact ⟨rfl, rfl⟩
theorem turns_nil (w : World) : Calls Try.prog 13 #[.pointer none] w fun e w' => e = .returned (.int .i64 0) ∧ w' = w := by
  go_enter Try.func13, Try.ntmps13
  go_wp2_with fail
  go_ret
  exact ⟨rfl, rfl⟩
theorem turns_zero {w : World} {g : Nat} (h : ZS w g) : Calls Try.prog 13 #[.pointer (some ⟨g, 0, none⟩)] w fun e w' => e = .returned (.int .i64 0) ∧ w' = w := by
  have c0 := Blk.cell h 2
  simp only [List.getElem?_cons_zero, List.getElem?_cons_succ] at c0
  clear h
  go_enter Try.func13, Try.ntmps13
  go_wp2_with fail
  go_ret
  exact ⟨rfl, rfl⟩
theorem copy_nil (w : World) : Calls Try.prog 25 #[.pointer none] w fun e w' => e = .returned (.pointer none) ∧ w' = w := by
  go_enter Try.func25, Try.ntmps25
  go_wp2_with fail
  go_ret
  exact ⟨rfl, rfl⟩
theorem copy_zero {w : World} {g : Nat} (h : ZS w g) : Calls Try.prog 25 #[.pointer (some ⟨g, 0, none⟩)] w fun e w' => e = .returned (.pointer none) ∧ w' = w := by
  have c0 := Blk.cell h 0
  simp only [List.getElem?_cons_zero] at c0
  clear h
  go_enter Try.func25, Try.ntmps25
  go_wp2_with fail
  go_ret
  exact ⟨rfl, rfl⟩
/-- Nil, or a zero scheduler. -/
def NZ (w : World) (v : Option Addr) : Prop := v = none ∨ ∃ g, v = some ⟨g, 0, none⟩ ∧ ZS w g
theorem next_nz {w : World} {v : Option Addr} (h : NZ w v) (p : Option Addr) (n c : Nat) : Calls Try.prog 22 #[.pointer v, .slice p n c] w fun e w' => e = .returned (.tuple #[.int .i64 0, .int .i64 1]) ∧ w' = w := by
  rcases h with rfl | ⟨g, rfl, hz⟩
  · exact next_nil w p n c
  · exact next_zero hz p n c
theorem turns_nz {w : World} {v : Option Addr} (h : NZ w v) : Calls Try.prog 13 #[.pointer v] w fun e w' => e = .returned (.int .i64 0) ∧ w' = w := by
  rcases h with rfl | ⟨g, rfl, hz⟩
  · exact turns_nil w
  · exact turns_zero hz
theorem copy_nz {w : World} {v : Option Addr} (h : NZ w v) : Calls Try.prog 25 #[.pointer v] w fun e w' => e = .returned (.pointer none) ∧ w' = w := by
  rcases h with rfl | ⟨g, rfl, hz⟩
  · exact copy_nil w
  · exact copy_zero hz
theorem picks_nz {w : World} {v : Option Addr} (h : NZ w v) (p : Option Addr) (n c : Nat) : Calls Try.prog 27 #[.pointer v, .int .i64 0, .int .i64 1, .slice p n c] w fun e w' => e = .returned (.bool true) ∧ w' = w := by
  have HX := Lib.hid (next_nz h p n c)
  clear h
  go_enter Try.func27, Try.ntmps27
  go_wp2_with fail
  refine HX.out.mono ?_
  rintro e w1 ⟨rfl, rfl⟩
  go_wp2_with fail
  go_ret
  exact ⟨rfl, rfl⟩
set_option maxRecDepth 100000 in
theorem schedNil_walk (p : Option Addr) (c : Nat) (l : List Int) (W : World) (h : Rd W W.heap.size p (ints l)) (hc : l.length ≤ c) (hm : c ≤ maxLen) :
    Calls Try.prog 9 #[.slice p l.length c] W fun e w' => e = .returned (.bool true) ∧ Below W.heap.size W w' := by
  have HK := Lib.hid known_any
  have hlm : l.length ≤ 9223372036854775807 := by have := maxLen_le hm; omega
  clear h hc hm
  generalize l.length = n at *
  by_cases hn : 60 < n
  · have hni : (60 : Int) < (n : Int) := by omega
    go_enter Try.func9, Try.ntmps9
    go_wp2_with fail
    refine (HK.out _).mono ?_
    rintro e w1 ⟨rfl, hb1⟩
    have HB := Lib.hid hb1
    clear hb1
    go_wp2_with fail
    go_ret
    exact ⟨rfl, HB.out⟩
  · have hni : (n : Int) ≤ 60 := by omega
    obtain ⟨W1, hW1⟩ : ∃ W1, (W.alloc (.cells #[.int .i64 0, .slice none 0 0, .int .i64 0, .int .i64 0, .map none] 66)).alloc (.cells #[.pointer none, .pointer (some ⟨W.heap.size, 0, none⟩)] 25) = W1 := ⟨_, rfl⟩
    have HB1 := Lib.hid (show Below W.heap.size W W1 by rw [← hW1]; exact below_al (below_al (Below.refl _ _) _) _)
    have HP := Lib.hid (show Blk W1 (W.heap.size + 1) 25 [.pointer none, .pointer (some ⟨W.heap.size, 0, none⟩)] by rw [← hW1]; exact Blk.new' _ 25 _ (by simp))
    have HZ := Lib.hid (show ZS W1 W.heap.size by rw [← hW1]; exact (Blk.new W 66 _).alloc _)
    have HA : Hid (∀ k, k < 2 → ∃ v, W1.cell? ⟨W.heap.size + 1, k, none⟩ = some (.pointer v) ∧ NZ W1 v) := Lib.hid (fun k hk => by
      match k, hk with
      | 0, _ => exact ⟨none, HP.out.cell 0, .inl rfl⟩
      | 1, _ => exact ⟨_, HP.out.cell 1, .inr ⟨_, rfl, HZ.out⟩⟩)
    clear hn
    go_enter Try.func9, Try.ntmps9
    go_wp2_with fail
    clear hW1
    go_loop [15] (fun i => ∃ k : Nat, k ≤ 2 ∧ i = .int .i64 k) (fun i => 2 - (intOf i).toNat)
    case atStart => exact ⟨0, by omega, rfl⟩
    case round =>
      obtain ⟨k, hk, rfl⟩ := hrel
      by_cases hlt : k < 2
      · have hki : (k : Int) < 2 := by omega
        obtain ⟨v, hcv, hnz⟩ := HA.out k hlt
        have HNZ := Lib.hid hnz
        clear hnz
        go_wp2_with fail
        refine (picks_nz HNZ.out p n c).mono ?_
        rintro e w2 ⟨rfl, rfl⟩
        go_wp2_with fail
        refine (turns_nz HNZ.out).mono ?_
        rintro e w2 ⟨rfl, rfl⟩
        go_wp2_with fail
        refine (copy_nz HNZ.out).mono ?_
        rintro e w2 ⟨rfl, rfl⟩
        go_wp2_with fail
        go_round
        case rel => exact ⟨k + 1, by omega, by go_num⟩
        case measure => simp [intOf]; omega
      · have hkn : k = 2 := by omega
        subst hkn
        go_wp2_with fail
        refine (HK.out _).mono ?_
        rintro e w3 ⟨rfl, hb3⟩
        have HB3 := Lib.hid (below_step HB1.out hb3)
        clear hb3
        go_wp2_with fail
        go_ret
        exact ⟨rfl, HB3.out⟩
end Go.Proofs.Ytfidnecdojgkjaa
