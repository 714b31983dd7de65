/- The walk of QtyHolds: it returns true. -/
import Derived.Test.YtffclmogabceiaaApp
import Derived.Deep.RegionLaw
namespace Go.Proofs.Ytffclmogabceiaa
open Go.RowKit

theorem compare_rawv (ar ac aq at' br bc bq bt v : Int) (w : World) (h : cmpM ⟨ar, ac, aq, at'⟩ ⟨br, bc, bq, bt⟩ = v) : Calls Try.prog 15 #[.agg #[.int .i64 ar, .int .i64 ac, .int .i64 aq, .int .u64 at'], .agg #[.int .i64 br, .int .i64 bc, .int .i64 bq, .int .u64 bt]] w fun e w' => e = .returned (.int .i64 v) ∧ Below w.heap.size w w' := by
  rw [← h]; exact compare_any ⟨ar, ac, aq, at'⟩ ⟨br, bc, bq, bt⟩ w

theorem int_info : (Try.prog.info? 3).map (fun i => (i.zero, i.size, i.bytes)) = some (some (.int .i64 0), 1, 8) := by kernel_rfl
theorem below_seq {w0 w3 w4 w5 : World} (h3 : Below w0.heap.size w0.drew w3) (h4 : Below w0.heap.size w3 w4) (h5 : Below w4.heap.size w4 w5) : Below w0.heap.size w0 w5 :=
  ((((Below.refl _ _).drew).trans h3).trans h4).trans (h5.mono (by have h3' : w0.heap.size ≤ w3.heap.size := h3.size; have := h4.size; omega))
theorem mks_drop : ∀ (l : List Mk) (k : Nat), mks (l.drop k) = (mks l).drop (k * 4)
  | l, 0 => by simp
  | [], k + 1 => by simp [mks]
  | m :: l, k + 1 => by
    rw [mks_cons, show (k + 1) * 4 = k * 4 + 1 + 1 + 1 + 1 from by omega]
    simp only [List.drop_succ_cons]
    exact mks_drop l k
theorem mks_take : ∀ (l : List Mk) (k : Nat), mks (l.take k) = (mks l).take (k * 4)
  | l, 0 => by simp [mks]
  | [], k + 1 => by simp [mks]
  | m :: l, k + 1 => by
    rw [mks_cons, show (k + 1) * 4 = k * 4 + 1 + 1 + 1 + 1 from by omega]
    simp only [List.take_succ_cons, mks_cons]
    rw [mks_take l k]
/-- The three marks in their boxes. -/
structure Bx (w0 w : World) (a b c : Nat) (ma mb mc : Mk) : Prop where
  ha : Blk w a 26 ma.cells
  hb : Blk w b 26 mb.cells
  hc : Blk w c 26 mc.cells
  h : Below w0.heap.size w0 w
theorem Bx.step {w0 w w' : World} {a b c : Nat} {ma mb mc : Mk} (k : Bx w0 w a b c ma mb mc) (h : Below w.heap.size w w') : Bx w0 w' a b c ma mb mc := ⟨k.ha.kept h, k.hb.kept h, k.hc.kept h, below_step k.h h⟩

set_option maxRecDepth 100000 in
set_option maxHeartbeats 8000000 in
theorem qtyHolds_core (p : Option Addr) (cc : Nat) (l : List Mk) (ar ac aq at' br bc bq bt cr cd cq ct : Int) (p2 : Option Addr) (c2 : Nat) (q : List Int) (turn : Int) (w : World)
    (h : Rd w w.heap.size p (mks l)) (ho : ∀ x ∈ l, x.Ok) (hl : l.length ≤ 40) (hcl : l.length ≤ cc) (h2 : Rd w w.heap.size p2 (ints q)) (hwf : ∀ x ∈ q, (Lit.int .i64 x).wf = true) (hq : q.length ≤ 40) (hcq : q.length ≤ c2) (hmc : cc ≤ maxLen) (hmq : c2 ≤ maxLen) (ht0 : 0 ≤ turn) (ht1 : turn ≤ 255) :
    Calls Try.prog 7 #[.slice p l.length cc, .agg #[.int .i64 ar, .int .i64 ac, .int .i64 aq, .int .u64 at'], .agg #[.int .i64 br, .int .i64 bc, .int .i64 bq, .int .u64 bt], .agg #[.int .i64 cr, .int .i64 cd, .int .i64 cq, .int .u64 ct], .slice p2 q.length c2, .int .u8 turn] w
      fun e w' => e = .returned (.bool true) ∧ Below w.heap.size w w' := by
  unfold maxLen at hmc hmq
  have HO := Lib.hid ho
  have HW := Lib.hid hwf
  clear ho hwf
  go_enter Try.func7, Try.ntmps7
  go_wp2_with fail
  generalize hW : (World.alloc _ _) = W at *
  have hK : Bx w W w.heap.size (w.heap.size + 1) (w.heap.size + 1 + 1) ⟨ar, ac, aq, at'⟩ ⟨br, bc, bq, bt⟩ ⟨cr, cd, cq, ct⟩ := by
    rw [← hW]
    exact ⟨((Blk.new w 26 (Mk.cells ⟨ar, ac, aq, at'⟩)).alloc _).alloc _, (Blk.new' _ 26 (Mk.cells ⟨br, bc, bq, bt⟩) (by simp)).alloc _, Blk.new' _ 26 (Mk.cells ⟨cr, cd, cq, ct⟩) (by simp), (((Below.refl _ _).alloc (Nat.le_refl _) _).alloc (by simp) _).alloc (by simp; omega) _⟩
  clear hW
  obtain ⟨A, hA⟩ : ∃ A, w.heap.size = A := ⟨_, rfl⟩
  have HA := Lib.hid hA
  rw [hA] at hK ⊢
  clear hA
  obtain ⟨B, hB⟩ : ∃ B, A + 1 = B := ⟨_, rfl⟩
  rw [hB] at hK ⊢
  obtain ⟨C, hC⟩ : ∃ C, B + 1 = C := ⟨_, rfl⟩
  rw [hC] at hK ⊢
  clear hB hC
  obtain ⟨⟨a0, a1, a2, a3⟩, _⟩ := hK.ha.mk4
  obtain ⟨⟨b0, b1, b2, b3⟩, _⟩ := hK.hb.mk4
  obtain ⟨⟨c0, c1, c2', c3⟩, _⟩ := hK.hc.mk4
  have la := hK.ha.lt
  have lb := hK.hb.lt
  have lc := hK.hc.lt
  have g0 := fun g => Gr.at_ la a0 g
  have g1 := fun g => Gr.at_ la a1 g
  have g2 := fun g => Gr.at_ la a2 g
  have g3 := fun g => Gr.at_ la a3 g
  have g4 := fun g => Gr.at_ lb b0 g
  have g5 := fun g => Gr.at_ lb b1 g
  have g6 := fun g => Gr.at_ lb b2 g
  have g7 := fun g => Gr.at_ lb b3 g
  have g8 := fun g => Gr.at_ lc c0 g
  have g9 := fun g => Gr.at_ lc c1 g
  have g10 := fun g => Gr.at_ lc c2' g
  have g11 := fun g => Gr.at_ lc c3 g
  refine wp_region_grows (by kernel_rfl) (by kernel_rfl) ?_
  repeat (go_big_quiet_step ((go_at_call 15; exact Calls.gr _ (compare_raw _ _ _ _ _ _ _ _ _))))
  refine wpQuiet_nil ?_
  rintro _ ⟨g, rfl⟩
  replace hK := hK.step g.h
  clear a0 a1 a2 a3 b0 b1 b2 b3 c0 c1 c2' c3 la lb lc g0 g1 g2 g3 g4 g5 g6 g7 g8 g9 g10 g11
  generalize g.w = w1 at hK ⊢
  clear g
  obtain ⟨x, hx⟩ : ∃ x, cmpM ⟨ar, ac, aq, at'⟩ ⟨br, bc, bq, bt⟩ = x := ⟨_, rfl⟩
  obtain ⟨y, hy⟩ : ∃ y, cmpM ⟨br, bc, bq, bt⟩ ⟨cr, cd, cq, ct⟩ = y := ⟨_, rfl⟩
  obtain ⟨z, hz⟩ : ∃ z, cmpM ⟨ar, ac, aq, at'⟩ ⟨cr, cd, cq, ct⟩ = z := ⟨_, rfl⟩
  rw [hx, hy, hz]
  have HX := Lib.hid hx
  have HY := Lib.hid hy
  have HZ := Lib.hid hz
  clear hx hy hz
  go_upto_region 4 with fail
  go_cut [81] (fun s wx => s = .bool false ∧ Bx w wx A B C ⟨ar, ac, aq, at'⟩ ⟨br, bc, bq, bt⟩ ⟨cr, cd, cq, ct⟩)
  case first =>
    have hxi := cmpM_in ⟨ar, ac, aq, at'⟩ ⟨br, bc, bq, bt⟩
    have hyi := cmpM_in ⟨br, bc, bq, bt⟩ ⟨cr, cd, cq, ct⟩
    rw [HX.out] at hxi
    rw [HY.out] at hyi
    have hne : x < 0 → y < 0 → z < 0 := by
      have := @order_neg ⟨ar, ac, aq, at'⟩ ⟨br, bc, bq, bt⟩ ⟨cr, cd, cq, ct⟩
      rw [HX.out, HY.out, HZ.out] at this
      exact this
    have hpo : 0 < x → 0 < y → 0 < z := by
      have := @order_pos ⟨ar, ac, aq, at'⟩ ⟨br, bc, bq, bt⟩ ⟨cr, cd, cq, ct⟩
      rw [HX.out, HY.out, HZ.out] at this
      exact this
    have hsw : cmpM ⟨br, bc, bq, bt⟩ ⟨ar, ac, aq, at'⟩ = - x := by rw [cmpM_swap ⟨ar, ac, aq, at'⟩, HX.out]
    have heq : decide ((⟨ar, ac, aq, at'⟩ : Mk) = ⟨br, bc, bq, bt⟩) = decide (x = 0) := by
      rw [← HX.out]
      exact decide_eq_decide.2 cmpM_zero.symm
    have hrun := fun w => mk_eql ⟨ar, ac, aq, at'⟩ ⟨br, bc, bq, bt⟩ w
    dsimp only at hrun
    rw [heq] at hrun
    obtain ⟨⟨a0, a1, a2, a3⟩, _⟩ := hK.ha.mk4
    obtain ⟨⟨b0, b1, b2, b3⟩, _⟩ := hK.hb.mk4
    dsimp only at a0 a1 a2 a3 b0 b1 b2 b3
    have HS := Lib.hid hsw
    clear hsw heq
    have HNE := Lib.hid hne
    have HPO := Lib.hid hpo
    clear hne hpo
    rcases hxi with rfl | rfl | rfl
    · have HS2 := Lib.hid (HS.out.trans (show -(-1 : Int) = 1 from rfl))
      rcases hyi with rfl | rfl | rfl
      · have hz0 : z < 0 := HNE.out (by decide) (by decide)
        have hz1 : decide (0 ≤ z) = false := by simp; omega
        go_wp2_with fail
        refine (compare_rawv _ _ _ _ _ _ _ _ _ _ HS2.out).mono ?_
        rintro e w2 ⟨rfl, hb2⟩
        have hK3 := hK.step hb2
        go_wp2_with fail
        go_meet
        exact ⟨rfl, hK3⟩
      all_goals
        go_wp2_with fail
        refine (compare_rawv _ _ _ _ _ _ _ _ _ _ HS2.out).mono ?_
        rintro e w2 ⟨rfl, hb2⟩
        have hK3 := hK.step hb2
        go_wp2_with fail
        go_meet
        exact ⟨rfl, hK3⟩
    · have HS2 := Lib.hid (HS.out.trans (show -(0 : Int) = 0 from rfl))
      rcases hyi with rfl | rfl | rfl
      all_goals
        go_wp2_with fail
        refine (compare_rawv _ _ _ _ _ _ _ _ _ _ HS2.out).mono ?_
        rintro e w2 ⟨rfl, hb2⟩
        have hK3 := hK.step hb2
        go_wp2_with fail
        go_meet
        exact ⟨rfl, hK3⟩
    · have HS2 := Lib.hid (HS.out.trans (show -(1 : Int) = -1 from rfl))
      rcases hyi with rfl | rfl | rfl
      · go_wp2_with fail
        refine (compare_rawv _ _ _ _ _ _ _ _ _ _ HS2.out).mono ?_
        rintro e w2 ⟨rfl, hb2⟩
        have hK3 := hK.step hb2
        go_wp2_with fail
        go_meet
        exact ⟨rfl, hK3⟩
      · go_wp2_with fail
        refine (compare_rawv _ _ _ _ _ _ _ _ _ _ HS2.out).mono ?_
        rintro e w2 ⟨rfl, hb2⟩
        have hK3 := hK.step hb2
        go_wp2_with fail
        go_meet
        exact ⟨rfl, hK3⟩
      · have hz0 : 0 < z := HPO.out (by decide) (by decide)
        have hz1 : decide (z ≤ 0) = false := by simp; omega
        go_wp2_with fail
        refine (compare_rawv _ _ _ _ _ _ _ _ _ _ HS2.out).mono ?_
        rintro e w2 ⟨rfl, hb2⟩
        have hK3 := hK.step hb2
        go_wp2_with fail
        go_meet
        exact ⟨rfl, hK3⟩
  case rest =>
    obtain ⟨rfl, hK2⟩ := hcut
    clear hK HX HY HZ
    go_upto_if 84 with fail
    go_cut [] (fun wx => Bx w wx A B C ⟨ar, ac, aq, at'⟩ ⟨br, bc, bq, bt⟩ ⟨cr, cd, cq, ct⟩)
    case first =>
      by_cases hq0 : q.length = 0
      · have hq1 : ¬ ((0 : Int) < (q.length : Int)) := by omega
        clear hq0
        go_wp2_with fail
        go_meet
        exact hK2
      · have hq1 : (0 : Int) < (q.length : Int) := by omega
        obtain ⟨k, hk⟩ : ∃ k : Nat, turn % (q.length : Int) = (k : Int) := ⟨(turn % (q.length : Int)).toNat, by have := Int.emod_nonneg turn (show (q.length : Int) ≠ 0 by omega); omega⟩
        have hk1 : (k : Int) < (q.length : Int) := by have := Int.emod_lt_of_pos turn hq1; omega
        have hk2 : (k : Int) < (c2 : Int) := by omega
        have hk3 : (q.length : Int) ≤ (c2 : Int) := by omega
        have hk4 : (0 : Int) ≤ (k : Int) := by omega
        have hk5 : (k : Int) ≤ (q.length : Int) := by omega
        have hk6 : (k : Int) ≤ (c2 : Int) := by omega
        have hk7 : ¬ (c2 = k) := by omega
        obtain ⟨pb, po, rfl, _, _⟩ := h2.int (k := 0) (by omega)
        clear hq0
        go_wp2_with fail
        refine (sum_any _ c2 q wc (h2.kept hK2.h) (by omega) HW.out).mono ?_
        rintro e w' ⟨rfl, rfl⟩
        go_wp2_with fail
        have hR := h2.kept hK2.h
        have hRa : Rd w' w'.heap.size (some ⟨pb, po + k, none⟩) ((ints q).drop k) := hR.part k
        have hRb : Rd w' w'.heap.size (some ⟨pb, po, none⟩) ((ints q).take k) := hR.firsts k
        have HQ := Lib.hid (show ints (q.drop k ++ q.take k) = [] ++ (ints q).drop k ++ (ints q).take k by simp [ints, List.map_drop, List.map_take])
        have HWQ := Lib.hid (show ∀ x ∈ q.drop k ++ q.take k, (Lit.int .i64 x).wf = true from fun x hx => HW.out x ((mem_turn q k x).1 hx))
        have HQN := Lib.hid (show q ≠ [] from fun e => by subst e; simp at hq1)
        by_cases hse : sumE q = 0
        · have HV := Lib.hid (sumE_zero hse HQN.out)
          have hse1 : (sumE q == 0) = true := by simpa using hse
          clear hse
          refine wp_region_noPanic ?_
          refine wp_region_held_drew (S := fun _ => True) (by kernel_rfl) trivial (fun _ => ?_)
          refine wpAnyH_take (i := 0) (oi := ⟨some 95, _, _, _, _, _⟩) (v := ?_) rfl (by kernel_rfl) (by kernel_rfl) (by kernel_rfl) (fun _ _ _ h => h) (Or.inl ⟨by rfl, ?_⟩) trivial ?_
          rotate_left
          · (intro w _; go_simp; try with_reducible rfl)
          try simp only [Act.put, List.setIfInBounds_toArray, List.set_cons_zero, List.set_cons_succ]
          refine wpAnyH_take (i := 1) (oi := ⟨some 96, _, _, _, _, _⟩) (v := ?_) rfl (by kernel_rfl) (by kernel_rfl) (by kernel_rfl) (fun _ _ _ h => h) (Or.inl ⟨by rfl, ?_⟩) trivial ?_
          rotate_left
          · (intro w _; go_simp; try with_reducible rfl)
          try simp only [Act.put, List.setIfInBounds_toArray, List.set_cons_zero, List.set_cons_succ]
          refine wpAnyH_take (i := 2) (oi := ⟨some 97, _, _, _, _, _⟩) (v := ?_) rfl (by kernel_rfl) (by kernel_rfl) (by kernel_rfl) (fun _ _ _ h => h) (Or.inl ⟨by rfl, ?_⟩) trivial ?_
          rotate_left
          · (intro w _; go_simp; try with_reducible rfl)
          try simp only [Act.put, List.setIfInBounds_toArray, List.set_cons_zero, List.set_cons_succ]
          refine wpAnyH_take (i := 4) (oi := ⟨some 99, _, _, _, _, _⟩) (v := ?_) rfl (by kernel_rfl) (by kernel_rfl) (by kernel_rfl) (fun _ _ _ h => h) (Or.inl ⟨by rfl, ?_⟩) trivial ?_
          rotate_left
          · (intro w _; go_simp; try with_reducible rfl)
          try simp only [Act.put, List.setIfInBounds_toArray, List.set_cons_zero, List.set_cons_succ]
          refine wpAnyH_take (i := 5) (oi := ⟨some 100, _, _, _, _, _⟩) (v := ?_) rfl (by kernel_rfl) (by kernel_rfl) (by kernel_rfl) (fun _ _ _ h => h) (Or.inl ⟨by rfl, ?_⟩) trivial ?_
          rotate_left
          · (intro w _; go_simp; try with_reducible rfl)
          try simp only [Act.put, List.setIfInBounds_toArray, List.set_cons_zero, List.set_cons_succ]
          refine wpAnyH_take (i := 6) (oi := ⟨some 101, _, _, _, _, _⟩) (v := ?_) rfl (by kernel_rfl) (by kernel_rfl) (by kernel_rfl) (fun _ _ _ h => h) (Or.inl ⟨by rfl, ?_⟩) trivial ?_
          rotate_left
          · (intro w _; go_simp; try with_reducible rfl)
          try simp only [Act.put, List.setIfInBounds_toArray, List.set_cons_zero, List.set_cons_succ]
          refine wpAnyH_take (i := 8) (oi := ⟨some 103, _, _, _, _, _⟩) (v := ?_) rfl (by kernel_rfl) (by kernel_rfl) (by kernel_rfl) (fun _ _ _ h => h) (Or.inl ⟨by rfl, ?_⟩) trivial ?_
          rotate_left
          · (intro w _; go_simp; try with_reducible rfl)
          try simp only [Act.put, List.setIfInBounds_toArray, List.set_cons_zero, List.set_cons_succ]
          refine wpAnyH_take (i := 9) (oi := ⟨some 104, _, _, _, _, _⟩) (v := ?_) rfl (by kernel_rfl) (by kernel_rfl) (by kernel_rfl) (fun _ _ _ h => h) (Or.inl ⟨by rfl, ?_⟩) trivial ?_
          rotate_left
          · (intro w _; go_simp; try with_reducible rfl)
          try simp only [Act.put, List.setIfInBounds_toArray, List.set_cons_zero, List.set_cons_succ]
          refine wpAnyH_ready (rs := [3]) (by kernel_rfl) (by simp) ?_
          refine AllReadyH.cons (o := ⟨some 98, _, _, _, _, _⟩) rfl (fun K hK => ?_) AllReadyH.nil
          (refine step_appM (by rfl) (.const (.slice none 0 0)) (.tmp 97) 27 (by rfl) w'.heap.size 3 _ 1 8 Try.underlying27 int_info (by rfl) (by omega) _ 0 [] (by rfl) (World.ownsRow_nil _ _ _ _) w'.heap.size (some ⟨pb, po + k, none⟩) (q.length - k) (c2 - k) ((ints q).drop k) (by rfl) (by simp [ints]) (by exact hRa) (fun u hu => ints_one q u (List.mem_of_mem_drop hu)) (by omega) (by omega) (by simp) ?_; intro v1 w3 hown3 hb3 _ _)
          refine hK.out _ _ trivial (fun _ => ?_)
          clear hK K
          try simp only [Act.put, List.setIfInBounds_toArray, List.set_cons_zero, List.set_cons_succ]
          refine wpAnyH_ready (rs := [7]) (by kernel_rfl) (by simp) ?_
          refine AllReadyH.cons (o := ⟨some 102, _, _, _, _, _⟩) rfl (fun K hK => ?_) AllReadyH.nil
          (refine step_appM (by rfl) (.tmp 98) (.tmp 101) 27 (by rfl) w'.heap.size 3 _ 1 8 Try.underlying27 int_info (by rfl) (by omega) v1 _ _ (by rfl) hown3 w'.heap.size (some ⟨pb, po, none⟩) k c2 ((ints q).take k) (by rfl) (by rw [List.length_take, ints_len]; omega) (Rd.below (by exact hRb) hb3) (fun u hu => ints_one q u (List.mem_of_mem_take hu)) (by omega) (by omega) hb3.size ?_; intro v2 w4 hown4 hb4 _ _; obtain ⟨q4, d4, rfl, _, _, hR4, _⟩ := own_form hown4)
          refine hK.out _ _ trivial (fun _ => ?_)
          clear hK K
          try simp only [Act.put, List.setIfInBounds_toArray, List.set_cons_zero, List.set_cons_succ]
          refine wpAnyH_ready (rs := [10]) (by kernel_rfl) (by simp) ?_
          refine AllReadyH.cons (o := ⟨some 105, _, _, _, _, _⟩) rfl (fun K hK => ?_) AllReadyH.nil
          go_simp
          (refine (sums_is _ _ (q.drop k ++ q.take k) (sumN q) (sumE q) _ _ ?_ ?_ ?_ ?_ ?_ ?_).mono ?_; (rw [HQ.out]; exact hR4); (simp; omega); exact HWQ.out; exact sumN_turn q k; exact sumE_turn q k; (simp; omega); rintro e w5 ⟨rfl, hb5⟩)
          refine hK.out _ _ trivial (fun _ => ?_)
          clear hK K
          try simp only [Act.put, List.setIfInBounds_toArray, List.set_cons_zero, List.set_cons_succ]
          refine wpAnyH_take (i := 11) (oi := ⟨some 106, _, _, _, _, _⟩) (v := ?_) rfl (by kernel_rfl) (by kernel_rfl) (by kernel_rfl) (fun _ _ _ h => h) (Or.inl ⟨by rfl, ?_⟩) trivial ?_
          rotate_left
          · (intro w _; go_simp; try with_reducible rfl)
          try simp only [Act.put, List.setIfInBounds_toArray, List.set_cons_zero, List.set_cons_succ]
          refine wpAnyH_take (i := 12) (oi := ⟨some 107, _, _, _, _, _⟩) (v := ?_) rfl (by kernel_rfl) (by kernel_rfl) (by kernel_rfl) (fun _ _ _ h => h) (Or.inl ⟨by rfl, ?_⟩) trivial ?_
          rotate_left
          · (intro w _; go_simp; try with_reducible rfl)
          try simp only [Act.put, List.setIfInBounds_toArray, List.set_cons_zero, List.set_cons_succ]
          refine wpAnyH_take (i := 13) (oi := ⟨some 108, _, _, _, _, _⟩) (v := ?_) rfl (by kernel_rfl) (by kernel_rfl) (by kernel_rfl) (fun _ _ _ h => h) (Or.inl ⟨by rfl, ?_⟩) trivial ?_
          rotate_left
          · (intro w _; go_simp; try with_reducible rfl)
          try simp only [Act.put, List.setIfInBounds_toArray, List.set_cons_zero, List.set_cons_succ]
          refine wpAnyH_take (i := 14) (oi := ⟨some 109, _, _, _, _, _⟩) (v := ?_) rfl (by kernel_rfl) (by kernel_rfl) (by kernel_rfl) (fun _ _ _ h => h) (Or.inl ⟨by rfl, ?_⟩) trivial ?_
          rotate_left
          · (intro w _; go_simp; try with_reducible rfl)
          try simp only [Act.put, List.setIfInBounds_toArray, List.set_cons_zero, List.set_cons_succ]
          refine wpAnyH_take (i := 15) (oi := ⟨some 110, _, _, _, _, _⟩) (v := ?_) rfl (by kernel_rfl) (by kernel_rfl) (by kernel_rfl) (fun _ _ _ h => h) (Or.inl ⟨by rfl, ?_⟩) trivial ?_
          rotate_left
          · (intro w _; go_simp; try with_reducible rfl)
          try simp only [Act.put, List.setIfInBounds_toArray, List.set_cons_zero, List.set_cons_succ]
          refine wpAnyH_take (i := 16) (oi := ⟨some 111, _, _, _, _, _⟩) (v := ?_) rfl (by kernel_rfl) (by kernel_rfl) (by kernel_rfl) (fun _ _ _ h => h) (Or.inl ⟨by rfl, ?_⟩) trivial ?_
          rotate_left
          · (intro w _; go_simp; try with_reducible rfl)
          try simp only [Act.put, List.setIfInBounds_toArray, List.set_cons_zero, List.set_cons_succ]
          refine wpAnyH_ready (rs := [17]) (by kernel_rfl) (by simp) ?_
          refine AllReadyH.cons (o := ⟨some 112, _, _, _, _, _⟩) rfl (fun K hK => ?_) AllReadyH.nil
          go_simp
          (refine (valid_is (sumN q) true _ HV.out).mono ?_; rintro e w' ⟨rfl, rfl⟩)
          refine hK.out _ _ trivial (fun _ => ?_)
          clear hK K
          try simp only [Act.put, List.setIfInBounds_toArray, List.set_cons_zero, List.set_cons_succ]
          refine wpAnyH_take (i := 18) (oi := ⟨some 113, _, _, _, _, _⟩) (v := ?_) rfl (by kernel_rfl) (by kernel_rfl) (by kernel_rfl) (fun _ _ _ h => h) (Or.inl ⟨by rfl, ?_⟩) trivial ?_
          rotate_left
          · (intro w _; go_simp; try with_reducible rfl)
          try simp only [Act.put, List.setIfInBounds_toArray, List.set_cons_zero, List.set_cons_succ]
          refine wpAnyH_take (i := 19) (oi := ⟨some 114, _, _, _, _, _⟩) (v := ?_) rfl (by kernel_rfl) (by kernel_rfl) (by kernel_rfl) (fun _ _ _ h => h) (Or.inl ⟨by rfl, ?_⟩) trivial ?_
          rotate_left
          · (intro w _; go_simp; try with_reducible rfl)
          try simp only [Act.put, List.setIfInBounds_toArray, List.set_cons_zero, List.set_cons_succ]
          refine wpAnyH_take (i := 20) (oi := ⟨some 115, _, _, _, _, _⟩) (v := ?_) rfl (by kernel_rfl) (by kernel_rfl) (by kernel_rfl) (fun _ _ _ h => h) (Or.inl ⟨by rfl, ?_⟩) trivial ?_
          rotate_left
          · (intro w _; go_simp; try with_reducible rfl)
          try simp only [Act.put, List.setIfInBounds_toArray, List.set_cons_zero, List.set_cons_succ]
          refine wpAnyH_done (by kernel_rfl) ?_ _
          refine NoPanic.normal ?_
          go_wp2_with fail
          go_meet
          exact hK2.step (below_seq hb3 hb4 hb5)
        · have hse1 : (sumE q == 0) = false := by simpa using hse
          clear hse
          refine wp_region_noPanic ?_
          refine wp_region_held_drew (S := fun _ => True) (by kernel_rfl) trivial (fun _ => ?_)
          refine wpAnyH_take (i := 0) (oi := ⟨some 95, _, _, _, _, _⟩) (v := ?_) rfl (by kernel_rfl) (by kernel_rfl) (by kernel_rfl) (fun _ _ _ h => h) (Or.inl ⟨by rfl, ?_⟩) trivial ?_
          rotate_left
          · (intro w _; go_simp; try with_reducible rfl)
          try simp only [Act.put, List.setIfInBounds_toArray, List.set_cons_zero, List.set_cons_succ]
          refine wpAnyH_take (i := 1) (oi := ⟨some 96, _, _, _, _, _⟩) (v := ?_) rfl (by kernel_rfl) (by kernel_rfl) (by kernel_rfl) (fun _ _ _ h => h) (Or.inl ⟨by rfl, ?_⟩) trivial ?_
          rotate_left
          · (intro w _; go_simp; try with_reducible rfl)
          try simp only [Act.put, List.setIfInBounds_toArray, List.set_cons_zero, List.set_cons_succ]
          refine wpAnyH_take (i := 2) (oi := ⟨some 97, _, _, _, _, _⟩) (v := ?_) rfl (by kernel_rfl) (by kernel_rfl) (by kernel_rfl) (fun _ _ _ h => h) (Or.inl ⟨by rfl, ?_⟩) trivial ?_
          rotate_left
          · (intro w _; go_simp; try with_reducible rfl)
          try simp only [Act.put, List.setIfInBounds_toArray, List.set_cons_zero, List.set_cons_succ]
          refine wpAnyH_take (i := 4) (oi := ⟨some 99, _, _, _, _, _⟩) (v := ?_) rfl (by kernel_rfl) (by kernel_rfl) (by kernel_rfl) (fun _ _ _ h => h) (Or.inl ⟨by rfl, ?_⟩) trivial ?_
          rotate_left
          · (intro w _; go_simp; try with_reducible rfl)
          try simp only [Act.put, List.setIfInBounds_toArray, List.set_cons_zero, List.set_cons_succ]
          refine wpAnyH_take (i := 5) (oi := ⟨some 100, _, _, _, _, _⟩) (v := ?_) rfl (by kernel_rfl) (by kernel_rfl) (by kernel_rfl) (fun _ _ _ h => h) (Or.inl ⟨by rfl, ?_⟩) trivial ?_
          rotate_left
          · (intro w _; go_simp; try with_reducible rfl)
          try simp only [Act.put, List.setIfInBounds_toArray, List.set_cons_zero, List.set_cons_succ]
          refine wpAnyH_take (i := 6) (oi := ⟨some 101, _, _, _, _, _⟩) (v := ?_) rfl (by kernel_rfl) (by kernel_rfl) (by kernel_rfl) (fun _ _ _ h => h) (Or.inl ⟨by rfl, ?_⟩) trivial ?_
          rotate_left
          · (intro w _; go_simp; try with_reducible rfl)
          try simp only [Act.put, List.setIfInBounds_toArray, List.set_cons_zero, List.set_cons_succ]
          refine wpAnyH_take (i := 8) (oi := ⟨some 103, _, _, _, _, _⟩) (v := ?_) rfl (by kernel_rfl) (by kernel_rfl) (by kernel_rfl) (fun _ _ _ h => h) (Or.inl ⟨by rfl, ?_⟩) trivial ?_
          rotate_left
          · (intro w _; go_simp; try with_reducible rfl)
          try simp only [Act.put, List.setIfInBounds_toArray, List.set_cons_zero, List.set_cons_succ]
          refine wpAnyH_take (i := 9) (oi := ⟨some 104, _, _, _, _, _⟩) (v := ?_) rfl (by kernel_rfl) (by kernel_rfl) (by kernel_rfl) (fun _ _ _ h => h) (Or.inl ⟨by rfl, ?_⟩) trivial ?_
          rotate_left
          · (intro w _; go_simp; try with_reducible rfl)
          try simp only [Act.put, List.setIfInBounds_toArray, List.set_cons_zero, List.set_cons_succ]
          refine wpAnyH_ready (rs := [3]) (by kernel_rfl) (by simp) ?_
          refine AllReadyH.cons (o := ⟨some 98, _, _, _, _, _⟩) rfl (fun K hK => ?_) AllReadyH.nil
          (refine step_appM (by rfl) (.const (.slice none 0 0)) (.tmp 97) 27 (by rfl) w'.heap.size 3 _ 1 8 Try.underlying27 int_info (by rfl) (by omega) _ 0 [] (by rfl) (World.ownsRow_nil _ _ _ _) w'.heap.size (some ⟨pb, po + k, none⟩) (q.length - k) (c2 - k) ((ints q).drop k) (by rfl) (by simp [ints]) (by exact hRa) (fun u hu => ints_one q u (List.mem_of_mem_drop hu)) (by omega) (by omega) (by simp) ?_; intro v1 w3 hown3 hb3 _ _)
          refine hK.out _ _ trivial (fun _ => ?_)
          clear hK K
          try simp only [Act.put, List.setIfInBounds_toArray, List.set_cons_zero, List.set_cons_succ]
          refine wpAnyH_ready (rs := [7]) (by kernel_rfl) (by simp) ?_
          refine AllReadyH.cons (o := ⟨some 102, _, _, _, _, _⟩) rfl (fun K hK => ?_) AllReadyH.nil
          (refine step_appM (by rfl) (.tmp 98) (.tmp 101) 27 (by rfl) w'.heap.size 3 _ 1 8 Try.underlying27 int_info (by rfl) (by omega) v1 _ _ (by rfl) hown3 w'.heap.size (some ⟨pb, po, none⟩) k c2 ((ints q).take k) (by rfl) (by rw [List.length_take, ints_len]; omega) (Rd.below (by exact hRb) hb3) (fun u hu => ints_one q u (List.mem_of_mem_take hu)) (by omega) (by omega) hb3.size ?_; intro v2 w4 hown4 hb4 _ _; obtain ⟨q4, d4, rfl, _, _, hR4, _⟩ := own_form hown4)
          refine hK.out _ _ trivial (fun _ => ?_)
          clear hK K
          try simp only [Act.put, List.setIfInBounds_toArray, List.set_cons_zero, List.set_cons_succ]
          refine wpAnyH_ready (rs := [10]) (by kernel_rfl) (by simp) ?_
          refine AllReadyH.cons (o := ⟨some 105, _, _, _, _, _⟩) rfl (fun K hK => ?_) AllReadyH.nil
          go_simp
          (refine (sums_is _ _ (q.drop k ++ q.take k) (sumN q) (sumE q) _ _ ?_ ?_ ?_ ?_ ?_ ?_).mono ?_; (rw [HQ.out]; exact hR4); (simp; omega); exact HWQ.out; exact sumN_turn q k; exact sumE_turn q k; (simp; omega); rintro e w5 ⟨rfl, hb5⟩)
          refine hK.out _ _ trivial (fun _ => ?_)
          clear hK K
          try simp only [Act.put, List.setIfInBounds_toArray, List.set_cons_zero, List.set_cons_succ]
          refine wpAnyH_take (i := 11) (oi := ⟨some 106, _, _, _, _, _⟩) (v := ?_) rfl (by kernel_rfl) (by kernel_rfl) (by kernel_rfl) (fun _ _ _ h => h) (Or.inl ⟨by rfl, ?_⟩) trivial ?_
          rotate_left
          · (intro w _; go_simp; try with_reducible rfl)
          try simp only [Act.put, List.setIfInBounds_toArray, List.set_cons_zero, List.set_cons_succ]
          refine wpAnyH_take (i := 12) (oi := ⟨some 107, _, _, _, _, _⟩) (v := ?_) rfl (by kernel_rfl) (by kernel_rfl) (by kernel_rfl) (fun _ _ _ h => h) (Or.inl ⟨by rfl, ?_⟩) trivial ?_
          rotate_left
          · (intro w _; go_simp; try with_reducible rfl)
          try simp only [Act.put, List.setIfInBounds_toArray, List.set_cons_zero, List.set_cons_succ]
          refine wpAnyH_take (i := 13) (oi := ⟨some 108, _, _, _, _, _⟩) (v := ?_) rfl (by kernel_rfl) (by kernel_rfl) (by kernel_rfl) (fun _ _ _ h => h) (Or.inl ⟨by rfl, ?_⟩) trivial ?_
          rotate_left
          · (intro w _; go_simp; try with_reducible rfl)
          try simp only [Act.put, List.setIfInBounds_toArray, List.set_cons_zero, List.set_cons_succ]
          refine wpAnyH_take (i := 14) (oi := ⟨some 109, _, _, _, _, _⟩) (v := ?_) rfl (by kernel_rfl) (by kernel_rfl) (by kernel_rfl) (fun _ _ _ h => h) (Or.inl ⟨by rfl, ?_⟩) trivial ?_
          rotate_left
          · (intro w _; go_simp; try with_reducible rfl)
          try simp only [Act.put, List.setIfInBounds_toArray, List.set_cons_zero, List.set_cons_succ]
          refine wpAnyH_take (i := 15) (oi := ⟨some 110, _, _, _, _, _⟩) (v := ?_) rfl (by kernel_rfl) (by kernel_rfl) (by kernel_rfl) (fun _ _ _ h => h) (Or.inl ⟨by rfl, ?_⟩) trivial ?_
          rotate_left
          · (intro w _; go_simp; try with_reducible rfl)
          try simp only [Act.put, List.setIfInBounds_toArray, List.set_cons_zero, List.set_cons_succ]
          refine wpAnyH_take (i := 16) (oi := ⟨some 111, _, _, _, _, _⟩) (v := undef) rfl (by kernel_rfl) (by kernel_rfl) (by kernel_rfl) (fun _ _ _ h => h) (Or.inr ⟨by rfl, rfl⟩) trivial ?_
          try simp only [Act.put, List.setIfInBounds_toArray, List.set_cons_zero, List.set_cons_succ]
          refine wpAnyH_take (i := 17) (oi := ⟨some 112, _, _, _, _, _⟩) (v := undef) rfl (by kernel_rfl) (by kernel_rfl) (by kernel_rfl) (fun _ _ _ h => h) (Or.inr ⟨by rfl, rfl⟩) trivial ?_
          try simp only [Act.put, List.setIfInBounds_toArray, List.set_cons_zero, List.set_cons_succ]
          refine wpAnyH_take (i := 18) (oi := ⟨some 113, _, _, _, _, _⟩) (v := undef) rfl (by kernel_rfl) (by kernel_rfl) (by kernel_rfl) (fun _ _ _ h => h) (Or.inr ⟨by rfl, rfl⟩) trivial ?_
          try simp only [Act.put, List.setIfInBounds_toArray, List.set_cons_zero, List.set_cons_succ]
          refine wpAnyH_take (i := 19) (oi := ⟨some 114, _, _, _, _, _⟩) (v := ?_) rfl (by kernel_rfl) (by kernel_rfl) (by kernel_rfl) (fun _ _ _ h => h) (Or.inl ⟨by rfl, ?_⟩) trivial ?_
          rotate_left
          · (intro w _; go_simp; try with_reducible rfl)
          try simp only [Act.put, List.setIfInBounds_toArray, List.set_cons_zero, List.set_cons_succ]
          refine wpAnyH_take (i := 20) (oi := ⟨some 115, _, _, _, _, _⟩) (v := ?_) rfl (by kernel_rfl) (by kernel_rfl) (by kernel_rfl) (fun _ _ _ h => h) (Or.inl ⟨by rfl, ?_⟩) trivial ?_
          rotate_left
          · (intro w _; go_simp; try with_reducible rfl)
          try simp only [Act.put, List.setIfInBounds_toArray, List.set_cons_zero, List.set_cons_succ]
          refine wpAnyH_done (by kernel_rfl) ?_ _
          refine NoPanic.normal ?_
          go_wp2_with fail
          go_meet
          exact hK2.step (below_seq hb3 hb4 hb5)
    case rest =>
      have hK3 := hcut
      clear hcut hK2 h2 HW
      by_cases hl0 : l.length = 0
      · have hl1 : ((l.length : Int) == 0) = true := by rw [beq_iff_eq]; omega
        clear hl0
        go_wp2_with fail
        refine (known_any _).mono ?_
        rintro e w3 ⟨rfl, hb3⟩
        go_wp2_with fail
        go_ret
        exact ⟨rfl, below_step hK3.h hb3⟩
      · have hl1 : ((l.length : Int) == 0) = false := by rw [beq_eq_false_iff_ne]; omega
        have hl2 : (0 : Int) < (l.length : Int) := by omega
        have HNL := Lib.hid (show l ≠ [] from fun e => by subst e; simp at hl2)
        obtain ⟨k, hk⟩ : ∃ k : Nat, turn % (l.length : Int) = (k : Int) := ⟨(turn % (l.length : Int)).toNat, by have := Int.emod_nonneg turn (show (l.length : Int) ≠ 0 by omega); omega⟩
        have hk1 : (k : Int) < (l.length : Int) := by have := Int.emod_lt_of_pos turn hl2; omega
        have hk2 : (k : Int) < (cc : Int) := by omega
        have hk3 : (l.length : Int) ≤ (cc : Int) := by omega
        have hk4 : (0 : Int) ≤ (k : Int) := by omega
        have hk5 : (k : Int) ≤ (l.length : Int) := by omega
        have hk6 : (k : Int) ≤ (cc : Int) := by omega
        have hk7 : ¬ (cc = k) := by omega
        clear hl0
        obtain ⟨pb, po, rfl, _, _⟩ := h.mk (k := 0) (by omega)
        go_wp2_with fail
        refine (newest_any _ cc l _ (h.kept hK3.h) (by omega)).mono ?_
        rintro e w2 ⟨rfl, hb2⟩
        have hK4 := hK3.step hb2
        clear hK3 hb2
        obtain ⟨⟨mr, mc, mq, mt⟩, hm0⟩ : ∃ m, newestM l = m := ⟨_, rfl⟩
        rw [hm0]
        have HM := Lib.hid hm0
        clear hm0
        go_wp2_with fail
        generalize hW : (World.alloc _ _) = W4
        have hW4 : Below w2.heap.size w2 W4 := by rw [← hW]; exact (Below.refl _ _).alloc (Nat.le_refl _) _
        have hM : Blk W4 w2.heap.size 26 (Mk.cells ⟨mr, mc, mq, mt⟩) := by rw [← hW]; exact Blk.new' _ 26 _ rfl
        clear hW
        obtain ⟨D, hD⟩ : ∃ D, w2.heap.size = D := ⟨_, rfl⟩
        have hK5 := hK4.step hW4
        rw [hD] at hM ⊢
        clear hD hK4 hW4
        have hR := h.kept hK5.h
        have hRa : Rd W4 W4.heap.size (some ⟨pb, po + k * 4, none⟩) ((mks l).drop (k * 4)) := hR.part (k * 4)
        have hRb : Rd W4 W4.heap.size (some ⟨pb, po, none⟩) ((mks l).take (k * 4)) := hR.firsts (k * 4)
        have HQ := Lib.hid (show mks (l.drop k ++ l.take k) = [] ++ (mks l).drop (k * 4) ++ (mks l).take (k * 4) by rw [← mks_app, mks_drop, mks_take]; simp)
        go_upto_region 15 with fail
        refine wp_region_noPanic ?_
        refine wp_region_held_drew (S := fun w' => w'.cell? ⟨D, 0, none⟩ = some (.int .i64 mr) ∧ w'.cell? ⟨D, 1, none⟩ = some (.int .i64 mc) ∧ w'.cell? ⟨D, 2, none⟩ = some (.int .i64 mq) ∧ w'.cell? ⟨D, 3, none⟩ = some (.int .u64 mt)) (by kernel_rfl) (cells4 (hM.kept (Below.refl _ _).drew)) (fun hHeld => ?_)
        refine wpAnyH_take (i := 0) (oi := ⟨some 130, _, _, _, _, _⟩) (v := ?_) rfl (by kernel_rfl) (by kernel_rfl) (by kernel_rfl) (fun _ _ _ h => h) (Or.inl ⟨by rfl, ?_⟩) hHeld ?_
        rotate_left
        · (intro w hSw; obtain ⟨d0, d1, d2, d3⟩ := hSw; go_simp; try with_reducible rfl)
        try simp only [Act.put, List.setIfInBounds_toArray, List.set_cons_zero, List.set_cons_succ]
        refine wpAnyH_take (i := 1) (oi := ⟨some 131, _, _, _, _, _⟩) (v := ?_) rfl (by kernel_rfl) (by kernel_rfl) (by kernel_rfl) (fun _ _ _ h => h) (Or.inl ⟨by rfl, ?_⟩) hHeld ?_
        rotate_left
        · (intro w hSw; obtain ⟨d0, d1, d2, d3⟩ := hSw; go_simp; try with_reducible rfl)
        try simp only [Act.put, List.setIfInBounds_toArray, List.set_cons_zero, List.set_cons_succ]
        refine wpAnyH_take (i := 2) (oi := ⟨some 132, _, _, _, _, _⟩) (v := ?_) rfl (by kernel_rfl) (by kernel_rfl) (by kernel_rfl) (fun _ _ _ h => h) (Or.inl ⟨by rfl, ?_⟩) hHeld ?_
        rotate_left
        · (intro w hSw; obtain ⟨d0, d1, d2, d3⟩ := hSw; go_simp; try with_reducible rfl)
        try simp only [Act.put, List.setIfInBounds_toArray, List.set_cons_zero, List.set_cons_succ]
        refine wpAnyH_take (i := 4) (oi := ⟨some 134, _, _, _, _, _⟩) (v := ?_) rfl (by kernel_rfl) (by kernel_rfl) (by kernel_rfl) (fun _ _ _ h => h) (Or.inl ⟨by rfl, ?_⟩) hHeld ?_
        rotate_left
        · (intro w hSw; obtain ⟨d0, d1, d2, d3⟩ := hSw; go_simp; try with_reducible rfl)
        try simp only [Act.put, List.setIfInBounds_toArray, List.set_cons_zero, List.set_cons_succ]
        refine wpAnyH_take (i := 5) (oi := ⟨some 135, _, _, _, _, _⟩) (v := ?_) rfl (by kernel_rfl) (by kernel_rfl) (by kernel_rfl) (fun _ _ _ h => h) (Or.inl ⟨by rfl, ?_⟩) hHeld ?_
        rotate_left
        · (intro w hSw; obtain ⟨d0, d1, d2, d3⟩ := hSw; go_simp; try with_reducible rfl)
        try simp only [Act.put, List.setIfInBounds_toArray, List.set_cons_zero, List.set_cons_succ]
        refine wpAnyH_take (i := 6) (oi := ⟨some 136, _, _, _, _, _⟩) (v := ?_) rfl (by kernel_rfl) (by kernel_rfl) (by kernel_rfl) (fun _ _ _ h => h) (Or.inl ⟨by rfl, ?_⟩) hHeld ?_
        rotate_left
        · (intro w hSw; obtain ⟨d0, d1, d2, d3⟩ := hSw; go_simp; try with_reducible rfl)
        try simp only [Act.put, List.setIfInBounds_toArray, List.set_cons_zero, List.set_cons_succ]
        refine wpAnyH_take (i := 8) (oi := ⟨some 138, _, _, _, _, _⟩) (v := ?_) rfl (by kernel_rfl) (by kernel_rfl) (by kernel_rfl) (fun _ _ _ h => h) (Or.inl ⟨by rfl, ?_⟩) hHeld ?_
        rotate_left
        · (intro w hSw; obtain ⟨d0, d1, d2, d3⟩ := hSw; go_simp; try with_reducible rfl)
        try simp only [Act.put, List.setIfInBounds_toArray, List.set_cons_zero, List.set_cons_succ]
        refine wpAnyH_take (i := 9) (oi := ⟨some 139, _, _, _, _, _⟩) (v := ?_) rfl (by kernel_rfl) (by kernel_rfl) (by kernel_rfl) (fun _ _ _ h => h) (Or.inl ⟨by rfl, ?_⟩) hHeld ?_
        rotate_left
        · (intro w hSw; obtain ⟨d0, d1, d2, d3⟩ := hSw; go_simp; try with_reducible rfl)
        try simp only [Act.put, List.setIfInBounds_toArray, List.set_cons_zero, List.set_cons_succ]
        refine wpAnyH_ready (rs := [3]) (by kernel_rfl) (by simp) ?_
        refine AllReadyH.cons (o := ⟨some 133, _, _, _, _, _⟩) rfl (fun K hK => ?_) AllReadyH.nil
        (refine step_appM (by rfl) (.const (.slice none 0 0)) (.tmp 132) 38 (by rfl) W4.heap.size 26 _ 4 32 Try.underlying38 mk_info (by rfl) (by omega) _ 0 [] (by rfl) (World.ownsRow_nil _ _ _ _) W4.heap.size (some ⟨pb, po + k * 4, none⟩) (l.length - k) (cc - k) ((mks l).drop (k * 4)) (by rfl) (by rw [List.length_drop, mks_len]; omega) (by exact hRa) (fun u hu => mks_one l u (List.mem_of_mem_drop hu)) (by omega) (by omega) (by simp) ?_; intro v1 w3 hown3 hb3 _ _)
        refine hK.out _ _ (cells4 (hM.kept ((Below.refl _ _).drew.trans hb3))) (fun hHeld => ?_)
        clear hK K
        try simp only [Act.put, List.setIfInBounds_toArray, List.set_cons_zero, List.set_cons_succ]
        refine wpAnyH_ready (rs := [7]) (by kernel_rfl) (by simp) ?_
        refine AllReadyH.cons (o := ⟨some 137, _, _, _, _, _⟩) rfl (fun K hK => ?_) AllReadyH.nil
        (refine step_appM (by rfl) (.tmp 133) (.tmp 136) 38 (by rfl) W4.heap.size 26 _ 4 32 Try.underlying38 mk_info (by rfl) (by omega) v1 _ _ (by rfl) hown3 W4.heap.size (some ⟨pb, po, none⟩) k cc ((mks l).take (k * 4)) (by rfl) (by rw [List.length_take, mks_len]; omega) (Rd.below (by exact hRb) hb3) (fun u hu => mks_one l u (List.mem_of_mem_take hu)) (by omega) (by omega) hb3.size ?_; intro v2 w4 hown4 hb4 _ _; obtain ⟨q4, d4, rfl, _, _, hR4, _⟩ := own_form hown4)
        refine hK.out _ _ (cells4 (hM.kept (((Below.refl _ _).drew.trans hb3).trans hb4))) (fun hHeld => ?_)
        clear hK K
        try simp only [Act.put, List.setIfInBounds_toArray, List.set_cons_zero, List.set_cons_succ]
        refine wpAnyH_ready (rs := [10]) (by kernel_rfl) (by simp) ?_
        refine AllReadyH.cons (o := ⟨some 140, _, _, _, _, _⟩) rfl (fun K hK => ?_) AllReadyH.nil
        go_simp
        (refine (isNewest_any _ _ (l.drop k ++ l.take k) ⟨mr, mc, mq, mt⟩ (newestE l) _ ?_ ?_ ?_ ?_ _ ?_).mono ?_; (rw [HQ.out]; exact hR4); (simp; omega); exact (newestM_turn l k).trans HM.out; exact newestE_turn l k; (simp; omega); rintro e w5 ⟨rfl, hb5⟩)
        refine hK.out _ _ (cells4 (hM.kept (below_seq hb3 hb4 hb5))) (fun hHeld => ?_)
        clear hK K
        try simp only [Act.put, List.setIfInBounds_toArray, List.set_cons_zero, List.set_cons_succ]
        refine wpAnyH_take (i := 11) (oi := ⟨some 141, _, _, _, _, _⟩) (v := ?_) rfl (by kernel_rfl) (by kernel_rfl) (by kernel_rfl) (fun _ _ _ h => h) (Or.inl ⟨by rfl, ?_⟩) hHeld ?_
        rotate_left
        · (intro w hSw; obtain ⟨d0, d1, d2, d3⟩ := hSw; go_simp; try with_reducible rfl)
        try simp only [Act.put, List.setIfInBounds_toArray, List.set_cons_zero, List.set_cons_succ]
        refine wpAnyH_done (by kernel_rfl) ?_ _
        refine NoPanic.normal ?_
        have hbT := below_seq hb3 hb4 hb5
        have hK6 := hK5.step hbT
        have hM6 := hM.kept hbT
        clear hb3 hb4 hb5 hown3 hown4 hR4 hRa hRb hR HQ hK5 hM hbT
        go_wp2_with fail
        refine (next_any _ cc l _ (h.kept hK6.h) (by omega) HO.out).mono ?_
        rintro e w7 ⟨rfl, hb7⟩
        have hK7 := hK6.step hb7
        have hM7 := hM6.kept hb7
        clear hK6 hM6 hb7
        go_wp2_with fail
        go_loopw [149] (fun i wr => ∃ j : Nat, j ≤ l.length ∧ i = .int .i64 j ∧ Bx w wr A B C ⟨ar, ac, aq, at'⟩ ⟨br, bc, bq, bt⟩ ⟨cr, cd, cq, ct⟩ ∧ Blk wr D 26 (Mk.cells ⟨mr, mc, mq, mt⟩)) (fun i _ => l.length - (intOf i).toNat)
        case atStart => exact ⟨0, Nat.zero_le _, rfl, hK7, hM7⟩
        case round =>
          clear hK7 hM7
          obtain ⟨j, hj, rfl, hK7, hM7⟩ := hrel
          by_cases hlt : j < l.length
          · obtain ⟨b2, o2, heq2, _, x0, x1, x2, x3⟩ := (h.kept hK7.h).mk hlt
            injection heq2 with heq2
            injection heq2 with e1 e2
            subst e1 e2
            have hji : (j : Int) < (l.length : Int) := by omega
            have hmem := List.getElem_mem hlt
            obtain ⟨⟨xr, xc, xq, xt⟩, hx⟩ : ∃ x, l[j] = x := ⟨_, rfl⟩
            rw [hx] at x0 x1 x2 x3 hmem
            have HMem := Lib.hid hmem
            clear hx hmem
            dsimp only at x0 x1 x2 x3
            go_upto_region 21 with fail
            generalize hW : (World.alloc _ _) = W8
            have hW8 : Below wr.heap.size wr W8 := by rw [← hW]; exact (Below.refl _ _).alloc (Nat.le_refl _) _
            have hX : Blk W8 wr.heap.size 26 (Mk.cells ⟨xr, xc, xq, xt⟩) := by rw [← hW]; exact Blk.new' _ 26 _ rfl
            clear hW x0 x1 x2 x3
            have hK8 := hK7.step hW8
            have hM8 := hM7.kept hW8
            clear hK7 hM7 hW8
            obtain ⟨⟨a0, a1, a2, a3⟩, _⟩ := hK8.ha.mk4
            obtain ⟨⟨d0, d1, d2, d3⟩, _⟩ := hM8.mk4
            obtain ⟨⟨x0, x1, x2, x3⟩, _⟩ := hX.mk4
            have la := hK8.ha.lt
            have ld := hM8.lt
            have lx := hX.lt
            have g0 := fun g => Gr.at_ la a0 g
            have g1 := fun g => Gr.at_ la a1 g
            have g2 := fun g => Gr.at_ la a2 g
            have g3 := fun g => Gr.at_ la a3 g
            have g4 := fun g => Gr.at_ ld d0 g
            have g5 := fun g => Gr.at_ ld d1 g
            have g6 := fun g => Gr.at_ ld d2 g
            have g7 := fun g => Gr.at_ ld d3 g
            have g8 := fun g => Gr.at_ lx x0 g
            have g9 := fun g => Gr.at_ lx x1 g
            have g10 := fun g => Gr.at_ lx x2 g
            have g11 := fun g => Gr.at_ lx x3 g
            clear hX
            by_cases he : newestE l = 0
            · have hc := newest_cmp he HMem.out
              rw [HM.out] at hc
              have hc1 : decide (0 < cmpM ⟨xr, xc, xq, xt⟩ ⟨mr, mc, mq, mt⟩) = false := by simpa using hc
              have he1 : (newestE l == 0) = true := by simpa using he
              clear he hc
              by_cases hf : nextE l = 0
              · have hn := next_all hf ar ac aq HMem.out
                have hf1 : (nextE l == 0) = true := by simpa using hf
                clear hf
                refine wp_region_grows (by kernel_rfl) (by kernel_rfl) ?_
                repeat (go_big_quiet_step ((first | (go_at_call 15; exact Calls.gr _ (compare_raw _ _ _ _ _ _ _ _ _)) | (go_at_call 31; exact Calls.gr _ (mark_any _ _ _ _ _)))))
                refine wpQuiet_nil ?_
                rintro _ ⟨g, rfl⟩
                have hK9 := hK8.step g.h
                have hM9 := hM8.kept g.h
                go_wp2_with fail
                go_roundw
                case rel => exact ⟨j + 1, by omega, by go_num, hK9, hM9⟩
                case measure => simp [intOf]; omega
              · have hf1 : (nextE l == 0) = false := by simpa using hf
                clear hf
                refine wp_region_grows (by kernel_rfl) (by kernel_rfl) ?_
                repeat (go_big_quiet_step ((first | (go_at_call 15; exact Calls.gr _ (compare_raw _ _ _ _ _ _ _ _ _)) | (go_at_call 31; exact Calls.gr _ (mark_any _ _ _ _ _)))))
                refine wpQuiet_nil ?_
                rintro _ ⟨g, rfl⟩
                have hK9 := hK8.step g.h
                have hM9 := hM8.kept g.h
                go_wp2_with fail
                go_roundw
                case rel => exact ⟨j + 1, by omega, by go_num, hK9, hM9⟩
                case measure => simp [intOf]; omega
            · have he1 : (newestE l == 0) = false := by simpa using he
              clear he
              by_cases hf : nextE l = 0
              · have hn := next_all hf ar ac aq HMem.out
                have hf1 : (nextE l == 0) = true := by simpa using hf
                clear hf
                refine wp_region_grows (by kernel_rfl) (by kernel_rfl) ?_
                repeat (go_big_quiet_step ((first | (go_at_call 15; exact Calls.gr _ (compare_raw _ _ _ _ _ _ _ _ _)) | (go_at_call 31; exact Calls.gr _ (mark_any _ _ _ _ _)))))
                refine wpQuiet_nil ?_
                rintro _ ⟨g, rfl⟩
                have hK9 := hK8.step g.h
                have hM9 := hM8.kept g.h
                go_wp2_with fail
                go_roundw
                case rel => exact ⟨j + 1, by omega, by go_num, hK9, hM9⟩
                case measure => simp [intOf]; omega
              · have hf1 : (nextE l == 0) = false := by simpa using hf
                clear hf
                refine wp_region_grows (by kernel_rfl) (by kernel_rfl) ?_
                repeat (go_big_quiet_step ((first | (go_at_call 15; exact Calls.gr _ (compare_raw _ _ _ _ _ _ _ _ _)) | (go_at_call 31; exact Calls.gr _ (mark_any _ _ _ _ _)))))
                refine wpQuiet_nil ?_
                rintro _ ⟨g, rfl⟩
                have hK9 := hK8.step g.h
                have hM9 := hM8.kept g.h
                go_wp2_with fail
                go_roundw
                case rel => exact ⟨j + 1, by omega, by go_num, hK9, hM9⟩
                case measure => simp [intOf]; omega
          · have hji : ¬ ((j : Int) < (l.length : Int)) := by omega
            go_wp2_with fail
            refine (known_any _).mono ?_
            rintro e w9 ⟨rfl, hb9⟩
            go_wp2_with fail
            go_ret
            exact ⟨rfl, below_step hK7.h hb9⟩
end Go.Proofs.Ytffclmogabceiaa
