/- Lock: what it answers and what becomes of the locks. -/
import Derived.Test.YthjakgjpnijmlaaPut
namespace Go.Proofs.Ythjakgjpnijmlaa
open Go.RowKit

theorem lock_cell {w w2 : World} {v : Value} {a : Nat} {j : Nat} {u : Value} (h : w.grownBy w2 v.ownBlock) (hc : w.cell? ⟨a, j, none⟩ = some u) (hn : v.ownBlock ≠ some a) : w2.cell? ⟨a, j, none⟩ = some u :=
  h.cell hc (fun e => hn e.symm)
theorem lock_frozen {w w2 : World} {v : Value} {a : Nat} {j : Nat} (h : w.grownBy w2 v.ownBlock) (hc : w.frozen? ⟨a, j, none⟩ = false) (hn : v.ownBlock ≠ some a) (hlt : a < w.heap.size) : w2.frozen? ⟨a, j, none⟩ = false :=
  (World.frozen?_of_block (h.block a hlt (fun e => hn e.symm))).trans hc
theorem lock_cell_set {w : World} {L g i : Nat} {u v : Value} (h : w.cell? ⟨L, 0, none⟩ = some u) (hn : L ≠ g) : (w.setCell ⟨g, i, none⟩ v).cell? ⟨L, 0, none⟩ = some u := by
  rw [World.cell?_setCell_far _ _ _ _ (fun e => hn e.symm)]; exact h
theorem lock_after {w w2 : World} {L : Nat} {S : Nat → Prop} {Q : List (List Int)} {g c : Nat} {vs : List Value} (hd : LKd w L S Q g c vs) (hlen : 0 < Q.length ∧ Q.length ≤ 1024) {i : Nat} (hi : i < Q.length) {v : Value} (hv : vs[i]? = some v) {t : TypeId} {o : Int} {v' : Value}
    (hgb : ((w.alloc (.cells #[.int .i64 o] t)).drew).grownBy w2 v.ownBlock) (hown : w2.ownsRow 0 3 1 v' ((Q[i]).length + 1) (ints Q[i] ++ [.int .i64 o])) (hat : v'.ownBlock = v.ownBlock ∨ ∀ k, v'.ownBlock = some k → ((w.alloc (.cells #[.int .i64 o] t)).drew).heap.size ≤ k) :
    LockW w (w2.setCell ⟨g, i, none⟩ v') L S (Q.set i (Q[i] ++ [o])) := by
  refine hd.put hlen hi hv ?_ (by rw [List.length_append, ← ints_snoc]; exact hown) ?_
  · exact (((Fr.refl _ w).alloc _).drew).gb hgb (fun c hc => .inl hc)
  · intro k hk
    rcases hat with e | e
    · exact .inl (e ▸ hk)
    · have h1 : w.heap.size + 1 ≤ k := by simpa using e k hk
      exact .inr (by omega)
set_option maxRecDepth 100000 in
set_option maxHeartbeats 4000000 in
theorem lock_any {w : World} {L : Nat} {S : Nat → Prop} {Q : List (List Int)} (o s : Int) (h : LK w L S Q) (hs : ∀ q ∈ Q, q.length ≤ 100000) :
    Calls Try.prog 14 #[.pointer (some ⟨L, 0, none⟩), .int .i64 o, .int .i64 s] w fun e w' => e = .returned (.tuple #[.bool (lockB Q o s), .int .i64 (lockE Q o s)]) ∧ LockW w w' L S (lockQ Q o s) := by
  have HC := Lib.hid (owned_any o s h)
  have HN := Lib.hid h
  by_cases hok : okS Q s = true ∧ okO o = true
  · have e1 : ownE Q o s = 0 := by rw [ownE, if_pos hok]
    rw [e1] at HC
    clear e1
    have HK := Lib.hid hok
    obtain ⟨i, rfl, hi⟩ := okS_nat hok.1
    clear hok
    have HS := Lib.hid hs
    clear hs
    obtain ⟨h0, h1, g, c, vs, hd⟩ := h
    have hc := hd.cell
    have hcap := hd.cap
    obtain ⟨hc1, hc2⟩ := hcap
    have hi2 : (i : Int) < (Q.length : Int) := by omega
    go_enter Try.func14, Try.ntmps14
    go_wp2_with fail
    refine HC.out.mono ?_
    rintro e w' ⟨rfl, rfl⟩
    go_wp2_with fail
    go_loop [24] (fun i' => ∃ k : Nat, k ≤ Q.length ∧ i' = .int .i64 k ∧ blockedFrom (Q.drop k) o i k = blocked Q o i) (fun i' => Q.length - (intOf i').toNat)
    case atStart => exact ⟨0, Nat.zero_le _, rfl, rfl⟩
    case round =>
      obtain ⟨k, hk, rfl, hx⟩ := hrel
      have HX := Lib.hid hx
      clear hx
      by_cases hlt : k < Q.length
      · obtain ⟨p, d, _, hq, _, hr, hd1, hd2, _⟩ := hd.at_ hlt
        have hki : (k : Int) < (Q.length : Int) := by omega
        have HF := Lib.hid (blockedFrom_drop Q o i k hlt)
        have hlq := HS.out Q[k] (List.getElem_mem hlt)
        have HQ := Lib.hid (show ∀ x, ix Q[k] o = x → stops Q[k] o k i = (decide (0 < x) || (decide (x = 0) && decide ((i : Int) ≤ (k : Int)))) from fun x hx => by rw [← hx]; rfl)
        go_wp2_with fail
        refine (index_any p d Q[k] o _ hr (by omega)).mono ?_
        rintro e w' ⟨rfl, rfl⟩
        obtain ⟨x, hx⟩ : ∃ x, ix Q[k] o = x := ⟨_, rfl⟩
        rw [hx]
        have HQ2 := Lib.hid (HQ.out x hx)
        clear hx HQ
        by_cases hst : 0 < x ∨ (x = 0 ∧ (i : Int) ≤ (k : Int))
        · have HB := Lib.hid (show blocked Q o i = true by
            rw [← HX.out, HF.out, HQ2.out]
            simp only [Bool.or_eq_true, Bool.and_eq_true, decide_eq_true_eq]
            exact .inl hst)
          have HE := Lib.hid (show lockE Q o i = 8 by rw [lockE, if_pos HK.out, if_pos HB.out])
          have HP : LockW w' w' L S (lockQ Q o i) := by
            rw [lockQ, if_neg (by rw [HE.out]; omega)]
            exact LockW.same HN.out
          have HBB := Lib.hid (show lockB Q o i = false by rw [lockB, HE.out]; simp)
          rcases hst with hst | ⟨rfl, hst⟩
          · go_wp2_with fail
            go_ret2
            exact ⟨by rw [HE.out, HBB.out]; rfl, HP⟩
          · go_wp2_with fail
            go_ret2
            exact ⟨by rw [HE.out, HBB.out]; rfl, HP⟩
        · have HB := Lib.hid (show blockedFrom (Q.drop (k + 1)) o i (k + 1) = blocked Q o i by
            rw [← HX.out, HF.out, HQ2.out]
            simp only [show (decide (0 < x) || (decide (x = 0) && decide ((i : Int) ≤ (k : Int)))) = false by
              rw [Bool.eq_false_iff]; intro e; simp only [Bool.or_eq_true, Bool.and_eq_true, decide_eq_true_eq] at e; exact hst e, Bool.false_or])
          have hx1 : x ≤ 0 := by omega
          by_cases hx0 : x = 0
          · subst hx0
            have hik : (k : Int) < (i : Int) := by omega
            clear hst
            go_wp2_with fail
            go_round
            case rel => exact ⟨k + 1, by omega, by go_num, HB.out⟩
            case measure => simp [intOf]; omega
          · have hxb : (x == 0) = false := by rw [beq_eq_false_iff_ne]; exact hx0
            have hx2 : x < 0 := by omega
            clear hst hx0
            go_wp2_with fail
            go_round
            case rel => exact ⟨k + 1, by omega, by go_num, HB.out⟩
            case measure => simp [intOf]; omega
      · have HB := Lib.hid (show blocked Q o i = false by
          rw [← HX.out, show k = Q.length by omega, List.drop_length]; rfl)
        have HE := Lib.hid (show lockE Q o i = 0 by rw [lockE, if_pos HK.out, if_neg (by rw [HB.out]; simp)])
        obtain ⟨p, d, hv, hq, hf, hr, hd1, hd2, hown⟩ := hd.at_ hi
        have hlq := HS.out Q[i] (List.getElem_mem hi)
        have hlen : 0 < Q.length ∧ Q.length ≤ 1024 := ⟨h0, h1⟩
        have hvm : Value.slice p (Q[i]).length d ∈ vs := List.mem_of_getElem? hv
        have hnL : (Value.slice p (Q[i]).length d).ownBlock ≠ some L := fun e => (hd.ne_q hvm e).1 rfl
        have hng : (Value.slice p (Q[i]).length d).ownBlock ≠ some g := fun e => (hd.ne_q hvm e).2 rfl
        have hA1 : Below w.heap.size w ((w.alloc (.cells #[.int .i64 o] 3)).drew) := ((Below.refl _ _).alloc (Nat.le_refl _) _).drew
        have hcA : ((w.alloc (.cells #[.int .i64 o] 3)).drew).cell? ⟨L, 0, none⟩ = some (.slice (some ⟨g, 0, none⟩) Q.length c) := (hd.kept hA1).cell
        have hqA : ((w.alloc (.cells #[.int .i64 o] 3)).drew).cell? ⟨g, i, none⟩ = some (.slice p (Q[i]).length d) := (hA1.cell (p := ⟨g, i, none⟩) (hd.lt g hd.sg)).trans hq
        have hfA : ((w.alloc (.cells #[.int .i64 o] 3)).drew).frozen? ⟨g, i, none⟩ = false := (hA1.frozen (p := ⟨g, i, none⟩) (hd.lt g hd.sg)).trans hf
        have hownA : ((w.alloc (.cells #[.int .i64 o] 3)).drew).ownsRow 0 3 1 (.slice p (Q[i]).length d) (Q[i]).length (ints Q[i]) := own_fr hown (Fr.of_below hA1 (fun _ => False)) (fun _ _ h => h)
        have hnew : Rd ((w.alloc (.cells #[.int .i64 o] 3)).drew) (w.heap.size + 1) (some ⟨w.heap.size, 0, none⟩) [.int .i64 o] := by
          have h1 := Rd.of_blk (Blk.new w 3 [.int .i64 o]) (List.prefix_refl _)
          have h2 : Rd (w.alloc (.cells #[.int .i64 o] 3)) (w.heap.size + 1) (some ⟨w.heap.size, 0, none⟩) [.int .i64 o] := by simpa using h1
          exact h2
        clear hA1
        go_upto_region 11 with fail
        go_cut [] (fun wx => LockW w wx L S (Q.set i (Q[i] ++ [o])))
        case first =>
          refine wp_region_noPanic ?_
          refine wp_region_held_drew (S := fun w' => w'.cell? ⟨L, 0, none⟩ = some (.slice (some ⟨g, 0, none⟩) Q.length c)) (by kernel_rfl) (by simpa using hc) (fun hHeld => ?_)
          refine wpAnyH_take (i := 0) (oi := ⟨some 44, _, _, _, _, _⟩) (v := ?_) rfl (by kernel_rfl) (by kernel_rfl) (by kernel_rfl) (fun _ _ _ h => h) (Or.inl ⟨by rfl, ?_⟩) hHeld ?_
          rotate_left
          · (intro w hSw; have hSL := hSw; go_simp; try with_reducible rfl)
          try simp only [Act.put, List.setIfInBounds_toArray, List.set_cons_zero, List.set_cons_succ]
          refine wpAnyH_take (i := 1) (oi := ⟨some 45, _, _, _, _, _⟩) (v := ?_) rfl (by kernel_rfl) (by kernel_rfl) (by kernel_rfl) (fun _ _ _ h => h) (Or.inl ⟨by rfl, ?_⟩) hHeld ?_
          rotate_left
          · (intro w hSw; have hSL := hSw; go_simp; try with_reducible rfl)
          try simp only [Act.put, List.setIfInBounds_toArray, List.set_cons_zero, List.set_cons_succ]
          refine wpAnyH_take (i := 2) (oi := ⟨some 46, _, _, _, _, _⟩) (v := ?_) rfl (by kernel_rfl) (by kernel_rfl) (by kernel_rfl) (fun _ _ _ h => h) (Or.inl ⟨by rfl, ?_⟩) hHeld ?_
          rotate_left
          · (intro w hSw; have hSL := hSw; go_simp; try with_reducible rfl)
          try simp only [Act.put, List.setIfInBounds_toArray, List.set_cons_zero, List.set_cons_succ]
          refine wpAnyH_take (i := 3) (oi := ⟨some 47, _, _, _, _, _⟩) (v := ?_) rfl (by kernel_rfl) (by kernel_rfl) (by kernel_rfl) (fun _ _ _ h => h) (Or.inl ⟨by rfl, ?_⟩) hHeld ?_
          rotate_left
          · (intro w hSw; have hSL := hSw; go_simp; try with_reducible rfl)
          try simp only [Act.put, List.setIfInBounds_toArray, List.set_cons_zero, List.set_cons_succ]
          refine wpAnyH_take (i := 4) (oi := ⟨some 48, _, _, _, _, _⟩) (v := ?_) rfl (by kernel_rfl) (by kernel_rfl) (by kernel_rfl) (fun _ _ _ h => h) (Or.inl ⟨by rfl, ?_⟩) hHeld ?_
          rotate_left
          · (intro w hSw; have hSL := hSw; go_simp; try with_reducible rfl)
          try simp only [Act.put, List.setIfInBounds_toArray, List.set_cons_zero, List.set_cons_succ]
          refine wpAnyH_take (i := 5) (oi := ⟨some 49, _, _, _, _, _⟩) (v := ?_) rfl (by kernel_rfl) (by kernel_rfl) (by kernel_rfl) (fun _ _ _ h => h) (Or.inl ⟨by rfl, ?_⟩) hHeld ?_
          rotate_left
          · (intro w hSw; have hSL := hSw; go_simp; try with_reducible rfl)
          try simp only [Act.put, List.setIfInBounds_toArray, List.set_cons_zero, List.set_cons_succ]
          refine wpAnyH_take (i := 6) (oi := ⟨some 50, _, _, _, _, _⟩) (v := ?_) rfl (by kernel_rfl) (by kernel_rfl) (by kernel_rfl) (fun _ _ _ h => h) (Or.inl ⟨by rfl, ?_⟩) hHeld ?_
          rotate_left
          · (intro w hSw; have hSL := hSw; go_simp; try with_reducible rfl)
          try simp only [Act.put, List.setIfInBounds_toArray, List.set_cons_zero, List.set_cons_succ]
          refine wpAnyH_take (i := 7) (oi := ⟨some 51, _, _, _, _, _⟩) (v := ?_) rfl (by kernel_rfl) (by kernel_rfl) (by kernel_rfl) (fun _ _ _ h => h) (Or.inl ⟨by rfl, ?_⟩) hHeld ?_
          rotate_left
          · (intro w hSw; have hSL := hSw; go_simp; try with_reducible rfl)
          try simp only [Act.put, List.setIfInBounds_toArray, List.set_cons_zero, List.set_cons_succ]
          refine wpAnyH_take (i := 8) (oi := ⟨some 52, _, _, _, _, _⟩) (v := ?_) rfl (by kernel_rfl) (by kernel_rfl) (by kernel_rfl) (fun _ _ _ h => h) (Or.inl ⟨by rfl, ?_⟩) hHeld ?_
          rotate_left
          · (intro w hSw; have hSL := hSw; go_simp; try with_reducible rfl)
          try simp only [Act.put, List.setIfInBounds_toArray, List.set_cons_zero, List.set_cons_succ]
          refine wpAnyH_take (i := 9) (oi := ⟨some 53, _, _, _, _, _⟩) (v := ?_) rfl (by kernel_rfl) (by kernel_rfl) (by kernel_rfl) (fun _ _ _ h => h) (Or.inl ⟨by rfl, ?_⟩) hHeld ?_
          rotate_left
          · (intro w hSw; have hSL := hSw; go_simp; try with_reducible rfl)
          try simp only [Act.put, List.setIfInBounds_toArray, List.set_cons_zero, List.set_cons_succ]
          refine wpAnyH_take (i := 10) (oi := ⟨some 54, _, _, _, _, _⟩) (v := ?_) rfl (by kernel_rfl) (by kernel_rfl) (by kernel_rfl) (fun _ _ _ h => h) (Or.inl ⟨by rfl, ?_⟩) hHeld ?_
          rotate_left
          · (intro w hSw; have hSL := hSw; go_simp; try with_reducible rfl)
          try simp only [Act.put, List.setIfInBounds_toArray, List.set_cons_zero, List.set_cons_succ]
          refine wpAnyH_take (i := 12) (oi := ⟨some 56, _, _, _, _, _⟩) (v := ?_) rfl (by kernel_rfl) (by kernel_rfl) (by kernel_rfl) (fun _ _ _ h => h) (Or.inl ⟨by rfl, ?_⟩) hHeld ?_
          rotate_left
          · (intro w hSw; have hSL := hSw; go_simp; try with_reducible rfl)
          try simp only [Act.put, List.setIfInBounds_toArray, List.set_cons_zero, List.set_cons_succ]
          refine wpAnyH_ready (rs := [11, 13]) (by kernel_rfl) (by simp) ?_
          refine AllReadyH.cons (o := ⟨some 55, _, _, _, _, _⟩) rfl (fun K hK => ?_) (AllReadyH.cons (o := ⟨some 57, _, _, _, _, _⟩) rfl (fun K hK => ?_) AllReadyH.nil)
          · go_simp
            refine hK.out _ _ (by simpa using hc) (fun hHeld => ?_)
            clear hK K
            try simp only [Act.put, List.setIfInBounds_toArray, List.set_cons_zero, List.set_cons_succ]
            refine wpAnyH_ready (rs := [13]) (by kernel_rfl) (by simp) ?_
            refine AllReadyH.cons (o := ⟨some 57, _, _, _, _, _⟩) rfl (fun K hK => ?_) AllReadyH.nil
            go_simp
            refine hK.out _ _ (by exact hcA) (fun hHeld => ?_)
            clear hK K
            try simp only [Act.put, List.setIfInBounds_toArray, List.set_cons_zero, List.set_cons_succ]
            refine wpAnyH_ready (rs := [14]) (by kernel_rfl) (by simp) ?_
            refine AllReadyH.cons (o := ⟨some 58, _, _, _, _, _⟩) rfl (fun K hK => ?_) AllReadyH.nil
            (refine step_appM (by rfl) (.tmp 55) (.tmp 57) 40 (by rfl) 0 3 _ 1 8 Try.underlying40 int_info (by rfl) (by omega) (.slice p (Q[i]).length d) (Q[i]).length (ints Q[i]) (by rfl) (by exact hownA) (w.heap.size + 1) (some ⟨w.heap.size, 0, none⟩) 1 1 [.int .i64 o] (by rfl) rfl (by exact hnew) (by simp [Value.oneCell']) (by omega) (by omega) (Nat.zero_le _) ?_; intro v' w2 hown2 _ hat2 hgb2)
            refine hK.out _ _ (lock_cell hgb2 hcA hnL) (fun hHeld => ?_)
            clear hK K
            try simp only [Act.put, List.setIfInBounds_toArray, List.set_cons_zero, List.set_cons_succ]
            refine wpAnyH_take (i := 15) (oi := ⟨some 59, _, _, _, _, _⟩) (v := ?_) rfl (by kernel_rfl) (by kernel_rfl) (by kernel_rfl) (fun _ _ _ h => h) (Or.inl ⟨by rfl, ?_⟩) hHeld ?_
            rotate_left
            · (intro w hSw; have hSL := hSw; go_simp; try with_reducible rfl)
            try simp only [Act.put, List.setIfInBounds_toArray, List.set_cons_zero, List.set_cons_succ]
            have hA := lock_after hd hlen hi hv hgb2 hown2 hat2
            obtain ⟨p2, d2, rfl, _, _⟩ := own_shape hown2
            have hcell2 : w2.cell? ⟨g, i, none⟩ = some (.slice p (Q[i]).length d) := lock_cell hgb2 (by exact hqA) hng
            have hfr2 : w2.frozen? ⟨g, i, none⟩ = false := lock_frozen hgb2 (by exact hfA) hng (by have := hd.lt g hd.sg; simp; omega)
            refine wpAnyH_ready (rs := [16]) (by kernel_rfl) (by simp) ?_
            refine AllReadyH.cons (o := ⟨none, _, _, _, _, _⟩) rfl (fun K hK => ?_) AllReadyH.nil
            go_simp
            refine hK.out _ _ (lock_cell_set (lock_cell hgb2 hcA hnL) hd.ne) (fun hHeld => ?_)
            clear hK K
            try simp only [Act.put, List.setIfInBounds_toArray, List.set_cons_zero, List.set_cons_succ]
            refine wpAnyH_done (by kernel_rfl) ?_ _
            refine NoPanic.normal ?_
            go_wp2_with fail
            go_meet
            exact hA
          · go_simp
            refine hK.out _ _ (by exact hcA) (fun hHeld => ?_)
            clear hK K
            try simp only [Act.put, List.setIfInBounds_toArray, List.set_cons_zero, List.set_cons_succ]
            refine wpAnyH_ready (rs := [11]) (by kernel_rfl) (by simp) ?_
            refine AllReadyH.cons (o := ⟨some 55, _, _, _, _, _⟩) rfl (fun K hK => ?_) AllReadyH.nil
            go_simp
            refine hK.out _ _ (by exact hcA) (fun hHeld => ?_)
            clear hK K
            try simp only [Act.put, List.setIfInBounds_toArray, List.set_cons_zero, List.set_cons_succ]
            refine wpAnyH_ready (rs := [14]) (by kernel_rfl) (by simp) ?_
            refine AllReadyH.cons (o := ⟨some 58, _, _, _, _, _⟩) rfl (fun K hK => ?_) AllReadyH.nil
            (refine step_appM (by rfl) (.tmp 55) (.tmp 57) 40 (by rfl) 0 3 _ 1 8 Try.underlying40 int_info (by rfl) (by omega) (.slice p (Q[i]).length d) (Q[i]).length (ints Q[i]) (by rfl) (by exact hownA) (w.heap.size + 1) (some ⟨w.heap.size, 0, none⟩) 1 1 [.int .i64 o] (by rfl) rfl (by exact hnew) (by simp [Value.oneCell']) (by omega) (by omega) (Nat.zero_le _) ?_; intro v' w2 hown2 _ hat2 hgb2)
            refine hK.out _ _ (lock_cell hgb2 hcA hnL) (fun hHeld => ?_)
            clear hK K
            try simp only [Act.put, List.setIfInBounds_toArray, List.set_cons_zero, List.set_cons_succ]
            refine wpAnyH_take (i := 15) (oi := ⟨some 59, _, _, _, _, _⟩) (v := ?_) rfl (by kernel_rfl) (by kernel_rfl) (by kernel_rfl) (fun _ _ _ h => h) (Or.inl ⟨by rfl, ?_⟩) hHeld ?_
            rotate_left
            · (intro w hSw; have hSL := hSw; go_simp; try with_reducible rfl)
            try simp only [Act.put, List.setIfInBounds_toArray, List.set_cons_zero, List.set_cons_succ]
            have hA := lock_after hd hlen hi hv hgb2 hown2 hat2
            obtain ⟨p2, d2, rfl, _, _⟩ := own_shape hown2
            have hcell2 : w2.cell? ⟨g, i, none⟩ = some (.slice p (Q[i]).length d) := lock_cell hgb2 (by exact hqA) hng
            have hfr2 : w2.frozen? ⟨g, i, none⟩ = false := lock_frozen hgb2 (by exact hfA) hng (by have := hd.lt g hd.sg; simp; omega)
            refine wpAnyH_ready (rs := [16]) (by kernel_rfl) (by simp) ?_
            refine AllReadyH.cons (o := ⟨none, _, _, _, _, _⟩) rfl (fun K hK => ?_) AllReadyH.nil
            go_simp
            refine hK.out _ _ (lock_cell_set (lock_cell hgb2 hcA hnL) hd.ne) (fun hHeld => ?_)
            clear hK K
            try simp only [Act.put, List.setIfInBounds_toArray, List.set_cons_zero, List.set_cons_succ]
            refine wpAnyH_done (by kernel_rfl) ?_ _
            refine NoPanic.normal ?_
            go_wp2_with fail
            go_meet
            exact hA
        case rest =>
          have HE3 := Lib.hid (show lockB Q o i = decide ((Q[i]).length + 1 = 1) by
            rw [lockB, HE.out, queue_nat hi]; cases Q[i] <;> simp)
          have HE4 := Lib.hid (show lockQ Q o i = Q.set i (Q[i] ++ [o]) by rw [lockQ, if_pos HE.out, queue_nat hi]; simp)
          have HCUT := Lib.hid hcut
          obtain ⟨S', ⟨_, _, g', c', vs', hd'⟩, _⟩ := hcut
          have hi' : i < (Q.set i (Q[i] ++ [o])).length := by simpa using hi
          obtain ⟨p', d', _, hq', _, _, _, _, _⟩ := hd'.at_ hi'
          have hc' := hd'.cell
          simp only [List.getElem_set_self, List.length_append, List.length_cons, List.length_nil, List.length_set] at hq' hc'
          clear hd hd' hc hq hf hr hown hcA hqA hfA hownA hnew
          by_cases hz : (Q[i]).length = 0
          · have hz1 : (((Q[i]).length : Int) + 1 == 1) = true := by rw [beq_iff_eq]; omega
            have HZ := Lib.hid hz
            clear hz
            go_wp2_with fail
            go_ret2
            exact ⟨by rw [HE.out, HE3.out, HZ.out]; rfl, by rw [HE4.out]; exact HCUT.out⟩
          · have hz1 : (((Q[i]).length : Int) + 1 == 1) = false := by rw [beq_eq_false_iff_ne]; omega
            have HZ := Lib.hid hz
            clear hz
            go_wp2_with fail
            go_ret2
            exact ⟨by rw [HE.out, HE3.out, decide_eq_false (by have := HZ.out; omega)]; rfl, by rw [HE4.out]; exact HCUT.out⟩
  · have e1 : ownE Q o s = 2 := by rw [ownE, if_neg hok]
    have e2 : lockE Q o s = 2 := by rw [lockE, if_neg hok]
    have e3 : lockB Q o s = false := by rw [lockB, e2]; rfl
    have e4 : lockQ Q o s = Q := by rw [lockQ, if_neg (by rw [e2]; omega)]
    rw [e1] at HC
    rw [e2, e3, e4]
    have HP := LockW.same h
    clear e1 e2 e3 e4 hok h hs
    go_enter Try.func14, Try.ntmps14
    go_wp2_with fail
    refine HC.out.mono ?_
    rintro e w' ⟨rfl, rfl⟩
    go_wp2_with fail
    go_ret2
    exact ⟨rfl, HP⟩
end Go.Proofs.Ythjakgjpnijmlaa
