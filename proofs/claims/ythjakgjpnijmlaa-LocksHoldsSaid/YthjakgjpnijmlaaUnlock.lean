/- Unlock: what it answers and what becomes of the locks. -/
import Derived.Test.YthjakgjpnijmlaaLock
namespace Go.Proofs.Ythjakgjpnijmlaa
open Go.RowKit

set_option maxRecDepth 100000 in
set_option maxHeartbeats 4000000 in
theorem unlock_any {w : World} {L : Nat} {S : Nat → Prop} {Q : List (List Int)} (o s : Int) (h : LK w L S Q) (hs : ∀ q ∈ Q, q.length ≤ 100000) :
    Calls Try.prog 15 #[.pointer (some ⟨L, 0, none⟩), .int .i64 o, .int .i64 s] w fun e w' => e = .returned (.tuple #[.int .i64 (unN Q o s), .int .i64 (unE Q o s)]) ∧ LockW w w' L S (unQ Q o s) := by
  have HC := Lib.hid (owned_any o s h)
  have HN := Lib.hid h
  by_cases hok : okS Q s = true ∧ okO o = true
  · have e1 : ownE Q o s = 0 := by rw [ownE, if_pos hok]
    rw [e1] at HC
    clear e1
    have HK := Lib.hid hok
    obtain ⟨i, rfl, hi⟩ := okS_nat hok.1
    clear hok
    have HS := Lib.hid hs
    clear hs
    have hlq := HS.out Q[i] (List.getElem_mem hi)
    have HU := Lib.hid (show unE Q o i = if (Q[i]).head? = some o then 0 else 8 by rw [unE, if_pos HK.out, queue_nat hi])
    have HP := LockW.same h
    obtain ⟨h0, h1, g, c, vs, hd⟩ := h
    have hc := hd.cell
    obtain ⟨hc1, hc2⟩ := hd.cap
    have hi2 : (i : Int) < (Q.length : Int) := by omega
    have hlen : 0 < Q.length ∧ Q.length ≤ 1024 := ⟨h0, h1⟩
    obtain ⟨p, d, hv, hq, hf, hr, hd1, hd2, hown⟩ := hd.at_ hi
    have HQI := Lib.hid (show queue Q i = Q[i] from queue_nat hi)
    obtain ⟨q, hQ⟩ : ∃ q, Q[i] = q := ⟨_, rfl⟩
    rw [hQ] at hv hq hr hd1 hown HU hlq HQI
    clear hQ
    cases q with
    | nil =>
      have e1 : unE Q o i = 8 := by rw [HU.out]; rfl
      have e2 : unN Q o i = 0 := by rw [unN, if_neg (by rw [e1]; omega)]
      have e3 : unQ Q o i = Q := by rw [unQ, if_neg (by rw [e1]; omega)]
      rw [e1, e2, e3]
      clear e1 e2 e3 hd hown
      go_enter Try.func15, Try.ntmps15
      go_wp2_with fail
      refine HC.out.mono ?_
      rintro e w' ⟨rfl, rfl⟩
      go_wp2_with fail
      go_ret2
      exact ⟨rfl, HP⟩
    | cons y l =>
      obtain ⟨b, o', rfl, _, hy⟩ := hr.int (k := 0) (by simp)
      simp only [List.getElem_cons_zero, Nat.add_zero] at hy
      have hn : (((y :: l).length : Int) == 0) = false := by rw [beq_eq_false_iff_ne]; simp; omega
      have hn2 : (0 : Int) < ((y :: l).length : Int) := by simp only [List.length_cons]; omega
      by_cases he : y = o
      · subst he
        have e1 : unE Q y i = 0 := by rw [HU.out]; simp
        have e2 : unN Q y i = l.headD 0 := by rw [unN, if_pos e1, HQI.out]; rfl
        have e3 : unQ Q y i = Q.set i l := by rw [unQ, if_pos e1, HQI.out]; simp
        rw [e1, e2, e3]
        clear e1 e2 e3 HU
        obtain ⟨o, ho⟩ : ∃ o, o = y := ⟨y, rfl⟩
        subst ho
        have hb2 : (o != o) = false := by simp
        have hn3 : (1 : Int) ≤ ((o :: l).length : Int) := by simp only [List.length_cons]; omega
        have hn4 : ((o :: l).length : Int) ≤ (d : Int) := by omega
        have hn5 : (1 : Int) ≤ (d : Int) := by omega
        have HL1 := Lib.hid (show (o :: l).length - 1 = l.length by simp)
        have hRt : Rd w w.heap.size (if d = 1 then some ⟨b, o', none⟩ else some ⟨b, o' + 1, none⟩) (ints l) := by
          split
          · rename_i h1
            subst h1
            have : l = [] := by simpa using hd1
            subst this
            exact .inl rfl
          · have := hr.part 1
            simpa [ints] using this
        obtain ⟨P, hif⟩ : ∃ P : Option Addr, (if d = 1 then some ⟨b, o', none⟩ else some ⟨b, o' + 1, none⟩) = P := ⟨_, rfl⟩
        rw [hif] at hRt
        have hll : l.length ≤ 100000 := by simp only [List.length_cons] at hlq; omega
        have HZ := Lib.hid (show holdN (Q.set i l) i = l.headD 0 ∧ holdE (Q.set i l) i = 0 by
          have h2 : okS (Q.set i l) i = true := okS_of (by simpa using hi)
          rw [holdN, holdE, if_pos h2, if_pos h2, queue_nat (by simpa using hi)]; simp)
        unfold maxLen at hd2
        generalize hyl : (o :: l).length = yl at *
        go_enter Try.func15, Try.ntmps15
        go_wp2_with fail
        refine HC.out.mono ?_
        rintro e w' ⟨rfl, rfl⟩
        go_upto_region 7 with fail
        go_cut [] (fun wx => LockW w wx L S (Q.set i l))
        case first =>
          rw [← hyl] at hq
          refine wp_region_noPanic ?_
          refine wp_region_held_drew (S := fun w' => w'.cell? ⟨L, 0, none⟩ = some (.slice (some ⟨g, 0, none⟩) Q.length c)) (by kernel_rfl) (by simpa using hc) (fun hHeld => ?_)
          refine wpAnyH_take (i := 0) (oi := ⟨some 34, _, _, _, _, _⟩) (v := ?_) rfl (by kernel_rfl) (by kernel_rfl) (by kernel_rfl) (fun _ _ _ h => h) (Or.inl ⟨by rfl, ?_⟩) hHeld ?_
          rotate_left
          · (intro w hSw; have hSL := hSw; go_simp; try with_reducible rfl)
          try simp only [Act.put, List.setIfInBounds_toArray, List.set_cons_zero, List.set_cons_succ]
          refine wpAnyH_take (i := 1) (oi := ⟨some 35, _, _, _, _, _⟩) (v := ?_) rfl (by kernel_rfl) (by kernel_rfl) (by kernel_rfl) (fun _ _ _ h => h) (Or.inl ⟨by rfl, ?_⟩) hHeld ?_
          rotate_left
          · (intro w hSw; have hSL := hSw; go_simp; try with_reducible rfl)
          try simp only [Act.put, List.setIfInBounds_toArray, List.set_cons_zero, List.set_cons_succ]
          refine wpAnyH_take (i := 2) (oi := ⟨some 36, _, _, _, _, _⟩) (v := ?_) rfl (by kernel_rfl) (by kernel_rfl) (by kernel_rfl) (fun _ _ _ h => h) (Or.inl ⟨by rfl, ?_⟩) hHeld ?_
          rotate_left
          · (intro w hSw; have hSL := hSw; go_simp; try with_reducible rfl)
          try simp only [Act.put, List.setIfInBounds_toArray, List.set_cons_zero, List.set_cons_succ]
          refine wpAnyH_take (i := 3) (oi := ⟨some 37, _, _, _, _, _⟩) (v := ?_) rfl (by kernel_rfl) (by kernel_rfl) (by kernel_rfl) (fun _ _ _ h => h) (Or.inl ⟨by rfl, ?_⟩) hHeld ?_
          rotate_left
          · (intro w hSw; have hSL := hSw; go_simp; try with_reducible rfl)
          try simp only [Act.put, List.setIfInBounds_toArray, List.set_cons_zero, List.set_cons_succ]
          refine wpAnyH_take (i := 4) (oi := ⟨some 38, _, _, _, _, _⟩) (v := ?_) rfl (by kernel_rfl) (by kernel_rfl) (by kernel_rfl) (fun _ _ _ h => h) (Or.inl ⟨by rfl, ?_⟩) hHeld ?_
          rotate_left
          · (intro w hSw; have hSL := hSw; go_simp; try with_reducible rfl)
          try simp only [Act.put, List.setIfInBounds_toArray, List.set_cons_zero, List.set_cons_succ]
          refine wpAnyH_take (i := 5) (oi := ⟨some 39, _, _, _, _, _⟩) (v := ?_) rfl (by kernel_rfl) (by kernel_rfl) (by kernel_rfl) (fun _ _ _ h => h) (Or.inl ⟨by rfl, ?_⟩) hHeld ?_
          rotate_left
          · (intro w hSw; have hSL := hSw; go_simp; try with_reducible rfl)
          try simp only [Act.put, List.setIfInBounds_toArray, List.set_cons_zero, List.set_cons_succ]
          refine wpAnyH_take (i := 6) (oi := ⟨some 40, _, _, _, _, _⟩) (v := ?_) rfl (by kernel_rfl) (by kernel_rfl) (by kernel_rfl) (fun _ _ _ h => h) (Or.inl ⟨by rfl, ?_⟩) hHeld ?_
          rotate_left
          · (intro w hSw; have hSL := hSw; go_simp; try with_reducible rfl)
          try simp only [Act.put, List.setIfInBounds_toArray, List.set_cons_zero, List.set_cons_succ]
          refine wpAnyH_ready (rs := [7]) (by kernel_rfl) (by simp) ?_
          refine AllReadyH.cons (o := ⟨some 41, _, _, _, _, _⟩) rfl (fun K hK => ?_) AllReadyH.nil
          go_simp
          (rw [HL1.out]; refine (clone_any _ l.length _ (ints l) _ (by exact hRt) (ints_len l) (ints_one l) (by omega)).mono ?_; rintro e w2 ⟨v', rfl, hown2, hb2⟩)
          refine hK.out _ _ ((hb2.cell (p := ⟨L, 0, none⟩) (hd.lt L hd.sL)).trans hc) (fun hHeld => ?_)
          clear hK K
          try simp only [Act.put, List.setIfInBounds_toArray, List.set_cons_zero, List.set_cons_succ]
          refine wpAnyH_take (i := 8) (oi := ⟨some 42, _, _, _, _, _⟩) (v := ?_) rfl (by kernel_rfl) (by kernel_rfl) (by kernel_rfl) (fun _ _ _ h => h) (Or.inl ⟨by rfl, ?_⟩) hHeld ?_
          rotate_left
          · (intro w hSw; have hSL := hSw; go_simp; try with_reducible rfl)
          try simp only [Act.put, List.setIfInBounds_toArray, List.set_cons_zero, List.set_cons_succ]
          have hb2' : Below w.heap.size w w2 := ((Below.refl _ _).drew).trans hb2
          have hA := hd.put hlen hi hv (Fr.of_below hb2' _) (v' := v') (q' := l) (own_mono hown2 (Nat.zero_le _)) (fun k hk => .inr (own_lt hown2 k hk).1)
          obtain ⟨p2, d2, rfl, _, _⟩ := own_shape hown2
          have hcell2 : w2.cell? ⟨g, i, none⟩ = some (.slice (some ⟨b, o', none⟩) (o :: l).length d) := (hb2'.cell (p := ⟨g, i, none⟩) (hd.lt g hd.sg)).trans hq
          have hfr2 : w2.frozen? ⟨g, i, none⟩ = false := (hb2'.frozen (p := ⟨g, i, none⟩) (hd.lt g hd.sg)).trans hf
          refine wpAnyH_ready (rs := [9]) (by kernel_rfl) (by simp) ?_
          refine AllReadyH.cons (o := ⟨none, _, _, _, _, _⟩) rfl (fun K hK => ?_) AllReadyH.nil
          go_simp
          refine hK.out _ _ (lock_cell_set ((hb2'.cell (p := ⟨L, 0, none⟩) (hd.lt L hd.sL)).trans hc) hd.ne) (fun hHeld => ?_)
          clear hK K
          try simp only [Act.put, List.setIfInBounds_toArray, List.set_cons_zero, List.set_cons_succ]
          refine wpAnyH_done (by kernel_rfl) ?_ _
          refine NoPanic.normal ?_
          go_wp2_with fail
          go_meet
          exact hA
        case rest =>
          have HCUT := Lib.hid hcut
          obtain ⟨S', hLK, _⟩ := hcut
          go_wp2_with fail
          refine (holder_any i hLK).mono ?_
          rintro e w' ⟨rfl, rfl⟩
          rw [HZ.out.1, HZ.out.2]
          go_wp2_with fail
          go_ret2
          exact ⟨by rw [List.headD_eq_head?_getD]; rfl, HCUT.out⟩
      · have hb2 : (y != o) = true := by rw [bne_iff_ne]; exact he
        have e1 : unE Q o i = 8 := by rw [HU.out, if_neg]; simpa using he
        have e2 : unN Q o i = 0 := by rw [unN, if_neg (by rw [e1]; omega)]
        have e3 : unQ Q o i = Q := by rw [unQ, if_neg (by rw [e1]; omega)]
        rw [e1, e2, e3]
        generalize y :: l = yl at *
        clear e1 e2 e3 he hd hown
        go_enter Try.func15, Try.ntmps15
        go_wp2_with fail
        refine HC.out.mono ?_
        rintro e w' ⟨rfl, rfl⟩
        go_wp2_with fail
        go_ret2
        exact ⟨rfl, HP⟩
  · have e1 : ownE Q o s = 2 := by rw [ownE, if_neg hok]
    have e2 : unE Q o s = 2 := by rw [unE, if_neg hok]
    have e3 : unN Q o s = 0 := by rw [unN, e2]; rfl
    have e4 : unQ Q o s = Q := by rw [unQ, if_neg (by rw [e2]; omega)]
    rw [e1] at HC
    rw [e2, e3, e4]
    have HP := LockW.same h
    clear e1 e2 e3 e4 hok h hs
    go_enter Try.func15, Try.ntmps15
    go_wp2_with fail
    refine HC.out.mono ?_
    rintro e w' ⟨rfl, rfl⟩
    go_wp2_with fail
    go_ret2
    exact ⟨rfl, HP⟩
end Go.Proofs.Ythjakgjpnijmlaa
