/- fresh: the state of a new stock. -/
import Derived.Test.YtdancoblphkakaaOfB
namespace Go.Proofs.Ytdancoblphkakaa
open Go.RowKit

theorem fr_swap {S : Nat → Prop} {w w1 : World} (o : Obj) (h : Fr S w w1) (hsz : w1.heap.size = w.heap.size) : Fr S (w.alloc o) (w1.alloc o) := by
  refine ⟨h.os, h.tape, h.output, by simp; omega, fun i hi hn => ?_⟩
  by_cases e : i < w.heap.size
  · rw [Below.heap_alloc w1 o i (by omega), Below.heap_alloc w o i e]
    exact h.block i e hn
  · have e2 : i = w.heap.size := by simp at hi; omega
    subst e2
    rw [heap_alloc_new w o, ← hsz, heap_alloc_new w1 o]
set_option maxHeartbeats 4000000 in
theorem fresh_any (n : Nat) (w : World) (h1 : 1 ≤ n) (h16 : n ≤ 16) : Calls Try.prog 28 #[.int .i64 n] w (RetOwnSt w (zerG n) (zer n)) := by
  have hmk2 := fun w => run_mk (P := Try.prog) 23 3 (.int .i64 0) 8 Try.underlying23 int_info rfl .i64 .i64 n (by omega) (by omega) (by omega) w
  obtain ⟨zs, hz⟩ : ∃ zs, List.replicate n (Value.int .i64 0) = zs := ⟨_, rfl⟩
  rw [Int.toNat_natCast, hz] at hmk2
  have HZ := Lib.hid (show ints (zer n) = zs by rw [← hz, ← zer_ints])
  have HLZ := Lib.hid (show zs.length = n by rw [← hz]; simp)
  have lG : (zerG n).length = n := by simp [zerG]
  have HLG := Lib.hid lG
  have HMK := Lib.hid hmk2
  have HGK := Lib.hid (show ∀ k (hk : k < (zerG n).length), (zerG n)[k] = zer n from fun k hk => by simp [zerG])
  have HLD := Lib.hid (show (zer n).length = n by simp [zer])
  have hn1 : (1 : Int) ≤ (n : Int) := by omega
  clear hz lG hmk2
  go_enter Try.func28, Try.ntmps28
  go_wp2_with fail
  generalize hW : (World.alloc _ _) = W
  have hWb : Below w.heap.size w W := by rw [← hW]; exact below2 w _ _
  have hBR : Blk W w.heap.size 25 [.slice none 0 0, .slice none 0 0] := by rw [← hW]; exact (Blk.new w 25 _).alloc _
  have hBO : Blk W (w.heap.size + 1) 25 [.slice none 0 0, .slice none 0 0] := by rw [← hW]; exact Blk.new' _ 25 _ (by simp)
  obtain ⟨R, hRe⟩ : ∃ Nb, w.heap.size = Nb := ⟨_, rfl⟩
  obtain ⟨Ob, hOe⟩ : ∃ Ob, R + 1 = Ob := ⟨_, rfl⟩
  have HRW := Lib.hid hRe
  have HRO := Lib.hid (show R < Ob by omega)
  have HWO := Lib.hid (show w.heap.size ≤ Ob by omega)
  rw [hRe] at hBR hBO ⊢
  rw [hOe] at hBO ⊢
  have HB := Lib.hid hWb
  have HBR := Lib.hid hBR
  have hP0 : OwnP (Ob + 1) W (.slice none 0 0) [] 0 (zerG n) := ⟨World.ownsRow_nil _ _ _ _, fun i h => by simp at h, fun i j h => by simp at h⟩
  have hI : Below Ob W W := Below.refl _ _
  clear hW hRe hOe hWb hBR
  go_wp2_with fail
  go_loopw [4] (fun i wr => ∃ (k : Nat) (v1 : Value) (vs : List Value), k ≤ n ∧ i = .int .i64 k ∧ Blk wr Ob 25 [v1, .slice none 0 0] ∧ OwnP (Ob + 1) wr v1 vs k (zerG n) ∧ Below Ob W wr) (fun i _ => n - (intOf i).toNat)
  case atStart => exact ⟨0, _, [], Nat.zero_le _, rfl, hBO, hP0, hI⟩
  case round =>
    clear hBO hP0 hI
    obtain ⟨k, v1, vs, hk, rfl, hBO, hP, hb⟩ := hrel
    by_cases hkn : k < n
    · have hki : (k : Int) < (n : Int) := by omega
      have lO := hBO.lt
      have o1 := hBO.cell 0
      have hBB3 : Below wr.heap.size wr (((wr.alloc (.cells zs.toArray 3))).alloc (.cells #[(.slice (some ⟨wr.heap.size, 0, none⟩) n n)] 23)).drew := (below2 wr _ _).drew
      have HBB3 := Lib.hid hBB3
      have HP3 := Lib.hid (hP.kept hBB3)
      have HB3 := Lib.hid (show Blk (((wr.alloc (.cells zs.toArray 3))).alloc (.cells #[(.slice (some ⟨wr.heap.size, 0, none⟩) n n)] 23)).drew (wr.heap.size + 1) 23 [(.slice (some ⟨wr.heap.size, 0, none⟩) n n)] from Blk.new' _ 23 _ (by simp))
      have hkG : k < (zerG n).length := by rw [HLG.out]; exact hkn
      have hown2 : (wr.alloc (.cells zs.toArray 3)).ownsRow wr.heap.size 3 1 (.slice (some ⟨wr.heap.size, 0, none⟩) n n) ((zerG n)[k]).length (ints (zerG n)[k]) := by
        rw [HGK.out k hkG, HLD.out, HZ.out]
        exact own_built (Blk.new wr 3 zs) (Nat.le_refl _) (by rw [HLZ.out, Nat.mul_one]) (by unfold maxLen; omega)
      have HSTEP := Lib.hid (show ∀ (w4 : World) (v3 : Value), w4.ownsRow (Ob + 1) 23 1 v3 (k + 1) (vs ++ [(.slice (some ⟨wr.heap.size, 0, none⟩) n n)]) → (((wr.alloc (.cells zs.toArray 3))).alloc (.cells #[(.slice (some ⟨wr.heap.size, 0, none⟩) n n)] 23)).grownBy w4 v1.ownBlock → OwnP (Ob + 1) w4 v3 (vs ++ [(.slice (some ⟨wr.heap.size, 0, none⟩) n n)]) (k + 1) (zerG n) from fun w4 v3 x3 x4 => hP.step hkG lO hown2 (below2 wr _ _) x3 x4)
      have hmk2 := HMK.out
      clear hBB3 hown2 hP
      go_upto_region 5 with fail
      refine wp_region_noPanic ?_
      refine wp_region_held_drew (S := fun _ => True) (by kernel_rfl) (trivial) (fun hHeld => ?_)
      refine wpAnyH_take (i := 0) (oi := ⟨some 10, _, _, _, _, _⟩) (v := ?_) rfl (by kernel_rfl) (by kernel_rfl) (by kernel_rfl) (fun _ _ _ h => h) (Or.inl ⟨by rfl, ?_⟩) hHeld ?_
      rotate_left
      · (intro w hSw; go_simp; try with_reducible rfl)
      try simp only [Act.put, List.setIfInBounds_toArray, List.set_cons_zero, List.set_cons_succ]
      refine wpAnyH_take (i := 2) (oi := ⟨some 12, _, _, _, _, _⟩) (v := ?_) rfl (by kernel_rfl) (by kernel_rfl) (by kernel_rfl) (fun _ _ _ h => h) (Or.inl ⟨by rfl, ?_⟩) hHeld ?_
      rotate_left
      · (intro w hSw; go_simp; try with_reducible rfl)
      try simp only [Act.put, List.setIfInBounds_toArray, List.set_cons_zero, List.set_cons_succ]
      refine wpAnyH_ready (rs := [1, 3]) (by kernel_rfl) (by simp) ?_
      refine (AllReadyH.cons (o := ⟨some 11, _, _, _, _, _⟩) rfl (fun K hK => ?_) (AllReadyH.cons (o := ⟨some 13, _, _, _, _, _⟩) rfl (fun K hK => ?_) AllReadyH.nil))
      · go_simp
        refine hK.out _ _ (trivial) (fun hHeld => ?_)
        clear hK K
        try simp only [Act.put, List.setIfInBounds_toArray, List.set_cons_zero, List.set_cons_succ]
        refine wpAnyH_ready (rs := [3]) (by kernel_rfl) (by simp) ?_
        refine (AllReadyH.cons (o := ⟨some 13, _, _, _, _, _⟩) rfl (fun K hK => ?_) AllReadyH.nil)
        go_simp
        refine hK.out _ _ (trivial) (fun hHeld => ?_)
        clear hK K
        try simp only [Act.put, List.setIfInBounds_toArray, List.set_cons_zero, List.set_cons_succ]
        refine wpAnyH_ready (rs := [4]) (by kernel_rfl) (by simp) ?_
        refine (AllReadyH.cons (o := ⟨some 14, _, _, _, _, _⟩) rfl (fun K hK => ?_) AllReadyH.nil)
        go_simp
        refine hK.out _ _ (trivial) (fun hHeld => ?_)
        clear hK K
        try simp only [Act.put, List.setIfInBounds_toArray, List.set_cons_zero, List.set_cons_succ]
        refine wpAnyH_ready (rs := [5]) (by kernel_rfl) (by simp) ?_
        refine (AllReadyH.cons (o := ⟨some 15, _, _, _, _, _⟩) rfl (fun K hK => ?_) AllReadyH.nil)
        (refine step_appS (by rfl) (.tmp 11) (.tmp 14) 22 (by rfl) (Ob + 1) 23 _ 1 24 Try.underlying22 sl_info (by rfl) (by omega) v1 k vs (by rfl) (by exact HP3.out.g) (wr.heap.size + 1) [(.slice (some ⟨wr.heap.size, 0, none⟩) n n)] rfl (by exact HB3.out) (fun u hu => by simp at hu; subst hu; rfl) (by rfl) (by omega) (by omega) (by exact Nat.le_trans lO HBB3.out.size) ?_; intro v3 w4 hown4 hb4 _ hg4)
        obtain ⟨vp3, vc3, hv3, _, _⟩ := own_shape hown4
        subst hv3
        have hP4 := HSTEP.out w4 (.slice vp3 (k + 1) vc3) hown4 ⟨hg4.os, hg4.tape, hg4.output, hg4.size, hg4.block⟩
        have hb5 : Below Ob W w4 := (hb.trans (HBB3.out.mono (Nat.le_of_lt lO))).trans (hb4.mono (Nat.le_succ Ob))
        have hO4 : Blk w4 Ob 25 [v1, .slice none 0 0] := (hBO.kept HBB3.out).below hb4 (Nat.lt_succ_self Ob)
        have hO5 := hO4.set_ 0 (.slice vp3 (k + 1) vc3)
        have hb6 := hb5.setCell (p := ⟨Ob, 0, none⟩) (Nat.le_refl Ob) (.slice vp3 (k + 1) vc3)
        have o4 := hO4.cell 0
        have f4 := hO4.free 0
        have HP5 := Lib.hid (hP4.put (p := ⟨Ob, 0, none⟩) (Nat.lt_succ_self Ob) (.slice vp3 (k + 1) vc3))
        have HO5 := Lib.hid hO5
        have HB6 := Lib.hid hb6
        clear hO4 hO5 hP4 hb5 hb6 hown4 hg4
        refine hK.out _ _ (trivial) (fun hHeld => ?_)
        clear hK K
        try simp only [Act.put, List.setIfInBounds_toArray, List.set_cons_zero, List.set_cons_succ]
        refine wpAnyH_take (i := 6) (oi := ⟨some 16, _, _, _, _, _⟩) (v := ?_) rfl (by kernel_rfl) (by kernel_rfl) (by kernel_rfl) (fun _ _ _ h => h) (Or.inl ⟨by rfl, ?_⟩) hHeld ?_
        rotate_left
        · (intro w hSw; go_simp; try with_reducible rfl)
        try simp only [Act.put, List.setIfInBounds_toArray, List.set_cons_zero, List.set_cons_succ]
        refine wpAnyH_ready (rs := [7]) (by kernel_rfl) (by simp) ?_
        refine (AllReadyH.cons (o := ⟨none, _, _, _, _, _⟩) rfl (fun K hK => ?_) AllReadyH.nil)
        go_simp
        refine hK.out _ _ (trivial) (fun hHeld => ?_)
        clear hK K
        try simp only [Act.put, List.setIfInBounds_toArray, List.set_cons_zero, List.set_cons_succ]
        refine wpAnyH_done (by kernel_rfl) ?_ _
        refine NoPanic.normal ?_
        clear o4 f4 o1 hb4 hBO hb hmk2
        go_wp2_with fail
        go_roundw
        case rel => exact ⟨k + 1, _, _, by omega, by go_num, HO5.out, HP5.out, HB6.out⟩
        case measure => simp [intOf]; omega
      · go_simp
        refine hK.out _ _ (trivial) (fun hHeld => ?_)
        clear hK K
        try simp only [Act.put, List.setIfInBounds_toArray, List.set_cons_zero, List.set_cons_succ]
        refine wpAnyH_ready (rs := [1, 4]) (by kernel_rfl) (by simp) ?_
        refine (AllReadyH.cons (o := ⟨some 11, _, _, _, _, _⟩) rfl (fun K hK => ?_) (AllReadyH.cons (o := ⟨some 14, _, _, _, _, _⟩) rfl (fun K hK => ?_) AllReadyH.nil))
        · go_simp
          refine hK.out _ _ (trivial) (fun hHeld => ?_)
          clear hK K
          try simp only [Act.put, List.setIfInBounds_toArray, List.set_cons_zero, List.set_cons_succ]
          refine wpAnyH_ready (rs := [4]) (by kernel_rfl) (by simp) ?_
          refine (AllReadyH.cons (o := ⟨some 14, _, _, _, _, _⟩) rfl (fun K hK => ?_) AllReadyH.nil)
          go_simp
          refine hK.out _ _ (trivial) (fun hHeld => ?_)
          clear hK K
          try simp only [Act.put, List.setIfInBounds_toArray, List.set_cons_zero, List.set_cons_succ]
          refine wpAnyH_ready (rs := [5]) (by kernel_rfl) (by simp) ?_
          refine (AllReadyH.cons (o := ⟨some 15, _, _, _, _, _⟩) rfl (fun K hK => ?_) AllReadyH.nil)
          (refine step_appS (by rfl) (.tmp 11) (.tmp 14) 22 (by rfl) (Ob + 1) 23 _ 1 24 Try.underlying22 sl_info (by rfl) (by omega) v1 k vs (by rfl) (by exact HP3.out.g) (wr.heap.size + 1) [(.slice (some ⟨wr.heap.size, 0, none⟩) n n)] rfl (by exact HB3.out) (fun u hu => by simp at hu; subst hu; rfl) (by rfl) (by omega) (by omega) (by exact Nat.le_trans lO HBB3.out.size) ?_; intro v3 w4 hown4 hb4 _ hg4)
          obtain ⟨vp3, vc3, hv3, _, _⟩ := own_shape hown4
          subst hv3
          have hP4 := HSTEP.out w4 (.slice vp3 (k + 1) vc3) hown4 ⟨hg4.os, hg4.tape, hg4.output, hg4.size, hg4.block⟩
          have hb5 : Below Ob W w4 := (hb.trans (HBB3.out.mono (Nat.le_of_lt lO))).trans (hb4.mono (Nat.le_succ Ob))
          have hO4 : Blk w4 Ob 25 [v1, .slice none 0 0] := (hBO.kept HBB3.out).below hb4 (Nat.lt_succ_self Ob)
          have hO5 := hO4.set_ 0 (.slice vp3 (k + 1) vc3)
          have hb6 := hb5.setCell (p := ⟨Ob, 0, none⟩) (Nat.le_refl Ob) (.slice vp3 (k + 1) vc3)
          have o4 := hO4.cell 0
          have f4 := hO4.free 0
          have HP5 := Lib.hid (hP4.put (p := ⟨Ob, 0, none⟩) (Nat.lt_succ_self Ob) (.slice vp3 (k + 1) vc3))
          have HO5 := Lib.hid hO5
          have HB6 := Lib.hid hb6
          clear hO4 hO5 hP4 hb5 hb6 hown4 hg4
          refine hK.out _ _ (trivial) (fun hHeld => ?_)
          clear hK K
          try simp only [Act.put, List.setIfInBounds_toArray, List.set_cons_zero, List.set_cons_succ]
          refine wpAnyH_take (i := 6) (oi := ⟨some 16, _, _, _, _, _⟩) (v := ?_) rfl (by kernel_rfl) (by kernel_rfl) (by kernel_rfl) (fun _ _ _ h => h) (Or.inl ⟨by rfl, ?_⟩) hHeld ?_
          rotate_left
          · (intro w hSw; go_simp; try with_reducible rfl)
          try simp only [Act.put, List.setIfInBounds_toArray, List.set_cons_zero, List.set_cons_succ]
          refine wpAnyH_ready (rs := [7]) (by kernel_rfl) (by simp) ?_
          refine (AllReadyH.cons (o := ⟨none, _, _, _, _, _⟩) rfl (fun K hK => ?_) AllReadyH.nil)
          go_simp
          refine hK.out _ _ (trivial) (fun hHeld => ?_)
          clear hK K
          try simp only [Act.put, List.setIfInBounds_toArray, List.set_cons_zero, List.set_cons_succ]
          refine wpAnyH_done (by kernel_rfl) ?_ _
          refine NoPanic.normal ?_
          clear o4 f4 o1 hb4 hBO hb hmk2
          go_wp2_with fail
          go_roundw
          case rel => exact ⟨k + 1, _, _, by omega, by go_num, HO5.out, HP5.out, HB6.out⟩
          case measure => simp [intOf]; omega
        · go_simp
          refine hK.out _ _ (trivial) (fun hHeld => ?_)
          clear hK K
          try simp only [Act.put, List.setIfInBounds_toArray, List.set_cons_zero, List.set_cons_succ]
          refine wpAnyH_ready (rs := [1]) (by kernel_rfl) (by simp) ?_
          refine (AllReadyH.cons (o := ⟨some 11, _, _, _, _, _⟩) rfl (fun K hK => ?_) AllReadyH.nil)
          go_simp
          refine hK.out _ _ (trivial) (fun hHeld => ?_)
          clear hK K
          try simp only [Act.put, List.setIfInBounds_toArray, List.set_cons_zero, List.set_cons_succ]
          refine wpAnyH_ready (rs := [5]) (by kernel_rfl) (by simp) ?_
          refine (AllReadyH.cons (o := ⟨some 15, _, _, _, _, _⟩) rfl (fun K hK => ?_) AllReadyH.nil)
          (refine step_appS (by rfl) (.tmp 11) (.tmp 14) 22 (by rfl) (Ob + 1) 23 _ 1 24 Try.underlying22 sl_info (by rfl) (by omega) v1 k vs (by rfl) (by exact HP3.out.g) (wr.heap.size + 1) [(.slice (some ⟨wr.heap.size, 0, none⟩) n n)] rfl (by exact HB3.out) (fun u hu => by simp at hu; subst hu; rfl) (by rfl) (by omega) (by omega) (by exact Nat.le_trans lO HBB3.out.size) ?_; intro v3 w4 hown4 hb4 _ hg4)
          obtain ⟨vp3, vc3, hv3, _, _⟩ := own_shape hown4
          subst hv3
          have hP4 := HSTEP.out w4 (.slice vp3 (k + 1) vc3) hown4 ⟨hg4.os, hg4.tape, hg4.output, hg4.size, hg4.block⟩
          have hb5 : Below Ob W w4 := (hb.trans (HBB3.out.mono (Nat.le_of_lt lO))).trans (hb4.mono (Nat.le_succ Ob))
          have hO4 : Blk w4 Ob 25 [v1, .slice none 0 0] := (hBO.kept HBB3.out).below hb4 (Nat.lt_succ_self Ob)
          have hO5 := hO4.set_ 0 (.slice vp3 (k + 1) vc3)
          have hb6 := hb5.setCell (p := ⟨Ob, 0, none⟩) (Nat.le_refl Ob) (.slice vp3 (k + 1) vc3)
          have o4 := hO4.cell 0
          have f4 := hO4.free 0
          have HP5 := Lib.hid (hP4.put (p := ⟨Ob, 0, none⟩) (Nat.lt_succ_self Ob) (.slice vp3 (k + 1) vc3))
          have HO5 := Lib.hid hO5
          have HB6 := Lib.hid hb6
          clear hO4 hO5 hP4 hb5 hb6 hown4 hg4
          refine hK.out _ _ (trivial) (fun hHeld => ?_)
          clear hK K
          try simp only [Act.put, List.setIfInBounds_toArray, List.set_cons_zero, List.set_cons_succ]
          refine wpAnyH_take (i := 6) (oi := ⟨some 16, _, _, _, _, _⟩) (v := ?_) rfl (by kernel_rfl) (by kernel_rfl) (by kernel_rfl) (fun _ _ _ h => h) (Or.inl ⟨by rfl, ?_⟩) hHeld ?_
          rotate_left
          · (intro w hSw; go_simp; try with_reducible rfl)
          try simp only [Act.put, List.setIfInBounds_toArray, List.set_cons_zero, List.set_cons_succ]
          refine wpAnyH_ready (rs := [7]) (by kernel_rfl) (by simp) ?_
          refine (AllReadyH.cons (o := ⟨none, _, _, _, _, _⟩) rfl (fun K hK => ?_) AllReadyH.nil)
          go_simp
          refine hK.out _ _ (trivial) (fun hHeld => ?_)
          clear hK K
          try simp only [Act.put, List.setIfInBounds_toArray, List.set_cons_zero, List.set_cons_succ]
          refine wpAnyH_done (by kernel_rfl) ?_ _
          refine NoPanic.normal ?_
          clear o4 f4 o1 hb4 hBO hb hmk2
          go_wp2_with fail
          go_roundw
          case rel => exact ⟨k + 1, _, _, by omega, by go_num, HO5.out, HP5.out, HB6.out⟩
          case measure => simp [intOf]; omega
    · have hkn2 : k = n := by omega
      subst hkn2
      have lO := hBO.lt
      have hBR := HBR.out.below hb HRO.out
      have HLO := Lib.hid lO
      have HBO := Lib.hid hBO
      have HBR2 := Lib.hid hBR
      have HP := Lib.hid hP
      have HBW := Lib.hid (hb)
      obtain ⟨p1, c1', rfl, _, _⟩ := own_shape hP.g
      have o0 := hBO.cell 0
      have o1 := hBO.cell 1
      have f1 := hBO.free 1
      have r0 := hBR.cell 0
      have r1 := hBR.cell 1
      have g0 := hBR.free 0
      have g1 := hBR.free 1
      have lR := hBR.lt
      have hne : R ≠ Ob := by have := HRO.out; omega
      have hne2 : Ob ≠ R := by omega
      have hmk2 := HMK.out
      clear hP hb hBR hBO
      go_wp2_with fail
      try simp only [Exit.inBlock, Exit.then]
      have hb2 : Below wr.heap.size wr (wr.alloc (.cells zs.toArray 3)) := (Below.refl _ _).alloc (Nat.le_refl _) _
      have HZC := (((HBR2.out.far (p := ⟨Ob, 1, none⟩) hne (.slice (some ⟨wr.heap.size, 0, none⟩) k k)).set_ 0 (.slice p1 k c1')).set_ 1 (.slice (some ⟨wr.heap.size, 0, none⟩) k k)).alloc (.cells zs.toArray 3)
      have HZD : Blk _ R 25 [.slice p1 k c1', .slice (some ⟨wr.heap.size, 0, none⟩) k k] := HZC
      refine bodyPost_ret (results_cell_row rfl _ _ R 25 _ (0, 0) _ (by rfl) HZD Try.underlying25 (by rfl) (by kernel_rfl)) rfl ?_
      have h2 := HRO.out
      have h3 := HRW.out
      have hF0 : Fr (fun b => b < Ob + 1) wr (((wr.setCell ⟨Ob, 1, none⟩ (.slice (some ⟨wr.heap.size, 0, none⟩) k k)).setCell ⟨R, 0, none⟩ (.slice p1 k c1')).setCell ⟨R, 1, none⟩ (.slice (some ⟨wr.heap.size, 0, none⟩) k k)) :=
        (((Fr.refl _ _).set _ _ (.inl (Nat.lt_succ_self Ob))).set _ _ (.inl (by simp only; omega))).set _ _ (.inl (by simp only; omega))
      have hF := fr_swap (.cells zs.toArray 3) hF0 (by simp)
      have hown2 : (wr.alloc (.cells zs.toArray 3)).ownsRow wr.heap.size 3 1 (.slice (some ⟨wr.heap.size, 0, none⟩) k k) (zer k).length (ints (zer k)) := by
        rw [HLD.out, HZ.out]
        exact own_built (Blk.new wr 3 zs) (Nat.le_refl _) (by rw [HLZ.out, Nat.mul_one]) (by unfold maxLen; omega)
      have hPG : OwnP (Ob + 1) wr (.slice p1 k c1') vs (zerG k).length (zerG k) := by rw [HLG.out]; exact HP.out
      refine ⟨_, _, vs, rfl, hPG.done HBW.out HLO.out HWO.out hown2 hb2 _ hF, ?_⟩
      have hA : Below w.heap.size w wr := HB.out.trans (HBW.out.mono HWO.out)
      exact (((hA.setCell (p := ⟨Ob, 1, none⟩) (by simp only; omega) _).setCell (p := ⟨R, 0, none⟩) (by simp only; omega) _).setCell (p := ⟨R, 1, none⟩) (by simp only; omega) _).alloc (by have := hA.size; simp; omega) _
end Go.Proofs.Ytdancoblphkakaa
