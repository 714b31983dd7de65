/- Next, Turns. -/
import Derived.Test.YtfidnecdojgkjaaOld
namespace Go.Proofs.Ytfidnecdojgkjaa
open Go.RowKit
/-- What Next has brought about. -/
theorem next_end {w w2 w5 : World} {R b c : Nat} {q : Option Addr} {kind z : Int} {nums L : List Int} (h : SS w R b q c kind nums L) (hb : Below w.heap.size w w2) (hf : Fr (fun x => x = R ∨ x = b) w2 w5)
    (hB : Blk w5 R 66 [.int .i64 kind, .slice q nums.length c, .int .i64 ((L.length : Int) + 1), .int .i64 z, .map (some b)]) (hm : Mp w5 b (L.length + 1) (upd (whenF L) z (.int .i64 ((L.length : Int) + 1)))) : SStep w w5 R b q c kind nums (L ++ [z]) := by
  have hF : Fr (fun x => x = R ∨ x = b) w w5 := Fr.first hb hf
  refine ⟨⟨?_, ?_, ?_, h.rb, fun a ha => ⟨(h.ne a ha).1, Nat.lt_of_lt_of_le (h.ne a ha).2 hF.size⟩, h.ok⟩, hF⟩
  · rw [lastP_snoc, List.length_append]
    exact hB
  · exact h.rd.fr hF (fun a ha hx => by
      have := (h.ne a ha).1
      rcases hx with e | e
      · exact this.1 e
      · exact this.2 e)
  · rw [List.length_append, ← whenF_snoc]
    exact hm
section
variable {w : World} {R b c : Nat} {q : Option Addr} {kind : Int} {nums L : List Int}
set_option maxRecDepth 100000 in
set_option maxHeartbeats 4000000 in
theorem next_any (h : SS w R b q c kind nums L) (hL : L.length ≤ 1000000) (p : Option Addr) (d : Nat) (l : List Int) (hl : Rd w w.heap.size p (ints l)) (h1 : l.length ≤ 1000000) :
    Calls Try.prog 22 #[.pointer (some ⟨R, 0, none⟩), .slice p l.length d] w fun e w' => e = .returned (.tuple #[.int .i64 (nxT kind nums L l), .int .i64 (nxE l)]) ∧ SStep w w' R b q c kind nums (nxL kind nums L l) := by
  have hk0 : (kind == 0) = false := by rw [beq_eq_false_iff_ne]; have := h.ok.lo; omega
  cases hE : enB l with
  | false =>
    have e0 := nxE_bad hE
    have e1 : nxT kind nums L l = 0 := by rw [nxT, e0]; rfl
    have e2 : nxL kind nums L l = L := by rw [nxL, e0]; rfl
    rw [e0, e1, e2]
    have HEn := Lib.hid (enabled_any p d l w hl h1)
    have c0 := h.blk.cell 0
    have HSX := Lib.hid h
    simp only [List.getElem?_cons_zero, List.getElem?_cons_succ] at c0
    rw [hE] at HEn
    clear e0 e1 e2 hE hl h h1 hL
    generalize l.length = m at *
    go_enter Try.func22, Try.ntmps22
    go_wp2_with fail
    refine HEn.out.mono ?_
    rintro e w1 ⟨rfl, hb1⟩
    have HB := Lib.hid hb1
    clear hb1
    go_wp2_with fail
    go_ret2
    exact ⟨rfl, SStep.of_below HSX.out HB.out⟩
  | true =>
    by_cases h00 : l.length = 0
    · have e0 := nxE_none h00
      have e1 : nxT kind nums L l = 0 := by rw [nxT, e0]; rfl
      have e2 : nxL kind nums L l = L := by rw [nxL, e0]; rfl
      rw [e0, e1, e2]
      have HEn := Lib.hid (enabled_any p d l w hl h1)
      have c0 := h.blk.cell 0
      have HSX := Lib.hid h
      simp only [List.getElem?_cons_zero, List.getElem?_cons_succ] at c0
      rw [hE] at HEn
      rw [h00] at HEn ⊢
      clear e0 e1 e2 hE hl h h1 h00 hL
      go_enter Try.func22, Try.ntmps22
      go_wp2_with fail
      refine HEn.out.mono ?_
      rintro e w1 ⟨rfl, hb1⟩
      have HB := Lib.hid hb1
      clear hb1
      go_wp2_with fail
      go_ret2
      exact ⟨rfl, SStep.of_below HSX.out HB.out⟩
    · have h0 : 0 < l.length := by omega
      clear h00 hk0
      have hkk : kind = 1 ∨ kind = 2 ∨ kind = 3 ∨ kind = 4 := by have := h.ok.lo; have := h.ok.hi; omega
      rcases hkk with rfl | rfl | rfl | rfl
      · skip
        have HK := Lib.hid fun (w' : World) (hb : Below w.heap.size w w') => by_any (h.kept hb) hL (h.ok.one rfl) p d l (hl.kept hb) h0 h1
        have hpk : pickF 1 nums L l = byF nums L.length l := by rw [pickF, if_pos rfl]
        have HP := Lib.hid (enB_range hE _ (hpk ▸ pickF_mem h0 : byF nums L.length l ∈ l))
        obtain ⟨z, hz⟩ : ∃ z, byF nums L.length l = z := ⟨_, rfl⟩
        rw [hz] at HK HP
        have hzr := HP.out
        have hxE := nxE_ok hE h0
        have HT : Hid (nxT 1 nums L l = z) := Lib.hid (by rw [nxT, if_pos hxE, hpk, hz])
        have HL : Hid (nxL 1 nums L l = L ++ [z]) := Lib.hid (by rw [nxL, if_pos hxE, hpk, hz])
        have HX := Lib.hid hxE
        have HSX := Lib.hid h
        have HEn := Lib.hid (fun (w' : World) (hb : Below w.heap.size w w') => enabled_any p d l w' (hl.kept hb) h1)
        rw [hE] at HEn
        have c0 := h.blk.cell 0
        obtain ⟨T, hT⟩ : ∃ T, L.length = T := ⟨_, rfl⟩
        have HTL := Lib.hid hT
        have hT6 : T ≤ 1000000 := by omega
        obtain ⟨m, hm⟩ : ∃ m, l.length = m := ⟨_, rfl⟩
        rw [hm] at HK HEn ⊢
        have hm0i : ((m : Int) == 0) = false := by rw [beq_eq_false_iff_ne]; omega
        simp only [List.getElem?_cons_zero, List.getElem?_cons_succ] at c0
        clear h hl hE h0 h1 hpk hz hxE hm hT hL
        go_enter Try.func22, Try.ntmps22
        go_wp2_with fail
        refine (HEn.out _ (Below.refl _ _)).mono ?_
        rintro e w1 ⟨rfl, hb1⟩
        have HB1 := Lib.hid hb1
        clear hb1 c0
        have hix : ∀ w : World, (Instr.index 74 (.agg #[.nilFunc, .func (.func 41) #[] #[], .func (.func 42) #[] #[], .func (.func 43) #[] #[], .func (.func 44) #[] #[]]) (.int .i64 1)).run Try.prog w = .ok (.func (.func 41) #[] #[]) w := fun w => by kernel_rfl
        go_upto_region 7 with fail
        have g0 := fun g => Gr.cell (HSX.out.kept HB1.out).blk 0 _ rfl g
        refine wp_region_grows (by kernel_rfl) (by kernel_rfl) ?_
        repeat (go_big_quiet_step ((first | (go_at_call 34; exact Calls.gr _ (pickers_any _)) | (go_at_call 41; exact Calls.gr _ (HK.out _ (below_step HB1.out (Gr.h _)))))))
        refine wpQuiet_nil ?_
        rintro _ ⟨g, rfl⟩
        have hb9 := g.h
        generalize g.w = w2 at hb9 ⊢
        have HB2 := Lib.hid (below_step HB1.out hb9)
        have hSB := (HSX.out.kept (below_step HB1.out hb9)).blk
        have hMB := (HSX.out.kept (below_step HB1.out hb9)).mp
        clear hb9 g0 HK HEn
        rw [HTL.out] at hSB hMB
        have c2 := hSB.cell 2
        have f2 := hSB.free 2
        have hS3 := hSB.set_ 2 (.int .i64 ((T : Int) + 1))
        simp only [List.set_cons_succ, List.set_cons_zero] at hS3
        have hM3 := hMB.fr (S := fun x => x = R) ((Fr.refl _ w2).set ⟨R, 2, none⟩ (.int .i64 ((T : Int) + 1)) (.inl rfl)) (fun e => HSX.out.rb e.symm)
        have hZ3 := (Fr.refl (fun x => x = R ∨ x = b) w2).set ⟨R, 2, none⟩ (.int .i64 ((T : Int) + 1)) (.inl (.inl rfl))
        have HS3 := Lib.hid hS3
        have HM3 := Lib.hid hM3
        have HZ3 := Lib.hid hZ3
        have HRB := Lib.hid HSX.out.rb
        simp only [List.getElem?_cons_zero, List.getElem?_cons_succ] at c2
        clear hS3 hSB hM3 hZ3 hMB
        go_upto_region 9 with fail
        generalize w2.setCell ⟨R, 2, none⟩ (.int .i64 ((T : Int) + 1)) = w3 at HS3 HM3 HZ3 ⊢
        clear c2 f2
        have hS3 : Blk w3.drew R 66 _ := HS3.out
        have c3d := hS3.cell 3
        have f3d := hS3.free 3
        simp only [List.getElem?_cons_zero, List.getElem?_cons_succ] at c3d
        have hS4 := hS3.set_ 3 (.int .i64 z)
        simp only [List.set_cons_succ, List.set_cons_zero] at hS4
        have hM4 : Mp (w3.drew.setCell ⟨R, 3, none⟩ (.int .i64 z)) b T (whenF L) := (show Mp w3.drew b T (whenF L) from HM3.out).fr (S := fun x => x = R) ((Fr.refl _ w3.drew).set ⟨R, 3, none⟩ (.int .i64 z) (.inl rfl)) (fun e => HRB.out e.symm)
        have HS4 := Lib.hid hS4
        have HM4 := Lib.hid hM4
        have HZ4 := Lib.hid (HZ3.out.drew.set ⟨R, 3, none⟩ (.int .i64 z) (.inl (.inl rfl)))
        have HQ := Lib.hid fun (w' : World) (v2 v3 : Value) (hB : Blk w' R 66 [.int .i64 1, v2, .int .i64 ((T : Int) + 1), v3, .map (some b)]) => (⟨hB.cell 4, hB.cell 2⟩ : w'.cell? ⟨R, 4, none⟩ = some (.map (some b)) ∧ w'.cell? ⟨R, 2, none⟩ = some (.int .i64 ((T : Int) + 1)))
        have HQ0 := Lib.hid (HQ.out _ _ _ hS3)
        clear hS3 hS4 hM4
        refine wp_region_noPanic ?_
        refine wp_region_held_drew (S := fun w' => w'.cell? ⟨R, 4, none⟩ = some (.map (some b)) ∧ w'.cell? ⟨R, 2, none⟩ = some (.int .i64 ((T : Int) + 1))) (by kernel_rfl) (HQ0.out) (fun hHeld => ?_)
        refine wpAnyH_take (i := 0) (oi := ⟨some 41, _, _, _, _, _⟩) (v := ?_) rfl (by kernel_rfl) (by kernel_rfl) (by kernel_rfl) (fun _ _ _ h => h) (Or.inl ⟨by rfl, ?_⟩) hHeld ?_
        rotate_left
        · (intro w hSw; obtain ⟨hq1, hq2⟩ := hSw; go_simp; try with_reducible rfl)
        try simp only [Act.put, List.setIfInBounds_toArray, List.set_cons_zero, List.set_cons_succ]
        refine wpAnyH_take (i := 1) (oi := ⟨some 42, _, _, _, _, _⟩) (v := ?_) rfl (by kernel_rfl) (by kernel_rfl) (by kernel_rfl) (fun _ _ _ h => h) (Or.inl ⟨by rfl, ?_⟩) hHeld ?_
        rotate_left
        · (intro w hSw; obtain ⟨hq1, hq2⟩ := hSw; go_simp; try with_reducible rfl)
        try simp only [Act.put, List.setIfInBounds_toArray, List.set_cons_zero, List.set_cons_succ]
        refine wpAnyH_take (i := 2) (oi := ⟨some 43, _, _, _, _, _⟩) (v := ?_) rfl (by kernel_rfl) (by kernel_rfl) (by kernel_rfl) (fun _ _ _ h => h) (Or.inl ⟨by rfl, ?_⟩) hHeld ?_
        rotate_left
        · (intro w hSw; obtain ⟨hq1, hq2⟩ := hSw; go_simp; try with_reducible rfl)
        try simp only [Act.put, List.setIfInBounds_toArray, List.set_cons_zero, List.set_cons_succ]
        refine wpAnyH_take (i := 3) (oi := ⟨some 44, _, _, _, _, _⟩) (v := ?_) rfl (by kernel_rfl) (by kernel_rfl) (by kernel_rfl) (fun _ _ _ h => h) (Or.inl ⟨by rfl, ?_⟩) hHeld ?_
        rotate_left
        · (intro w hSw; obtain ⟨hq1, hq2⟩ := hSw; go_simp; try with_reducible rfl)
        try simp only [Act.put, List.setIfInBounds_toArray, List.set_cons_zero, List.set_cons_succ]
        refine wpAnyH_take (i := 4) (oi := ⟨some 45, _, _, _, _, _⟩) (v := ?_) rfl (by kernel_rfl) (by kernel_rfl) (by kernel_rfl) (fun _ _ _ h => h) (Or.inl ⟨by rfl, ?_⟩) hHeld ?_
        rotate_left
        · (intro w hSw; obtain ⟨hq1, hq2⟩ := hSw; go_simp; try with_reducible rfl)
        try simp only [Act.put, List.setIfInBounds_toArray, List.set_cons_zero, List.set_cons_succ]
        refine wpAnyH_take (i := 5) (oi := ⟨some 46, _, _, _, _, _⟩) (v := ?_) rfl (by kernel_rfl) (by kernel_rfl) (by kernel_rfl) (fun _ _ _ h => h) (Or.inl ⟨by rfl, ?_⟩) hHeld ?_
        rotate_left
        · (intro w hSw; obtain ⟨hq1, hq2⟩ := hSw; go_simp; try with_reducible rfl)
        try simp only [Act.put, List.setIfInBounds_toArray, List.set_cons_zero, List.set_cons_succ]
        refine wpAnyH_take (i := 6) (oi := ⟨some 47, _, _, _, _, _⟩) (v := ?_) rfl (by kernel_rfl) (by kernel_rfl) (by kernel_rfl) (fun _ _ _ h => h) (Or.inl ⟨by rfl, ?_⟩) hHeld ?_
        rotate_left
        · (intro w hSw; obtain ⟨hq1, hq2⟩ := hSw; go_simp; try with_reducible rfl)
        try simp only [Act.put, List.setIfInBounds_toArray, List.set_cons_zero, List.set_cons_succ]
        refine wpAnyH_take (i := 7) (oi := ⟨some 48, _, _, _, _, _⟩) (v := ?_) rfl (by kernel_rfl) (by kernel_rfl) (by kernel_rfl) (fun _ _ _ h => h) (Or.inl ⟨by rfl, ?_⟩) hHeld ?_
        rotate_left
        · (intro w hSw; obtain ⟨hq1, hq2⟩ := hSw; go_simp; try with_reducible rfl)
        try simp only [Act.put, List.setIfInBounds_toArray, List.set_cons_zero, List.set_cons_succ]
        refine wpAnyH_take (i := 8) (oi := ⟨some 49, _, _, _, _, _⟩) (v := ?_) rfl (by kernel_rfl) (by kernel_rfl) (by kernel_rfl) (fun _ _ _ h => h) (Or.inl ⟨by rfl, ?_⟩) hHeld ?_
        rotate_left
        · (intro w hSw; obtain ⟨hq1, hq2⟩ := hSw; go_simp; try with_reducible rfl)
        try simp only [Act.put, List.setIfInBounds_toArray, List.set_cons_zero, List.set_cons_succ]
        refine wpAnyH_take (i := 9) (oi := ⟨some 50, _, _, _, _, _⟩) (v := ?_) rfl (by kernel_rfl) (by kernel_rfl) (by kernel_rfl) (fun _ _ _ h => h) (Or.inl ⟨by rfl, ?_⟩) hHeld ?_
        rotate_left
        · (intro w hSw; obtain ⟨hq1, hq2⟩ := hSw; go_simp; try with_reducible rfl)
        try simp only [Act.put, List.setIfInBounds_toArray, List.set_cons_zero, List.set_cons_succ]
        refine wpAnyH_take (i := 10) (oi := ⟨some 51, _, _, _, _, _⟩) (v := ?_) rfl (by kernel_rfl) (by kernel_rfl) (by kernel_rfl) (fun _ _ _ h => h) (Or.inl ⟨by rfl, ?_⟩) hHeld ?_
        rotate_left
        · (intro w hSw; obtain ⟨hq1, hq2⟩ := hSw; go_simp; try with_reducible rfl)
        try simp only [Act.put, List.setIfInBounds_toArray, List.set_cons_zero, List.set_cons_succ]
        refine wpAnyH_take (i := 11) (oi := ⟨some 52, _, _, _, _, _⟩) (v := ?_) rfl (by kernel_rfl) (by kernel_rfl) (by kernel_rfl) (fun _ _ _ h => h) (Or.inl ⟨by rfl, ?_⟩) hHeld ?_
        rotate_left
        · (intro w hSw; obtain ⟨hq1, hq2⟩ := hSw; go_simp; try with_reducible rfl)
        try simp only [Act.put, List.setIfInBounds_toArray, List.set_cons_zero, List.set_cons_succ]
        refine wpAnyH_take (i := 12) (oi := ⟨some 53, _, _, _, _, _⟩) (v := ?_) rfl (by kernel_rfl) (by kernel_rfl) (by kernel_rfl) (fun _ _ _ h => h) (Or.inl ⟨by rfl, ?_⟩) hHeld ?_
        rotate_left
        · (intro w hSw; obtain ⟨hq1, hq2⟩ := hSw; go_simp; try with_reducible rfl)
        try simp only [Act.put, List.setIfInBounds_toArray, List.set_cons_zero, List.set_cons_succ]
        refine wpAnyH_ready (rs := [13]) (by kernel_rfl) (by simp) ?_
        refine (AllReadyH.cons (o := ⟨none, _, _, _, _, _⟩) rfl (fun K hK => ?_) AllReadyH.nil)
        go_simp
        refine hK.out _ _ (HQ.out _ _ _ HS4.out) (fun hHeld => ?_)
        clear hK K
        try simp only [Act.put, List.setIfInBounds_toArray, List.set_cons_zero, List.set_cons_succ]
        refine wpAnyH_ready (rs := [14]) (by kernel_rfl) (by simp) ?_
        refine (AllReadyH.cons (o := ⟨some 54, _, _, _, _, _⟩) rfl (fun K hK => ?_) AllReadyH.nil)
        (refine step_entry (by rfl) (.tmp 45) (.tmp 46) (by rfl) (by rfl) z (by rfl) HM4.out under3 under64 zero3 (wf_of (by omega) (by omega)) ?_; intro v0 st w4 hl4 hf4)
        have HS5 := Lib.hid (HS4.out.fr hf4 HRB.out)
        have HZ5 := Lib.hid (HZ4.out.trans hf4 (fun x hx => .inl (.inr hx)))
        have HL5 := Lib.hid hl4
        clear hl4 hf4
        refine hK.out _ _ (HQ.out _ _ _ HS5.out) (fun hHeld => ?_)
        clear hK K
        try simp only [Act.put, List.setIfInBounds_toArray, List.set_cons_zero, List.set_cons_succ]
        refine wpAnyH_take (i := 15) (oi := ⟨some 55, _, _, _, _, _⟩) (v := ?_) rfl (by kernel_rfl) (by kernel_rfl) (by kernel_rfl) (fun _ _ _ h => h) (Or.inl ⟨by rfl, ?_⟩) hHeld ?_
        rotate_left
        · (intro w hSw; obtain ⟨hq1, hq2⟩ := hSw; go_simp; try with_reducible rfl)
        try simp only [Act.put, List.setIfInBounds_toArray, List.set_cons_zero, List.set_cons_succ]
        refine wpAnyH_ready (rs := [16]) (by kernel_rfl) (by simp) ?_
        refine (AllReadyH.cons (o := ⟨none, _, _, _, _, _⟩) rfl (fun K hK => ?_) AllReadyH.nil)
        (refine step_estore (by rfl) (.tmp 45) (.tmp 55) (.tmp 51) (by rfl) (by rfl) (by rfl) (.int .i64 ((T : Int) + 1)) (by rfl) HL5.out ?_; intro w5 hm5 hf5)
        have HS6 := Lib.hid (HS5.out.fr hf5 HRB.out)
        have HZ6 := Lib.hid (HZ5.out.trans hf5 (fun x hx => .inl (.inr hx)))
        have HM6 := Lib.hid hm5
        clear hm5 hf5
        refine hK.out _ _ (HQ.out _ _ _ HS6.out) (fun hHeld => ?_)
        clear hK K
        try simp only [Act.put, List.setIfInBounds_toArray, List.set_cons_zero, List.set_cons_succ]
        refine wpAnyH_done (by kernel_rfl) ?_ _
        refine NoPanic.normal ?_
        clear hHeld
        go_wp2_with fail
        go_ret2
        have h6 := HS6.out
        have m6 := HM6.out
        rw [← HTL.out] at h6 m6
        exact ⟨by rw [HT.out, HX.out]; rfl, by rw [HL.out]; exact next_end HSX.out HB2.out HZ6.out h6 m6⟩
      · skip
        have HK := Lib.hid fun (w' : World) (hb : Below w.heap.size w w') => round_any (h.kept hb) p d l (hl.kept hb) h0 h1
        have hpk : pickF 2 nums L l = roundF (lastP L) l := by rw [pickF, if_neg (by decide), if_neg (by decide), if_neg (by decide)]
        have HP := Lib.hid (enB_range hE _ (hpk ▸ pickF_mem h0 : roundF (lastP L) l ∈ l))
        obtain ⟨z, hz⟩ : ∃ z, roundF (lastP L) l = z := ⟨_, rfl⟩
        rw [hz] at HK HP
        have hzr := HP.out
        have hxE := nxE_ok hE h0
        have HT : Hid (nxT 2 nums L l = z) := Lib.hid (by rw [nxT, if_pos hxE, hpk, hz])
        have HL : Hid (nxL 2 nums L l = L ++ [z]) := Lib.hid (by rw [nxL, if_pos hxE, hpk, hz])
        have HX := Lib.hid hxE
        have HSX := Lib.hid h
        have HEn := Lib.hid (fun (w' : World) (hb : Below w.heap.size w w') => enabled_any p d l w' (hl.kept hb) h1)
        rw [hE] at HEn
        have c0 := h.blk.cell 0
        obtain ⟨T, hT⟩ : ∃ T, L.length = T := ⟨_, rfl⟩
        have HTL := Lib.hid hT
        have hT6 : T ≤ 1000000 := by omega
        obtain ⟨m, hm⟩ : ∃ m, l.length = m := ⟨_, rfl⟩
        rw [hm] at HK HEn ⊢
        have hm0i : ((m : Int) == 0) = false := by rw [beq_eq_false_iff_ne]; omega
        simp only [List.getElem?_cons_zero, List.getElem?_cons_succ] at c0
        clear h hl hE h0 h1 hpk hz hxE hm hT hL
        go_enter Try.func22, Try.ntmps22
        go_wp2_with fail
        refine (HEn.out _ (Below.refl _ _)).mono ?_
        rintro e w1 ⟨rfl, hb1⟩
        have HB1 := Lib.hid hb1
        clear hb1 c0
        have hix : ∀ w : World, (Instr.index 74 (.agg #[.nilFunc, .func (.func 41) #[] #[], .func (.func 42) #[] #[], .func (.func 43) #[] #[], .func (.func 44) #[] #[]]) (.int .i64 2)).run Try.prog w = .ok (.func (.func 42) #[] #[]) w := fun w => by kernel_rfl
        go_upto_region 7 with fail
        have g0 := fun g => Gr.cell (HSX.out.kept HB1.out).blk 0 _ rfl g
        refine wp_region_grows (by kernel_rfl) (by kernel_rfl) ?_
        repeat (go_big_quiet_step ((first | (go_at_call 34; exact Calls.gr _ (pickers_any _)) | (go_at_call 42; exact Calls.gr_same _ ((HK.out _ (below_step HB1.out (Gr.h _))).mono fun e w' ⟨he, hw⟩ => ⟨he, hw.symm⟩)))))
        refine wpQuiet_nil ?_
        rintro _ ⟨g, rfl⟩
        have hb9 := g.h
        generalize g.w = w2 at hb9 ⊢
        have HB2 := Lib.hid (below_step HB1.out hb9)
        have hSB := (HSX.out.kept (below_step HB1.out hb9)).blk
        have hMB := (HSX.out.kept (below_step HB1.out hb9)).mp
        clear hb9 g0 HK HEn
        rw [HTL.out] at hSB hMB
        have c2 := hSB.cell 2
        have f2 := hSB.free 2
        have hS3 := hSB.set_ 2 (.int .i64 ((T : Int) + 1))
        simp only [List.set_cons_succ, List.set_cons_zero] at hS3
        have hM3 := hMB.fr (S := fun x => x = R) ((Fr.refl _ w2).set ⟨R, 2, none⟩ (.int .i64 ((T : Int) + 1)) (.inl rfl)) (fun e => HSX.out.rb e.symm)
        have hZ3 := (Fr.refl (fun x => x = R ∨ x = b) w2).set ⟨R, 2, none⟩ (.int .i64 ((T : Int) + 1)) (.inl (.inl rfl))
        have HS3 := Lib.hid hS3
        have HM3 := Lib.hid hM3
        have HZ3 := Lib.hid hZ3
        have HRB := Lib.hid HSX.out.rb
        simp only [List.getElem?_cons_zero, List.getElem?_cons_succ] at c2
        clear hS3 hSB hM3 hZ3 hMB
        go_upto_region 9 with fail
        generalize w2.setCell ⟨R, 2, none⟩ (.int .i64 ((T : Int) + 1)) = w3 at HS3 HM3 HZ3 ⊢
        clear c2 f2
        have hS3 : Blk w3.drew R 66 _ := HS3.out
        have c3d := hS3.cell 3
        have f3d := hS3.free 3
        simp only [List.getElem?_cons_zero, List.getElem?_cons_succ] at c3d
        have hS4 := hS3.set_ 3 (.int .i64 z)
        simp only [List.set_cons_succ, List.set_cons_zero] at hS4
        have hM4 : Mp (w3.drew.setCell ⟨R, 3, none⟩ (.int .i64 z)) b T (whenF L) := (show Mp w3.drew b T (whenF L) from HM3.out).fr (S := fun x => x = R) ((Fr.refl _ w3.drew).set ⟨R, 3, none⟩ (.int .i64 z) (.inl rfl)) (fun e => HRB.out e.symm)
        have HS4 := Lib.hid hS4
        have HM4 := Lib.hid hM4
        have HZ4 := Lib.hid (HZ3.out.drew.set ⟨R, 3, none⟩ (.int .i64 z) (.inl (.inl rfl)))
        have HQ := Lib.hid fun (w' : World) (v2 v3 : Value) (hB : Blk w' R 66 [.int .i64 2, v2, .int .i64 ((T : Int) + 1), v3, .map (some b)]) => (⟨hB.cell 4, hB.cell 2⟩ : w'.cell? ⟨R, 4, none⟩ = some (.map (some b)) ∧ w'.cell? ⟨R, 2, none⟩ = some (.int .i64 ((T : Int) + 1)))
        have HQ0 := Lib.hid (HQ.out _ _ _ hS3)
        clear hS3 hS4 hM4
        refine wp_region_noPanic ?_
        refine wp_region_held_drew (S := fun w' => w'.cell? ⟨R, 4, none⟩ = some (.map (some b)) ∧ w'.cell? ⟨R, 2, none⟩ = some (.int .i64 ((T : Int) + 1))) (by kernel_rfl) (HQ0.out) (fun hHeld => ?_)
        refine wpAnyH_take (i := 0) (oi := ⟨some 41, _, _, _, _, _⟩) (v := ?_) rfl (by kernel_rfl) (by kernel_rfl) (by kernel_rfl) (fun _ _ _ h => h) (Or.inl ⟨by rfl, ?_⟩) hHeld ?_
        rotate_left
        · (intro w hSw; obtain ⟨hq1, hq2⟩ := hSw; go_simp; try with_reducible rfl)
        try simp only [Act.put, List.setIfInBounds_toArray, List.set_cons_zero, List.set_cons_succ]
        refine wpAnyH_take (i := 1) (oi := ⟨some 42, _, _, _, _, _⟩) (v := ?_) rfl (by kernel_rfl) (by kernel_rfl) (by kernel_rfl) (fun _ _ _ h => h) (Or.inl ⟨by rfl, ?_⟩) hHeld ?_
        rotate_left
        · (intro w hSw; obtain ⟨hq1, hq2⟩ := hSw; go_simp; try with_reducible rfl)
        try simp only [Act.put, List.setIfInBounds_toArray, List.set_cons_zero, List.set_cons_succ]
        refine wpAnyH_take (i := 2) (oi := ⟨some 43, _, _, _, _, _⟩) (v := ?_) rfl (by kernel_rfl) (by kernel_rfl) (by kernel_rfl) (fun _ _ _ h => h) (Or.inl ⟨by rfl, ?_⟩) hHeld ?_
        rotate_left
        · (intro w hSw; obtain ⟨hq1, hq2⟩ := hSw; go_simp; try with_reducible rfl)
        try simp only [Act.put, List.setIfInBounds_toArray, List.set_cons_zero, List.set_cons_succ]
        refine wpAnyH_take (i := 3) (oi := ⟨some 44, _, _, _, _, _⟩) (v := ?_) rfl (by kernel_rfl) (by kernel_rfl) (by kernel_rfl) (fun _ _ _ h => h) (Or.inl ⟨by rfl, ?_⟩) hHeld ?_
        rotate_left
        · (intro w hSw; obtain ⟨hq1, hq2⟩ := hSw; go_simp; try with_reducible rfl)
        try simp only [Act.put, List.setIfInBounds_toArray, List.set_cons_zero, List.set_cons_succ]
        refine wpAnyH_take (i := 4) (oi := ⟨some 45, _, _, _, _, _⟩) (v := ?_) rfl (by kernel_rfl) (by kernel_rfl) (by kernel_rfl) (fun _ _ _ h => h) (Or.inl ⟨by rfl, ?_⟩) hHeld ?_
        rotate_left
        · (intro w hSw; obtain ⟨hq1, hq2⟩ := hSw; go_simp; try with_reducible rfl)
        try simp only [Act.put, List.setIfInBounds_toArray, List.set_cons_zero, List.set_cons_succ]
        refine wpAnyH_take (i := 5) (oi := ⟨some 46, _, _, _, _, _⟩) (v := ?_) rfl (by kernel_rfl) (by kernel_rfl) (by kernel_rfl) (fun _ _ _ h => h) (Or.inl ⟨by rfl, ?_⟩) hHeld ?_
        rotate_left
        · (intro w hSw; obtain ⟨hq1, hq2⟩ := hSw; go_simp; try with_reducible rfl)
        try simp only [Act.put, List.setIfInBounds_toArray, List.set_cons_zero, List.set_cons_succ]
        refine wpAnyH_take (i := 6) (oi := ⟨some 47, _, _, _, _, _⟩) (v := ?_) rfl (by kernel_rfl) (by kernel_rfl) (by kernel_rfl) (fun _ _ _ h => h) (Or.inl ⟨by rfl, ?_⟩) hHeld ?_
        rotate_left
        · (intro w hSw; obtain ⟨hq1, hq2⟩ := hSw; go_simp; try with_reducible rfl)
        try simp only [Act.put, List.setIfInBounds_toArray, List.set_cons_zero, List.set_cons_succ]
        refine wpAnyH_take (i := 7) (oi := ⟨some 48, _, _, _, _, _⟩) (v := ?_) rfl (by kernel_rfl) (by kernel_rfl) (by kernel_rfl) (fun _ _ _ h => h) (Or.inl ⟨by rfl, ?_⟩) hHeld ?_
        rotate_left
        · (intro w hSw; obtain ⟨hq1, hq2⟩ := hSw; go_simp; try with_reducible rfl)
        try simp only [Act.put, List.setIfInBounds_toArray, List.set_cons_zero, List.set_cons_succ]
        refine wpAnyH_take (i := 8) (oi := ⟨some 49, _, _, _, _, _⟩) (v := ?_) rfl (by kernel_rfl) (by kernel_rfl) (by kernel_rfl) (fun _ _ _ h => h) (Or.inl ⟨by rfl, ?_⟩) hHeld ?_
        rotate_left
        · (intro w hSw; obtain ⟨hq1, hq2⟩ := hSw; go_simp; try with_reducible rfl)
        try simp only [Act.put, List.setIfInBounds_toArray, List.set_cons_zero, List.set_cons_succ]
        refine wpAnyH_take (i := 9) (oi := ⟨some 50, _, _, _, _, _⟩) (v := ?_) rfl (by kernel_rfl) (by kernel_rfl) (by kernel_rfl) (fun _ _ _ h => h) (Or.inl ⟨by rfl, ?_⟩) hHeld ?_
        rotate_left
        · (intro w hSw; obtain ⟨hq1, hq2⟩ := hSw; go_simp; try with_reducible rfl)
        try simp only [Act.put, List.setIfInBounds_toArray, List.set_cons_zero, List.set_cons_succ]
        refine wpAnyH_take (i := 10) (oi := ⟨some 51, _, _, _, _, _⟩) (v := ?_) rfl (by kernel_rfl) (by kernel_rfl) (by kernel_rfl) (fun _ _ _ h => h) (Or.inl ⟨by rfl, ?_⟩) hHeld ?_
        rotate_left
        · (intro w hSw; obtain ⟨hq1, hq2⟩ := hSw; go_simp; try with_reducible rfl)
        try simp only [Act.put, List.setIfInBounds_toArray, List.set_cons_zero, List.set_cons_succ]
        refine wpAnyH_take (i := 11) (oi := ⟨some 52, _, _, _, _, _⟩) (v := ?_) rfl (by kernel_rfl) (by kernel_rfl) (by kernel_rfl) (fun _ _ _ h => h) (Or.inl ⟨by rfl, ?_⟩) hHeld ?_
        rotate_left
        · (intro w hSw; obtain ⟨hq1, hq2⟩ := hSw; go_simp; try with_reducible rfl)
        try simp only [Act.put, List.setIfInBounds_toArray, List.set_cons_zero, List.set_cons_succ]
        refine wpAnyH_take (i := 12) (oi := ⟨some 53, _, _, _, _, _⟩) (v := ?_) rfl (by kernel_rfl) (by kernel_rfl) (by kernel_rfl) (fun _ _ _ h => h) (Or.inl ⟨by rfl, ?_⟩) hHeld ?_
        rotate_left
        · (intro w hSw; obtain ⟨hq1, hq2⟩ := hSw; go_simp; try with_reducible rfl)
        try simp only [Act.put, List.setIfInBounds_toArray, List.set_cons_zero, List.set_cons_succ]
        refine wpAnyH_ready (rs := [13]) (by kernel_rfl) (by simp) ?_
        refine (AllReadyH.cons (o := ⟨none, _, _, _, _, _⟩) rfl (fun K hK => ?_) AllReadyH.nil)
        go_simp
        refine hK.out _ _ (HQ.out _ _ _ HS4.out) (fun hHeld => ?_)
        clear hK K
        try simp only [Act.put, List.setIfInBounds_toArray, List.set_cons_zero, List.set_cons_succ]
        refine wpAnyH_ready (rs := [14]) (by kernel_rfl) (by simp) ?_
        refine (AllReadyH.cons (o := ⟨some 54, _, _, _, _, _⟩) rfl (fun K hK => ?_) AllReadyH.nil)
        (refine step_entry (by rfl) (.tmp 45) (.tmp 46) (by rfl) (by rfl) z (by rfl) HM4.out under3 under64 zero3 (wf_of (by omega) (by omega)) ?_; intro v0 st w4 hl4 hf4)
        have HS5 := Lib.hid (HS4.out.fr hf4 HRB.out)
        have HZ5 := Lib.hid (HZ4.out.trans hf4 (fun x hx => .inl (.inr hx)))
        have HL5 := Lib.hid hl4
        clear hl4 hf4
        refine hK.out _ _ (HQ.out _ _ _ HS5.out) (fun hHeld => ?_)
        clear hK K
        try simp only [Act.put, List.setIfInBounds_toArray, List.set_cons_zero, List.set_cons_succ]
        refine wpAnyH_take (i := 15) (oi := ⟨some 55, _, _, _, _, _⟩) (v := ?_) rfl (by kernel_rfl) (by kernel_rfl) (by kernel_rfl) (fun _ _ _ h => h) (Or.inl ⟨by rfl, ?_⟩) hHeld ?_
        rotate_left
        · (intro w hSw; obtain ⟨hq1, hq2⟩ := hSw; go_simp; try with_reducible rfl)
        try simp only [Act.put, List.setIfInBounds_toArray, List.set_cons_zero, List.set_cons_succ]
        refine wpAnyH_ready (rs := [16]) (by kernel_rfl) (by simp) ?_
        refine (AllReadyH.cons (o := ⟨none, _, _, _, _, _⟩) rfl (fun K hK => ?_) AllReadyH.nil)
        (refine step_estore (by rfl) (.tmp 45) (.tmp 55) (.tmp 51) (by rfl) (by rfl) (by rfl) (.int .i64 ((T : Int) + 1)) (by rfl) HL5.out ?_; intro w5 hm5 hf5)
        have HS6 := Lib.hid (HS5.out.fr hf5 HRB.out)
        have HZ6 := Lib.hid (HZ5.out.trans hf5 (fun x hx => .inl (.inr hx)))
        have HM6 := Lib.hid hm5
        clear hm5 hf5
        refine hK.out _ _ (HQ.out _ _ _ HS6.out) (fun hHeld => ?_)
        clear hK K
        try simp only [Act.put, List.setIfInBounds_toArray, List.set_cons_zero, List.set_cons_succ]
        refine wpAnyH_done (by kernel_rfl) ?_ _
        refine NoPanic.normal ?_
        clear hHeld
        go_wp2_with fail
        go_ret2
        have h6 := HS6.out
        have m6 := HM6.out
        rw [← HTL.out] at h6 m6
        exact ⟨by rw [HT.out, HX.out]; rfl, by rw [HL.out]; exact next_end HSX.out HB2.out HZ6.out h6 m6⟩
      · skip
        have HK := Lib.hid fun (w' : World) (hb : Below w.heap.size w w') => stick_any (h.kept hb) p d l (hl.kept hb) h0 h1
        have hpk : pickF 3 nums L l = stickF (lastP L) l := by rw [pickF, if_neg (by decide), if_neg (by decide), if_pos rfl]
        have HP := Lib.hid (enB_range hE _ (hpk ▸ pickF_mem h0 : stickF (lastP L) l ∈ l))
        obtain ⟨z, hz⟩ : ∃ z, stickF (lastP L) l = z := ⟨_, rfl⟩
        rw [hz] at HK HP
        have hzr := HP.out
        have hxE := nxE_ok hE h0
        have HT : Hid (nxT 3 nums L l = z) := Lib.hid (by rw [nxT, if_pos hxE, hpk, hz])
        have HL : Hid (nxL 3 nums L l = L ++ [z]) := Lib.hid (by rw [nxL, if_pos hxE, hpk, hz])
        have HX := Lib.hid hxE
        have HSX := Lib.hid h
        have HEn := Lib.hid (fun (w' : World) (hb : Below w.heap.size w w') => enabled_any p d l w' (hl.kept hb) h1)
        rw [hE] at HEn
        have c0 := h.blk.cell 0
        obtain ⟨T, hT⟩ : ∃ T, L.length = T := ⟨_, rfl⟩
        have HTL := Lib.hid hT
        have hT6 : T ≤ 1000000 := by omega
        obtain ⟨m, hm⟩ : ∃ m, l.length = m := ⟨_, rfl⟩
        rw [hm] at HK HEn ⊢
        have hm0i : ((m : Int) == 0) = false := by rw [beq_eq_false_iff_ne]; omega
        simp only [List.getElem?_cons_zero, List.getElem?_cons_succ] at c0
        clear h hl hE h0 h1 hpk hz hxE hm hT hL
        go_enter Try.func22, Try.ntmps22
        go_wp2_with fail
        refine (HEn.out _ (Below.refl _ _)).mono ?_
        rintro e w1 ⟨rfl, hb1⟩
        have HB1 := Lib.hid hb1
        clear hb1 c0
        have hix : ∀ w : World, (Instr.index 74 (.agg #[.nilFunc, .func (.func 41) #[] #[], .func (.func 42) #[] #[], .func (.func 43) #[] #[], .func (.func 44) #[] #[]]) (.int .i64 3)).run Try.prog w = .ok (.func (.func 43) #[] #[]) w := fun w => by kernel_rfl
        go_upto_region 7 with fail
        have g0 := fun g => Gr.cell (HSX.out.kept HB1.out).blk 0 _ rfl g
        refine wp_region_grows (by kernel_rfl) (by kernel_rfl) ?_
        repeat (go_big_quiet_step ((first | (go_at_call 34; exact Calls.gr _ (pickers_any _)) | (go_at_call 43; exact Calls.gr_same _ ((HK.out _ (below_step HB1.out (Gr.h _))).mono fun e w' ⟨he, hw⟩ => ⟨he, hw.symm⟩)))))
        refine wpQuiet_nil ?_
        rintro _ ⟨g, rfl⟩
        have hb9 := g.h
        generalize g.w = w2 at hb9 ⊢
        have HB2 := Lib.hid (below_step HB1.out hb9)
        have hSB := (HSX.out.kept (below_step HB1.out hb9)).blk
        have hMB := (HSX.out.kept (below_step HB1.out hb9)).mp
        clear hb9 g0 HK HEn
        rw [HTL.out] at hSB hMB
        have c2 := hSB.cell 2
        have f2 := hSB.free 2
        have hS3 := hSB.set_ 2 (.int .i64 ((T : Int) + 1))
        simp only [List.set_cons_succ, List.set_cons_zero] at hS3
        have hM3 := hMB.fr (S := fun x => x = R) ((Fr.refl _ w2).set ⟨R, 2, none⟩ (.int .i64 ((T : Int) + 1)) (.inl rfl)) (fun e => HSX.out.rb e.symm)
        have hZ3 := (Fr.refl (fun x => x = R ∨ x = b) w2).set ⟨R, 2, none⟩ (.int .i64 ((T : Int) + 1)) (.inl (.inl rfl))
        have HS3 := Lib.hid hS3
        have HM3 := Lib.hid hM3
        have HZ3 := Lib.hid hZ3
        have HRB := Lib.hid HSX.out.rb
        simp only [List.getElem?_cons_zero, List.getElem?_cons_succ] at c2
        clear hS3 hSB hM3 hZ3 hMB
        go_upto_region 9 with fail
        generalize w2.setCell ⟨R, 2, none⟩ (.int .i64 ((T : Int) + 1)) = w3 at HS3 HM3 HZ3 ⊢
        clear c2 f2
        have hS3 : Blk w3.drew R 66 _ := HS3.out
        have c3d := hS3.cell 3
        have f3d := hS3.free 3
        simp only [List.getElem?_cons_zero, List.getElem?_cons_succ] at c3d
        have hS4 := hS3.set_ 3 (.int .i64 z)
        simp only [List.set_cons_succ, List.set_cons_zero] at hS4
        have hM4 : Mp (w3.drew.setCell ⟨R, 3, none⟩ (.int .i64 z)) b T (whenF L) := (show Mp w3.drew b T (whenF L) from HM3.out).fr (S := fun x => x = R) ((Fr.refl _ w3.drew).set ⟨R, 3, none⟩ (.int .i64 z) (.inl rfl)) (fun e => HRB.out e.symm)
        have HS4 := Lib.hid hS4
        have HM4 := Lib.hid hM4
        have HZ4 := Lib.hid (HZ3.out.drew.set ⟨R, 3, none⟩ (.int .i64 z) (.inl (.inl rfl)))
        have HQ := Lib.hid fun (w' : World) (v2 v3 : Value) (hB : Blk w' R 66 [.int .i64 3, v2, .int .i64 ((T : Int) + 1), v3, .map (some b)]) => (⟨hB.cell 4, hB.cell 2⟩ : w'.cell? ⟨R, 4, none⟩ = some (.map (some b)) ∧ w'.cell? ⟨R, 2, none⟩ = some (.int .i64 ((T : Int) + 1)))
        have HQ0 := Lib.hid (HQ.out _ _ _ hS3)
        clear hS3 hS4 hM4
        refine wp_region_noPanic ?_
        refine wp_region_held_drew (S := fun w' => w'.cell? ⟨R, 4, none⟩ = some (.map (some b)) ∧ w'.cell? ⟨R, 2, none⟩ = some (.int .i64 ((T : Int) + 1))) (by kernel_rfl) (HQ0.out) (fun hHeld => ?_)
        refine wpAnyH_take (i := 0) (oi := ⟨some 41, _, _, _, _, _⟩) (v := ?_) rfl (by kernel_rfl) (by kernel_rfl) (by kernel_rfl) (fun _ _ _ h => h) (Or.inl ⟨by rfl, ?_⟩) hHeld ?_
        rotate_left
        · (intro w hSw; obtain ⟨hq1, hq2⟩ := hSw; go_simp; try with_reducible rfl)
        try simp only [Act.put, List.setIfInBounds_toArray, List.set_cons_zero, List.set_cons_succ]
        refine wpAnyH_take (i := 1) (oi := ⟨some 42, _, _, _, _, _⟩) (v := ?_) rfl (by kernel_rfl) (by kernel_rfl) (by kernel_rfl) (fun _ _ _ h => h) (Or.inl ⟨by rfl, ?_⟩) hHeld ?_
        rotate_left
        · (intro w hSw; obtain ⟨hq1, hq2⟩ := hSw; go_simp; try with_reducible rfl)
        try simp only [Act.put, List.setIfInBounds_toArray, List.set_cons_zero, List.set_cons_succ]
        refine wpAnyH_take (i := 2) (oi := ⟨some 43, _, _, _, _, _⟩) (v := ?_) rfl (by kernel_rfl) (by kernel_rfl) (by kernel_rfl) (fun _ _ _ h => h) (Or.inl ⟨by rfl, ?_⟩) hHeld ?_
        rotate_left
        · (intro w hSw; obtain ⟨hq1, hq2⟩ := hSw; go_simp; try with_reducible rfl)
        try simp only [Act.put, List.setIfInBounds_toArray, List.set_cons_zero, List.set_cons_succ]
        refine wpAnyH_take (i := 3) (oi := ⟨some 44, _, _, _, _, _⟩) (v := ?_) rfl (by kernel_rfl) (by kernel_rfl) (by kernel_rfl) (fun _ _ _ h => h) (Or.inl ⟨by rfl, ?_⟩) hHeld ?_
        rotate_left
        · (intro w hSw; obtain ⟨hq1, hq2⟩ := hSw; go_simp; try with_reducible rfl)
        try simp only [Act.put, List.setIfInBounds_toArray, List.set_cons_zero, List.set_cons_succ]
        refine wpAnyH_take (i := 4) (oi := ⟨some 45, _, _, _, _, _⟩) (v := ?_) rfl (by kernel_rfl) (by kernel_rfl) (by kernel_rfl) (fun _ _ _ h => h) (Or.inl ⟨by rfl, ?_⟩) hHeld ?_
        rotate_left
        · (intro w hSw; obtain ⟨hq1, hq2⟩ := hSw; go_simp; try with_reducible rfl)
        try simp only [Act.put, List.setIfInBounds_toArray, List.set_cons_zero, List.set_cons_succ]
        refine wpAnyH_take (i := 5) (oi := ⟨some 46, _, _, _, _, _⟩) (v := ?_) rfl (by kernel_rfl) (by kernel_rfl) (by kernel_rfl) (fun _ _ _ h => h) (Or.inl ⟨by rfl, ?_⟩) hHeld ?_
        rotate_left
        · (intro w hSw; obtain ⟨hq1, hq2⟩ := hSw; go_simp; try with_reducible rfl)
        try simp only [Act.put, List.setIfInBounds_toArray, List.set_cons_zero, List.set_cons_succ]
        refine wpAnyH_take (i := 6) (oi := ⟨some 47, _, _, _, _, _⟩) (v := ?_) rfl (by kernel_rfl) (by kernel_rfl) (by kernel_rfl) (fun _ _ _ h => h) (Or.inl ⟨by rfl, ?_⟩) hHeld ?_
        rotate_left
        · (intro w hSw; obtain ⟨hq1, hq2⟩ := hSw; go_simp; try with_reducible rfl)
        try simp only [Act.put, List.setIfInBounds_toArray, List.set_cons_zero, List.set_cons_succ]
        refine wpAnyH_take (i := 7) (oi := ⟨some 48, _, _, _, _, _⟩) (v := ?_) rfl (by kernel_rfl) (by kernel_rfl) (by kernel_rfl) (fun _ _ _ h => h) (Or.inl ⟨by rfl, ?_⟩) hHeld ?_
        rotate_left
        · (intro w hSw; obtain ⟨hq1, hq2⟩ := hSw; go_simp; try with_reducible rfl)
        try simp only [Act.put, List.setIfInBounds_toArray, List.set_cons_zero, List.set_cons_succ]
        refine wpAnyH_take (i := 8) (oi := ⟨some 49, _, _, _, _, _⟩) (v := ?_) rfl (by kernel_rfl) (by kernel_rfl) (by kernel_rfl) (fun _ _ _ h => h) (Or.inl ⟨by rfl, ?_⟩) hHeld ?_
        rotate_left
        · (intro w hSw; obtain ⟨hq1, hq2⟩ := hSw; go_simp; try with_reducible rfl)
        try simp only [Act.put, List.setIfInBounds_toArray, List.set_cons_zero, List.set_cons_succ]
        refine wpAnyH_take (i := 9) (oi := ⟨some 50, _, _, _, _, _⟩) (v := ?_) rfl (by kernel_rfl) (by kernel_rfl) (by kernel_rfl) (fun _ _ _ h => h) (Or.inl ⟨by rfl, ?_⟩) hHeld ?_
        rotate_left
        · (intro w hSw; obtain ⟨hq1, hq2⟩ := hSw; go_simp; try with_reducible rfl)
        try simp only [Act.put, List.setIfInBounds_toArray, List.set_cons_zero, List.set_cons_succ]
        refine wpAnyH_take (i := 10) (oi := ⟨some 51, _, _, _, _, _⟩) (v := ?_) rfl (by kernel_rfl) (by kernel_rfl) (by kernel_rfl) (fun _ _ _ h => h) (Or.inl ⟨by rfl, ?_⟩) hHeld ?_
        rotate_left
        · (intro w hSw; obtain ⟨hq1, hq2⟩ := hSw; go_simp; try with_reducible rfl)
        try simp only [Act.put, List.setIfInBounds_toArray, List.set_cons_zero, List.set_cons_succ]
        refine wpAnyH_take (i := 11) (oi := ⟨some 52, _, _, _, _, _⟩) (v := ?_) rfl (by kernel_rfl) (by kernel_rfl) (by kernel_rfl) (fun _ _ _ h => h) (Or.inl ⟨by rfl, ?_⟩) hHeld ?_
        rotate_left
        · (intro w hSw; obtain ⟨hq1, hq2⟩ := hSw; go_simp; try with_reducible rfl)
        try simp only [Act.put, List.setIfInBounds_toArray, List.set_cons_zero, List.set_cons_succ]
        refine wpAnyH_take (i := 12) (oi := ⟨some 53, _, _, _, _, _⟩) (v := ?_) rfl (by kernel_rfl) (by kernel_rfl) (by kernel_rfl) (fun _ _ _ h => h) (Or.inl ⟨by rfl, ?_⟩) hHeld ?_
        rotate_left
        · (intro w hSw; obtain ⟨hq1, hq2⟩ := hSw; go_simp; try with_reducible rfl)
        try simp only [Act.put, List.setIfInBounds_toArray, List.set_cons_zero, List.set_cons_succ]
        refine wpAnyH_ready (rs := [13]) (by kernel_rfl) (by simp) ?_
        refine (AllReadyH.cons (o := ⟨none, _, _, _, _, _⟩) rfl (fun K hK => ?_) AllReadyH.nil)
        go_simp
        refine hK.out _ _ (HQ.out _ _ _ HS4.out) (fun hHeld => ?_)
        clear hK K
        try simp only [Act.put, List.setIfInBounds_toArray, List.set_cons_zero, List.set_cons_succ]
        refine wpAnyH_ready (rs := [14]) (by kernel_rfl) (by simp) ?_
        refine (AllReadyH.cons (o := ⟨some 54, _, _, _, _, _⟩) rfl (fun K hK => ?_) AllReadyH.nil)
        (refine step_entry (by rfl) (.tmp 45) (.tmp 46) (by rfl) (by rfl) z (by rfl) HM4.out under3 under64 zero3 (wf_of (by omega) (by omega)) ?_; intro v0 st w4 hl4 hf4)
        have HS5 := Lib.hid (HS4.out.fr hf4 HRB.out)
        have HZ5 := Lib.hid (HZ4.out.trans hf4 (fun x hx => .inl (.inr hx)))
        have HL5 := Lib.hid hl4
        clear hl4 hf4
        refine hK.out _ _ (HQ.out _ _ _ HS5.out) (fun hHeld => ?_)
        clear hK K
        try simp only [Act.put, List.setIfInBounds_toArray, List.set_cons_zero, List.set_cons_succ]
        refine wpAnyH_take (i := 15) (oi := ⟨some 55, _, _, _, _, _⟩) (v := ?_) rfl (by kernel_rfl) (by kernel_rfl) (by kernel_rfl) (fun _ _ _ h => h) (Or.inl ⟨by rfl, ?_⟩) hHeld ?_
        rotate_left
        · (intro w hSw; obtain ⟨hq1, hq2⟩ := hSw; go_simp; try with_reducible rfl)
        try simp only [Act.put, List.setIfInBounds_toArray, List.set_cons_zero, List.set_cons_succ]
        refine wpAnyH_ready (rs := [16]) (by kernel_rfl) (by simp) ?_
        refine (AllReadyH.cons (o := ⟨none, _, _, _, _, _⟩) rfl (fun K hK => ?_) AllReadyH.nil)
        (refine step_estore (by rfl) (.tmp 45) (.tmp 55) (.tmp 51) (by rfl) (by rfl) (by rfl) (.int .i64 ((T : Int) + 1)) (by rfl) HL5.out ?_; intro w5 hm5 hf5)
        have HS6 := Lib.hid (HS5.out.fr hf5 HRB.out)
        have HZ6 := Lib.hid (HZ5.out.trans hf5 (fun x hx => .inl (.inr hx)))
        have HM6 := Lib.hid hm5
        clear hm5 hf5
        refine hK.out _ _ (HQ.out _ _ _ HS6.out) (fun hHeld => ?_)
        clear hK K
        try simp only [Act.put, List.setIfInBounds_toArray, List.set_cons_zero, List.set_cons_succ]
        refine wpAnyH_done (by kernel_rfl) ?_ _
        refine NoPanic.normal ?_
        clear hHeld
        go_wp2_with fail
        go_ret2
        have h6 := HS6.out
        have m6 := HM6.out
        rw [← HTL.out] at h6 m6
        exact ⟨by rw [HT.out, HX.out]; rfl, by rw [HL.out]; exact next_end HSX.out HB2.out HZ6.out h6 m6⟩
      · skip
        have HK := Lib.hid fun (w' : World) (hb : Below w.heap.size w w') => old_any (h.kept hb) hL p d l (hl.kept hb) hE h0 h1
        have hpk : pickF 4 nums L l = oldF (lastT L) l := by rw [pickF, if_neg (by decide), if_pos rfl]
        have HP := Lib.hid (enB_range hE _ (hpk ▸ pickF_mem h0 : oldF (lastT L) l ∈ l))
        obtain ⟨z, hz⟩ : ∃ z, oldF (lastT L) l = z := ⟨_, rfl⟩
        rw [hz] at HK HP
        have hzr := HP.out
        have hxE := nxE_ok hE h0
        have HT : Hid (nxT 4 nums L l = z) := Lib.hid (by rw [nxT, if_pos hxE, hpk, hz])
        have HL : Hid (nxL 4 nums L l = L ++ [z]) := Lib.hid (by rw [nxL, if_pos hxE, hpk, hz])
        have HX := Lib.hid hxE
        have HSX := Lib.hid h
        have HEn := Lib.hid (fun (w' : World) (hb : Below w.heap.size w w') => enabled_any p d l w' (hl.kept hb) h1)
        rw [hE] at HEn
        have c0 := h.blk.cell 0
        obtain ⟨T, hT⟩ : ∃ T, L.length = T := ⟨_, rfl⟩
        have HTL := Lib.hid hT
        have hT6 : T ≤ 1000000 := by omega
        obtain ⟨m, hm⟩ : ∃ m, l.length = m := ⟨_, rfl⟩
        rw [hm] at HK HEn ⊢
        have hm0i : ((m : Int) == 0) = false := by rw [beq_eq_false_iff_ne]; omega
        simp only [List.getElem?_cons_zero, List.getElem?_cons_succ] at c0
        clear h hl hE h0 h1 hpk hz hxE hm hT hL
        go_enter Try.func22, Try.ntmps22
        go_wp2_with fail
        refine (HEn.out _ (Below.refl _ _)).mono ?_
        rintro e w1 ⟨rfl, hb1⟩
        have HB1 := Lib.hid hb1
        clear hb1 c0
        have hix : ∀ w : World, (Instr.index 74 (.agg #[.nilFunc, .func (.func 41) #[] #[], .func (.func 42) #[] #[], .func (.func 43) #[] #[], .func (.func 44) #[] #[]]) (.int .i64 4)).run Try.prog w = .ok (.func (.func 44) #[] #[]) w := fun w => by kernel_rfl
        go_upto_region 7 with fail
        have g0 := fun g => Gr.cell (HSX.out.kept HB1.out).blk 0 _ rfl g
        refine wp_region_grows (by kernel_rfl) (by kernel_rfl) ?_
        repeat (go_big_quiet_step ((first | (go_at_call 34; exact Calls.gr _ (pickers_any _)) | (go_at_call 44; exact Calls.gr _ (HK.out _ (below_step HB1.out (Gr.h _)))))))
        refine wpQuiet_nil ?_
        rintro _ ⟨g, rfl⟩
        have hb9 := g.h
        generalize g.w = w2 at hb9 ⊢
        have HB2 := Lib.hid (below_step HB1.out hb9)
        have hSB := (HSX.out.kept (below_step HB1.out hb9)).blk
        have hMB := (HSX.out.kept (below_step HB1.out hb9)).mp
        clear hb9 g0 HK HEn
        rw [HTL.out] at hSB hMB
        have c2 := hSB.cell 2
        have f2 := hSB.free 2
        have hS3 := hSB.set_ 2 (.int .i64 ((T : Int) + 1))
        simp only [List.set_cons_succ, List.set_cons_zero] at hS3
        have hM3 := hMB.fr (S := fun x => x = R) ((Fr.refl _ w2).set ⟨R, 2, none⟩ (.int .i64 ((T : Int) + 1)) (.inl rfl)) (fun e => HSX.out.rb e.symm)
        have hZ3 := (Fr.refl (fun x => x = R ∨ x = b) w2).set ⟨R, 2, none⟩ (.int .i64 ((T : Int) + 1)) (.inl (.inl rfl))
        have HS3 := Lib.hid hS3
        have HM3 := Lib.hid hM3
        have HZ3 := Lib.hid hZ3
        have HRB := Lib.hid HSX.out.rb
        simp only [List.getElem?_cons_zero, List.getElem?_cons_succ] at c2
        clear hS3 hSB hM3 hZ3 hMB
        go_upto_region 9 with fail
        generalize w2.setCell ⟨R, 2, none⟩ (.int .i64 ((T : Int) + 1)) = w3 at HS3 HM3 HZ3 ⊢
        clear c2 f2
        have hS3 : Blk w3.drew R 66 _ := HS3.out
        have c3d := hS3.cell 3
        have f3d := hS3.free 3
        simp only [List.getElem?_cons_zero, List.getElem?_cons_succ] at c3d
        have hS4 := hS3.set_ 3 (.int .i64 z)
        simp only [List.set_cons_succ, List.set_cons_zero] at hS4
        have hM4 : Mp (w3.drew.setCell ⟨R, 3, none⟩ (.int .i64 z)) b T (whenF L) := (show Mp w3.drew b T (whenF L) from HM3.out).fr (S := fun x => x = R) ((Fr.refl _ w3.drew).set ⟨R, 3, none⟩ (.int .i64 z) (.inl rfl)) (fun e => HRB.out e.symm)
        have HS4 := Lib.hid hS4
        have HM4 := Lib.hid hM4
        have HZ4 := Lib.hid (HZ3.out.drew.set ⟨R, 3, none⟩ (.int .i64 z) (.inl (.inl rfl)))
        have HQ := Lib.hid fun (w' : World) (v2 v3 : Value) (hB : Blk w' R 66 [.int .i64 4, v2, .int .i64 ((T : Int) + 1), v3, .map (some b)]) => (⟨hB.cell 4, hB.cell 2⟩ : w'.cell? ⟨R, 4, none⟩ = some (.map (some b)) ∧ w'.cell? ⟨R, 2, none⟩ = some (.int .i64 ((T : Int) + 1)))
        have HQ0 := Lib.hid (HQ.out _ _ _ hS3)
        clear hS3 hS4 hM4
        refine wp_region_noPanic ?_
        refine wp_region_held_drew (S := fun w' => w'.cell? ⟨R, 4, none⟩ = some (.map (some b)) ∧ w'.cell? ⟨R, 2, none⟩ = some (.int .i64 ((T : Int) + 1))) (by kernel_rfl) (HQ0.out) (fun hHeld => ?_)
        refine wpAnyH_take (i := 0) (oi := ⟨some 41, _, _, _, _, _⟩) (v := ?_) rfl (by kernel_rfl) (by kernel_rfl) (by kernel_rfl) (fun _ _ _ h => h) (Or.inl ⟨by rfl, ?_⟩) hHeld ?_
        rotate_left
        · (intro w hSw; obtain ⟨hq1, hq2⟩ := hSw; go_simp; try with_reducible rfl)
        try simp only [Act.put, List.setIfInBounds_toArray, List.set_cons_zero, List.set_cons_succ]
        refine wpAnyH_take (i := 1) (oi := ⟨some 42, _, _, _, _, _⟩) (v := ?_) rfl (by kernel_rfl) (by kernel_rfl) (by kernel_rfl) (fun _ _ _ h => h) (Or.inl ⟨by rfl, ?_⟩) hHeld ?_
        rotate_left
        · (intro w hSw; obtain ⟨hq1, hq2⟩ := hSw; go_simp; try with_reducible rfl)
        try simp only [Act.put, List.setIfInBounds_toArray, List.set_cons_zero, List.set_cons_succ]
        refine wpAnyH_take (i := 2) (oi := ⟨some 43, _, _, _, _, _⟩) (v := ?_) rfl (by kernel_rfl) (by kernel_rfl) (by kernel_rfl) (fun _ _ _ h => h) (Or.inl ⟨by rfl, ?_⟩) hHeld ?_
        rotate_left
        · (intro w hSw; obtain ⟨hq1, hq2⟩ := hSw; go_simp; try with_reducible rfl)
        try simp only [Act.put, List.setIfInBounds_toArray, List.set_cons_zero, List.set_cons_succ]
        refine wpAnyH_take (i := 3) (oi := ⟨some 44, _, _, _, _, _⟩) (v := ?_) rfl (by kernel_rfl) (by kernel_rfl) (by kernel_rfl) (fun _ _ _ h => h) (Or.inl ⟨by rfl, ?_⟩) hHeld ?_
        rotate_left
        · (intro w hSw; obtain ⟨hq1, hq2⟩ := hSw; go_simp; try with_reducible rfl)
        try simp only [Act.put, List.setIfInBounds_toArray, List.set_cons_zero, List.set_cons_succ]
        refine wpAnyH_take (i := 4) (oi := ⟨some 45, _, _, _, _, _⟩) (v := ?_) rfl (by kernel_rfl) (by kernel_rfl) (by kernel_rfl) (fun _ _ _ h => h) (Or.inl ⟨by rfl, ?_⟩) hHeld ?_
        rotate_left
        · (intro w hSw; obtain ⟨hq1, hq2⟩ := hSw; go_simp; try with_reducible rfl)
        try simp only [Act.put, List.setIfInBounds_toArray, List.set_cons_zero, List.set_cons_succ]
        refine wpAnyH_take (i := 5) (oi := ⟨some 46, _, _, _, _, _⟩) (v := ?_) rfl (by kernel_rfl) (by kernel_rfl) (by kernel_rfl) (fun _ _ _ h => h) (Or.inl ⟨by rfl, ?_⟩) hHeld ?_
        rotate_left
        · (intro w hSw; obtain ⟨hq1, hq2⟩ := hSw; go_simp; try with_reducible rfl)
        try simp only [Act.put, List.setIfInBounds_toArray, List.set_cons_zero, List.set_cons_succ]
        refine wpAnyH_take (i := 6) (oi := ⟨some 47, _, _, _, _, _⟩) (v := ?_) rfl (by kernel_rfl) (by kernel_rfl) (by kernel_rfl) (fun _ _ _ h => h) (Or.inl ⟨by rfl, ?_⟩) hHeld ?_
        rotate_left
        · (intro w hSw; obtain ⟨hq1, hq2⟩ := hSw; go_simp; try with_reducible rfl)
        try simp only [Act.put, List.setIfInBounds_toArray, List.set_cons_zero, List.set_cons_succ]
        refine wpAnyH_take (i := 7) (oi := ⟨some 48, _, _, _, _, _⟩) (v := ?_) rfl (by kernel_rfl) (by kernel_rfl) (by kernel_rfl) (fun _ _ _ h => h) (Or.inl ⟨by rfl, ?_⟩) hHeld ?_
        rotate_left
        · (intro w hSw; obtain ⟨hq1, hq2⟩ := hSw; go_simp; try with_reducible rfl)
        try simp only [Act.put, List.setIfInBounds_toArray, List.set_cons_zero, List.set_cons_succ]
        refine wpAnyH_take (i := 8) (oi := ⟨some 49, _, _, _, _, _⟩) (v := ?_) rfl (by kernel_rfl) (by kernel_rfl) (by kernel_rfl) (fun _ _ _ h => h) (Or.inl ⟨by rfl, ?_⟩) hHeld ?_
        rotate_left
        · (intro w hSw; obtain ⟨hq1, hq2⟩ := hSw; go_simp; try with_reducible rfl)
        try simp only [Act.put, List.setIfInBounds_toArray, List.set_cons_zero, List.set_cons_succ]
        refine wpAnyH_take (i := 9) (oi := ⟨some 50, _, _, _, _, _⟩) (v := ?_) rfl (by kernel_rfl) (by kernel_rfl) (by kernel_rfl) (fun _ _ _ h => h) (Or.inl ⟨by rfl, ?_⟩) hHeld ?_
        rotate_left
        · (intro w hSw; obtain ⟨hq1, hq2⟩ := hSw; go_simp; try with_reducible rfl)
        try simp only [Act.put, List.setIfInBounds_toArray, List.set_cons_zero, List.set_cons_succ]
        refine wpAnyH_take (i := 10) (oi := ⟨some 51, _, _, _, _, _⟩) (v := ?_) rfl (by kernel_rfl) (by kernel_rfl) (by kernel_rfl) (fun _ _ _ h => h) (Or.inl ⟨by rfl, ?_⟩) hHeld ?_
        rotate_left
        · (intro w hSw; obtain ⟨hq1, hq2⟩ := hSw; go_simp; try with_reducible rfl)
        try simp only [Act.put, List.setIfInBounds_toArray, List.set_cons_zero, List.set_cons_succ]
        refine wpAnyH_take (i := 11) (oi := ⟨some 52, _, _, _, _, _⟩) (v := ?_) rfl (by kernel_rfl) (by kernel_rfl) (by kernel_rfl) (fun _ _ _ h => h) (Or.inl ⟨by rfl, ?_⟩) hHeld ?_
        rotate_left
        · (intro w hSw; obtain ⟨hq1, hq2⟩ := hSw; go_simp; try with_reducible rfl)
        try simp only [Act.put, List.setIfInBounds_toArray, List.set_cons_zero, List.set_cons_succ]
        refine wpAnyH_take (i := 12) (oi := ⟨some 53, _, _, _, _, _⟩) (v := ?_) rfl (by kernel_rfl) (by kernel_rfl) (by kernel_rfl) (fun _ _ _ h => h) (Or.inl ⟨by rfl, ?_⟩) hHeld ?_
        rotate_left
        · (intro w hSw; obtain ⟨hq1, hq2⟩ := hSw; go_simp; try with_reducible rfl)
        try simp only [Act.put, List.setIfInBounds_toArray, List.set_cons_zero, List.set_cons_succ]
        refine wpAnyH_ready (rs := [13]) (by kernel_rfl) (by simp) ?_
        refine (AllReadyH.cons (o := ⟨none, _, _, _, _, _⟩) rfl (fun K hK => ?_) AllReadyH.nil)
        go_simp
        refine hK.out _ _ (HQ.out _ _ _ HS4.out) (fun hHeld => ?_)
        clear hK K
        try simp only [Act.put, List.setIfInBounds_toArray, List.set_cons_zero, List.set_cons_succ]
        refine wpAnyH_ready (rs := [14]) (by kernel_rfl) (by simp) ?_
        refine (AllReadyH.cons (o := ⟨some 54, _, _, _, _, _⟩) rfl (fun K hK => ?_) AllReadyH.nil)
        (refine step_entry (by rfl) (.tmp 45) (.tmp 46) (by rfl) (by rfl) z (by rfl) HM4.out under3 under64 zero3 (wf_of (by omega) (by omega)) ?_; intro v0 st w4 hl4 hf4)
        have HS5 := Lib.hid (HS4.out.fr hf4 HRB.out)
        have HZ5 := Lib.hid (HZ4.out.trans hf4 (fun x hx => .inl (.inr hx)))
        have HL5 := Lib.hid hl4
        clear hl4 hf4
        refine hK.out _ _ (HQ.out _ _ _ HS5.out) (fun hHeld => ?_)
        clear hK K
        try simp only [Act.put, List.setIfInBounds_toArray, List.set_cons_zero, List.set_cons_succ]
        refine wpAnyH_take (i := 15) (oi := ⟨some 55, _, _, _, _, _⟩) (v := ?_) rfl (by kernel_rfl) (by kernel_rfl) (by kernel_rfl) (fun _ _ _ h => h) (Or.inl ⟨by rfl, ?_⟩) hHeld ?_
        rotate_left
        · (intro w hSw; obtain ⟨hq1, hq2⟩ := hSw; go_simp; try with_reducible rfl)
        try simp only [Act.put, List.setIfInBounds_toArray, List.set_cons_zero, List.set_cons_succ]
        refine wpAnyH_ready (rs := [16]) (by kernel_rfl) (by simp) ?_
        refine (AllReadyH.cons (o := ⟨none, _, _, _, _, _⟩) rfl (fun K hK => ?_) AllReadyH.nil)
        (refine step_estore (by rfl) (.tmp 45) (.tmp 55) (.tmp 51) (by rfl) (by rfl) (by rfl) (.int .i64 ((T : Int) + 1)) (by rfl) HL5.out ?_; intro w5 hm5 hf5)
        have HS6 := Lib.hid (HS5.out.fr hf5 HRB.out)
        have HZ6 := Lib.hid (HZ5.out.trans hf5 (fun x hx => .inl (.inr hx)))
        have HM6 := Lib.hid hm5
        clear hm5 hf5
        refine hK.out _ _ (HQ.out _ _ _ HS6.out) (fun hHeld => ?_)
        clear hK K
        try simp only [Act.put, List.setIfInBounds_toArray, List.set_cons_zero, List.set_cons_succ]
        refine wpAnyH_done (by kernel_rfl) ?_ _
        refine NoPanic.normal ?_
        clear hHeld
        go_wp2_with fail
        go_ret2
        have h6 := HS6.out
        have m6 := HM6.out
        rw [← HTL.out] at h6 m6
        exact ⟨by rw [HT.out, HX.out]; rfl, by rw [HL.out]; exact next_end HSX.out HB2.out HZ6.out h6 m6⟩
theorem turns_any (h : SS w R b q c kind nums L) : Calls Try.prog 13 #[.pointer (some ⟨R, 0, none⟩)] w fun e w' => e = .returned (.int .i64 L.length) ∧ w = w' := by
  have c2 : w.cell? ⟨R, 2, none⟩ = some (.int .i64 L.length) := h.blk.cell 2
  clear h
  generalize L.length = T at *
  go_enter Try.func13, Try.ntmps13
  go_wp2_with fail
  go_ret
  exact ⟨rfl, rfl⟩
end
end Go.Proofs.Ytfidnecdojgkjaa
