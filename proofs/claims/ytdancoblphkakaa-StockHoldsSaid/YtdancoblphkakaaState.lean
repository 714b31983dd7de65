/- State. -/
import Derived.Test.YtdancoblphkakaaCopy
namespace Go.Proofs.Ytdancoblphkakaa
open Go.RowKit
section
variable {w w1 w2 w' W : World} {X ob n k g d db dc N : Nat} {S : Nat → Prop} {G : List (List Int)} {D : List Int} {rs : List (Nat × Nat)}
theorem Made.cells (h : Made W w2 G D ob rs db dc) (hW : Below w.heap.size w W) (hlo : w.heap.size ≤ N) (hN : N < W.heap.size) (u v : Value) : Made w ((w2.setCell ⟨N, 0, none⟩ u).setCell ⟨N, 1, none⟩ v) G D ob rs db dc := by
  have hR := RowsP.first hW h.r
  have e1 : N ≠ ob := by have := h.r.lo; omega
  have e2 : N ≠ db := by have := h.lo; omega
  have e3 : ∀ r ∈ rs, r.1 ≠ N := fun r hr => by have := h.r.bd r hr; have := h.r.lo; omega
  have hsz := hW.size
  refine ⟨⟨(hR.hb.setCell (p := ⟨N, 0, none⟩) hlo u).setCell (p := ⟨N, 1, none⟩) hlo v, (hR.hG.far (p := ⟨N, 0, none⟩) (fun e => e1 e.symm) u).far (p := ⟨N, 1, none⟩) (fun e => e1 e.symm) v, hR.len, hR.lo, fun i a b => ((hR.row i a b).far (p := ⟨N, 0, none⟩) (e3 _ (List.getElem_mem a)) u).far (p := ⟨N, 1, none⟩) (e3 _ (List.getElem_mem a)) v, fun r hr => by simpa using hR.bd r hr, hR.dis⟩, (h.hD.far (p := ⟨N, 0, none⟩) (fun e => e2 e.symm) u).far (p := ⟨N, 1, none⟩) (fun e => e2 e.symm) v, h.lD, by have := h.lo; omega, h.nd, h.cap⟩
/-- What State hands back. -/
def RetState (w : World) (G : List (List Int)) (D : List Int) (e : Ending) (w' : World) : Prop := ∃ ob rs db dc, e = .returned (.agg #[.slice (some ⟨ob, 0, none⟩) G.length G.length, .slice (some ⟨db, 0, none⟩) G.length dc]) ∧ Made w w' G D ob rs db dc
set_option maxHeartbeats 1000000 in
theorem state_any (h : ST w X S G D) : Calls Try.prog 26 #[.pointer (some ⟨X, 0, none⟩)] w (RetState w G D) := by
  have HL := Lib.hid h.wide.2.2.2.2
  have HLD := Lib.hid h.wide.2.2.2.1
  have HH := Lib.hid h
  obtain ⟨h0, h1, hN, gb, gc, db, dc, rs, hd⟩ := h
  obtain ⟨hc0, hc1⟩ := hd.cells
  have K0 := Lib.hid hc0
  have K1 := Lib.hid hc1
  have HXW := Lib.hid (hd.lt X hd.sX)
  have HD := Lib.hid hd
  clear hd hN hc0 hc1
  go_enter Try.func26, Try.ntmps26
  go_wp2_with fail
  generalize hW : (World.alloc _ _) = W
  have hW0 : Below w.heap.size w W := by rw [← hW]; exact (Below.refl _ _).alloc (Nat.le_refl _) _
  have hWB : Blk W w.heap.size 25 [.slice none 0 0, .slice none 0 0] := by rw [← hW]; exact Blk.new w 25 _
  have HW0 := Lib.hid hW0
  obtain ⟨N, hNe⟩ : ∃ N, w.heap.size = N := ⟨_, rfl⟩
  have HNL := Lib.hid (show w.heap.size ≤ N by omega)
  rw [hNe] at hWB ⊢
  have HNW := Lib.hid hWB.lt
  have hdW := HD.out.kept hW0
  obtain ⟨hc0, hc1⟩ := hdW.cells
  have HXL := Lib.hid (hdW.lt X hdW.sX)
  have HMR := Lib.hid (fun w' (hb : Below W.heap.size W w') => hdW.mr.kept hb)
  have HRD := Lib.hid (fun w' (hb : Below W.heap.size W w') => hdW.hD.rd.kept hb)
  clear hW hNe hdW
  refine (none_any (HH.out.kept hW0)).mono ?_
  rintro e w' ⟨rfl, rfl⟩
  clear hW0
  go_upto_region 3 with fail
  refine wp_region_noPanic ?_
  refine wp_region_held_drew (S := fun w' => w'.cell? ⟨X, 0, none⟩ = some (.slice (some ⟨gb, 0, none⟩) G.length gc) ∧ w'.cell? ⟨X, 1, none⟩ = some (.slice (some ⟨db, 0, none⟩) G.length dc)) (by kernel_rfl) (⟨hc0, hc1⟩) (fun hHeld => ?_)
  refine wpAnyH_take (i := 0) (oi := ⟨some 6, _, _, _, _, _⟩) (v := ?_) rfl (by kernel_rfl) (by kernel_rfl) (by kernel_rfl) (fun _ _ _ h => h) (Or.inl ⟨by rfl, ?_⟩) hHeld ?_
  rotate_left
  · (intro w hSw; obtain ⟨s0, s1⟩ := hSw; go_simp; try with_reducible rfl)
  try simp only [Act.put, List.setIfInBounds_toArray, List.set_cons_zero, List.set_cons_succ]
  refine wpAnyH_take (i := 1) (oi := ⟨some 7, _, _, _, _, _⟩) (v := ?_) rfl (by kernel_rfl) (by kernel_rfl) (by kernel_rfl) (fun _ _ _ h => h) (Or.inl ⟨by rfl, ?_⟩) hHeld ?_
  rotate_left
  · (intro w hSw; obtain ⟨s0, s1⟩ := hSw; go_simp; try with_reducible rfl)
  try simp only [Act.put, List.setIfInBounds_toArray, List.set_cons_zero, List.set_cons_succ]
  refine wpAnyH_take (i := 2) (oi := ⟨some 8, _, _, _, _, _⟩) (v := ?_) rfl (by kernel_rfl) (by kernel_rfl) (by kernel_rfl) (fun _ _ _ h => h) (Or.inl ⟨by rfl, ?_⟩) hHeld ?_
  rotate_left
  · (intro w hSw; obtain ⟨s0, s1⟩ := hSw; go_simp; try with_reducible rfl)
  try simp only [Act.put, List.setIfInBounds_toArray, List.set_cons_zero, List.set_cons_succ]
  refine wpAnyH_take (i := 3) (oi := ⟨some 9, _, _, _, _, _⟩) (v := ?_) rfl (by kernel_rfl) (by kernel_rfl) (by kernel_rfl) (fun _ _ _ h => h) (Or.inl ⟨by rfl, ?_⟩) hHeld ?_
  rotate_left
  · (intro w hSw; obtain ⟨s0, s1⟩ := hSw; go_simp; try with_reducible rfl)
  try simp only [Act.put, List.setIfInBounds_toArray, List.set_cons_zero, List.set_cons_succ]
  refine wpAnyH_take (i := 5) (oi := ⟨some 11, _, _, _, _, _⟩) (v := ?_) rfl (by kernel_rfl) (by kernel_rfl) (by kernel_rfl) (fun _ _ _ h => h) (Or.inl ⟨by rfl, ?_⟩) hHeld ?_
  rotate_left
  · (intro w hSw; obtain ⟨s0, s1⟩ := hSw; go_simp; try with_reducible rfl)
  try simp only [Act.put, List.setIfInBounds_toArray, List.set_cons_zero, List.set_cons_succ]
  refine wpAnyH_take (i := 6) (oi := ⟨some 12, _, _, _, _, _⟩) (v := ?_) rfl (by kernel_rfl) (by kernel_rfl) (by kernel_rfl) (fun _ _ _ h => h) (Or.inl ⟨by rfl, ?_⟩) hHeld ?_
  rotate_left
  · (intro w hSw; obtain ⟨s0, s1⟩ := hSw; go_simp; try with_reducible rfl)
  try simp only [Act.put, List.setIfInBounds_toArray, List.set_cons_zero, List.set_cons_succ]
  refine wpAnyH_take (i := 7) (oi := ⟨some 13, _, _, _, _, _⟩) (v := ?_) rfl (by kernel_rfl) (by kernel_rfl) (by kernel_rfl) (fun _ _ _ h => h) (Or.inl ⟨by rfl, ?_⟩) hHeld ?_
  rotate_left
  · (intro w hSw; obtain ⟨s0, s1⟩ := hSw; go_simp; try with_reducible rfl)
  try simp only [Act.put, List.setIfInBounds_toArray, List.set_cons_zero, List.set_cons_succ]
  refine wpAnyH_take (i := 8) (oi := ⟨some 14, _, _, _, _, _⟩) (v := ?_) rfl (by kernel_rfl) (by kernel_rfl) (by kernel_rfl) (fun _ _ _ h => h) (Or.inl ⟨by rfl, ?_⟩) hHeld ?_
  rotate_left
  · (intro w hSw; obtain ⟨s0, s1⟩ := hSw; go_simp; try with_reducible rfl)
  try simp only [Act.put, List.setIfInBounds_toArray, List.set_cons_zero, List.set_cons_succ]
  refine wpAnyH_ready (rs := [4]) (by kernel_rfl) (by simp) ?_
  refine (AllReadyH.cons (o := ⟨some 10, _, _, _, _, _⟩) rfl (fun K hK => ?_) AllReadyH.nil)
  go_simp
  (refine (rows_any _ _ (HMR.out _ (Below.refl W.heap.size W).drew) h0 (by omega) HL.out).mono ?_; rintro e w1 ⟨ob, rs, rfl, hR0⟩)
  have hR := RowsP.first (Below.refl W.heap.size W).drew hR0
  refine hK.out _ _ (⟨((hR.hb).cell (p := ⟨X, 0, none⟩) HXL.out).trans hc0, ((hR.hb).cell (p := ⟨X, 1, none⟩) HXL.out).trans hc1⟩) (fun hHeld => ?_)
  clear hK K
  try simp only [Act.put, List.setIfInBounds_toArray, List.set_cons_zero, List.set_cons_succ]
  refine wpAnyH_ready (rs := [9]) (by kernel_rfl) (by simp) ?_
  refine (AllReadyH.cons (o := ⟨some 15, _, _, _, _, _⟩) rfl (fun K hK => ?_) AllReadyH.nil)
  go_simp
  (refine (cloneN_any _ G.length _ D _ (HRD.out _ hR.hb) HLD.out (by omega) (by omega)).mono ?_; rintro e w2 ⟨g, d, rfl, hrow, hg, hd1, hd2, hb2⟩)
  have hM := made1 hR hb2 hrow hg HLD.out hd1 hd2
  refine hK.out _ _ (⟨((hM.r.hb).cell (p := ⟨X, 0, none⟩) HXL.out).trans hc0, ((hM.r.hb).cell (p := ⟨X, 1, none⟩) HXL.out).trans hc1⟩) (fun hHeld => ?_)
  clear hK K
  try simp only [Act.put, List.setIfInBounds_toArray, List.set_cons_zero, List.set_cons_succ]
  refine wpAnyH_take (i := 10) (oi := ⟨some 16, _, _, _, _, _⟩) (v := ?_) rfl (by kernel_rfl) (by kernel_rfl) (by kernel_rfl) (fun _ _ _ h => h) (Or.inl ⟨by rfl, ?_⟩) hHeld ?_
  rotate_left
  · (intro w hSw; obtain ⟨s0, s1⟩ := hSw; go_simp; try with_reducible rfl)
  try simp only [Act.put, List.setIfInBounds_toArray, List.set_cons_zero, List.set_cons_succ]
  refine wpAnyH_ready (rs := [11]) (by kernel_rfl) (by simp) ?_
  refine (AllReadyH.cons (o := ⟨none, _, _, _, _, _⟩) rfl (fun K hK => ?_) AllReadyH.nil)
  have hB2 := hWB.kept hM.r.hb
  have m0 := hB2.cell 0
  have m1 := hB2.cell 1
  have f0 := hB2.free 0
  have f1 := hB2.free 1
  have hZ := hM.cells HW0.out HNL.out HNW.out (.slice (some ⟨ob, 0, none⟩) G.length G.length) (.slice (some ⟨g, 0, none⟩) G.length d)
  have hZB := (hB2.set_ 0 (.slice (some ⟨ob, 0, none⟩) G.length G.length)).set_ 1 (.slice (some ⟨g, 0, none⟩) G.length d)
  go_simp
  refine hK.out _ _ (⟨(hZ.r.hb.cell (p := ⟨X, 0, none⟩) HXW.out).trans K0.out, (hZ.r.hb.cell (p := ⟨X, 1, none⟩) HXW.out).trans K1.out⟩) (fun hHeld => ?_)
  clear hK K
  try simp only [Act.put, List.setIfInBounds_toArray, List.set_cons_zero, List.set_cons_succ]
  refine wpAnyH_done (by kernel_rfl) ?_ _
  refine NoPanic.normal ?_
  clear hc0 hc1 m0 m1 f0 f1 hB2
  have HZC : Blk _ N 25 [.slice (some ⟨ob, 0, none⟩) G.length G.length, .slice (some ⟨g, 0, none⟩) G.length d] := hZB
  clear hZB
  have HZ := Lib.hid hZ
  clear hZ
  go_wp2_with fail
  try simp only [Exit.inBlock, Exit.then]
  refine bodyPost_ret (results_cell_row rfl _ _ N 25 _ (0, 0) _ (by rfl) HZC Try.underlying25 (by rfl) (by kernel_rfl)) rfl ?_
  exact ⟨_, _, _, _, rfl, HZ.out⟩
end
end Go.Proofs.Ytdancoblphkakaa
