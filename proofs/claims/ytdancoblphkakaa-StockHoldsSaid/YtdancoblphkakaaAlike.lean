/- alike: a stock has a state, and what State gives is the caller's own. -/
import Derived.Test.YtdancoblphkakaaJoined
namespace Go.Proofs.Ytdancoblphkakaa
open Go.RowKit

theorem joined_any {w : World} {U : Nat → Prop} {v u : Value} {G H : List (List Int)} {D E : List Int} (hx : VS w U v G D) (hy : VS w U u H E) (sG : Shape G D) (sH : Shape H E) : Calls Try.prog 14 #[v, u] w (RetSE w U (afterG G D H E) (afterD G D H E) (joinE G D H E)) := by
  by_cases hn : G.length = H.length
  · refine (joined_same G.length hx hy rfl hn.symm sG sH).mono ?_
    rintro e w' (⟨hr, hs⟩ | ⟨hr, hs⟩)
    · have e0 : joinE G D H E = 0 := by rw [joinE, if_pos hn, if_pos hr]
      rw [afterG, afterD, e0]
      exact hs
    · have e0 : joinE G D H E = 10 := by rw [joinE, if_pos hn, if_neg hr]
      rw [afterG, afterD, e0]
      exact hs
  · refine (joined_len hx hy hn).mono ?_
    intro e w' hs
    have e0 : joinE G D H E = 3 := by rw [joinE, if_neg hn]
    rw [afterG, afterD, e0]
    exact hs
/-- Rows of some numbers that may be written. -/
structure Loose (w : World) (B ob n : Nat) (rs : List (Nat × Nat)) : Prop where
  hG : ∃ cs, Blk w ob 23 cs ∧ rs.map (rowV n) <+: cs
  len : rs.length = n
  row : ∀ r ∈ rs, B ≤ r.1 ∧ ∃ cs, Blk w r.1 3 cs ∧ ∀ k, k < n → ∃ z, cs[k]? = some (.int .i64 z)
section
variable {w w' W : World} {B ob n i k N3 db dc : Nat} {rs : List (Nat × Nat)} {G : List (List Int)} {D : List Int}
theorem Loose.kept (h : Loose w B ob n rs) (k : Below w.heap.size w w') : Loose w' B ob n rs :=
  ⟨by obtain ⟨cs, h1, h2⟩ := h.hG; exact ⟨cs, h1.kept k, h2⟩, h.len, fun r hr => by obtain ⟨h1, cs, h2, h3⟩ := h.row r hr; exact ⟨h1, cs, h2.kept k, h3⟩⟩
theorem Made.loose (h : Made W w G D ob rs db dc) (hl : ∀ i (_ : i < G.length), (G[i]).length = G.length) : Loose w W.heap.size ob G.length rs := by
  refine ⟨⟨_, h.r.hG, by rw [Nat.sub_self]; simp⟩, h.r.len, fun r hr => ?_⟩
  obtain ⟨j, hj, rfl⟩ := List.mem_iff_getElem.1 hr
  have hj2 : j < G.length := by rw [← h.r.len]; exact hj
  obtain ⟨cs, h1, t, rfl⟩ := h.r.row j hj hj2
  refine ⟨by have := h.r.bd _ hr; have := h.r.lo; omega, _, h1, fun k hk => ?_⟩
  have hk2 : k < (G[j]).length := by rw [hl j hj2]; exact hk
  exact ⟨_, by rw [List.getElem?_append_left (by rw [ints_len]; exact hk2), ints_at _ k hk2]⟩
theorem Made.mr (h : Made W w G D ob rs db dc) (hl : ∀ i (_ : i < G.length), (G[i]).length = G.length) : MR w (some ⟨ob, 0, none⟩) G := by
  refine ⟨rs.map (rowV G.length), Rd.of_blk h.r.hG (by rw [Nat.sub_self]; simp), by simp [h.r.len], fun i hi hi2 => ?_⟩
  have hi3 : i < rs.length := by simpa using hi
  exact ⟨_, (rs[i]).2, by simp [rowV, hl i hi2], (h.r.row i hi3 hi2).rd⟩
theorem Loose.at_ (h : Loose w B ob n rs) (hi : i < n) (hk : k < n) : ∃ r c z, w.cell? ⟨ob, i, none⟩ = some (.slice (some ⟨r, 0, none⟩) n c) ∧ w.cell? ⟨r, k, none⟩ = some (.int .i64 z) ∧ w.frozen? ⟨r, k, none⟩ = false ∧ B ≤ r ∧ (∃ cs, Blk w r 3 cs) ∧
    ∀ z', Loose (w.setCell ⟨r, k, none⟩ (.int .i64 z')) B ob n rs := by
  have hr : i < rs.length := by rw [h.len]; exact hi
  obtain ⟨cs, h1, h2⟩ := h.hG
  obtain ⟨h3, ds, h4, h5⟩ := h.row _ (List.getElem_mem hr)
  obtain ⟨z, hz⟩ := h5 k hk
  obtain ⟨t, ht⟩ := h2
  refine ⟨(rs[i]).1, (rs[i]).2, z, ?_, by rw [h4.cell k, hz], h4.free k, h3, ⟨_, h4⟩, fun z' => ⟨⟨cs, h1.far (type_ne h1 h4 (by decide)) _, t, ht⟩, h.len, fun r hr2 => ?_⟩⟩
  · rw [h1.cell i, ← ht, List.getElem?_append_left (by simpa using hr), List.getElem?_map, List.getElem?_eq_getElem hr]
    rfl
  · obtain ⟨g1, es, g2, g3⟩ := h.row r hr2
    refine ⟨g1, ?_⟩
    by_cases e : r.1 = (rs[i]).1
    · rw [e] at g2 ⊢
      refine ⟨_, h4.set_ k _, fun j hj => ?_⟩
      obtain ⟨z2, hz2⟩ := h5 j hj
      rw [List.getElem?_set]
      split
      · rename_i e2
        subst e2
        have : k < ds.length := (List.getElem?_eq_some_iff.1 hz).1
        simp [this]
      · exact ⟨z2, hz2⟩
    · exact ⟨es, g2.far e _, g3⟩
end
section
variable {w : World} {X : Nat} {S U : Nat → Prop} {v : Value} {G : List (List Int)} {D : List Int}
set_option maxRecDepth 100000 in
set_option maxHeartbeats 8000000 in
theorem alike_any (h : ST w X S G D) (hx : VS w U v G D) : Calls Try.prog 16 #[.pointer (some ⟨X, 0, none⟩), v] w fun e w' => e = .returned (.bool true) ∧ Below w.heap.size w w' := by
  obtain ⟨pg, cg, qd, cd, rfl, hM0, hR0⟩ := hx.reads
  obtain ⟨g1, g16, hN, hld, hl⟩ := h.wide
  rw [hld]
  have HH := Lib.hid h
  have HM := Lib.hid hM0
  have HR := Lib.hid hR0
  have HN := Lib.hid hN
  have HLD := Lib.hid hld
  have HL := Lib.hid hl
  have HL2 := Lib.hid (show ∀ l ∈ G, l.length ≤ 20 by
    intro l hl2
    obtain ⟨j, hj, rfl⟩ := List.mem_iff_getElem.1 hl2
    rw [hl j hj]; omega)
  have HS1 := Lib.hid (show shareN G D (-1) = 0 ∧ shareE G (-1) = 2 by
    have : okP G.length (-1) = false := by simp [okP]
    simp [shareN, shareE, this])
  have HS2 := Lib.hid (show shareN G D G.length = 0 ∧ shareE G G.length = 2 by
    have : okP G.length G.length = false := by simp [okP]
    simp [shareN, shareE, this])
  clear hx h hM0 hR0 hN hld hl
  go_enter Try.func16, Try.ntmps16
  go_wp2_with fail
  generalize hW : (World.alloc _ _) = W
  have hWb : Below w.heap.size w W := by rw [← hW]; exact (Below.refl _ _).alloc (Nat.le_refl _) _
  have hB1 : Blk W w.heap.size 25 [.slice pg G.length cg, .slice qd G.length cd] := by rw [← hW]; exact Blk.new w 25 _
  obtain ⟨N3, hN3⟩ : ∃ N, w.heap.size = N := ⟨_, rfl⟩
  rw [hN3] at hB1 ⊢
  have HB := Lib.hid hWb
  have HB1 := Lib.hid hB1
  clear hW hN3 hWb hB1
  refine (state_any (HH.out.kept HB.out)).mono ?_
  rintro e w1 ⟨ob, rs, db, dc, rfl, hM1⟩
  have HM1 := Lib.hid hM1
  have hb1 := hM1.r.hb
  clear hM1
  go_wp2_with fail
  generalize hV : (World.alloc _ _) = V
  have hVb : Below w1.heap.size w1 V := by rw [← hV]; exact (Below.refl _ _).alloc (Nat.le_refl _) _
  have hB5 : Blk V w1.heap.size 25 [.slice (some ⟨ob, 0, none⟩) G.length G.length, .slice (some ⟨db, 0, none⟩) G.length dc] := by rw [← hV]; exact Blk.new w1 25 _
  obtain ⟨N5, hN5⟩ : ∃ N, w1.heap.size = N := ⟨_, rfl⟩
  rw [hN5] at hB5 ⊢
  have HB5 := Lib.hid hB5
  have HV1 := Lib.hid hVb
  have HBV := Lib.hid (below_step HB.out (below_step hb1 hVb))
  have HB1V := Lib.hid (HB1.out.kept (below_step hb1 hVb))
  clear hV hN5 hVb hB5 hb1
  go_wp2_with fail
  go_loopw [6, 7, 8] (fun a b i wr => ∃ k : Nat, k ≤ G.length ∧ i = .int .i64 k ∧ a = .int .i64 (leftAcc G D k) ∧ b = .int .i64 (soldAcc D k) ∧ Below V.heap.size V wr) (fun _ _ i _ => G.length - (intOf i).toNat)
  case atStart => exact ⟨0, Nat.zero_le _, rfl, rfl, rfl, Below.refl _ _⟩
  case round =>
    obtain ⟨k, hk, rfl, rfl, rfl, hb⟩ := hrel
    have hBk := HB1V.out.kept hb
    have c0 := hBk.cell 0
    have c1 := hBk.cell 1
    have HBW := Lib.hid (below_step HBV.out hb)
    have HBk := Lib.hid hBk
    by_cases hlt : k < G.length
    · have hki : (k : Int) < (G.length : Int) := by omega
      clear hBk
      have HLS := Lib.hid (fun w2 (hb2 : Below w.heap.size w w2) => lawShare_any pg qd cg cd k (HM.out.kept hb2) (HR.out.kept hb2) HN.out (by omega) HL.out HLD.out hlt)
      rw [law_share hlt] at HLS
      have HSA := Lib.hid (fun w2 (hb2 : Below w.heap.size w w2) => shares_any (k : Int) (share G D k) 0 (HH.out.kept hb2) (by rw [shareN, if_pos ((okP_iff _ _).2 ⟨by omega, hki⟩), Int.toNat_natCast]) (by rw [shareE, if_pos ((okP_iff _ _).2 ⟨by omega, hki⟩)]))
      have HE1 := Lib.hid (show leftAcc G D (k + 1) = leftAcc G D k + share G D k from rfl)
      have HE2 := Lib.hid (show soldAcc D (k + 1) = soldAcc D k + da D k from rfl)
      have z12 := share_bd HN.out g16 k
      have z34 := leftAcc_bd HN.out g16 k
      have z56 := soldAcc_bd HN.out k
      have z78 := HN.out.d k
      go_wp2_with fail
      refine (HLS.out _ HBW.out).mono ?_
      rintro e w2 ⟨rfl, hb2⟩
      have HBX := Lib.hid (below_step HBW.out hb2)
      go_wp2_with fail
      refine (HSA.out _ HBX.out).mono ?_
      rintro e w3 ⟨rfl, hb3⟩
      have HBY := Lib.hid (below_step HBX.out hb3)
      have HBZ := Lib.hid (below_step hb (below_step hb2 hb3))
      obtain ⟨b1, o1, rfl, l1, y1⟩ := HR.out.int (k := k) (by rw [HLD.out]; exact hlt)
      rw [← da_at (by rw [HLD.out]; exact hlt)] at y1
      have y1 := (HBY.out.cell (p := ⟨b1, o1 + k, none⟩) l1).trans y1
      have l3 : b1 < w3.heap.size := Nat.lt_of_lt_of_le l1 HBY.out.size
      have hBk3 := HB1V.out.kept HBZ.out
      have d0 := fun g => Gr.cell hBk3 0 _ rfl g
      have d1 := fun g => Gr.cell hBk3 1 _ rfl g
      have d2 := fun g => Gr.at_ l3 y1 g
      clear c0 c1 hb hb2 hb3 hBk3 y1
      generalize share G D k = sh at HE1 z12 HLS
      generalize leftAcc G D k = la at HE1 z34 ⊢
      generalize soldAcc D k = so at HE2 z56 ⊢
      generalize da D k = dk at HE2 z78 d2
      go_wp2_with fail
      refine wp_region_grows (by kernel_rfl) (by kernel_rfl) ?_
      repeat (go_big_quiet_step ((first | (go_at_call 31; exact Calls.gr _ (HLS.out _ (below_step HBY.out (Gr.h _)))))))
      refine wpQuiet_nil ?_
      rintro _ ⟨g, rfl⟩
      have hb9 := g.h
      generalize g.w = w9 at hb9 ⊢
      have HB9 := Lib.hid (below_step HBZ.out hb9)
      clear HLS HSA HBX HBY HBZ d0 d1 d2 hb9
      go_wp2_with fail
      go_roundw
      case rel => exact ⟨k + 1, by omega, by go_num, by rw [HE1.out], by rw [HE2.out], HB9.out⟩
      case measure => simp [intOf]; omega
    · have hkn : k = G.length := by omega
      subst hkn
      have HBV2 := Lib.hid hb
      have hB5k := HB5.out.kept hb
      have hM1 := HM1.out
      have hMR := hM1.mr HL.out
      have hDR := hM1.hD.rd
      have HMR := Lib.hid (fun w9 (hb9 : Below wr.heap.size wr w9) => (hMR.kept HV1.out).kept (below_step hb hb9))
      have HDR := Lib.hid (fun w9 (hb9 : Below wr.heap.size wr w9) => (hDR.kept HV1.out).kept (below_step hb hb9))
      have e0 := fun g => Gr.cell hB5k 0 _ rfl g
      have e1 := fun g => Gr.cell hB5k 1 _ rfl g
      have d0 := fun g => Gr.cell hBk 0 _ rfl g
      have d1 := fun g => Gr.cell hBk 1 _ rfl g
      clear hBk hB5k hb hM1 hMR hDR
      go_upto_region 9 with fail
      clear c0 c1
      refine wp_region_grows (by kernel_rfl) (by kernel_rfl) ?_
      repeat (go_big_quiet_step ((first
        | (go_at_call 25; exact Calls.gr _ (same_any (some ⟨ob, 0, none⟩) (some ⟨db, 0, none⟩) pg qd G.length dc cg cd G.length G.length (HMR.out _ (Gr.h _)) (HDR.out _ (Gr.h _)) (HM.out.kept (below_step HBW.out (Gr.h _))) (HR.out.kept (below_step HBW.out (Gr.h _))) rfl HLD.out (by omega) (by omega) HL2.out))
        | (go_at_call 22; exact Calls.gr_same _ ((places_any (HH.out.kept (below_step HBW.out (Gr.h _)))).mono fun e w' ⟨he, hw⟩ => ⟨he, hw.symm⟩))
        | (go_at_call 23; exact Calls.gr _ (left_any (HH.out.kept (below_step HBW.out (Gr.h _)))))
        | (go_at_call 24; exact Calls.gr_same _ (sold_any (HH.out.kept (below_step HBW.out (Gr.h _)))))
        | (go_at_call 21; exact Calls.gr _ (shares_any _ 0 2 (HH.out.kept (below_step HBW.out (Gr.h _))) (by first | exact HS1.out.1 | exact HS2.out.1) (by first | exact HS1.out.2 | exact HS2.out.2))))))
      refine wpQuiet_nil ?_
      rintro _ ⟨g, rfl⟩
      have hb9 := g.h
      generalize g.w = w9 at hb9 ⊢
      clear d0 d1 e0 e1
      have HB9 := Lib.hid (below_step HBV2.out hb9)
      clear hb9
      have hb1V := below_step HM1.out.r.hb HV1.out
      have hI := below_step hb1V HB9.out
      have hLo := ((HM1.out.loose HL.out).kept HV1.out).kept HB9.out
      have hB5 := HB5.out.kept HB9.out
      clear hb1V
      go_wp2_with fail
      go_loopw [10] (fun i wr => ∃ k : Nat, k ≤ G.length ∧ i = .int .i64 k ∧ Below W.heap.size W wr ∧ Loose wr W.heap.size ob G.length rs ∧ Blk wr N5 25 [.slice (some ⟨ob, 0, none⟩) G.length G.length, .slice (some ⟨db, 0, none⟩) G.length dc]) (fun i _ => G.length - (intOf i).toNat)
      case atStart => exact ⟨0, Nat.zero_le _, rfl, hI, hLo, hB5⟩
      case round =>
        clear hI hLo hB5
        obtain ⟨i, hi, rfl, hb, hLo, hB5⟩ := hrel
        have c0 := hB5.cell 0
        by_cases hlt : i < G.length
        · have hki : (i : Int) < (G.length : Int) := by omega
          have HBx := Lib.hid hb
          have HLx := Lib.hid hLo
          have HB5x := Lib.hid hB5
          clear hb hLo hB5
          go_wp2_with fail
          go_loopw [11] (fun j wr => ∃ k : Nat, k ≤ G.length ∧ j = .int .i64 k ∧ Below W.heap.size W wr ∧ Loose wr W.heap.size ob G.length rs ∧ Blk wr N5 25 [.slice (some ⟨ob, 0, none⟩) G.length G.length, .slice (some ⟨db, 0, none⟩) G.length dc]) (fun j _ => G.length - (intOf j).toNat)
          case atStart => exact ⟨0, Nat.zero_le _, rfl, HBx.out, HLx.out, HB5x.out⟩
          case round =>
            clear c0 HBx HLx HB5x
            obtain ⟨j, hj, rfl, hb, hLo, hB5⟩ := hrel
            have c0 := hB5.cell 0
            by_cases hlt2 : j < G.length
            · have hkj : (j : Int) < (G.length : Int) := by omega
              obtain ⟨r, c, z, y0, y1, y2, hlo, ⟨cs, hcs⟩, hset⟩ := hLo.at_ hlt hlt2
              have hne := type_ne hB5 hcs (by decide)
              have HS := Lib.hid hset
              have HBX := Lib.hid (fun u => hb.setCell (p := ⟨r, j, none⟩) hlo u)
              have HB5X := Lib.hid (fun u => hB5.far (p := ⟨r, j, none⟩) hne u)
              clear hset hcs hb hLo hB5
              go_wp2_with fail
              go_roundw
              case rel => exact ⟨j + 1, by omega, by go_num, HBX.out _, HS.out _, HB5X.out _⟩
              case measure => simp [intOf]; omega
            · have hjn : j = G.length := by omega
              obtain ⟨r, c, z, y0, _, _, _, _, _⟩ := hLo.at_ (k := 0) hlt (by omega)
              have HBx := Lib.hid hb
              have HLx := Lib.hid hLo
              have HB5x := Lib.hid hB5
              clear hb hLo hB5 hjn
              go_wp2_with fail
              go_roundw
              case rel => exact ⟨i + 1, by omega, by go_num, HBx.out, HLx.out, HB5x.out⟩
              case measure => simp [intOf]; omega
        · have hjn : i = G.length := by omega
          have hk8 : decide (i < G.length) = false := by simp; omega
          have HBx := Lib.hid hb
          have hBk := HB1.out.kept hb
          have d0 := hBk.cell 0
          have d1 := hBk.cell 1
          have lN3 := hBk.lt
          have HBW := Lib.hid (HB.out.trans (hb.mono HB.out.size))
          clear hb hLo hB5 hBk hjn
          go_upto_region 17 with fail
          clear c0
          have c0 := d0
          have c1 := d1
          clear d0 d1
          refine wp_region_noPanic ?_
          refine wp_region_held_drew (S := fun w' => w'.cell? ⟨N3, 0, none⟩ = some (.slice pg G.length cg) ∧ w'.cell? ⟨N3, 1, none⟩ = some (.slice qd G.length cd)) (by kernel_rfl) (⟨c0, c1⟩) (fun hHeld => ?_)
          refine wpAnyH_take (i := 0) (oi := ⟨some 104, _, _, _, _, _⟩) (v := ?_) rfl (by kernel_rfl) (by kernel_rfl) (by kernel_rfl) (fun _ _ _ h => h) (Or.inl ⟨by rfl, ?_⟩) hHeld ?_
          rotate_left
          · (intro w hSw; obtain ⟨s0, s1⟩ := hSw; go_simp; try with_reducible rfl)
          try simp only [Act.put, List.setIfInBounds_toArray, List.set_cons_zero, List.set_cons_succ]
          refine wpAnyH_take (i := 1) (oi := ⟨some 105, _, _, _, _, _⟩) (v := ?_) rfl (by kernel_rfl) (by kernel_rfl) (by kernel_rfl) (fun _ _ _ h => h) (Or.inl ⟨by rfl, ?_⟩) hHeld ?_
          rotate_left
          · (intro w hSw; obtain ⟨s0, s1⟩ := hSw; go_simp; try with_reducible rfl)
          try simp only [Act.put, List.setIfInBounds_toArray, List.set_cons_zero, List.set_cons_succ]
          refine wpAnyH_take (i := 2) (oi := ⟨some 106, _, _, _, _, _⟩) (v := ?_) rfl (by kernel_rfl) (by kernel_rfl) (by kernel_rfl) (fun _ _ _ h => h) (Or.inl ⟨by rfl, ?_⟩) hHeld ?_
          rotate_left
          · (intro w hSw; obtain ⟨s0, s1⟩ := hSw; go_simp; try with_reducible rfl)
          try simp only [Act.put, List.setIfInBounds_toArray, List.set_cons_zero, List.set_cons_succ]
          refine wpAnyH_take (i := 4) (oi := ⟨some 108, _, _, _, _, _⟩) (v := ?_) rfl (by kernel_rfl) (by kernel_rfl) (by kernel_rfl) (fun _ _ _ h => h) (Or.inl ⟨by rfl, ?_⟩) hHeld ?_
          rotate_left
          · (intro w hSw; obtain ⟨s0, s1⟩ := hSw; go_simp; try with_reducible rfl)
          try simp only [Act.put, List.setIfInBounds_toArray, List.set_cons_zero, List.set_cons_succ]
          refine wpAnyH_ready (rs := [3]) (by kernel_rfl) (by simp) ?_
          refine (AllReadyH.cons (o := ⟨some 107, _, _, _, _, _⟩) rfl (fun K hK => ?_) AllReadyH.nil)
          go_simp
          (refine (state_any (HH.out.kept (HBW.out.trans (Below.refl _ _).drew))).mono ?_; rintro e w5 ⟨ob2, rs2, db2, dc2, rfl, hM5⟩)
          have hM5b := (Below.refl wr.heap.size wr).drew.trans hM5.r.hb
          refine hK.out _ _ (⟨(hM5b.cell (p := ⟨N3, 0, none⟩) lN3).trans c0, (hM5b.cell (p := ⟨N3, 1, none⟩) lN3).trans c1⟩) (fun hHeld => ?_)
          clear hK K
          try simp only [Act.put, List.setIfInBounds_toArray, List.set_cons_zero, List.set_cons_succ]
          refine wpAnyH_ready (rs := [5]) (by kernel_rfl) (by simp) ?_
          refine (AllReadyH.cons (o := ⟨some 109, _, _, _, _, _⟩) rfl (fun K hK => ?_) AllReadyH.nil)
          go_simp
          (refine (same_any (some ⟨ob2, 0, none⟩) (some ⟨db2, 0, none⟩) pg qd G.length dc2 cg cd G.length G.length (hM5.mr HL.out) hM5.hD.rd (HM.out.kept (below_step HBW.out hM5b)) (HR.out.kept (below_step HBW.out hM5b)) rfl HLD.out (by omega) (by omega) HL2.out).mono ?_; rintro e w6 ⟨rfl, hb6⟩)
          have hb7 := below_step hM5b hb6
          refine hK.out _ _ (⟨(hb7.cell (p := ⟨N3, 0, none⟩) lN3).trans c0, (hb7.cell (p := ⟨N3, 1, none⟩) lN3).trans c1⟩) (fun hHeld => ?_)
          clear hK K
          try simp only [Act.put, List.setIfInBounds_toArray, List.set_cons_zero, List.set_cons_succ]
          refine wpAnyH_take (i := 6) (oi := ⟨some 110, _, _, _, _, _⟩) (v := ?_) rfl (by kernel_rfl) (by kernel_rfl) (by kernel_rfl) (fun _ _ _ h => h) (Or.inl ⟨by rfl, ?_⟩) hHeld ?_
          rotate_left
          · (intro w hSw; obtain ⟨s0, s1⟩ := hSw; go_simp; try with_reducible rfl)
          try simp only [Act.put, List.setIfInBounds_toArray, List.set_cons_zero, List.set_cons_succ]
          refine wpAnyH_take (i := 7) (oi := ⟨some 4, _, _, _, _, _⟩) (v := ?_) rfl (by kernel_rfl) (by kernel_rfl) (by kernel_rfl) (fun _ _ _ h => h) (Or.inl ⟨by rfl, ?_⟩) hHeld ?_
          rotate_left
          · (intro w hSw; obtain ⟨s0, s1⟩ := hSw; go_simp; try with_reducible rfl)
          try simp only [Act.put, List.setIfInBounds_toArray, List.set_cons_zero, List.set_cons_succ]
          refine wpAnyH_done (by kernel_rfl) ?_ _
          refine NoPanic.normal ?_
          have HO := Lib.hid (below_step HBW.out hb7)
          clear hM5 hM5b hb6 hb7 c0 c1 lN3
          go_wp2_with fail
          go_ret
          exact ⟨rfl, HO.out⟩
end
end Go.Proofs.Ytdancoblphkakaa
