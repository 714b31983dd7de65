/- spends, does, calls: what the law's calls make of a state. -/
import Derived.Test.YtdancoblphkakaaAll
import Derived.Test.YtdancoblphkakaaArgs
namespace Go.Proofs.Ytdancoblphkakaa
open Go.RowKit

set_option maxHeartbeats 4000000 in
theorem spendsD {w : World} {U : Nat → Prop} {v : Value} {G : List (List Int)} {D : List Int} (i : Nat) (u : Int) (hv : VS w U v G D) (hS : Shape G D) (hi : i < G.length) (h0 : 0 ≤ u) :
    Calls Try.prog 43 #[v, .int .i64 i, .int .i64 (-1), .int .i64 u] w (RetSE w U (G) (sellD G D i u) (sellE G D i u)) := by
  have HX := Lib.hid hv
  obtain ⟨pg, cg, qd, cd, rfl, hM, hR⟩ := hv.reads
  have HE := Lib.hid (show sellE G D i u = if 1099511627776 - da D i < u then 7 else if share G D i < u then 9 else 0 by rw [sellE, if_pos ⟨(okP_iff _ _).2 ⟨by omega, by omega⟩, h0⟩, Int.toNat_natCast])
  have HR2 := Lib.hid (show ∀ z, sellE G D i u = z → sellD G D i u = if z = 0 then D.set i (da D i + u) else D from fun z hz => by rw [sellD, hz, Int.toNat_natCast])
  have HM := Lib.hid hM
  have HR := Lib.hid hR
  have HS := Lib.hid hS
  have HLD := Lib.hid hS.2.2.1
  have hN := hS.num
  have n1 := hS.1
  have n16 := hS.2.1
  have hiG := hi
  have hii : (i : Int) < (G.length : Int) := by omega
  have hz : decide (0 ≤ (-1 : Int)) = false := by decide
  rw [HLD.out]
  have HXD := Lib.hid (show VS w U (.agg #[.slice pg G.length cg, .slice qd G.length cd]) G D by have h := HX.out; rw [HLD.out] at h; exact h)
  have HSH := Lib.hid (fun w2 (hb2 : Below w.heap.size w w2) => lawShare_any pg qd cg cd i (HM.out.kept hb2) (HR.out.kept hb2) hN (by omega) HS.out.len HLD.out hi)
  rw [law_share hi] at HSH
  have b1 := hN.d i
  have b2 := share_bd hN n16 i
  obtain ⟨eE, heE⟩ : ∃ z, sellE G D i u = z := ⟨_, rfl⟩
  obtain ⟨rX, hrX⟩ : ∃ z, sellD G D i u = z := ⟨_, rfl⟩
  rw [heE, hrX]
  have HEE := Lib.hid heE
  have HRD := Lib.hid hrX
  clear hv hM hR hS hN heE hrX
  go_enter Try.func43, Try.ntmps43
  go_wp2_with fail
  generalize hW : (World.alloc _ _) = W
  have hWb : Below w.heap.size w W := by rw [← hW]; exact ((Below.refl _ _).alloc (Nat.le_refl _) _).alloc (by simp) _
  have hB1 : Blk W w.heap.size 25 [.slice pg G.length cg, .slice qd G.length cd] := by rw [← hW]; exact (Blk.new w 25 _).alloc _
  have hB2 : Blk W (w.heap.size + 1) 25 [.slice none 0 0, .slice none 0 0] := by rw [← hW]; exact Blk.new' _ 25 _ (by simp)
  have hsz : W.heap.size = w.heap.size + 2 := by rw [← hW]; simp
  obtain ⟨Na, hNa⟩ : ∃ N, w.heap.size = N := ⟨_, rfl⟩
  obtain ⟨R, hRe⟩ : ∃ N, Na + 1 = N := ⟨_, rfl⟩
  rw [hNa] at hB1 hB2 ⊢
  rw [hRe] at hB2 ⊢
  have HRW := Lib.hid (show w.heap.size ≤ R ∧ R < W.heap.size by omega)
  have HB := Lib.hid hWb
  have HB1 := Lib.hid hB1
  have HB2 := Lib.hid hB2
  have HOW := Lib.hid (own_any pg qd cg cd (HM.out.kept hWb) (HR.out.kept hWb) (by omega) (fun i hi => by rw [HS.out.len i hi]; omega) (by rw [HLD.out]; omega))
  rw [HLD.out] at HOW
  clear hW hNa hRe hsz hWb hB1 hB2
  refine HOW.out.mono ?_
  rintro e w1 ⟨v1, v2, vs, rfl, hOS, hb1⟩
  obtain ⟨gb, gc, db, dc, rs, rfl, rfl, hO⟩ := hOS.blocks n1 HS.out.len HLD.out
  clear hOS
  have y4 := hO.hD.cell (i := i) (by rw [HLD.out]; exact hiG)
  rw [← da_at (by rw [HLD.out]; exact hiG)] at y4
  have f4 := hO.hD.free i
  have hset := hO.setD hiG (da D i + u)
  have hlo : W.heap.size ≤ db := hO.lo.2.1
  have lr : db < w1.heap.size := hO.hD.lt
  go_upto_region 2 with fail
  generalize hV : (World.alloc _ _) = V
  have hVb : Below w1.heap.size w1 V := by rw [← hV]; exact (Below.refl _ _).alloc (Nat.le_refl _) _
  have hBO : Blk V w1.heap.size 25 [.slice (some ⟨gb, 0, none⟩) G.length gc, .slice (some ⟨db, 0, none⟩) G.length dc] := by rw [← hV]; exact Blk.new w1 25 _
  obtain ⟨Ob, hOb⟩ : ∃ N, w1.heap.size = N := ⟨_, rfl⟩
  have HOb := Lib.hid hOb
  have y4 := (hVb.cell (p := ⟨db, i, none⟩) lr).trans y4
  have f4 := (hVb.frozen (p := ⟨db, i, none⟩) lr).trans f4
  rw [hOb] at hBO lr ⊢
  have hne9 : db ≠ Ob := by omega
  have hne8 : Ob ≠ db := by omega
  have c0 := hBO.cell 0
  have c1 := hBO.cell 1
  have HO := Lib.hid hO
  have HV := Lib.hid hVb
  have HI := Lib.hid (below_step hb1 hVb)
  have hB1 := HB1.out.kept HI.out
  have hB2 := HB2.out.kept HI.out
  have x0 := hB1.cell 0
  have x1 := hB1.cell 1
  have r0 := hB2.cell 0
  have r1 := hB2.cell 1
  have g0 := hB2.free 0
  have g1 := hB2.free 1
  have HBO := Lib.hid hBO
  have hRn : R ≠ db := by have := HRW.out.2; omega
  have hRn2 : db ≠ R := by omega
  have hRO : R ≠ Ob := by have := HRW.out.2; have := hb1.size; have := HOb.out; omega
  have hRO2 : Ob ≠ R := by omega
  have HWR := Lib.hid (fun (W3 : World) (hb3 : Below W.heap.size W W3) (a b : Value) => ((HB.out.trans (hb3.mono HB.out.size)).setCell (p := ⟨R, 0, none⟩) HRW.out.1 a).setCell (p := ⟨R, 1, none⟩) HRW.out.1 b)
  have HFR := Lib.hid (fun (W3 : World) (a b : Value) => ((Fr.refl (fun b => b = R) W3).set ⟨R, 0, none⟩ a (.inl rfl)).set ⟨R, 1, none⟩ b (.inl rfl))
  have HSETB := Lib.hid hset
  have HLO := Lib.hid hlo
  clear hV hOb hVb hO hset hBO hB1 hB2 hb1 hlo
  obtain ⟨z, hz0⟩ : ∃ z, da D i = z := ⟨_, rfl⟩
  obtain ⟨sh, hs0⟩ : ∃ s, share G D i = s := ⟨_, rfl⟩
  rw [hz0] at y4 b1 HE HR2 HSETB
  rw [hs0] at HSH b2 HE
  obtain ⟨b3, b4⟩ := b1
  obtain ⟨b5, b6⟩ := b2
  clear hz0 hs0
  by_cases h7 : 1099511627776 - z < u
  · have e1 : eE = 7 := by rw [← HEE.out, HE.out, if_pos h7]
    have e2 := HR2.out 7 (HEE.out.trans e1)
    rw [if_neg (by decide), HRD.out] at e2
    have E1 := Lib.hid e1
    have E2 := Lib.hid e2
    clear e1 e2
    go_wp2_with fail
    try simp only [Exit.inBlock, Exit.then]
    have hZ := ((HB2.out.kept HI.out).set_ 0 (.slice pg G.length cg)).set_ 1 (.slice qd G.length cd)
    have HZD : Blk _ R 25 [.slice pg G.length cg, .slice qd G.length cd] := hZ
    refine bodyPost_ret (results_pair rfl _ _ R 25 _ (0, 0) _ _ (by rfl) HZD Try.underlying25 (by rfl) (by kernel_rfl) (by rfl)) rfl ?_
    have e1 := E1.out
    have e2 := E2.out
    subst e1 e2
    exact ⟨_, rfl, (HXD.out.kept (HWR.out _ HI.out _ _)).or, HWR.out _ HI.out _ _⟩
  · have h7i : u ≤ 1099511627776 - z := by omega
    have h7b : decide (1099511627776 - z < u) = false := by simp; omega
    go_wp2_with fail
    refine (HSH.out _ (HB.out.trans (HI.out.mono HB.out.size))).mono ?_
    rintro e w3 ⟨rfl, hb3⟩
    have HI3 := Lib.hid (below_step HI.out hb3)
    have hB2 := HB2.out.kept HI3.out
    have hB1 := HB1.out.kept HI3.out
    have hBO := HBO.out.kept hb3
    have x0 := hB1.cell 0
    have x1 := hB1.cell 1
    have r0 := hB2.cell 0
    have r1 := hB2.cell 1
    have g0 := hB2.free 0
    have g1 := hB2.free 1
    have c0 := hBO.cell 0
    have c1 := hBO.cell 1
    have lV : db < V.heap.size := Nat.lt_of_lt_of_le lr (by rw [← HOb.out]; exact HV.out.size)
    have y4 := (hb3.cell (p := ⟨db, i, none⟩) lV).trans y4
    have f4 := (hb3.frozen (p := ⟨db, i, none⟩) lV).trans f4
    have HO3 := Lib.hid (((HO.out.kept HV.out).kept hb3))
    have HBO3 := Lib.hid hBO
    clear hB2 hB1 hBO hb3
    by_cases h9 : sh < u
    · have e1 : eE = 9 := by rw [← HEE.out, HE.out, if_neg (by omega), if_pos h9]
      have e2 := HR2.out 9 (HEE.out.trans e1)
      rw [if_neg (by decide), HRD.out] at e2
      have E1 := Lib.hid e1
      have E2 := Lib.hid e2
      clear e1 e2 h7
      go_wp2_with fail
      try simp only [Exit.inBlock, Exit.then]
      have hZ := ((HB2.out.kept HI3.out).set_ 0 (.slice pg G.length cg)).set_ 1 (.slice qd G.length cd)
      have HZD : Blk _ R 25 [.slice pg G.length cg, .slice qd G.length cd] := hZ
      refine bodyPost_ret (results_pair rfl _ _ R 25 _ (0, 0) _ _ (by rfl) HZD Try.underlying25 (by rfl) (by kernel_rfl) (by rfl)) rfl ?_
      have e1 := E1.out
      have e2 := E2.out
      subst e1 e2
      exact ⟨_, rfl, (HXD.out.kept (HWR.out _ HI3.out _ _)).or, HWR.out _ HI3.out _ _⟩
    · have h9i : u ≤ sh := by omega
      have h9b : decide (sh < u) = false := by simp; omega
      have e1 : eE = 0 := by rw [← HEE.out, HE.out, if_neg (by omega), if_neg h9]
      have e2 := HR2.out 0 (HEE.out.trans e1)
      rw [if_pos rfl, HRD.out] at e2
      have E1 := Lib.hid e1
      have E2 := Lib.hid e2
      clear e1 e2 h7 h9
      have hsum : z + u ≤ 1099511627776 := by omega
      have hset3 := HO3.out.setD hiG (z + u)
      skip
      have HSET := Lib.hid hset3
      clear hset3
      go_wp2_with fail
      try simp only [Exit.inBlock, Exit.then]
      have hB2s := (HB2.out.kept HI3.out).far (p := ⟨db, i, none⟩) hRn (.int .i64 (z + u))
      have hZ := (hB2s.set_ 0 (.slice (some ⟨gb, 0, none⟩) G.length gc)).set_ 1 (.slice (some ⟨db, 0, none⟩) G.length dc)
      have HZD : Blk _ R 25 [.slice (some ⟨gb, 0, none⟩) G.length gc, .slice (some ⟨db, 0, none⟩) G.length dc] := hZ
      refine bodyPost_ret (results_pair rfl _ _ R 25 _ (0, 0) _ _ (by rfl) HZD Try.underlying25 (by rfl) (by kernel_rfl) (by rfl)) rfl ?_
      have hbS : Below W.heap.size W (w3.setCell ⟨db, i, none⟩ (.int .i64 (z + u))) := HI3.out.setCell (p := ⟨db, i, none⟩) HLO.out _
      have hval := HSET.out.val
      skip
      have e1 := E1.out
      have e2 := E2.out
      subst e1 e2
      refine ⟨_, rfl, ((hval.fr (HFR.out _ _ _) (fun b hb e => ?_)).mono (fun b hb _ => Or.inr ?_)), HWR.out _ hbS _ _⟩
      · have := HRW.out.2; omega
      · have := HB.out.size; omega

set_option maxHeartbeats 4000000 in
theorem spendsG {w : World} {U : Nat → Prop} {v : Value} {G : List (List Int)} {D : List Int} (i : Nat) (k : Nat) (hk : k < G.length) (u : Int) (hv : VS w U v G D) (hS : Shape G D) (hi : i < G.length) (hne : (i : Int) ≠ k) (h0 : 0 ≤ u) :
    Calls Try.prog 43 #[v, .int .i64 i, .int .i64 k, .int .i64 u] w (RetSE w U (giveG G D i k u) (D) (giveE G D i k u)) := by
  have HX := Lib.hid hv
  obtain ⟨pg, cg, qd, cd, rfl, hM, hR⟩ := hv.reads
  have HE := Lib.hid (show giveE G D i k u = if 1099511627776 - ga G i k < u then 7 else if share G D i < u then 9 else 0 by rw [giveE, if_pos ⟨⟨(okP_iff _ _).2 ⟨by omega, by omega⟩, (okP_iff _ _).2 ⟨by omega, by omega⟩⟩, h0, hne⟩, Int.toNat_natCast, Int.toNat_natCast])
  have HR2 := Lib.hid (show ∀ z, giveE G D i k u = z → giveG G D i k u = if z = 0 then gset G i k (ga G i k + u) else G from fun z hz => by rw [giveG, hz, Int.toNat_natCast, Int.toNat_natCast])
  have HM := Lib.hid hM
  have HR := Lib.hid hR
  have HS := Lib.hid hS
  have HLD := Lib.hid hS.2.2.1
  have hN := hS.num
  have n1 := hS.1
  have n16 := hS.2.1
  have hiG := hi
  have hii : (i : Int) < (G.length : Int) := by omega
  have hki : (k : Int) < (G.length : Int) := by omega
  have hk0 : (0 : Int) ≤ (k : Int) := by omega
  rw [HLD.out]
  have HXD := Lib.hid (show VS w U (.agg #[.slice pg G.length cg, .slice qd G.length cd]) G D by have h := HX.out; rw [HLD.out] at h; exact h)
  have HSH := Lib.hid (fun w2 (hb2 : Below w.heap.size w w2) => lawShare_any pg qd cg cd i (HM.out.kept hb2) (HR.out.kept hb2) hN (by omega) HS.out.len HLD.out hi)
  rw [law_share hi] at HSH
  have b1 := hN.g i k
  have b2 := share_bd hN n16 i
  obtain ⟨eE, heE⟩ : ∃ z, giveE G D i k u = z := ⟨_, rfl⟩
  obtain ⟨rX, hrX⟩ : ∃ z, giveG G D i k u = z := ⟨_, rfl⟩
  rw [heE, hrX]
  have HEE := Lib.hid heE
  have HRG := Lib.hid hrX
  clear hv hM hR hS hN heE hrX
  go_enter Try.func43, Try.ntmps43
  go_wp2_with fail
  generalize hW : (World.alloc _ _) = W
  have hWb : Below w.heap.size w W := by rw [← hW]; exact ((Below.refl _ _).alloc (Nat.le_refl _) _).alloc (by simp) _
  have hB1 : Blk W w.heap.size 25 [.slice pg G.length cg, .slice qd G.length cd] := by rw [← hW]; exact (Blk.new w 25 _).alloc _
  have hB2 : Blk W (w.heap.size + 1) 25 [.slice none 0 0, .slice none 0 0] := by rw [← hW]; exact Blk.new' _ 25 _ (by simp)
  have hsz : W.heap.size = w.heap.size + 2 := by rw [← hW]; simp
  obtain ⟨Na, hNa⟩ : ∃ N, w.heap.size = N := ⟨_, rfl⟩
  obtain ⟨R, hRe⟩ : ∃ N, Na + 1 = N := ⟨_, rfl⟩
  rw [hNa] at hB1 hB2 ⊢
  rw [hRe] at hB2 ⊢
  have HRW := Lib.hid (show w.heap.size ≤ R ∧ R < W.heap.size by omega)
  have HB := Lib.hid hWb
  have HB1 := Lib.hid hB1
  have HB2 := Lib.hid hB2
  have HOW := Lib.hid (own_any pg qd cg cd (HM.out.kept hWb) (HR.out.kept hWb) (by omega) (fun i hi => by rw [HS.out.len i hi]; omega) (by rw [HLD.out]; omega))
  rw [HLD.out] at HOW
  clear hW hNa hRe hsz hWb hB1 hB2
  refine HOW.out.mono ?_
  rintro e w1 ⟨v1, v2, vs, rfl, hOS, hb1⟩
  obtain ⟨gb, gc, db, dc, rs, rfl, rfl, hO⟩ := hOS.blocks n1 HS.out.len HLD.out
  clear hOS
  obtain ⟨r, cr, y1, y2, y3, hr, hr2⟩ := hO.atG hiG
  have er : (rs[i]).1 = r := by rw [hr2]
  have y4 := y2.cell (i := k) (by rw [y3]; exact hk)
  rw [← ga_at hiG (by rw [y3]; exact hk)] at y4
  have f4 := y2.free k
  have hset := hO.setG hiG hr hk (ga G i k + u)
  rw [er] at hset
  have hlo : W.heap.size ≤ r := by rw [← er]; exact hO.lo.2.2 _ (List.getElem_mem hr)
  have lr : r < w1.heap.size := y2.lt
  have HRI := Lib.hid er
  go_upto_region 2 with fail
  generalize hV : (World.alloc _ _) = V
  have hVb : Below w1.heap.size w1 V := by rw [← hV]; exact (Below.refl _ _).alloc (Nat.le_refl _) _
  have hBO : Blk V w1.heap.size 25 [.slice (some ⟨gb, 0, none⟩) G.length gc, .slice (some ⟨db, 0, none⟩) G.length dc] := by rw [← hV]; exact Blk.new w1 25 _
  obtain ⟨Ob, hOb⟩ : ∃ N, w1.heap.size = N := ⟨_, rfl⟩
  have HOb := Lib.hid hOb
  have y1 := (hVb.cell (p := ⟨gb, i, none⟩) (by obtain ⟨cs, h, _⟩ := hO.hG; exact h.lt)).trans y1
  have y4 := (hVb.cell (p := ⟨r, k, none⟩) lr).trans y4
  have f4 := (hVb.frozen (p := ⟨r, k, none⟩) lr).trans f4
  rw [hOb] at hBO lr ⊢
  have hne9 : r ≠ Ob := by omega
  have hne8 : Ob ≠ r := by omega
  have c0 := hBO.cell 0
  have c1 := hBO.cell 1
  have HO := Lib.hid hO
  have HV := Lib.hid hVb
  have HI := Lib.hid (below_step hb1 hVb)
  have hB1 := HB1.out.kept HI.out
  have hB2 := HB2.out.kept HI.out
  have x0 := hB1.cell 0
  have x1 := hB1.cell 1
  have r0 := hB2.cell 0
  have r1 := hB2.cell 1
  have g0 := hB2.free 0
  have g1 := hB2.free 1
  have HBO := Lib.hid hBO
  have hRn : R ≠ r := by have := HRW.out.2; omega
  have hRn2 : r ≠ R := by omega
  have hRO : R ≠ Ob := by have := HRW.out.2; have := hb1.size; have := HOb.out; omega
  have hRO2 : Ob ≠ R := by omega
  have HWR := Lib.hid (fun (W3 : World) (hb3 : Below W.heap.size W W3) (a b : Value) => ((HB.out.trans (hb3.mono HB.out.size)).setCell (p := ⟨R, 0, none⟩) HRW.out.1 a).setCell (p := ⟨R, 1, none⟩) HRW.out.1 b)
  have HFR := Lib.hid (fun (W3 : World) (a b : Value) => ((Fr.refl (fun b => b = R) W3).set ⟨R, 0, none⟩ a (.inl rfl)).set ⟨R, 1, none⟩ b (.inl rfl))
  have HSETB := Lib.hid hset
  have HLO := Lib.hid hlo
  clear hV hOb hVb hO hset hBO hB1 hB2 hb1 y2 y3 hr2 er hlo
  obtain ⟨z, hz0⟩ : ∃ z, ga G i k = z := ⟨_, rfl⟩
  obtain ⟨sh, hs0⟩ : ∃ s, share G D i = s := ⟨_, rfl⟩
  rw [hz0] at y4 b1 HE HR2 HSETB
  rw [hs0] at HSH b2 HE
  obtain ⟨b3, b4⟩ := b1
  obtain ⟨b5, b6⟩ := b2
  clear hz0 hs0
  by_cases h7 : 1099511627776 - z < u
  · have e1 : eE = 7 := by rw [← HEE.out, HE.out, if_pos h7]
    have e2 := HR2.out 7 (HEE.out.trans e1)
    rw [if_neg (by decide), HRG.out] at e2
    have E1 := Lib.hid e1
    have E2 := Lib.hid e2
    clear e1 e2
    go_wp2_with fail
    try simp only [Exit.inBlock, Exit.then]
    have hZ := ((HB2.out.kept HI.out).set_ 0 (.slice pg G.length cg)).set_ 1 (.slice qd G.length cd)
    have HZD : Blk _ R 25 [.slice pg G.length cg, .slice qd G.length cd] := hZ
    refine bodyPost_ret (results_pair rfl _ _ R 25 _ (0, 0) _ _ (by rfl) HZD Try.underlying25 (by rfl) (by kernel_rfl) (by rfl)) rfl ?_
    have e1 := E1.out
    have e2 := E2.out
    subst e1 e2
    exact ⟨_, rfl, (HXD.out.kept (HWR.out _ HI.out _ _)).or, HWR.out _ HI.out _ _⟩
  · have h7i : u ≤ 1099511627776 - z := by omega
    have h7b : decide (1099511627776 - z < u) = false := by simp; omega
    go_wp2_with fail
    refine (HSH.out _ (HB.out.trans (HI.out.mono HB.out.size))).mono ?_
    rintro e w3 ⟨rfl, hb3⟩
    have HI3 := Lib.hid (below_step HI.out hb3)
    have hB2 := HB2.out.kept HI3.out
    have hB1 := HB1.out.kept HI3.out
    have hBO := HBO.out.kept hb3
    have x0 := hB1.cell 0
    have x1 := hB1.cell 1
    have r0 := hB2.cell 0
    have r1 := hB2.cell 1
    have g0 := hB2.free 0
    have g1 := hB2.free 1
    have c0 := hBO.cell 0
    have c1 := hBO.cell 1
    have lV : r < V.heap.size := Nat.lt_of_lt_of_le lr (by rw [← HOb.out]; exact HV.out.size)
    have y4 := (hb3.cell (p := ⟨r, k, none⟩) lV).trans y4
    have f4 := (hb3.frozen (p := ⟨r, k, none⟩) lV).trans f4
    have HO3 := Lib.hid (((HO.out.kept HV.out).kept hb3))
    have HBO3 := Lib.hid hBO
    clear hB2 hB1 hBO hb3
    by_cases h9 : sh < u
    · have e1 : eE = 9 := by rw [← HEE.out, HE.out, if_neg (by omega), if_pos h9]
      have e2 := HR2.out 9 (HEE.out.trans e1)
      rw [if_neg (by decide), HRG.out] at e2
      have E1 := Lib.hid e1
      have E2 := Lib.hid e2
      clear e1 e2 h7
      go_wp2_with fail
      try simp only [Exit.inBlock, Exit.then]
      have hZ := ((HB2.out.kept HI3.out).set_ 0 (.slice pg G.length cg)).set_ 1 (.slice qd G.length cd)
      have HZD : Blk _ R 25 [.slice pg G.length cg, .slice qd G.length cd] := hZ
      refine bodyPost_ret (results_pair rfl _ _ R 25 _ (0, 0) _ _ (by rfl) HZD Try.underlying25 (by rfl) (by kernel_rfl) (by rfl)) rfl ?_
      have e1 := E1.out
      have e2 := E2.out
      subst e1 e2
      exact ⟨_, rfl, (HXD.out.kept (HWR.out _ HI3.out _ _)).or, HWR.out _ HI3.out _ _⟩
    · have h9i : u ≤ sh := by omega
      have h9b : decide (sh < u) = false := by simp; omega
      have e1 : eE = 0 := by rw [← HEE.out, HE.out, if_neg (by omega), if_neg h9]
      have e2 := HR2.out 0 (HEE.out.trans e1)
      rw [if_pos rfl, HRG.out] at e2
      have E1 := Lib.hid e1
      have E2 := Lib.hid e2
      clear e1 e2 h7 h9
      have hsum : z + u ≤ 1099511627776 := by omega
      have hset3 := HO3.out.setG hiG (by rw [HO3.out.lR]; exact hiG) hk (z + u)
      rw [show (rs[i]'(by rw [HO3.out.lR]; exact hiG)).1 = r from HRI.out] at hset3
      have HSET := Lib.hid hset3
      clear hset3
      go_wp2_with fail
      try simp only [Exit.inBlock, Exit.then]
      have hB2s := (HB2.out.kept HI3.out).far (p := ⟨r, k, none⟩) hRn (.int .i64 (z + u))
      have hZ := (hB2s.set_ 0 (.slice (some ⟨gb, 0, none⟩) G.length gc)).set_ 1 (.slice (some ⟨db, 0, none⟩) G.length dc)
      have HZD : Blk _ R 25 [.slice (some ⟨gb, 0, none⟩) G.length gc, .slice (some ⟨db, 0, none⟩) G.length dc] := hZ
      refine bodyPost_ret (results_pair rfl _ _ R 25 _ (0, 0) _ _ (by rfl) HZD Try.underlying25 (by rfl) (by kernel_rfl) (by rfl)) rfl ?_
      have hbS : Below W.heap.size W (w3.setCell ⟨r, k, none⟩ (.int .i64 (z + u))) := HI3.out.setCell (p := ⟨r, k, none⟩) HLO.out _
      have hval := HSET.out.val
      rw [gset_len] at hval
      have e1 := E1.out
      have e2 := E2.out
      subst e1 e2
      refine ⟨_, rfl, ((hval.fr (HFR.out _ _ _) (fun b hb e => ?_)).mono (fun b hb _ => Or.inr ?_)), HWR.out _ hbS _ _⟩
      · have := HRW.out.2; omega
      · have := HB.out.size; omega

end Go.Proofs.Ytdancoblphkakaa
