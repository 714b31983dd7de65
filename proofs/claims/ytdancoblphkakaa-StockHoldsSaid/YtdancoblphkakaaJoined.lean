/- joined: the walk. -/
import Derived.Test.YtdancoblphkakaaMixO
import Derived.Laws.ResultCell
namespace Go.Proofs.Ytdancoblphkakaa
open Go.RowKit

/-- A struct that lies in memory, and a number. -/
theorem results_pair {P : Program} {fn : Func} {p q : Tmp} {ty : TypeId} (h : fn.results = #[.cell p ty, .tmp q]) (tmps : Array Value) (w : World) (g : Nat) (t : TypeId) (cs : Array Value) (fr : Nat × Nat) (d : TypeDesc) (x : Value)
    (hp : tmps.getD p undef = .pointer (some ⟨g, 0, none⟩)) (hg : w.heap[g]? = some (.cells cs t fr)) (hu : P.underlying ty = some d) (hd : (match d with | .struct _ | .array _ _ => true | _ => false) = true) (hi : (P.info? ty).map (·.size) = some cs.size)
    (hx : tmps.getD q undef = x) : (results fn tmps).run P w = .ok (.tuple #[.agg cs, x]) w := by
  subst hx
  rw [results_cell_tmp h, hp]
  simp [asAddr, run_loadVar_row w g t ty cs fr d hg hu hd hi]
section
variable {w : World} {U : Nat → Prop} {v u : Value} {G H : List (List Int)} {D E : List Int}
theorem joined_len (hx : VS w U v G D) (hy : VS w U u H E) (hne : G.length ≠ H.length) : Calls Try.prog 14 #[v, u] w (RetSE w U G D 3) := by
  have HX := Lib.hid hx
  obtain ⟨pg, cg, qd, cd, rfl, hG, hD⟩ := hx.reads
  obtain ⟨ph, ch, qe, ce, rfl, hH, hE⟩ := hy.reads
  have ht : ((G.length : Int) != (H.length : Int)) = true := by rw [bne_iff_ne]; omega
  clear hx hy hG hD hH hE hne
  go_enter Try.func14, Try.ntmps14
  go_wp2_with fail
  try simp only [Exit.inBlock, Exit.then]
  generalize hW : (World.alloc _ _) = W
  have hWb : Below w.heap.size w W := by rw [← hW]; exact (((Below.refl _ _).alloc (Nat.le_refl _) _).alloc (by simp) _).alloc (by simp <;> omega) _
  have hBR : Blk W (w.heap.size + 1 + 1) 25 [.slice pg G.length cg, .slice qd D.length cd] := by rw [← hW]; exact Blk.new' _ 25 _ (by simp)
  refine bodyPost_ret (results_pair rfl _ _ (w.heap.size + 1 + 1) 25 _ (0, 0) _ _ (by rfl) hBR Try.underlying25 (by rfl) (by kernel_rfl) (by rfl)) rfl ?_
  exact ⟨_, rfl, (HX.out.kept hWb).or, hWb⟩
/-- What joined gives for states of one size. -/
def RetJd (w : World) (U : Nat → Prop) (G : List (List Int)) (D : List Int) (G' : List (List Int)) (D' : List Int) (e : Ending) (w' : World) : Prop :=
  (Right G' D' ∧ RetSE w U G' D' 0 e w') ∨ (¬ Right G' D' ∧ RetSE w U G D 10 e w')
set_option maxHeartbeats 8000000 in
theorem joined_same (n : Nat) (hx : VS w U v G D) (hy : VS w U u H E) (hn : G.length = n) (hm : H.length = n) (sG : Shape G D) (sH : Shape H E) : Calls Try.prog 14 #[v, u] w (RetJd w U G D (joinG G H) (joinD D E n)) := by
  have HX := Lib.hid hx
  have HSJ := Lib.hid (shape_join sG sH (by omega))
  rw [hn] at HSJ
  obtain ⟨pg, cg, qd, cd, rfl, hG, hD⟩ := hx.reads
  obtain ⟨ph, ch, qe, ce, rfl, hH, hE⟩ := hy.reads
  have hld : D.length = n := by rw [sG.2.2.1, hn]
  have hle : E.length = n := by rw [sH.2.2.1, hm]
  have n1 : 1 ≤ n := by rw [← hn]; exact sG.1
  have n2 : n ≤ 16 := by rw [← hn]; exact sG.2.1
  have HN := Lib.hid hn
  have HM := Lib.hid hm
  have HLD := Lib.hid hld
  have HLE := Lib.hid hle
  have HSG := Lib.hid sG
  have HSH := Lib.hid sH
  rw [hn, hld, hm, hle]
  have ht : ((n : Int) != (n : Int)) = false := by simp
  have HG := Lib.hid hG
  have HD := Lib.hid hD
  have HH := Lib.hid hH
  have HE := Lib.hid hE
  have HXB := Lib.hid hx
  clear hx hy hG hD hH hE hn hm hld hle sG sH
  go_enter Try.func14, Try.ntmps14
  go_wp2_with fail
  generalize hW : (World.alloc _ _) = W
  have hWb : Below w.heap.size w W := by rw [← hW]; exact (((Below.refl _ _).alloc (Nat.le_refl _) _).alloc (by simp) _).alloc (by simp <;> omega) _
  have hB1 : Blk W w.heap.size 25 [.slice pg n cg, .slice qd n cd] := by rw [← hW]; exact ((Blk.new w 25 _).alloc _).alloc _
  have hB2 : Blk W (w.heap.size + 1) 25 [.slice ph n ch, .slice qe n ce] := by rw [← hW]; exact (Blk.new' _ 25 _ (by simp)).alloc _
  have hB3 : Blk W (w.heap.size + 1 + 1) 25 [.slice none 0 0, .slice none 0 0] := by rw [← hW]; exact Blk.new' _ 25 _ (by simp)
  have hsz : W.heap.size = w.heap.size + 3 := by rw [← hW]; simp
  obtain ⟨Na, hNa⟩ : ∃ N, w.heap.size = N := ⟨_, rfl⟩
  obtain ⟨Nb, hNb⟩ : ∃ N, Na + 1 = N := ⟨_, rfl⟩
  obtain ⟨R, hR⟩ : ∃ N, Nb + 1 = N := ⟨_, rfl⟩
  rw [hNa] at hB1 hB2 hB3 ⊢
  rw [hNb] at hB2 hB3 ⊢
  rw [hR] at hB3 ⊢
  have HNA := Lib.hid hNa
  have HRW := Lib.hid (show w.heap.size ≤ R by omega)
  have HSZ := Lib.hid (show W.heap.size = R + 1 by omega)
  have HB := Lib.hid hWb
  have HB1 := Lib.hid hB1
  have HB2 := Lib.hid hB2
  have HB3 := Lib.hid hB3
  have HMX := Lib.hid (HG.out.kept hWb)
  have HMY := Lib.hid (HH.out.kept hWb)
  have HRX := Lib.hid (HD.out.kept hWb)
  have HRY := Lib.hid (HE.out.kept hWb)
  have HOW := Lib.hid (own_any pg qd cg cd HMX.out HRX.out (by rw [HN.out]; omega) (fun i hi => by rw [HSG.out.len i hi, HN.out]; omega) (by rw [HLD.out]; omega))
  rw [HN.out, HLD.out] at HOW
  clear hW hNa hNb hR hsz hWb hB1 hB2 hB3
  go_wp2_with fail
  refine HOW.out.mono ?_
  rintro e w1 ⟨v1, v2, vs, rfl, hOS, hb1⟩
  obtain ⟨gb, gc, db, dc, rs, rfl, rfl, hO⟩ := hOS.blocks (by rw [HN.out]; omega) HSG.out.len (by rw [HLD.out, HN.out])
  rw [HN.out]
  have hm0 : MixO W.heap.size gb gc db dc rs n G H D E 0 0 0 w1 := MixO.start hO HN.out
  clear hOS hO
  go_wp2_with fail
  generalize hV : (World.alloc _ _) = V
  have hVb : Below w1.heap.size w1 V := by rw [← hV]; exact (Below.refl _ _).alloc (Nat.le_refl _) _
  have hBO : Blk V w1.heap.size 25 [.slice (some ⟨gb, 0, none⟩) n gc, .slice (some ⟨db, 0, none⟩) n dc] := by rw [← hV]; exact Blk.new w1 25 _
  obtain ⟨Ob, hOb⟩ : ∃ N, w1.heap.size = N := ⟨_, rfl⟩
  have hm1 := hm0.kept hVb
  have hOlo : W.heap.size ≤ Ob := by have := hb1.size; omega
  have hI : Below W.heap.size W V := below_step hb1 hVb
  have HLT := Lib.hid (show gb < Ob ∧ db < Ob ∧ ∀ r ∈ rs, r.1 < Ob by
    obtain ⟨G', D', h, h1, _⟩ := hm0
    refine ⟨?_, ?_, fun r hr => ?_⟩
    · rw [← hOb]; obtain ⟨cs, h2, _⟩ := h.hG; exact h2.lt
    · rw [← hOb]; exact h.hD.lt
    · rw [← hOb]
      obtain ⟨j, hj, rfl⟩ := List.mem_iff_getElem.1 hr
      exact (h.row j hj (by rw [← h.lR]; exact hj)).2.lt)
  rw [hOb] at hBO ⊢
  clear hV hOb hVb hm0 hb1
  go_wp2_with fail
  go_loopw [7] (fun i wr => ∃ k : Nat, k ≤ n ∧ i = .int .i64 k ∧ MixO W.heap.size gb gc db dc rs n G H D E k 0 k wr ∧ Below W.heap.size W wr ∧ Blk wr Ob 25 [.slice (some ⟨gb, 0, none⟩) n gc, .slice (some ⟨db, 0, none⟩) n dc]) (fun i _ => n - (intOf i).toNat)
  case atStart => exact ⟨0, Nat.zero_le _, rfl, hm1, hI, hBO⟩
  case round =>
    clear hm1 hI hBO
    obtain ⟨i, hk, rfl, hm, hb, hBO⟩ := hrel
    have hBa := HB1.out.kept hb
    have x8 := hBa.cell 0
    by_cases hlt : i < n
    · have hki : (i : Int) < (n : Int) := by omega
      have hBb := HB2.out.kept hb
      have x0 := hBO.cell 1
      have x1 := hBa.cell 1
      obtain ⟨b1, o1, rfl, l1, x2⟩ := HRX.out.int (k := i) (by rw [HLD.out]; exact hlt)
      rw [← da_at (by rw [HLD.out]; exact hlt)] at x2
      have Y2 := Lib.hid x2
      have x2 := (hb.cell (p := ⟨b1, o1 + i, none⟩) l1).trans x2
      have x3 := hBb.cell 1
      obtain ⟨b2, o2, rfl, l2, x4⟩ := HRY.out.int (k := i) (by rw [HLE.out]; exact hlt)
      rw [← da_at (by rw [HLE.out]; exact hlt)] at x4
      have Y4 := Lib.hid x4
      have x4 := (hb.cell (p := ⟨b2, o2 + i, none⟩) l2).trans x4
      obtain ⟨⟨z, hz⟩, hf, hlo, hm2⟩ := hm.atD hlt
      rw [max_if] at hm2
      generalize da D i = x at x2 Y2 hm2
      generalize da E i = y at x4 Y4 hm2
      have hne : Ob ≠ db := by have := HLT.out.2.1; omega
      have hb2 : Below W.heap.size W ((wr.setCell ⟨db, i, none⟩ (.int .i64 (if x < y then y else x))).drew) := (hb.setCell (p := ⟨db, i, none⟩) hlo _).drew
      have hBO2 : Blk ((wr.setCell ⟨db, i, none⟩ (.int .i64 (if x < y then y else x))).drew) Ob 25 [.slice (some ⟨gb, 0, none⟩) n gc, .slice (some ⟨db, 0, none⟩) n dc] := hBO.far (p := ⟨db, i, none⟩) hne _
      have K0 := Lib.hid (hBO2.cell 1)
      have K1 := Lib.hid ((HB1.out.kept hb2).cell 1)
      have K2 := Lib.hid ((hb2.cell (p := ⟨b1, o1 + i, none⟩) l1).trans Y2.out)
      have K3 := Lib.hid ((HB2.out.kept hb2).cell 1)
      have K4 := Lib.hid ((hb2.cell (p := ⟨b2, o2 + i, none⟩) l2).trans Y4.out)
      have HM2 := Lib.hid (hm2.kept (Below.refl _ _).drew)
      have HBX := Lib.hid hb2
      have HBOX := Lib.hid hBO2
      clear hm2 hb2 hBO2 hm hb hBO Y2 Y4 hBa hBb
      go_upto_region 7 with fail
      refine wp_region_noPanic ?_
      refine wp_region_held_drew (S := fun w' => w'.cell? ⟨Ob, 1, none⟩ = some (.slice (some ⟨db, 0, none⟩) n dc) ∧ w'.cell? ⟨Na, 1, none⟩ = some (.slice (some ⟨b1, o1, none⟩) n cd) ∧ w'.cell? ⟨b1, o1 + i, none⟩ = some (.int .i64 x) ∧ w'.cell? ⟨Nb, 1, none⟩ = some (.slice (some ⟨b2, o2, none⟩) n ce) ∧ w'.cell? ⟨b2, o2 + i, none⟩ = some (.int .i64 y)) (by kernel_rfl) (⟨x0, x1, x2, x3, x4⟩) (fun hHeld => ?_)
      refine wpAnyH_take (i := 0) (oi := ⟨some 26, _, _, _, _, _⟩) (v := ?_) rfl (by kernel_rfl) (by kernel_rfl) (by kernel_rfl) (fun _ _ _ h => h) (Or.inl ⟨by rfl, ?_⟩) hHeld ?_
      rotate_left
      · (intro w hSw; obtain ⟨s0, s1, s2, s3, s4⟩ := hSw; go_simp; try with_reducible rfl)
      try simp only [Act.put, List.setIfInBounds_toArray, List.set_cons_zero, List.set_cons_succ]
      refine wpAnyH_take (i := 1) (oi := ⟨some 27, _, _, _, _, _⟩) (v := ?_) rfl (by kernel_rfl) (by kernel_rfl) (by kernel_rfl) (fun _ _ _ h => h) (Or.inl ⟨by rfl, ?_⟩) hHeld ?_
      rotate_left
      · (intro w hSw; obtain ⟨s0, s1, s2, s3, s4⟩ := hSw; go_simp; try with_reducible rfl)
      try simp only [Act.put, List.setIfInBounds_toArray, List.set_cons_zero, List.set_cons_succ]
      refine wpAnyH_take (i := 2) (oi := ⟨some 28, _, _, _, _, _⟩) (v := ?_) rfl (by kernel_rfl) (by kernel_rfl) (by kernel_rfl) (fun _ _ _ h => h) (Or.inl ⟨by rfl, ?_⟩) hHeld ?_
      rotate_left
      · (intro w hSw; obtain ⟨s0, s1, s2, s3, s4⟩ := hSw; go_simp; try with_reducible rfl)
      try simp only [Act.put, List.setIfInBounds_toArray, List.set_cons_zero, List.set_cons_succ]
      refine wpAnyH_take (i := 3) (oi := ⟨some 29, _, _, _, _, _⟩) (v := ?_) rfl (by kernel_rfl) (by kernel_rfl) (by kernel_rfl) (fun _ _ _ h => h) (Or.inl ⟨by rfl, ?_⟩) hHeld ?_
      rotate_left
      · (intro w hSw; obtain ⟨s0, s1, s2, s3, s4⟩ := hSw; go_simp; try with_reducible rfl)
      try simp only [Act.put, List.setIfInBounds_toArray, List.set_cons_zero, List.set_cons_succ]
      refine wpAnyH_take (i := 4) (oi := ⟨some 30, _, _, _, _, _⟩) (v := ?_) rfl (by kernel_rfl) (by kernel_rfl) (by kernel_rfl) (fun _ _ _ h => h) (Or.inl ⟨by rfl, ?_⟩) hHeld ?_
      rotate_left
      · (intro w hSw; obtain ⟨s0, s1, s2, s3, s4⟩ := hSw; go_simp; try with_reducible rfl)
      try simp only [Act.put, List.setIfInBounds_toArray, List.set_cons_zero, List.set_cons_succ]
      refine wpAnyH_take (i := 5) (oi := ⟨some 31, _, _, _, _, _⟩) (v := ?_) rfl (by kernel_rfl) (by kernel_rfl) (by kernel_rfl) (fun _ _ _ h => h) (Or.inl ⟨by rfl, ?_⟩) hHeld ?_
      rotate_left
      · (intro w hSw; obtain ⟨s0, s1, s2, s3, s4⟩ := hSw; go_simp; try with_reducible rfl)
      try simp only [Act.put, List.setIfInBounds_toArray, List.set_cons_zero, List.set_cons_succ]
      refine wpAnyH_take (i := 6) (oi := ⟨some 32, _, _, _, _, _⟩) (v := ?_) rfl (by kernel_rfl) (by kernel_rfl) (by kernel_rfl) (fun _ _ _ h => h) (Or.inl ⟨by rfl, ?_⟩) hHeld ?_
      rotate_left
      · (intro w hSw; obtain ⟨s0, s1, s2, s3, s4⟩ := hSw; go_simp; try with_reducible rfl)
      try simp only [Act.put, List.setIfInBounds_toArray, List.set_cons_zero, List.set_cons_succ]
      refine wpAnyH_take (i := 7) (oi := ⟨some 33, _, _, _, _, _⟩) (v := ?_) rfl (by kernel_rfl) (by kernel_rfl) (by kernel_rfl) (fun _ _ _ h => h) (Or.inl ⟨by rfl, ?_⟩) hHeld ?_
      rotate_left
      · (intro w hSw; obtain ⟨s0, s1, s2, s3, s4⟩ := hSw; go_simp; try with_reducible rfl)
      try simp only [Act.put, List.setIfInBounds_toArray, List.set_cons_zero, List.set_cons_succ]
      refine wpAnyH_take (i := 8) (oi := ⟨some 34, _, _, _, _, _⟩) (v := ?_) rfl (by kernel_rfl) (by kernel_rfl) (by kernel_rfl) (fun _ _ _ h => h) (Or.inl ⟨by rfl, ?_⟩) hHeld ?_
      rotate_left
      · (intro w hSw; obtain ⟨s0, s1, s2, s3, s4⟩ := hSw; go_simp; try with_reducible rfl)
      try simp only [Act.put, List.setIfInBounds_toArray, List.set_cons_zero, List.set_cons_succ]
      refine wpAnyH_take (i := 9) (oi := ⟨some 35, _, _, _, _, _⟩) (v := ?_) rfl (by kernel_rfl) (by kernel_rfl) (by kernel_rfl) (fun _ _ _ h => h) (Or.inl ⟨by rfl, ?_⟩) hHeld ?_
      rotate_left
      · (intro w hSw; obtain ⟨s0, s1, s2, s3, s4⟩ := hSw; go_simp; try with_reducible rfl)
      try simp only [Act.put, List.setIfInBounds_toArray, List.set_cons_zero, List.set_cons_succ]
      refine wpAnyH_take (i := 10) (oi := ⟨some 36, _, _, _, _, _⟩) (v := ?_) rfl (by kernel_rfl) (by kernel_rfl) (by kernel_rfl) (fun _ _ _ h => h) (Or.inl ⟨by rfl, ?_⟩) hHeld ?_
      rotate_left
      · (intro w hSw; obtain ⟨s0, s1, s2, s3, s4⟩ := hSw; go_simp; try with_reducible rfl)
      try simp only [Act.put, List.setIfInBounds_toArray, List.set_cons_zero, List.set_cons_succ]
      refine wpAnyH_take (i := 11) (oi := ⟨some 37, _, _, _, _, _⟩) (v := ?_) rfl (by kernel_rfl) (by kernel_rfl) (by kernel_rfl) (fun _ _ _ h => h) (Or.inl ⟨by rfl, ?_⟩) hHeld ?_
      rotate_left
      · (intro w hSw; obtain ⟨s0, s1, s2, s3, s4⟩ := hSw; go_simp; try with_reducible rfl)
      try simp only [Act.put, List.setIfInBounds_toArray, List.set_cons_zero, List.set_cons_succ]
      refine wpAnyH_take (i := 12) (oi := ⟨some 38, _, _, _, _, _⟩) (v := ?_) rfl (by kernel_rfl) (by kernel_rfl) (by kernel_rfl) (fun _ _ _ h => h) (Or.inl ⟨by rfl, ?_⟩) hHeld ?_
      rotate_left
      · (intro w hSw; obtain ⟨s0, s1, s2, s3, s4⟩ := hSw; go_simp; try with_reducible rfl)
      try simp only [Act.put, List.setIfInBounds_toArray, List.set_cons_zero, List.set_cons_succ]
      refine wpAnyH_take (i := 13) (oi := ⟨some 39, _, _, _, _, _⟩) (v := ?_) rfl (by kernel_rfl) (by kernel_rfl) (by kernel_rfl) (fun _ _ _ h => h) (Or.inl ⟨by rfl, ?_⟩) hHeld ?_
      rotate_left
      · (intro w hSw; obtain ⟨s0, s1, s2, s3, s4⟩ := hSw; go_simp; try with_reducible rfl)
      try simp only [Act.put, List.setIfInBounds_toArray, List.set_cons_zero, List.set_cons_succ]
      refine wpAnyH_take (i := 14) (oi := ⟨some 40, _, _, _, _, _⟩) (v := ?_) rfl (by kernel_rfl) (by kernel_rfl) (by kernel_rfl) (fun _ _ _ h => h) (Or.inl ⟨by rfl, ?_⟩) hHeld ?_
      rotate_left
      · (intro w hSw; obtain ⟨s0, s1, s2, s3, s4⟩ := hSw; go_simp; try with_reducible rfl)
      try simp only [Act.put, List.setIfInBounds_toArray, List.set_cons_zero, List.set_cons_succ]
      refine wpAnyH_ready (rs := [15]) (by kernel_rfl) (by simp) ?_
      refine (AllReadyH.cons (o := ⟨none, _, _, _, _, _⟩) rfl (fun K hK => ?_) AllReadyH.nil)
      go_simp
      refine hK.out _ _ (⟨K0.out, K1.out, K2.out, K3.out, K4.out⟩) (fun hHeld => ?_)
      clear hK K
      try simp only [Act.put, List.setIfInBounds_toArray, List.set_cons_zero, List.set_cons_succ]
      refine wpAnyH_done (by kernel_rfl) ?_ _
      refine NoPanic.normal ?_
      clear x0 x1 x2 x3 x4 x8 hz hf hlo hne K0 K1 K2 K3 K4
      generalize (if x < y then y else x) = z2 at HM2 HBX HBOX ⊢
      go_wp2_with fail
      go_loopw [8] (fun j wr2 => ∃ q : Nat, q ≤ n ∧ j = .int .i64 q ∧ MixO W.heap.size gb gc db dc rs n G H D E i q (i + 1) wr2 ∧ Below W.heap.size W wr2 ∧ Blk wr2 Ob 25 [.slice (some ⟨gb, 0, none⟩) n gc, .slice (some ⟨db, 0, none⟩) n dc]) (fun j _ => n - (intOf j).toNat)
      case atStart => exact ⟨0, Nat.zero_le _, rfl, HM2.out, HBX.out, HBOX.out⟩
      case round =>
        clear HM2 HBX HBOX
        obtain ⟨j, hj, rfl, hm, hb, hBO⟩ := hrel
        have hBa := HB1.out.kept hb
        have x2 := hBa.cell 0
        by_cases hlt2 : j < n
        · have hki2 : (j : Int) < (n : Int) := by omega
          have hBb := HB2.out.kept hb
          have x0 := hBO.cell 0
          have x5 := hBb.cell 0
          obtain ⟨b3, o3, q4, c4, rfl, l3, x3, r4⟩ := HMX.out.at_ (i := i) (by rw [HN.out]; exact hlt)
          rw [HSG.out.len i (by rw [HN.out]; exact hlt), HN.out] at x3
          obtain ⟨b4, o4, rfl, l4, x4⟩ := r4.int (k := j) (by rw [HSG.out.len i (by rw [HN.out]; exact hlt), HN.out]; exact hlt2)
          rw [← ga_at (by rw [HN.out]; exact hlt) (by rw [HSG.out.len i (by rw [HN.out]; exact hlt), HN.out]; exact hlt2)] at x4
          obtain ⟨b5, o5, q6, c6, rfl, l5, x6, r6⟩ := HMY.out.at_ (i := i) (by rw [HM.out]; exact hlt)
          rw [HSH.out.len i (by rw [HM.out]; exact hlt), HM.out] at x6
          obtain ⟨b6, o6, rfl, l6, x7⟩ := r6.int (k := j) (by rw [HSH.out.len i (by rw [HM.out]; exact hlt), HM.out]; exact hlt2)
          rw [← ga_at (by rw [HM.out]; exact hlt) (by rw [HSH.out.len i (by rw [HM.out]; exact hlt), HM.out]; exact hlt2)] at x7
          have Y3 := Lib.hid x3
          have Y4 := Lib.hid x4
          have Y6 := Lib.hid x6
          have Y7 := Lib.hid x7
          have x3 := (hb.cell (p := ⟨b3, o3 + i, none⟩) l3).trans x3
          have x4 := (hb.cell (p := ⟨b4, o4 + j, none⟩) l4).trans x4
          have x6 := (hb.cell (p := ⟨b5, o5 + i, none⟩) l5).trans x6
          have x7 := (hb.cell (p := ⟨b6, o6 + j, none⟩) l6).trans x7
          obtain ⟨r, c, x1, ⟨z, hz⟩, hf, hlo, hrg, hm2⟩ := hm.atG hlt hlt2
          have hrO : r < Ob := by
            obtain ⟨G', D', h, h1, _⟩ := hm
            obtain ⟨r', c', e1, _, _, hr', e2⟩ := h.atG (i := i) (by omega)
            have e3 := x1.symm.trans e1
            injection e3 with e3
            injection e3 with e3
            injection e3 with e3
            injection e3 with e3
            rw [e3, ← show (rs[i]).1 = r' by rw [e2]]
            exact HLT.out.2.2 _ (List.getElem_mem hr')
          have hgO := HLT.out.1
          rw [max_if] at hm2
          generalize ga G i j = x at x4 Y4 hm2
          generalize ga H i j = y at x7 Y7 hm2
          have hne : Ob ≠ r := by omega
          have hb2 : Below W.heap.size W ((wr.setCell ⟨r, j, none⟩ (.int .i64 (if x < y then y else x))).drew) := (hb.setCell (p := ⟨r, j, none⟩) hlo _).drew
          have hBO2 : Blk ((wr.setCell ⟨r, j, none⟩ (.int .i64 (if x < y then y else x))).drew) Ob 25 [.slice (some ⟨gb, 0, none⟩) n gc, .slice (some ⟨db, 0, none⟩) n dc] := hBO.far (p := ⟨r, j, none⟩) hne _
          have K0 := Lib.hid (hBO2.cell 0)
          have K1 := Lib.hid (show ((wr.setCell ⟨r, j, none⟩ (.int .i64 (if x < y then y else x))).drew).cell? ⟨gb, i, none⟩ = some (.slice (some ⟨r, 0, none⟩) n c) from (World.cell?_of_block (a := ⟨gb, i, none⟩) (Below.heap_setCell wr ⟨r, j, none⟩ _ gb (fun e => hrg e.symm))).trans x1)
          have K2 := Lib.hid ((HB1.out.kept hb2).cell 0)
          have K3 := Lib.hid ((hb2.cell (p := ⟨b3, o3 + i, none⟩) l3).trans Y3.out)
          have K4 := Lib.hid ((hb2.cell (p := ⟨b4, o4 + j, none⟩) l4).trans Y4.out)
          have K5 := Lib.hid ((HB2.out.kept hb2).cell 0)
          have K6 := Lib.hid ((hb2.cell (p := ⟨b5, o5 + i, none⟩) l5).trans Y6.out)
          have K7 := Lib.hid ((hb2.cell (p := ⟨b6, o6 + j, none⟩) l6).trans Y7.out)
          have HM2 := Lib.hid (hm2.kept (Below.refl _ _).drew)
          have HBX := Lib.hid hb2
          have HBOX := Lib.hid hBO2
          clear hm2 hb2 hBO2 hm hb hBO Y3 Y4 Y6 Y7 hBa hBb hgO r4 r6
          go_upto_region 11 with fail
          refine wp_region_noPanic ?_
          refine wp_region_held_drew (S := fun w' => w'.cell? ⟨Ob, 0, none⟩ = some (.slice (some ⟨gb, 0, none⟩) n gc) ∧ w'.cell? ⟨gb, i, none⟩ = some (.slice (some ⟨r, 0, none⟩) n c) ∧ w'.cell? ⟨Na, 0, none⟩ = some (.slice (some ⟨b3, o3, none⟩) n cg) ∧ w'.cell? ⟨b3, o3 + i, none⟩ = some (.slice (some ⟨b4, o4, none⟩) n c4) ∧ w'.cell? ⟨b4, o4 + j, none⟩ = some (.int .i64 x) ∧ w'.cell? ⟨Nb, 0, none⟩ = some (.slice (some ⟨b5, o5, none⟩) n ch) ∧ w'.cell? ⟨b5, o5 + i, none⟩ = some (.slice (some ⟨b6, o6, none⟩) n c6) ∧ w'.cell? ⟨b6, o6 + j, none⟩ = some (.int .i64 y)) (by kernel_rfl) (⟨x0, x1, x2, x3, x4, x5, x6, x7⟩) (fun hHeld => ?_)
          refine wpAnyH_take (i := 0) (oi := ⟨some 48, _, _, _, _, _⟩) (v := ?_) rfl (by kernel_rfl) (by kernel_rfl) (by kernel_rfl) (fun _ _ _ h => h) (Or.inl ⟨by rfl, ?_⟩) hHeld ?_
          rotate_left
          · (intro w hSw; obtain ⟨s0, s1, s2, s3, s4, s5, s6, s7⟩ := hSw; go_simp; try with_reducible rfl)
          try simp only [Act.put, List.setIfInBounds_toArray, List.set_cons_zero, List.set_cons_succ]
          refine wpAnyH_take (i := 1) (oi := ⟨some 49, _, _, _, _, _⟩) (v := ?_) rfl (by kernel_rfl) (by kernel_rfl) (by kernel_rfl) (fun _ _ _ h => h) (Or.inl ⟨by rfl, ?_⟩) hHeld ?_
          rotate_left
          · (intro w hSw; obtain ⟨s0, s1, s2, s3, s4, s5, s6, s7⟩ := hSw; go_simp; try with_reducible rfl)
          try simp only [Act.put, List.setIfInBounds_toArray, List.set_cons_zero, List.set_cons_succ]
          refine wpAnyH_take (i := 2) (oi := ⟨some 50, _, _, _, _, _⟩) (v := ?_) rfl (by kernel_rfl) (by kernel_rfl) (by kernel_rfl) (fun _ _ _ h => h) (Or.inl ⟨by rfl, ?_⟩) hHeld ?_
          rotate_left
          · (intro w hSw; obtain ⟨s0, s1, s2, s3, s4, s5, s6, s7⟩ := hSw; go_simp; try with_reducible rfl)
          try simp only [Act.put, List.setIfInBounds_toArray, List.set_cons_zero, List.set_cons_succ]
          refine wpAnyH_take (i := 3) (oi := ⟨some 51, _, _, _, _, _⟩) (v := ?_) rfl (by kernel_rfl) (by kernel_rfl) (by kernel_rfl) (fun _ _ _ h => h) (Or.inl ⟨by rfl, ?_⟩) hHeld ?_
          rotate_left
          · (intro w hSw; obtain ⟨s0, s1, s2, s3, s4, s5, s6, s7⟩ := hSw; go_simp; try with_reducible rfl)
          try simp only [Act.put, List.setIfInBounds_toArray, List.set_cons_zero, List.set_cons_succ]
          refine wpAnyH_take (i := 4) (oi := ⟨some 52, _, _, _, _, _⟩) (v := ?_) rfl (by kernel_rfl) (by kernel_rfl) (by kernel_rfl) (fun _ _ _ h => h) (Or.inl ⟨by rfl, ?_⟩) hHeld ?_
          rotate_left
          · (intro w hSw; obtain ⟨s0, s1, s2, s3, s4, s5, s6, s7⟩ := hSw; go_simp; try with_reducible rfl)
          try simp only [Act.put, List.setIfInBounds_toArray, List.set_cons_zero, List.set_cons_succ]
          refine wpAnyH_take (i := 5) (oi := ⟨some 53, _, _, _, _, _⟩) (v := ?_) rfl (by kernel_rfl) (by kernel_rfl) (by kernel_rfl) (fun _ _ _ h => h) (Or.inl ⟨by rfl, ?_⟩) hHeld ?_
          rotate_left
          · (intro w hSw; obtain ⟨s0, s1, s2, s3, s4, s5, s6, s7⟩ := hSw; go_simp; try with_reducible rfl)
          try simp only [Act.put, List.setIfInBounds_toArray, List.set_cons_zero, List.set_cons_succ]
          refine wpAnyH_take (i := 6) (oi := ⟨some 54, _, _, _, _, _⟩) (v := ?_) rfl (by kernel_rfl) (by kernel_rfl) (by kernel_rfl) (fun _ _ _ h => h) (Or.inl ⟨by rfl, ?_⟩) hHeld ?_
          rotate_left
          · (intro w hSw; obtain ⟨s0, s1, s2, s3, s4, s5, s6, s7⟩ := hSw; go_simp; try with_reducible rfl)
          try simp only [Act.put, List.setIfInBounds_toArray, List.set_cons_zero, List.set_cons_succ]
          refine wpAnyH_take (i := 7) (oi := ⟨some 55, _, _, _, _, _⟩) (v := ?_) rfl (by kernel_rfl) (by kernel_rfl) (by kernel_rfl) (fun _ _ _ h => h) (Or.inl ⟨by rfl, ?_⟩) hHeld ?_
          rotate_left
          · (intro w hSw; obtain ⟨s0, s1, s2, s3, s4, s5, s6, s7⟩ := hSw; go_simp; try with_reducible rfl)
          try simp only [Act.put, List.setIfInBounds_toArray, List.set_cons_zero, List.set_cons_succ]
          refine wpAnyH_take (i := 8) (oi := ⟨some 56, _, _, _, _, _⟩) (v := ?_) rfl (by kernel_rfl) (by kernel_rfl) (by kernel_rfl) (fun _ _ _ h => h) (Or.inl ⟨by rfl, ?_⟩) hHeld ?_
          rotate_left
          · (intro w hSw; obtain ⟨s0, s1, s2, s3, s4, s5, s6, s7⟩ := hSw; go_simp; try with_reducible rfl)
          try simp only [Act.put, List.setIfInBounds_toArray, List.set_cons_zero, List.set_cons_succ]
          refine wpAnyH_take (i := 9) (oi := ⟨some 57, _, _, _, _, _⟩) (v := ?_) rfl (by kernel_rfl) (by kernel_rfl) (by kernel_rfl) (fun _ _ _ h => h) (Or.inl ⟨by rfl, ?_⟩) hHeld ?_
          rotate_left
          · (intro w hSw; obtain ⟨s0, s1, s2, s3, s4, s5, s6, s7⟩ := hSw; go_simp; try with_reducible rfl)
          try simp only [Act.put, List.setIfInBounds_toArray, List.set_cons_zero, List.set_cons_succ]
          refine wpAnyH_take (i := 10) (oi := ⟨some 58, _, _, _, _, _⟩) (v := ?_) rfl (by kernel_rfl) (by kernel_rfl) (by kernel_rfl) (fun _ _ _ h => h) (Or.inl ⟨by rfl, ?_⟩) hHeld ?_
          rotate_left
          · (intro w hSw; obtain ⟨s0, s1, s2, s3, s4, s5, s6, s7⟩ := hSw; go_simp; try with_reducible rfl)
          try simp only [Act.put, List.setIfInBounds_toArray, List.set_cons_zero, List.set_cons_succ]
          refine wpAnyH_take (i := 11) (oi := ⟨some 59, _, _, _, _, _⟩) (v := ?_) rfl (by kernel_rfl) (by kernel_rfl) (by kernel_rfl) (fun _ _ _ h => h) (Or.inl ⟨by rfl, ?_⟩) hHeld ?_
          rotate_left
          · (intro w hSw; obtain ⟨s0, s1, s2, s3, s4, s5, s6, s7⟩ := hSw; go_simp; try with_reducible rfl)
          try simp only [Act.put, List.setIfInBounds_toArray, List.set_cons_zero, List.set_cons_succ]
          refine wpAnyH_take (i := 12) (oi := ⟨some 60, _, _, _, _, _⟩) (v := ?_) rfl (by kernel_rfl) (by kernel_rfl) (by kernel_rfl) (fun _ _ _ h => h) (Or.inl ⟨by rfl, ?_⟩) hHeld ?_
          rotate_left
          · (intro w hSw; obtain ⟨s0, s1, s2, s3, s4, s5, s6, s7⟩ := hSw; go_simp; try with_reducible rfl)
          try simp only [Act.put, List.setIfInBounds_toArray, List.set_cons_zero, List.set_cons_succ]
          refine wpAnyH_take (i := 13) (oi := ⟨some 61, _, _, _, _, _⟩) (v := ?_) rfl (by kernel_rfl) (by kernel_rfl) (by kernel_rfl) (fun _ _ _ h => h) (Or.inl ⟨by rfl, ?_⟩) hHeld ?_
          rotate_left
          · (intro w hSw; obtain ⟨s0, s1, s2, s3, s4, s5, s6, s7⟩ := hSw; go_simp; try with_reducible rfl)
          try simp only [Act.put, List.setIfInBounds_toArray, List.set_cons_zero, List.set_cons_succ]
          refine wpAnyH_take (i := 14) (oi := ⟨some 62, _, _, _, _, _⟩) (v := ?_) rfl (by kernel_rfl) (by kernel_rfl) (by kernel_rfl) (fun _ _ _ h => h) (Or.inl ⟨by rfl, ?_⟩) hHeld ?_
          rotate_left
          · (intro w hSw; obtain ⟨s0, s1, s2, s3, s4, s5, s6, s7⟩ := hSw; go_simp; try with_reducible rfl)
          try simp only [Act.put, List.setIfInBounds_toArray, List.set_cons_zero, List.set_cons_succ]
          refine wpAnyH_take (i := 15) (oi := ⟨some 63, _, _, _, _, _⟩) (v := ?_) rfl (by kernel_rfl) (by kernel_rfl) (by kernel_rfl) (fun _ _ _ h => h) (Or.inl ⟨by rfl, ?_⟩) hHeld ?_
          rotate_left
          · (intro w hSw; obtain ⟨s0, s1, s2, s3, s4, s5, s6, s7⟩ := hSw; go_simp; try with_reducible rfl)
          try simp only [Act.put, List.setIfInBounds_toArray, List.set_cons_zero, List.set_cons_succ]
          refine wpAnyH_take (i := 16) (oi := ⟨some 64, _, _, _, _, _⟩) (v := ?_) rfl (by kernel_rfl) (by kernel_rfl) (by kernel_rfl) (fun _ _ _ h => h) (Or.inl ⟨by rfl, ?_⟩) hHeld ?_
          rotate_left
          · (intro w hSw; obtain ⟨s0, s1, s2, s3, s4, s5, s6, s7⟩ := hSw; go_simp; try with_reducible rfl)
          try simp only [Act.put, List.setIfInBounds_toArray, List.set_cons_zero, List.set_cons_succ]
          refine wpAnyH_take (i := 17) (oi := ⟨some 65, _, _, _, _, _⟩) (v := ?_) rfl (by kernel_rfl) (by kernel_rfl) (by kernel_rfl) (fun _ _ _ h => h) (Or.inl ⟨by rfl, ?_⟩) hHeld ?_
          rotate_left
          · (intro w hSw; obtain ⟨s0, s1, s2, s3, s4, s5, s6, s7⟩ := hSw; go_simp; try with_reducible rfl)
          try simp only [Act.put, List.setIfInBounds_toArray, List.set_cons_zero, List.set_cons_succ]
          refine wpAnyH_take (i := 18) (oi := ⟨some 66, _, _, _, _, _⟩) (v := ?_) rfl (by kernel_rfl) (by kernel_rfl) (by kernel_rfl) (fun _ _ _ h => h) (Or.inl ⟨by rfl, ?_⟩) hHeld ?_
          rotate_left
          · (intro w hSw; obtain ⟨s0, s1, s2, s3, s4, s5, s6, s7⟩ := hSw; go_simp; try with_reducible rfl)
          try simp only [Act.put, List.setIfInBounds_toArray, List.set_cons_zero, List.set_cons_succ]
          refine wpAnyH_take (i := 19) (oi := ⟨some 67, _, _, _, _, _⟩) (v := ?_) rfl (by kernel_rfl) (by kernel_rfl) (by kernel_rfl) (fun _ _ _ h => h) (Or.inl ⟨by rfl, ?_⟩) hHeld ?_
          rotate_left
          · (intro w hSw; obtain ⟨s0, s1, s2, s3, s4, s5, s6, s7⟩ := hSw; go_simp; try with_reducible rfl)
          try simp only [Act.put, List.setIfInBounds_toArray, List.set_cons_zero, List.set_cons_succ]
          refine wpAnyH_take (i := 20) (oi := ⟨some 68, _, _, _, _, _⟩) (v := ?_) rfl (by kernel_rfl) (by kernel_rfl) (by kernel_rfl) (fun _ _ _ h => h) (Or.inl ⟨by rfl, ?_⟩) hHeld ?_
          rotate_left
          · (intro w hSw; obtain ⟨s0, s1, s2, s3, s4, s5, s6, s7⟩ := hSw; go_simp; try with_reducible rfl)
          try simp only [Act.put, List.setIfInBounds_toArray, List.set_cons_zero, List.set_cons_succ]
          refine wpAnyH_take (i := 21) (oi := ⟨some 69, _, _, _, _, _⟩) (v := ?_) rfl (by kernel_rfl) (by kernel_rfl) (by kernel_rfl) (fun _ _ _ h => h) (Or.inl ⟨by rfl, ?_⟩) hHeld ?_
          rotate_left
          · (intro w hSw; obtain ⟨s0, s1, s2, s3, s4, s5, s6, s7⟩ := hSw; go_simp; try with_reducible rfl)
          try simp only [Act.put, List.setIfInBounds_toArray, List.set_cons_zero, List.set_cons_succ]
          refine wpAnyH_take (i := 22) (oi := ⟨some 70, _, _, _, _, _⟩) (v := ?_) rfl (by kernel_rfl) (by kernel_rfl) (by kernel_rfl) (fun _ _ _ h => h) (Or.inl ⟨by rfl, ?_⟩) hHeld ?_
          rotate_left
          · (intro w hSw; obtain ⟨s0, s1, s2, s3, s4, s5, s6, s7⟩ := hSw; go_simp; try with_reducible rfl)
          try simp only [Act.put, List.setIfInBounds_toArray, List.set_cons_zero, List.set_cons_succ]
          refine wpAnyH_take (i := 23) (oi := ⟨some 71, _, _, _, _, _⟩) (v := ?_) rfl (by kernel_rfl) (by kernel_rfl) (by kernel_rfl) (fun _ _ _ h => h) (Or.inl ⟨by rfl, ?_⟩) hHeld ?_
          rotate_left
          · (intro w hSw; obtain ⟨s0, s1, s2, s3, s4, s5, s6, s7⟩ := hSw; go_simp; try with_reducible rfl)
          try simp only [Act.put, List.setIfInBounds_toArray, List.set_cons_zero, List.set_cons_succ]
          refine wpAnyH_ready (rs := [24]) (by kernel_rfl) (by simp) ?_
          refine (AllReadyH.cons (o := ⟨none, _, _, _, _, _⟩) rfl (fun K hK => ?_) AllReadyH.nil)
          go_simp
          refine hK.out _ _ (⟨K0.out, K1.out, K2.out, K3.out, K4.out, K5.out, K6.out, K7.out⟩) (fun hHeld => ?_)
          clear hK K
          try simp only [Act.put, List.setIfInBounds_toArray, List.set_cons_zero, List.set_cons_succ]
          refine wpAnyH_done (by kernel_rfl) ?_ _
          refine NoPanic.normal ?_
          clear x0 x1 x2 x3 x4 x5 x6 x7 hz hf hlo hne hrg hrO K0 K1 K2 K3 K4 K5 K6 K7
          generalize (if x < y then y else x) = z2 at HM2 HBX HBOX ⊢
          go_wp2_with fail
          go_roundw
          case rel => exact ⟨j + 1, by omega, by go_num, HM2.out, HBX.out, HBOX.out⟩
          case measure => simp [intOf]; omega
        · have hj2 : j = n := by omega
          subst hj2
          have HM3 := Lib.hid hm.next
          have HBX := Lib.hid hb
          have HBOX := Lib.hid hBO
          clear hm hb hBO hBa
          go_wp2_with fail
          go_roundw
          case rel => exact ⟨i + 1, by omega, by go_num, HM3.out, HBX.out, HBOX.out⟩
          case measure => simp [intOf]; omega
    · have hkn : i = n := by omega
      subst hkn
      have hO := hm.done HN.out
      have hv := hO.val
      rw [joinG_len, HN.out] at hv
      obtain ⟨p1, c1, q1, d1, he, hM, hR⟩ := hv.reads
      have HVA := Lib.hid (valid_any p1 q1 c1 d1 hM hR)
      rw [← he] at HVA
      have y0 := hBO.cell 0
      have y1 := hBO.cell 1
      have HBB := Lib.hid hb
      have HVV := Lib.hid hv
      have HBOX := Lib.hid hBO
      clear hm hO hv he hM hR hb hBO hBa
      go_wp2_with fail
      refine HVA.out.mono ?_
      rintro e w3 ⟨b, rfl, hbv, hb3⟩
      have HBV := Lib.hid hbv
      have hbW := below_step HBB.out hb3
      have hB13 := HB1.out.kept hbW
      have hB33 := HB3.out.kept hbW
      have hBO3 := HBOX.out.kept hb3
      have x0 := hB13.cell 0
      have x1 := hB13.cell 1
      have x2 := hB33.cell 0
      have x3 := hB33.cell 1
      have x4 := hBO3.cell 0
      have x5 := hBO3.cell 1
      have f0 := hB33.free 0
      have f1 := hB33.free 1
      have hRlt := HRW.out
      have HB3 := Lib.hid hb3
      have HBW := Lib.hid hbW
      have HB33 := Lib.hid hB33
      have HWR := Lib.hid (fun (u v : Value) => ((HB.out.trans (HBW.out.mono HB.out.size)).setCell (p := ⟨R, 0, none⟩) hRlt u).setCell (p := ⟨R, 1, none⟩) hRlt v)
      have HFR := Lib.hid (fun (u v : Value) => ((Fr.refl (fun b => b = R) w3).set ⟨R, 0, none⟩ u (.inl rfl)).set ⟨R, 1, none⟩ v (.inl rfl))
      clear hbv hbW hB13 hB33 hBO3 y0 y1 hb3 x8
      cases b with
      | true =>
        go_wp2_with fail
        try simp only [Exit.inBlock, Exit.then]
        have hZ := (HB33.out.set_ 0 (.slice (some ⟨gb, 0, none⟩) i gc)).set_ 1 (.slice (some ⟨db, 0, none⟩) i dc)
        have HZD : Blk _ R 25 [.slice (some ⟨gb, 0, none⟩) i gc, .slice (some ⟨db, 0, none⟩) i dc] := hZ
        refine bodyPost_ret (results_pair rfl _ _ R 25 _ (0, 0) _ _ (by rfl) HZD Try.underlying25 (by rfl) (by kernel_rfl) (by rfl)) rfl ?_
        refine .inl ⟨(HBV.out.1 (by simp)).2, _, rfl, ?_, HWR.out _ _⟩
        refine (((HVV.out.kept HB3.out).fr (HFR.out _ _) (fun b hb e => ?_)).mono (fun b hb _ => .inr ?_))
        · have := HSZ.out; omega
        · have := HB.out.size; omega
      | false =>
        go_wp2_with fail
        try simp only [Exit.inBlock, Exit.then]
        have hZ := (HB33.out.set_ 0 (.slice pg i cg)).set_ 1 (.slice qd i cd)
        have HZD : Blk _ R 25 [.slice pg i cg, .slice qd i cd] := hZ
        refine bodyPost_ret (results_pair rfl _ _ R 25 _ (0, 0) _ _ (by rfl) HZD Try.underlying25 (by rfl) (by kernel_rfl) (by rfl)) rfl ?_
        refine .inr ⟨fun h => by have := HBV.out.2 ⟨HSJ.out, h⟩; simp at this, _, rfl, ?_, HWR.out _ _⟩
        have hK := HXB.out.kept (HWR.out (.slice pg i cg) (.slice qd i cd))
        rw [HN.out, HLD.out] at hK
        exact hK.or
end
end Go.Proofs.Ytdancoblphkakaa
