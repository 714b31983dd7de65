/- StockNew: the walk. -/
import Derived.Test.YtdancoblphkakaaFresh
import Derived.Test.YtdancoblphkakaaLawD
namespace Go.Proofs.Ytdancoblphkakaa
open Go.RowKit

theorem own_os {w : World} {U : Nat → Prop} {v : Value} {G : List (List Int)} {D : List Int} (h : VS w U v G D) (hs : Small G D) : Calls Try.prog 12 #[v] w (RetOwnSt w G D) := by
  obtain ⟨pg, cg, qd, cd, rfl, hM, hR⟩ := h.reads
  obtain ⟨s1, s2, s3⟩ := hs
  exact own_any pg qd cg cd hM hR (by omega) (fun i hi => by have := s2 i hi; omega) (by omega)
theorem same_vs {w : World} {U V : Nat → Prop} {v u : Value} {G : List (List Int)} {D : List Int} (h : VS w U v G D) (k : VS w V u G D) (hs : Small G D) : Calls Try.prog 25 #[v, u] w fun e w' => e = .returned (.bool true) ∧ Below w.heap.size w w' := by
  obtain ⟨pg, cg, qd, cd, rfl, hM, hR⟩ := h.reads
  obtain ⟨ph, ch, qe, ce, rfl, hM2, hR2⟩ := k.reads
  obtain ⟨s1, s2, s3⟩ := hs
  refine same_any pg qd ph qe cg cd ch ce G.length D.length hM hR hM2 hR2 rfl rfl s1 s3 (fun l hl => ?_)
  obtain ⟨i, hi, rfl⟩ := List.mem_iff_getElem.1 hl
  exact s2 i hi
theorem new_nat {p : Int} (h : 1 ≤ p ∧ p ≤ 16) : ∃ n : Nat, p = (n : Int) ∧ 1 ≤ n ∧ n ≤ 16 := ⟨p.toNat, by omega, by omega, by omega⟩
set_option maxRecDepth 100000 in
set_option maxHeartbeats 16000000 in
theorem stockNew_walk {w : World} {U : Nat → Prop} {v : Value} {G : List (List Int)} {D : List Int} (places : Int) (hx : VS w U v G D) : Calls Try.prog 6 #[.int .i64 places, v] w fun e w' => e = .returned (.bool true) ∧ Below w.heap.size w w' := by
  have HX := Lib.hid hx
  obtain ⟨pg, cg, qd, cd, rfl⟩ := hx.shape
  clear hx
  by_cases s1 : Small G D
  case neg =>
    go_enter Try.func6, Try.ntmps6
    go_wp2_with fail
    generalize hW : (World.alloc _ _) = W
    have hb1 : Below w.heap.size w W := by rw [← hW]; exact (Below.refl _ _).alloc (Nat.le_refl _) _
    have hA1 := ((All.nil w).arg HX.out).box hb1 (N := w.heap.size) (t := 25) (cs := [.slice pg G.length cg, .slice qd D.length cd]) (by rw [← hW]; exact Blk.new w 25 _) (Nat.le_refl _)
    obtain ⟨Nx, hNx⟩ : ∃ n, w.heap.size = n := ⟨_, rfl⟩
    rw [hNx] at hA1 ⊢
    clear hW hNx hb1
    have HA := Lib.hid hA1
    have c0 := (hA1.blk (i := 0) rfl).cell 0
    have c1 := (hA1.blk (i := 0) rfl).cell 1
    clear hA1
    go_wp2_with fail
    refine (small_f (HA.out.ro (i := 0) rfl) s1).mono ?_
    rintro e w2 ⟨rfl, hb2⟩
    replace HA := Lib.hid (HA.out.kept hb2)
    clear hb2
    clear c0 c1
    go_wp2_with fail
    refine (known_any _).mono ?_
    rintro e w9 ⟨rfl, hb9⟩
    have HO := Lib.hid (HA.out.kept hb9).b
    clear hb9
    go_wp2_with fail
    go_ret
    exact ⟨rfl, HO.out⟩
  have S1 := Lib.hid s1
  clear s1
  by_cases hp : 1 ≤ places ∧ places ≤ 16
  · obtain ⟨n, rfl, n1, n2⟩ := new_nat hp
    have i1 : (1 : Int) ≤ (n : Int) := by omega
    have i1b : decide ((n : Int) < 1) = false := by simp; omega
    have i2 : (n : Int) ≤ 16 := by omega
    have i2b : decide (16 < (n : Int)) = false := by simp; omega
    clear hp
    go_enter Try.func6, Try.ntmps6
    go_wp2_with fail
    generalize hW : (World.alloc _ _) = W
    have hb1 : Below w.heap.size w W := by rw [← hW]; exact (Below.refl _ _).alloc (Nat.le_refl _) _
    have hA1 := ((All.nil w).arg HX.out).box hb1 (N := w.heap.size) (t := 25) (cs := [.slice pg G.length cg, .slice qd D.length cd]) (by rw [← hW]; exact Blk.new w 25 _) (Nat.le_refl _)
    obtain ⟨Nx, hNx⟩ : ∃ n, w.heap.size = n := ⟨_, rfl⟩
    rw [hNx] at hA1 ⊢
    clear hW hNx hb1
    have HA := Lib.hid hA1
    have c0 := (hA1.blk (i := 0) rfl).cell 0
    have c1 := (hA1.blk (i := 0) rfl).cell 1
    clear hA1
    go_wp2_with fail
    refine (small_t (HA.out.ro (i := 0) rfl) S1.out).mono ?_
    rintro e w2 ⟨rfl, hb2⟩
    replace HA := Lib.hid (HA.out.kept hb2)
    clear hb2
    clear c0 c1
    have c0 := (HA.out.blk (i := 0) rfl).cell 0
    have c1 := (HA.out.blk (i := 0) rfl).cell 1
    go_wp2_with fail
    refine (newA HA.out n n1 n2).mono ?_
    rintro e w2 ⟨X, SX, rfl, hA⟩
    replace HA := Lib.hid hA
    clear hA
    clear c0 c1
    have c0 := (HA.out.blk (i := 0) rfl).cell 0
    have c1 := (HA.out.blk (i := 0) rfl).cell 1
    go_wp2_with fail
    refine (fresh_any n _ n1 n2).mono ?_
    rintro e w2 ⟨v1, v2, vs, rfl, hOS, hb2⟩
    obtain ⟨p1, a1, rfl, _, _⟩ := own_shape hOS.g
    obtain ⟨q1, b1, rfl, _, _⟩ := own_shape hOS.d
    replace HA := Lib.hid (HA.out.addS hb2 (hOS.val.mono (fun b hb _ => Or.inr hb)))
    clear hOS hb2
    clear c0 c1
    have c0 := (HA.out.blk (i := 0) rfl).cell 0
    have c1 := (HA.out.blk (i := 0) rfl).cell 1
    go_wp2_with fail
    refine (alikeN HA.out 0 0 rfl rfl).mono ?_
    rintro e w2 ⟨rfl, hA⟩
    replace HA := Lib.hid (hA.less (l' := []) (by exact List.nil_sublist _) (m' := [⟨.agg #[.slice pg G.length cg, .slice qd D.length cd], G, D⟩]) (fun x hx => List.mem_cons_of_mem _ hx) (c' := [⟨Nx, 25, [.slice pg G.length cg, .slice qd D.length cd]⟩]) (List.Sublist.refl _))
    clear hA
    clear c0 c1
    have c0 := (HA.out.blk (i := 0) rfl).cell 0
    have c1 := (HA.out.blk (i := 0) rfl).cell 1
    by_cases v1 : Valid G D
    · have V1 := Lib.hid v1
      clear v1
      go_wp2_with fail
      refine (own_os (HA.out.ro (i := 0) rfl) S1.out).mono ?_
      rintro e w2 ⟨v1, v2, vs, rfl, hOS, hb3⟩
      obtain ⟨gb, gc, db, dc, rs, rfl, rfl, hO⟩ := hOS.blocks V1.out.1.1 V1.out.1.len V1.out.1.2.2.1
      obtain ⟨cs, hBd, hpre⟩ := hO.hD
      replace HA := Lib.hid (HA.out.box hb3 hBd hO.lo.2.1)
      have HMI := Lib.hid hO.val
      have HPRE := Lib.hid hpre
      clear hOS hO hBd hpre hb3
      clear c0 c1
      have c0 := (HA.out.blk (i := 1) rfl).cell 0
      have c1 := (HA.out.blk (i := 1) rfl).cell 1
      go_upto_region 10 with fail
      generalize hW : (World.alloc _ _) = W4
      have hb4 : Below w2.heap.size w2 W4 := by rw [← hW]; exact (Below.refl _ _).alloc (Nat.le_refl _) _
      replace HA := Lib.hid (HA.out.box hb4 (N := w2.heap.size) (t := 25) (cs := [.slice (some ⟨gb, 0, none⟩) G.length gc, .slice (some ⟨db, 0, none⟩) G.length dc]) (by rw [← hW]; exact Blk.new w2 25 _) (Nat.le_refl _))
      replace HMI := Lib.hid (HMI.out.kept hb4)
      obtain ⟨Nm, hNm⟩ : ∃ n, w2.heap.size = n := ⟨_, rfl⟩
      rw [hNm] at HA ⊢
      clear hW hNm hb4
      clear c0 c1
      have c0 := (HA.out.blk (i := 2) rfl).cell 0
      have c1 := (HA.out.blk (i := 2) rfl).cell 1
      have d0 := (HA.out.blk (i := 0) rfl).cell 0
      have d1 := (HA.out.blk (i := 0) rfl).cell 1
      go_wp2_with fail
      refine (of_vs HMI.out V1.out).mono ?_
      rintro e w2 ⟨T, rfl, hNS⟩
      replace HMI := Lib.hid (HMI.out.kept hNS.below)
      obtain ⟨ST9, hA9⟩ := HA.out.add hNS
      replace HA := Lib.hid hA9
      clear hNS hA9 d0 d1
      clear c0 c1
      have c0 := (HA.out.blk (i := 2) rfl).cell 0
      have c1 := (HA.out.blk (i := 2) rfl).cell 1
      have d0 := (HA.out.blk (i := 0) rfl).cell 0
      have d1 := (HA.out.blk (i := 0) rfl).cell 1
      go_wp2_with fail
      refine (same_vs HMI.out (HA.out.ro (i := 0) rfl) S1.out).mono ?_
      rintro e w2 ⟨rfl, hb2⟩
      replace HA := Lib.hid (HA.out.kept hb2)
      clear hb2 d0 d1 HMI
      clear c0 c1
      have c0 := (HA.out.blk (i := 2) rfl).cell 0
      have c1 := (HA.out.blk (i := 2) rfl).cell 1
      have d0 := (HA.out.blk (i := 0) rfl).cell 0
      have d1 := (HA.out.blk (i := 0) rfl).cell 1
      go_wp2_with fail
      refine (valid_t (HA.out.ro (i := 0) rfl) V1.out).mono ?_
      rintro e w2 ⟨rfl, hb2⟩
      replace HA := Lib.hid (HA.out.kept hb2)
      clear hb2 d0 d1 c0 c1
      have d0 := (HA.out.blk (i := 0) rfl).cell 0
      have d1 := (HA.out.blk (i := 0) rfl).cell 1
      have HCS := Lib.hid (show ∀ j, j < G.length → ∃ z, cs[j]? = some (.int .i64 z) from fun j hj => by
        obtain ⟨t, ht⟩ := HPRE.out
        have hj2 : j < D.length := by rw [V1.out.1.2.2.1]; exact hj
        exact ⟨_, by rw [← ht, List.getElem?_append_left (by rw [ints_len]; exact hj2), ints_at D j hj2]⟩)
      go_wp2_with fail
      go_loopw [9] (fun i wr => ∃ (k : Nat) (cs : List Value), k ≤ G.length ∧ i = .int .i64 k ∧ All w wr [⟨T, ST9, G, D⟩] [⟨.agg #[.slice pg G.length cg, .slice qd D.length cd], G, D⟩] [⟨Nm, 25, [.slice (some ⟨gb, 0, none⟩) G.length gc, .slice (some ⟨db, 0, none⟩) G.length dc]⟩, ⟨db, 3, cs⟩, ⟨Nx, 25, [.slice pg G.length cg, .slice qd D.length cd]⟩] ∧ ∀ j, j < G.length → ∃ z, cs[j]? = some (.int .i64 z)) (fun i _ => G.length - (intOf i).toNat)
      case atStart => exact ⟨0, cs, Nat.zero_le _, rfl, HA.out, HCS.out⟩
      case round =>
        clear HA HCS HPRE d0 d1
        clear cs
        obtain ⟨k, cs, hk, rfl, hA, hcs⟩ := hrel
        have HA := Lib.hid hA
        have HCS := Lib.hid hcs
        have d0 := (hA.blk (i := 0) rfl).cell 0
        have d1 := (hA.blk (i := 0) rfl).cell 1
        clear hcs hA
        by_cases hlt : k < G.length
        · have hki : (k : Int) < (G.length : Int) := by omega
          have g16 := V1.out.1.2.1
          obtain ⟨z, hz⟩ := HCS.out k hlt
          have y0 : wr.cell? ⟨db, k, none⟩ = some (.int .i64 z) := ((HA.out.blk (i := 1) rfl).cell k).trans hz
          have y1 : wr.frozen? ⟨db, k, none⟩ = false := (HA.out.blk (i := 1) rfl).free k
          have HB := Lib.hid (fun u => HA.out.put (i := 1) rfl k u)
          have HC := Lib.hid (show ∀ x : Int, ∀ j, j < G.length → ∃ z, (cs.set k (.int .i64 x))[j]? = some (.int .i64 z) from fun x j hj => by
            obtain ⟨z2, hz2⟩ := HCS.out j hj
            rw [List.getElem?_set]
            split
            · rename_i e
              subst e
              have : k < cs.length := (List.getElem?_eq_some_iff.1 hz).1
              simp [this]
            · exact ⟨z2, hz2⟩)
          clear hz
          go_wp2_with fail
          go_roundw
          case rel => exact ⟨k + 1, _, by omega, by go_num, HB.out _, HC.out _⟩
          case measure => simp [intOf]; omega
        · have c0 := (HA.out.blk (i := 2) rfl).cell 0
          have c1 := (HA.out.blk (i := 2) rfl).cell 1
          go_wp2_with fail
          refine (alikeN HA.out 0 0 rfl rfl).mono ?_
          rintro e w2 ⟨rfl, hA⟩
          replace HA := Lib.hid hA
          clear hA d0 d1
          clear c0 c1
          go_wp2_with fail
          refine (known_any _).mono ?_
          rintro e w9 ⟨rfl, hb9⟩
          have HO := Lib.hid (HA.out.kept hb9).b
          clear hb9
          go_wp2_with fail
          go_ret
          exact ⟨rfl, HO.out⟩
    · have V1 := Lib.hid v1
      clear v1
      go_wp2_with fail
      refine (own_os (HA.out.ro (i := 0) rfl) S1.out).mono ?_
      rintro e w2 ⟨v1, v2, vs, rfl, hOS, hb3⟩
      obtain ⟨p1, a1, rfl, _, _⟩ := own_shape hOS.g
      obtain ⟨q1, b1, rfl, _, _⟩ := own_shape hOS.d
      replace HA := Lib.hid (HA.out.kept hb3)
      have HMI := Lib.hid hOS.val
      clear hOS hb3
      clear c0 c1
      have c0 := (HA.out.blk (i := 0) rfl).cell 0
      have c1 := (HA.out.blk (i := 0) rfl).cell 1
      go_upto_region 10 with fail
      generalize hW : (World.alloc _ _) = W4
      have hb4 : Below w2.heap.size w2 W4 := by rw [← hW]; exact (Below.refl _ _).alloc (Nat.le_refl _) _
      replace HA := Lib.hid (HA.out.box hb4 (N := w2.heap.size) (t := 25) (cs := [.slice p1 G.length a1, .slice q1 D.length b1]) (by rw [← hW]; exact Blk.new w2 25 _) (Nat.le_refl _))
      replace HMI := Lib.hid (HMI.out.kept hb4)
      obtain ⟨Nm, hNm⟩ : ∃ n, w2.heap.size = n := ⟨_, rfl⟩
      rw [hNm] at HA ⊢
      clear hW hNm hb4
      clear c0 c1
      have c0 := (HA.out.blk (i := 1) rfl).cell 0
      have c1 := (HA.out.blk (i := 1) rfl).cell 1
      have d0 := (HA.out.blk (i := 0) rfl).cell 0
      have d1 := (HA.out.blk (i := 0) rfl).cell 1
      go_wp2_with fail
      refine (of_no HMI.out S1.out V1.out).mono ?_
      rintro e w2 ⟨rfl, hb2⟩
      replace HA := Lib.hid (HA.out.kept hb2)
      replace HMI := Lib.hid (HMI.out.kept hb2)
      clear hb2 d0 d1
      clear c0 c1
      have c0 := (HA.out.blk (i := 1) rfl).cell 0
      have c1 := (HA.out.blk (i := 1) rfl).cell 1
      have d0 := (HA.out.blk (i := 0) rfl).cell 0
      have d1 := (HA.out.blk (i := 0) rfl).cell 1
      go_wp2_with fail
      refine (same_vs HMI.out (HA.out.ro (i := 0) rfl) S1.out).mono ?_
      rintro e w2 ⟨rfl, hb2⟩
      replace HA := Lib.hid (HA.out.kept hb2)
      clear hb2 d0 d1 HMI
      clear c0 c1
      have c0 := (HA.out.blk (i := 1) rfl).cell 0
      have c1 := (HA.out.blk (i := 1) rfl).cell 1
      have d0 := (HA.out.blk (i := 0) rfl).cell 0
      have d1 := (HA.out.blk (i := 0) rfl).cell 1
      go_wp2_with fail
      refine (valid_f (HA.out.ro (i := 0) rfl) V1.out).mono ?_
      rintro e w2 ⟨rfl, hb2⟩
      replace HA := Lib.hid (HA.out.kept hb2)
      clear hb2 d0 d1
      clear c0 c1
      go_wp2_with fail
      refine (known_any _).mono ?_
      rintro e w9 ⟨rfl, hb9⟩
      have HO := Lib.hid (HA.out.kept hb9).b
      clear hb9
      go_wp2_with fail
      go_ret
      exact ⟨rfl, HO.out⟩
  · by_cases hp1 : places < 1
    · clear hp
      go_enter Try.func6, Try.ntmps6
      go_wp2_with fail
      generalize hW : (World.alloc _ _) = W
      have hb1 : Below w.heap.size w W := by rw [← hW]; exact (Below.refl _ _).alloc (Nat.le_refl _) _
      have hA1 := ((All.nil w).arg HX.out).box hb1 (N := w.heap.size) (t := 25) (cs := [.slice pg G.length cg, .slice qd D.length cd]) (by rw [← hW]; exact Blk.new w 25 _) (Nat.le_refl _)
      obtain ⟨Nx, hNx⟩ : ∃ n, w.heap.size = n := ⟨_, rfl⟩
      rw [hNx] at hA1 ⊢
      clear hW hNx hb1
      have HA := Lib.hid hA1
      have c0 := (hA1.blk (i := 0) rfl).cell 0
      have c1 := (hA1.blk (i := 0) rfl).cell 1
      clear hA1
      go_wp2_with fail
      refine (small_t (HA.out.ro (i := 0) rfl) S1.out).mono ?_
      rintro e w2 ⟨rfl, hb2⟩
      replace HA := Lib.hid (HA.out.kept hb2)
      clear hb2
      clear c0 c1
      have c0 := (HA.out.blk (i := 0) rfl).cell 0
      have c1 := (HA.out.blk (i := 0) rfl).cell 1
      go_wp2_with fail
      refine (new_no places _ (by omega)).mono ?_
      rintro e w' ⟨rfl, rfl⟩
      by_cases v1 : Valid G D
      · have V1 := Lib.hid v1
        clear v1
        go_wp2_with fail
        refine (own_os (HA.out.ro (i := 0) rfl) S1.out).mono ?_
        rintro e w2 ⟨v1, v2, vs, rfl, hOS, hb3⟩
        obtain ⟨gb, gc, db, dc, rs, rfl, rfl, hO⟩ := hOS.blocks V1.out.1.1 V1.out.1.len V1.out.1.2.2.1
        obtain ⟨cs, hBd, hpre⟩ := hO.hD
        replace HA := Lib.hid (HA.out.box hb3 hBd hO.lo.2.1)
        have HMI := Lib.hid hO.val
        have HPRE := Lib.hid hpre
        clear hOS hO hBd hpre hb3
        clear c0 c1
        have c0 := (HA.out.blk (i := 1) rfl).cell 0
        have c1 := (HA.out.blk (i := 1) rfl).cell 1
        go_upto_region 10 with fail
        generalize hW : (World.alloc _ _) = W4
        have hb4 : Below w2.heap.size w2 W4 := by rw [← hW]; exact (Below.refl _ _).alloc (Nat.le_refl _) _
        replace HA := Lib.hid (HA.out.box hb4 (N := w2.heap.size) (t := 25) (cs := [.slice (some ⟨gb, 0, none⟩) G.length gc, .slice (some ⟨db, 0, none⟩) G.length dc]) (by rw [← hW]; exact Blk.new w2 25 _) (Nat.le_refl _))
        replace HMI := Lib.hid (HMI.out.kept hb4)
        obtain ⟨Nm, hNm⟩ : ∃ n, w2.heap.size = n := ⟨_, rfl⟩
        rw [hNm] at HA ⊢
        clear hW hNm hb4
        clear c0 c1
        have c0 := (HA.out.blk (i := 2) rfl).cell 0
        have c1 := (HA.out.blk (i := 2) rfl).cell 1
        have d0 := (HA.out.blk (i := 0) rfl).cell 0
        have d1 := (HA.out.blk (i := 0) rfl).cell 1
        go_wp2_with fail
        refine (of_vs HMI.out V1.out).mono ?_
        rintro e w2 ⟨T, rfl, hNS⟩
        replace HMI := Lib.hid (HMI.out.kept hNS.below)
        obtain ⟨ST9, hA9⟩ := HA.out.add hNS
        replace HA := Lib.hid hA9
        clear hNS hA9 d0 d1
        clear c0 c1
        have c0 := (HA.out.blk (i := 2) rfl).cell 0
        have c1 := (HA.out.blk (i := 2) rfl).cell 1
        have d0 := (HA.out.blk (i := 0) rfl).cell 0
        have d1 := (HA.out.blk (i := 0) rfl).cell 1
        go_wp2_with fail
        refine (same_vs HMI.out (HA.out.ro (i := 0) rfl) S1.out).mono ?_
        rintro e w2 ⟨rfl, hb2⟩
        replace HA := Lib.hid (HA.out.kept hb2)
        clear hb2 d0 d1 HMI
        clear c0 c1
        have c0 := (HA.out.blk (i := 2) rfl).cell 0
        have c1 := (HA.out.blk (i := 2) rfl).cell 1
        have d0 := (HA.out.blk (i := 0) rfl).cell 0
        have d1 := (HA.out.blk (i := 0) rfl).cell 1
        go_wp2_with fail
        refine (valid_t (HA.out.ro (i := 0) rfl) V1.out).mono ?_
        rintro e w2 ⟨rfl, hb2⟩
        replace HA := Lib.hid (HA.out.kept hb2)
        clear hb2 d0 d1 c0 c1
        have d0 := (HA.out.blk (i := 0) rfl).cell 0
        have d1 := (HA.out.blk (i := 0) rfl).cell 1
        have HCS := Lib.hid (show ∀ j, j < G.length → ∃ z, cs[j]? = some (.int .i64 z) from fun j hj => by
          obtain ⟨t, ht⟩ := HPRE.out
          have hj2 : j < D.length := by rw [V1.out.1.2.2.1]; exact hj
          exact ⟨_, by rw [← ht, List.getElem?_append_left (by rw [ints_len]; exact hj2), ints_at D j hj2]⟩)
        go_wp2_with fail
        go_loopw [9] (fun i wr => ∃ (k : Nat) (cs : List Value), k ≤ G.length ∧ i = .int .i64 k ∧ All w wr [⟨T, ST9, G, D⟩] [⟨.agg #[.slice pg G.length cg, .slice qd D.length cd], G, D⟩] [⟨Nm, 25, [.slice (some ⟨gb, 0, none⟩) G.length gc, .slice (some ⟨db, 0, none⟩) G.length dc]⟩, ⟨db, 3, cs⟩, ⟨Nx, 25, [.slice pg G.length cg, .slice qd D.length cd]⟩] ∧ ∀ j, j < G.length → ∃ z, cs[j]? = some (.int .i64 z)) (fun i _ => G.length - (intOf i).toNat)
        case atStart => exact ⟨0, cs, Nat.zero_le _, rfl, HA.out, HCS.out⟩
        case round =>
          clear HA HCS HPRE d0 d1
          clear cs
          obtain ⟨k, cs, hk, rfl, hA, hcs⟩ := hrel
          have HA := Lib.hid hA
          have HCS := Lib.hid hcs
          have d0 := (hA.blk (i := 0) rfl).cell 0
          have d1 := (hA.blk (i := 0) rfl).cell 1
          clear hcs hA
          by_cases hlt : k < G.length
          · have hki : (k : Int) < (G.length : Int) := by omega
            have g16 := V1.out.1.2.1
            obtain ⟨z, hz⟩ := HCS.out k hlt
            have y0 : wr.cell? ⟨db, k, none⟩ = some (.int .i64 z) := ((HA.out.blk (i := 1) rfl).cell k).trans hz
            have y1 : wr.frozen? ⟨db, k, none⟩ = false := (HA.out.blk (i := 1) rfl).free k
            have HB := Lib.hid (fun u => HA.out.put (i := 1) rfl k u)
            have HC := Lib.hid (show ∀ x : Int, ∀ j, j < G.length → ∃ z, (cs.set k (.int .i64 x))[j]? = some (.int .i64 z) from fun x j hj => by
              obtain ⟨z2, hz2⟩ := HCS.out j hj
              rw [List.getElem?_set]
              split
              · rename_i e
                subst e
                have : k < cs.length := (List.getElem?_eq_some_iff.1 hz).1
                simp [this]
              · exact ⟨z2, hz2⟩)
            clear hz
            go_wp2_with fail
            go_roundw
            case rel => exact ⟨k + 1, _, by omega, by go_num, HB.out _, HC.out _⟩
            case measure => simp [intOf]; omega
          · have c0 := (HA.out.blk (i := 2) rfl).cell 0
            have c1 := (HA.out.blk (i := 2) rfl).cell 1
            go_wp2_with fail
            refine (alikeN HA.out 0 0 rfl rfl).mono ?_
            rintro e w2 ⟨rfl, hA⟩
            replace HA := Lib.hid hA
            clear hA d0 d1
            clear c0 c1
            go_wp2_with fail
            refine (known_any _).mono ?_
            rintro e w9 ⟨rfl, hb9⟩
            have HO := Lib.hid (HA.out.kept hb9).b
            clear hb9
            go_wp2_with fail
            go_ret
            exact ⟨rfl, HO.out⟩
      · have V1 := Lib.hid v1
        clear v1
        go_wp2_with fail
        refine (own_os (HA.out.ro (i := 0) rfl) S1.out).mono ?_
        rintro e w2 ⟨v1, v2, vs, rfl, hOS, hb3⟩
        obtain ⟨p1, a1, rfl, _, _⟩ := own_shape hOS.g
        obtain ⟨q1, b1, rfl, _, _⟩ := own_shape hOS.d
        replace HA := Lib.hid (HA.out.kept hb3)
        have HMI := Lib.hid hOS.val
        clear hOS hb3
        clear c0 c1
        have c0 := (HA.out.blk (i := 0) rfl).cell 0
        have c1 := (HA.out.blk (i := 0) rfl).cell 1
        go_upto_region 10 with fail
        generalize hW : (World.alloc _ _) = W4
        have hb4 : Below w2.heap.size w2 W4 := by rw [← hW]; exact (Below.refl _ _).alloc (Nat.le_refl _) _
        replace HA := Lib.hid (HA.out.box hb4 (N := w2.heap.size) (t := 25) (cs := [.slice p1 G.length a1, .slice q1 D.length b1]) (by rw [← hW]; exact Blk.new w2 25 _) (Nat.le_refl _))
        replace HMI := Lib.hid (HMI.out.kept hb4)
        obtain ⟨Nm, hNm⟩ : ∃ n, w2.heap.size = n := ⟨_, rfl⟩
        rw [hNm] at HA ⊢
        clear hW hNm hb4
        clear c0 c1
        have c0 := (HA.out.blk (i := 1) rfl).cell 0
        have c1 := (HA.out.blk (i := 1) rfl).cell 1
        have d0 := (HA.out.blk (i := 0) rfl).cell 0
        have d1 := (HA.out.blk (i := 0) rfl).cell 1
        go_wp2_with fail
        refine (of_no HMI.out S1.out V1.out).mono ?_
        rintro e w2 ⟨rfl, hb2⟩
        replace HA := Lib.hid (HA.out.kept hb2)
        replace HMI := Lib.hid (HMI.out.kept hb2)
        clear hb2 d0 d1
        clear c0 c1
        have c0 := (HA.out.blk (i := 1) rfl).cell 0
        have c1 := (HA.out.blk (i := 1) rfl).cell 1
        have d0 := (HA.out.blk (i := 0) rfl).cell 0
        have d1 := (HA.out.blk (i := 0) rfl).cell 1
        go_wp2_with fail
        refine (same_vs HMI.out (HA.out.ro (i := 0) rfl) S1.out).mono ?_
        rintro e w2 ⟨rfl, hb2⟩
        replace HA := Lib.hid (HA.out.kept hb2)
        clear hb2 d0 d1 HMI
        clear c0 c1
        have c0 := (HA.out.blk (i := 1) rfl).cell 0
        have c1 := (HA.out.blk (i := 1) rfl).cell 1
        have d0 := (HA.out.blk (i := 0) rfl).cell 0
        have d1 := (HA.out.blk (i := 0) rfl).cell 1
        go_wp2_with fail
        refine (valid_f (HA.out.ro (i := 0) rfl) V1.out).mono ?_
        rintro e w2 ⟨rfl, hb2⟩
        replace HA := Lib.hid (HA.out.kept hb2)
        clear hb2 d0 d1
        clear c0 c1
        go_wp2_with fail
        refine (known_any _).mono ?_
        rintro e w9 ⟨rfl, hb9⟩
        have HO := Lib.hid (HA.out.kept hb9).b
        clear hb9
        go_wp2_with fail
        go_ret
        exact ⟨rfl, HO.out⟩
    · have i2 : 16 < places := by omega
      have i1b : decide (places < 1) = false := by simp; omega
      have i1 : 1 ≤ places := by omega
      clear hp hp1
      go_enter Try.func6, Try.ntmps6
      go_wp2_with fail
      generalize hW : (World.alloc _ _) = W
      have hb1 : Below w.heap.size w W := by rw [← hW]; exact (Below.refl _ _).alloc (Nat.le_refl _) _
      have hA1 := ((All.nil w).arg HX.out).box hb1 (N := w.heap.size) (t := 25) (cs := [.slice pg G.length cg, .slice qd D.length cd]) (by rw [← hW]; exact Blk.new w 25 _) (Nat.le_refl _)
      obtain ⟨Nx, hNx⟩ : ∃ n, w.heap.size = n := ⟨_, rfl⟩
      rw [hNx] at hA1 ⊢
      clear hW hNx hb1
      have HA := Lib.hid hA1
      have c0 := (hA1.blk (i := 0) rfl).cell 0
      have c1 := (hA1.blk (i := 0) rfl).cell 1
      clear hA1
      go_wp2_with fail
      refine (small_t (HA.out.ro (i := 0) rfl) S1.out).mono ?_
      rintro e w2 ⟨rfl, hb2⟩
      replace HA := Lib.hid (HA.out.kept hb2)
      clear hb2
      clear c0 c1
      have c0 := (HA.out.blk (i := 0) rfl).cell 0
      have c1 := (HA.out.blk (i := 0) rfl).cell 1
      go_wp2_with fail
      refine (new_no places _ (by omega)).mono ?_
      rintro e w' ⟨rfl, rfl⟩
      by_cases v1 : Valid G D
      · have V1 := Lib.hid v1
        clear v1
        go_wp2_with fail
        refine (own_os (HA.out.ro (i := 0) rfl) S1.out).mono ?_
        rintro e w2 ⟨v1, v2, vs, rfl, hOS, hb3⟩
        obtain ⟨gb, gc, db, dc, rs, rfl, rfl, hO⟩ := hOS.blocks V1.out.1.1 V1.out.1.len V1.out.1.2.2.1
        obtain ⟨cs, hBd, hpre⟩ := hO.hD
        replace HA := Lib.hid (HA.out.box hb3 hBd hO.lo.2.1)
        have HMI := Lib.hid hO.val
        have HPRE := Lib.hid hpre
        clear hOS hO hBd hpre hb3
        clear c0 c1
        have c0 := (HA.out.blk (i := 1) rfl).cell 0
        have c1 := (HA.out.blk (i := 1) rfl).cell 1
        go_upto_region 10 with fail
        generalize hW : (World.alloc _ _) = W4
        have hb4 : Below w2.heap.size w2 W4 := by rw [← hW]; exact (Below.refl _ _).alloc (Nat.le_refl _) _
        replace HA := Lib.hid (HA.out.box hb4 (N := w2.heap.size) (t := 25) (cs := [.slice (some ⟨gb, 0, none⟩) G.length gc, .slice (some ⟨db, 0, none⟩) G.length dc]) (by rw [← hW]; exact Blk.new w2 25 _) (Nat.le_refl _))
        replace HMI := Lib.hid (HMI.out.kept hb4)
        obtain ⟨Nm, hNm⟩ : ∃ n, w2.heap.size = n := ⟨_, rfl⟩
        rw [hNm] at HA ⊢
        clear hW hNm hb4
        clear c0 c1
        have c0 := (HA.out.blk (i := 2) rfl).cell 0
        have c1 := (HA.out.blk (i := 2) rfl).cell 1
        have d0 := (HA.out.blk (i := 0) rfl).cell 0
        have d1 := (HA.out.blk (i := 0) rfl).cell 1
        go_wp2_with fail
        refine (of_vs HMI.out V1.out).mono ?_
        rintro e w2 ⟨T, rfl, hNS⟩
        replace HMI := Lib.hid (HMI.out.kept hNS.below)
        obtain ⟨ST9, hA9⟩ := HA.out.add hNS
        replace HA := Lib.hid hA9
        clear hNS hA9 d0 d1
        clear c0 c1
        have c0 := (HA.out.blk (i := 2) rfl).cell 0
        have c1 := (HA.out.blk (i := 2) rfl).cell 1
        have d0 := (HA.out.blk (i := 0) rfl).cell 0
        have d1 := (HA.out.blk (i := 0) rfl).cell 1
        go_wp2_with fail
        refine (same_vs HMI.out (HA.out.ro (i := 0) rfl) S1.out).mono ?_
        rintro e w2 ⟨rfl, hb2⟩
        replace HA := Lib.hid (HA.out.kept hb2)
        clear hb2 d0 d1 HMI
        clear c0 c1
        have c0 := (HA.out.blk (i := 2) rfl).cell 0
        have c1 := (HA.out.blk (i := 2) rfl).cell 1
        have d0 := (HA.out.blk (i := 0) rfl).cell 0
        have d1 := (HA.out.blk (i := 0) rfl).cell 1
        go_wp2_with fail
        refine (valid_t (HA.out.ro (i := 0) rfl) V1.out).mono ?_
        rintro e w2 ⟨rfl, hb2⟩
        replace HA := Lib.hid (HA.out.kept hb2)
        clear hb2 d0 d1 c0 c1
        have d0 := (HA.out.blk (i := 0) rfl).cell 0
        have d1 := (HA.out.blk (i := 0) rfl).cell 1
        have HCS := Lib.hid (show ∀ j, j < G.length → ∃ z, cs[j]? = some (.int .i64 z) from fun j hj => by
          obtain ⟨t, ht⟩ := HPRE.out
          have hj2 : j < D.length := by rw [V1.out.1.2.2.1]; exact hj
          exact ⟨_, by rw [← ht, List.getElem?_append_left (by rw [ints_len]; exact hj2), ints_at D j hj2]⟩)
        go_wp2_with fail
        go_loopw [9] (fun i wr => ∃ (k : Nat) (cs : List Value), k ≤ G.length ∧ i = .int .i64 k ∧ All w wr [⟨T, ST9, G, D⟩] [⟨.agg #[.slice pg G.length cg, .slice qd D.length cd], G, D⟩] [⟨Nm, 25, [.slice (some ⟨gb, 0, none⟩) G.length gc, .slice (some ⟨db, 0, none⟩) G.length dc]⟩, ⟨db, 3, cs⟩, ⟨Nx, 25, [.slice pg G.length cg, .slice qd D.length cd]⟩] ∧ ∀ j, j < G.length → ∃ z, cs[j]? = some (.int .i64 z)) (fun i _ => G.length - (intOf i).toNat)
        case atStart => exact ⟨0, cs, Nat.zero_le _, rfl, HA.out, HCS.out⟩
        case round =>
          clear HA HCS HPRE d0 d1
          clear cs
          obtain ⟨k, cs, hk, rfl, hA, hcs⟩ := hrel
          have HA := Lib.hid hA
          have HCS := Lib.hid hcs
          have d0 := (hA.blk (i := 0) rfl).cell 0
          have d1 := (hA.blk (i := 0) rfl).cell 1
          clear hcs hA
          by_cases hlt : k < G.length
          · have hki : (k : Int) < (G.length : Int) := by omega
            have g16 := V1.out.1.2.1
            obtain ⟨z, hz⟩ := HCS.out k hlt
            have y0 : wr.cell? ⟨db, k, none⟩ = some (.int .i64 z) := ((HA.out.blk (i := 1) rfl).cell k).trans hz
            have y1 : wr.frozen? ⟨db, k, none⟩ = false := (HA.out.blk (i := 1) rfl).free k
            have HB := Lib.hid (fun u => HA.out.put (i := 1) rfl k u)
            have HC := Lib.hid (show ∀ x : Int, ∀ j, j < G.length → ∃ z, (cs.set k (.int .i64 x))[j]? = some (.int .i64 z) from fun x j hj => by
              obtain ⟨z2, hz2⟩ := HCS.out j hj
              rw [List.getElem?_set]
              split
              · rename_i e
                subst e
                have : k < cs.length := (List.getElem?_eq_some_iff.1 hz).1
                simp [this]
              · exact ⟨z2, hz2⟩)
            clear hz
            go_wp2_with fail
            go_roundw
            case rel => exact ⟨k + 1, _, by omega, by go_num, HB.out _, HC.out _⟩
            case measure => simp [intOf]; omega
          · have c0 := (HA.out.blk (i := 2) rfl).cell 0
            have c1 := (HA.out.blk (i := 2) rfl).cell 1
            go_wp2_with fail
            refine (alikeN HA.out 0 0 rfl rfl).mono ?_
            rintro e w2 ⟨rfl, hA⟩
            replace HA := Lib.hid hA
            clear hA d0 d1
            clear c0 c1
            go_wp2_with fail
            refine (known_any _).mono ?_
            rintro e w9 ⟨rfl, hb9⟩
            have HO := Lib.hid (HA.out.kept hb9).b
            clear hb9
            go_wp2_with fail
            go_ret
            exact ⟨rfl, HO.out⟩
      · have V1 := Lib.hid v1
        clear v1
        go_wp2_with fail
        refine (own_os (HA.out.ro (i := 0) rfl) S1.out).mono ?_
        rintro e w2 ⟨v1, v2, vs, rfl, hOS, hb3⟩
        obtain ⟨p1, a1, rfl, _, _⟩ := own_shape hOS.g
        obtain ⟨q1, b1, rfl, _, _⟩ := own_shape hOS.d
        replace HA := Lib.hid (HA.out.kept hb3)
        have HMI := Lib.hid hOS.val
        clear hOS hb3
        clear c0 c1
        have c0 := (HA.out.blk (i := 0) rfl).cell 0
        have c1 := (HA.out.blk (i := 0) rfl).cell 1
        go_upto_region 10 with fail
        generalize hW : (World.alloc _ _) = W4
        have hb4 : Below w2.heap.size w2 W4 := by rw [← hW]; exact (Below.refl _ _).alloc (Nat.le_refl _) _
        replace HA := Lib.hid (HA.out.box hb4 (N := w2.heap.size) (t := 25) (cs := [.slice p1 G.length a1, .slice q1 D.length b1]) (by rw [← hW]; exact Blk.new w2 25 _) (Nat.le_refl _))
        replace HMI := Lib.hid (HMI.out.kept hb4)
        obtain ⟨Nm, hNm⟩ : ∃ n, w2.heap.size = n := ⟨_, rfl⟩
        rw [hNm] at HA ⊢
        clear hW hNm hb4
        clear c0 c1
        have c0 := (HA.out.blk (i := 1) rfl).cell 0
        have c1 := (HA.out.blk (i := 1) rfl).cell 1
        have d0 := (HA.out.blk (i := 0) rfl).cell 0
        have d1 := (HA.out.blk (i := 0) rfl).cell 1
        go_wp2_with fail
        refine (of_no HMI.out S1.out V1.out).mono ?_
        rintro e w2 ⟨rfl, hb2⟩
        replace HA := Lib.hid (HA.out.kept hb2)
        replace HMI := Lib.hid (HMI.out.kept hb2)
        clear hb2 d0 d1
        clear c0 c1
        have c0 := (HA.out.blk (i := 1) rfl).cell 0
        have c1 := (HA.out.blk (i := 1) rfl).cell 1
        have d0 := (HA.out.blk (i := 0) rfl).cell 0
        have d1 := (HA.out.blk (i := 0) rfl).cell 1
        go_wp2_with fail
        refine (same_vs HMI.out (HA.out.ro (i := 0) rfl) S1.out).mono ?_
        rintro e w2 ⟨rfl, hb2⟩
        replace HA := Lib.hid (HA.out.kept hb2)
        clear hb2 d0 d1 HMI
        clear c0 c1
        have c0 := (HA.out.blk (i := 1) rfl).cell 0
        have c1 := (HA.out.blk (i := 1) rfl).cell 1
        have d0 := (HA.out.blk (i := 0) rfl).cell 0
        have d1 := (HA.out.blk (i := 0) rfl).cell 1
        go_wp2_with fail
        refine (valid_f (HA.out.ro (i := 0) rfl) V1.out).mono ?_
        rintro e w2 ⟨rfl, hb2⟩
        replace HA := Lib.hid (HA.out.kept hb2)
        clear hb2 d0 d1
        clear c0 c1
        go_wp2_with fail
        refine (known_any _).mono ?_
        rintro e w9 ⟨rfl, hb9⟩
        have HO := Lib.hid (HA.out.kept hb9).b
        clear hb9
        go_wp2_with fail
        go_ret
        exact ⟨rfl, HO.out⟩
end Go.Proofs.Ytdancoblphkakaa
