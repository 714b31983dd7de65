/- SchedLongs. Printed by sched_longs.py. -/
import Derived.Test.YtfidnecdojgkjaaLawA
import Derived.Test.YtfidnecdojgkjaaPlainL
namespace Go.Proofs.Ytfidnecdojgkjaa
open Go.RowKit

theorem turn_info : (Try.prog.info? 44).map (fun i => (i.zero, i.size, i.bytes)) = some (some (.agg #[.slice none 0 0, .int .i64 0]), 2, 32) := by kernel_rfl
/-- A list of zero turns, made. -/
theorem mk_turns (K : Nat) (hK : K ≤ 200000) : ∃ cs : List Value, cs.length = 2 * K ∧ (∀ j, j < K → cs[2 * j]? = some (.slice none 0 0) ∧ cs[2 * j + 1]? = some (.int .i64 0)) ∧
    ∀ w, (Instr.makeSlice 35 (.int .i64 K) (.int .i64 K)).run Try.prog w = .ok (.slice (some ⟨w.heap.size, 0, none⟩) K K) (w.alloc (.cells cs.toArray 44)) := by
  obtain ⟨i, hi, h1, h2, h3⟩ := info_parts turn_info
  refine ⟨(madeCells #[.slice none 0 0, .int .i64 0] (K * 2)).toList, ?_, fun j hj => ?_, fun w => ?_⟩
  · simp [madeCells]; omega
  · have e1 : 2 * j % 2 = 0 := by omega
    have e2 : (2 * j + 1) % 2 = 1 := by omega
    constructor
    · simp [madeCells, e1, show 2 * j < K * 2 by omega]
    · simp [madeCells, e2, show 2 * j + 1 < K * 2 by omega]
  · have h := run_make (P := Try.prog) w 35 44 i (.agg #[.slice none 0 0, .int .i64 0]) Try.underlying35 hi h1 .i64 .i64 K K (by omega) (Int.le_refl _) (by rw [h3]; omega) (by omega)
    rw [h, h2, Int.toNat_natCast]
    rfl
theorem tps_rep (x : Tp) : ∀ (K j : Nat), j < K → (tps (List.replicate K x))[2 * j]? = some (.slice x.q x.en.length x.c) ∧ (tps (List.replicate K x))[2 * j + 1]? = some (.int .i64 x.pk) := by
  intro K j hj
  have := tps_at (List.replicate K x) j (by simpa using hj)
  simp only [List.getElem_replicate] at this
  rw [Nat.mul_comm]
  exact this
/-- The row of turns, all of them filled. -/
theorem tr_rep {w : World} {g1 g2 K m : Nat} (cs : List Value) (hB : Blk w g1 44 cs) (hl : cs.length = 2 * K) (h : ∀ j, j < K → cs[2 * j]? = some (.slice (some ⟨g2, 0, none⟩) (m + 1) 4) ∧ cs[2 * j + 1]? = some (.int .i64 0)) (h2 : Blk w g2 3 (ints [0, 1, 2, 3])) (hm : m ≤ 3) :
    TR w w.heap.size (some ⟨g1, 0, none⟩) (List.replicate K ⟨some ⟨g2, 0, none⟩, 4, allE m, 0⟩) := by
  have hcs : cs = tps (List.replicate K ⟨some ⟨g2, 0, none⟩, 4, allE m, 0⟩) := by
    apply List.ext_getElem?
    intro i
    rcases Nat.lt_or_ge i (2 * K) with hi | hi
    · obtain ⟨a1, a2⟩ := h (i / 2) (by omega)
      obtain ⟨b1, b2⟩ := tps_rep ⟨some ⟨g2, 0, none⟩, 4, allE m, 0⟩ K (i / 2) (by omega)
      rw [allE_len] at b1
      rcases Nat.mod_two_eq_zero_or_one i with hp | hp
      · have : i = 2 * (i / 2) := by omega
        rw [this, a1, b1]
      · have : i = 2 * (i / 2) + 1 := by omega
        rw [this, a2, b2]
    · rw [List.getElem?_eq_none (by omega), List.getElem?_eq_none (by rw [tps_len, List.length_replicate]; omega)]
  refine ⟨?_, fun x hx => ?_⟩
  · rw [← hcs]; exact Rd.of_blk hB (List.prefix_refl _)
  · rw [List.eq_of_mem_replicate hx]
    refine ⟨Rd.of_blk h2 ?_, by simp only [allE_len]; omega⟩
    have : m = 0 ∨ m = 1 ∨ m = 2 ∨ m = 3 := by omega
    rcases this with rfl | rfl | rfl | rfl <;> exact ⟨_, rfl⟩
theorem map_rep (g2 K m : Nat) : (List.replicate K ⟨some ⟨g2, 0, none⟩, 4, allE m, 0⟩).map Tp.tn = longT m K := by simp [longT, Tp.tn]
set_option maxRecDepth 100000 in
set_option maxHeartbeats 8000000 in
theorem schedLongs_walk (more waiting : Int) (W : World) : Calls Try.prog 6 #[.int .i64 more, .int .i64 waiting] W fun e w' => e = .returned (.bool true) ∧ Below W.heap.size W w' := by
  have HK := Lib.hid known_any
  by_cases h1 : more < -2
  · go_enter Try.func6, Try.ntmps6
    go_wp2_with fail
    refine (HK.out _).mono ?_
    rintro e w1 ⟨rfl, hb1⟩
    have HB := Lib.hid hb1
    clear hb1
    go_wp2_with fail
    go_ret
    exact ⟨rfl, HB.out⟩
  · have h1' : decide (more < -2) = false := by simpa using h1
    by_cases h2 : 2 < more
    · clear h1
      go_enter Try.func6, Try.ntmps6
      go_wp2_with fail
      refine (HK.out _).mono ?_
      rintro e w1 ⟨rfl, hb1⟩
      have HB := Lib.hid hb1
      clear hb1
      go_wp2_with fail
      go_ret
      exact ⟨rfl, HB.out⟩
    · have h2' : decide (2 < more) = false := by simpa using h2
      by_cases h3 : waiting < 0
      · clear h1 h2
        go_enter Try.func6, Try.ntmps6
        go_wp2_with fail
        refine (HK.out _).mono ?_
        rintro e w1 ⟨rfl, hb1⟩
        have HB := Lib.hid hb1
        clear hb1
        go_wp2_with fail
        go_ret
        exact ⟨rfl, HB.out⟩
      · have h3' : decide (waiting < 0) = false := by simpa using h3
        by_cases h4 : 3 < waiting
        · clear h1 h2 h3
          go_enter Try.func6, Try.ntmps6
          go_wp2_with fail
          refine (HK.out _).mono ?_
          rintro e w1 ⟨rfl, hb1⟩
          have HB := Lib.hid hb1
          clear hb1
          go_wp2_with fail
          go_ret
          exact ⟨rfl, HB.out⟩
        · have h4' : decide (3 < waiting) = false := by simpa using h4
          obtain ⟨m, rfl⟩ : ∃ m : Nat, waiting = m := ⟨waiting.toNat, by omega⟩
          obtain ⟨K, hK⟩ : ∃ K : Nat, 100000 + more = K := ⟨(100000 + more).toNat, by omega⟩
          have hKb : 99998 ≤ K ∧ K ≤ 100002 := by omega
          have hKi : (K : Int) ≤ 100002 := by omega
          have hm3 : m ≤ 3 := by omega
          have hmi : (m : Int) + 1 ≤ 4 := by omega
          obtain ⟨cs, hcl, hcs, hmk⟩ := mk_turns K (by omega)
          have HCL := Lib.hid hcl
          have HCS := Lib.hid hcs
          have HM3 := Lib.hid hm3
          have HKB := Lib.hid hKb
          have HKM := Lib.hid hK
          have hwk : wrap64 (100000 + more) = K := by unfold wrap64; omega
          clear h1 h2 h3 h4 hcl hcs hK hKb
          go_enter Try.func6, Try.ntmps6
          go_wp2_with fail
          have HB0 := Lib.hid (below_al (below_al (Below.refl W.heap.size W) (.cells cs.toArray 44)) (.cells (ints [0, 1, 2, 3]).toArray 3))
          have HG1 := Lib.hid ((Blk.new W 44 cs).alloc (.cells (ints [0, 1, 2, 3]).toArray 3))
          have HG2 := Lib.hid (Blk.new' (n := W.heap.size + 1) (W.alloc (.cells cs.toArray 44)) 3 (ints [0, 1, 2, 3]) (by simp))
          go_loopw [7] (fun i wr => ∃ (k : Nat) (ds : List Value), k ≤ K ∧ i = .int .i64 k ∧ Hid (ds.length = 2 * K) ∧ Hid (Blk wr W.heap.size 44 ds) ∧ Hid (Blk wr (W.heap.size + 1) 3 (ints [0, 1, 2, 3])) ∧ Hid (Below W.heap.size W wr) ∧ Hid (∀ j, j < K → (j < k → ds[2 * j]? = some (.slice (some ⟨W.heap.size + 1, 0, none⟩) (m + 1) 4)) ∧ (k ≤ j → ds[2 * j]? = some (.slice none 0 0)) ∧ ds[2 * j + 1]? = some (.int .i64 0))) (fun i _ => K - (intOf i).toNat)
          case atStart => exact ⟨0, cs, Nat.zero_le _, rfl, HCL, HG1, HG2, HB0, Lib.hid (fun j hj => ⟨fun h => by omega, fun _ => (HCS.out j hj).1, (HCS.out j hj).2⟩)⟩
          case round =>
            clear HB0 HG1 HG2 hmk
            obtain ⟨k, ds, hk, rfl, HDL, HG1, HG2, HB, HD⟩ := hrel
            by_cases hlt : k < K
            · have hki : (k : Int) < (K : Int) := by omega
              have c0 := HG1.out.cell (k * 2)
              have f0 := HG1.out.free (k * 2)
              rw [Nat.mul_comm, (HD.out k hlt).2.1 (Nat.le_refl _), Nat.mul_comm] at c0
              go_wp2_with fail
              go_roundw
              case rel =>
                refine ⟨k + 1, ds.set (k * 2) (.slice (some ⟨W.heap.size + 1, 0, none⟩) (m + 1) 4), by omega, by go_num, Lib.hid (by rw [List.length_set]; exact HDL.out), Lib.hid (HG1.out.set_ (k * 2) _), Lib.hid (HG2.out.far (by simp) _), Lib.hid (Fr.below HB.out ((Fr.refl (fun x => x = W.heap.size) _).set ⟨W.heap.size, k * 2, none⟩ _ (.inl rfl)) (fun x hx => by omega)), Lib.hid (fun j hj => ?_)⟩
                obtain ⟨d1, d2, d3⟩ := HD.out j hj
                have hl := HDL.out
                refine ⟨fun h => ?_, fun h => ?_, ?_⟩
                · by_cases e : j = k
                  · subst e; rw [Nat.mul_comm 2 j, List.getElem?_set_self (by omega)]
                  · rw [List.getElem?_set_ne (by omega)]; exact d1 (by omega)
                · rw [List.getElem?_set_ne (by omega)]; exact d2 (by omega)
                · rw [List.getElem?_set_ne (by omega)]; exact d3
              case measure => simp [intOf]; omega
            · have hkK : K = k := by omega
              subst hkK
              have HT := Lib.hid (tr_rep ds HG1.out HDL.out (fun j hj => ⟨(HD.out j hj).1 hj, (HD.out j hj).2.2⟩) HG2.out HM3.out)
              have HLn := Lib.hid (show (List.replicate K (⟨some ⟨W.heap.size + 1, 0, none⟩, 4, allE m, 0⟩ : Tp)).length ≤ 1000000 by rw [List.length_replicate]; omega)
              have HMP := Lib.hid (map_rep (W.heap.size + 1) K m)
              have HWI := Lib.hid (fun (w' : World) (h : Below wr.heap.size wr w') t n e => worstIs_any (some ⟨W.heap.size, 0, none⟩) K _ (HT.out.kept h) HLn.out t n e)
              have HFI := Lib.hid (fun (w' : World) (h : Below wr.heap.size wr w') b i e => fairIs_any (some ⟨W.heap.size, 0, none⟩) K _ (HT.out.kept h) HLn.out b i e)
              rw [HMP.out, List.length_replicate] at HWI HFI
              clear HG1 HG2 HD HDL HT HLn HMP hlt hk HCL HCS
              by_cases hmo : 0 < more
              · have hr : runE (longT m K) = 5 := runE_long (by rw [longT_len]; have := HKM.out; omega)
                have h1 := Lib.hid (fun (w' : World) h => HWI.out w' h 0 0 5 (by rw [woT, if_neg (by rw [hr]; decide)]) (by rw [woN, if_neg (by rw [hr]; decide)]) hr)
                have h2 := Lib.hid (fun (w' : World) h => HFI.out w' h 5 0 5 (by rw [faI, if_neg (by rw [hr]; decide)]) (by rw [faE, if_neg (by rw [hr]; decide), hr]))
                clear hr HWI HFI
                go_wp2_with fail
                refine (h1.out _ (Below.refl _ _)).mono ?_
                rintro e w1 ⟨rfl, hb1⟩
                have HB1 := Lib.hid hb1
                clear hb1
                go_wp2_with fail
                refine (h2.out _ HB1.out).mono ?_
                rintro e w2 ⟨rfl, hb2⟩
                have HB2 := Lib.hid (below_step HB.out (below_step HB1.out hb2))
                clear hb2
                go_wp2_with fail
                refine (HK.out _).mono ?_
                rintro e wk ⟨rfl, hbk⟩
                have HBk := Lib.hid (below_step HB2.out hbk)
                clear hbk
                go_wp2_with fail
                go_ret
                exact ⟨rfl, HBk.out⟩
              · have hmo2 : decide (0 < more) = false := by simpa using hmo
                have hK5 : K ≤ 100000 := by have := HKM.out; omega
                have hr : runE (longT m K) = 0 := runE_longT (by omega) hK5
                by_cases hm0 : m = 0
                · subst hm0
                  have h1 := Lib.hid (fun (w' : World) h => HWI.out w' h 0 0 0 (by rw [woT, if_pos hr, worst_longT0]) (by rw [woN, if_pos hr, worst_longT0]; rfl) hr)
                  have h2 := Lib.hid (fun (w' : World) h => HFI.out w' h 1 (-1) 0 (by rw [faI, if_pos hr, if_neg (by decide)]; exact fairF_none (by rw [longT_len]; exact fUp_longT (by decide) _ (Nat.le_refl _) (.inl rfl))) (by rw [faE, if_pos hr, if_neg (by decide)]))
                  clear hr HWI HFI hmo hK5
                  go_wp2_with fail
                  refine (h1.out _ (Below.refl _ _)).mono ?_
                  rintro e w1 ⟨rfl, hb1⟩
                  have HB1 := Lib.hid hb1
                  clear hb1
                  go_wp2_with fail
                  refine (h2.out _ HB1.out).mono ?_
                  rintro e w2 ⟨rfl, hb2⟩
                  have HB2 := Lib.hid (below_step HB.out (below_step HB1.out hb2))
                  clear hb2
                  go_wp2_with fail
                  refine (HK.out _).mono ?_
                  rintro e wk ⟨rfl, hbk⟩
                  have HBk := Lib.hid (below_step HB2.out hbk)
                  clear hbk
                  go_wp2_with fail
                  go_ret
                  exact ⟨rfl, HBk.out⟩
                · have hm1 : 0 < m := by omega
                  have hm2 : ((m : Int) == 0) = false := by rw [beq_eq_false_iff_ne]; omega
                  have hK0 : 0 < K := by have := HKB.out; omega
                  obtain ⟨K1, hK1⟩ : ∃ K1 : Nat, (K : Int) - 1 = K1 := ⟨K - 1, by omega⟩
                  have hKK : K1 < K ∧ K1 + 1 = K := by omega
                  have h1 := Lib.hid (fun (w' : World) h => HWI.out w' h 1 K 0 (by rw [woT, if_pos hr, worst_longT hm1 hK0]) (by rw [woN, if_pos hr, worst_longT hm1 hK0]) hr)
                  have h2 := Lib.hid (fun (w' : World) h => HFI.out w' h K K1 0 (by rw [faI, if_pos hr, if_neg (by omega)]; exact fairF_at (by rw [longT_len]; omega) (fUp_longT (by omega) _ (by omega) (.inr (by omega))) (by rw [hit_longT (by omega) (by omega), decide_eq_true_eq]; omega)) (by rw [faE, if_pos hr, if_neg (by omega)]))
                  have h3 := Lib.hid (fun (w' : World) h => HFI.out w' h ((K : Int) + 1) (-1) 0 (by rw [faI, if_pos hr, if_neg (by omega)]; exact fairF_none (by rw [longT_len]; exact fUp_longT (by omega) _ (Nat.le_refl _) (.inr (by omega)))) (by rw [faE, if_pos hr, if_neg (by omega)]))
                  clear hr HWI HFI hmo hK5 hm0 hm1 hKK
                  go_wp2_with fail
                  refine (h1.out _ (Below.refl _ _)).mono ?_
                  rintro e w1 ⟨rfl, hb1⟩
                  have HB1 := Lib.hid hb1
                  clear hb1
                  go_wp2_with fail
                  refine (h2.out _ HB1.out).mono ?_
                  rintro e w2 ⟨rfl, hb2⟩
                  have HBm := Lib.hid (below_step HB1.out hb2)
                  clear hb2
                  go_wp2_with fail
                  refine (h3.out _ HBm.out).mono ?_
                  rintro e w3 ⟨rfl, hb3⟩
                  have HB2 := Lib.hid (below_step HB.out (below_step HBm.out hb3))
                  clear hb3
                  go_wp2_with fail
                  refine (HK.out _).mono ?_
                  rintro e wk ⟨rfl, hbk⟩
                  have HBk := Lib.hid (below_step HB2.out hbk)
                  clear hbk
                  go_wp2_with fail
                  go_ret
                  exact ⟨rfl, HBk.out⟩
end Go.Proofs.Ytfidnecdojgkjaa
