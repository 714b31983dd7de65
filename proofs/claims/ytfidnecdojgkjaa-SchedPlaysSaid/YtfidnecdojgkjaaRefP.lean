/- The reference's pick. -/
import Derived.Test.YtfidnecdojgkjaaRefS
namespace Go.Proofs.Ytfidnecdojgkjaa
open Go.RowKit
set_option maxRecDepth 100000 in
set_option maxHeartbeats 4000000 in
theorem pick_any {w : World} {kind : Int} (hkk : 1 ≤ kind ∧ kind ≤ 4) (qn : Option Addr) (cn : Nat) (nums : List Int) (qp : Option Addr) (cp : Nat) (L : List Int) (ql : Option Addr) (cl : Nat) (l : List Int)
    (hn : Rd w w.heap.size qn (ints nums)) (hp : Rd w w.heap.size qp (ints L)) (hl : Rd w w.heap.size ql (ints l)) (hE : enB l = true) (h0 : 0 < l.length) (h1 : l.length ≤ 1000000) (hL : L.length ≤ 1000000)
    (hone : kind = 1 → 0 < nums.length) (hpos : ∀ x ∈ nums, 0 ≤ x) (hnl : nums.length ≤ 1000000) :
    Calls Try.prog 40 #[.agg #[.int .i64 kind, .slice qn nums.length cn, .slice qp L.length cp], .slice ql l.length cl] w fun e w' => e = .returned (.int .i64 (pickF kind nums L l)) ∧ Below w.heap.size w w' := by
  have hk4 : kind = 1 ∨ kind = 2 ∨ kind = 3 ∨ kind = 4 := by omega
  clear hkk
  rcases hk4 with rfl | rfl | rfl | rfl
  · skip
    have HB0 := Lib.hid ((Below.refl w.heap.size w).alloc (Nat.le_refl _) (.cells #[.int .i64 1, .slice qn nums.length cn, .slice qp L.length cp] 30))
    have HRn := Lib.hid (hn.kept HB0.out)
    have HRp := Lib.hid (hp.kept HB0.out)
    have HR := Lib.hid (hl.kept HB0.out)
    have HBk := Lib.hid (Blk.new w 30 [.int .i64 1, .slice qn nums.length cn, .slice qp L.length cp])
    have HX : Hid (∃ bb oo, ql = some ⟨bb, oo, none⟩ ∧ w.cell? ⟨bb, oo, none⟩ = some (.int .i64 (l.getD 0 0)) ∧ bb < w.heap.size) := Lib.hid (by
      obtain ⟨bb, oo, rfl, hbb, hc⟩ := hl.int h0
      exact ⟨bb, oo, rfl, by rw [Nat.add_zero] at hc; rw [getD_get l 0 h0]; exact hc, hbb⟩)
    have HE := Lib.hid hE
    have H0 := Lib.hid h0
    have HLl := Lib.hid hL
    have hpk : pickF 1 nums L l = byF nums L.length l := by rw [pickF, if_pos rfl]
    have hk := hone rfl
    obtain ⟨i, hi⟩ : ∃ i, L.length % nums.length = i := ⟨_, rfl⟩
    have hin : i < nums.length := by rw [← hi]; exact Nat.mod_lt _ hk
    obtain ⟨bq, oq, rfl, _, cq⟩ := HRn.out.int hin
    have hps := hpos nums[i] (List.getElem_mem hin)
    obtain ⟨x, hx⟩ : ∃ x : Nat, nums[i] = x := ⟨nums[i].toNat, by omega⟩
    rw [hx] at cq
    obtain ⟨j, hj⟩ : ∃ j, x % l.length = j := ⟨_, rfl⟩
    have hjn : j < l.length := by rw [← hj]; exact Nat.mod_lt _ h0
    obtain ⟨bl, ol, rfl, _, cl⟩ := HR.out.int hjn
    have HF := Lib.hid (show pickF 1 nums L l = l[j] by
      rw [hpk, byF, hi, getD_get nums i hin, hx, Int.toNat_natCast, hj, getD_get l j hjn])
    have e1 : (L.length : Int) % (nums.length : Int) = (i : Int) := by rw [← hi]; omega
    have e2 : (x : Int) % (l.length : Int) = (j : Int) := by rw [← hj]; omega
    obtain ⟨y, hy⟩ : ∃ y, l[j] = y := ⟨_, rfl⟩
    rw [hy] at cl HF
    rw [HF.out]
    clear hi hx hj hps HF hy hpk hone hpos hn hp hl hE HX HE H0 HLl HRn HRp HR HBk
    generalize L.length = T at *
    generalize nums.length = n at *
    generalize l.length = m at *
    have hni : (0 : Int) < (n : Int) := by omega
    have hmi : (0 : Int) < (m : Int) := by omega
    have hinn : (i : Int) < (n : Int) := by omega
    have hjmm : (j : Int) < (m : Int) := by omega
    go_enter Try.func40, Try.ntmps40
    go_wp2_with fail
    go_quiet (fail)
    go_wp2_with fail
    go_ret
    exact ⟨rfl, below_drewN HB0.out _⟩
  · skip
    have HB0 := Lib.hid ((Below.refl w.heap.size w).alloc (Nat.le_refl _) (.cells #[.int .i64 2, .slice qn nums.length cn, .slice qp L.length cp] 30))
    have HRn := Lib.hid (hn.kept HB0.out)
    have HRp := Lib.hid (hp.kept HB0.out)
    have HR := Lib.hid (hl.kept HB0.out)
    have HBk := Lib.hid (Blk.new w 30 [.int .i64 2, .slice qn nums.length cn, .slice qp L.length cp])
    have HX : Hid (∃ bb oo, ql = some ⟨bb, oo, none⟩ ∧ w.cell? ⟨bb, oo, none⟩ = some (.int .i64 (l.getD 0 0)) ∧ bb < w.heap.size) := Lib.hid (by
      obtain ⟨bb, oo, rfl, hbb, hc⟩ := hl.int h0
      exact ⟨bb, oo, rfl, by rw [Nat.add_zero] at hc; rw [getD_get l 0 h0]; exact hc, hbb⟩)
    have HE := Lib.hid hE
    have H0 := Lib.hid h0
    have HLl := Lib.hid hL
    by_cases hTz : L.length = 0
    · skip
      have HF := Lib.hid (show pickF 2 nums L l = l.getD 0 0 by rw [pickF, if_neg (by decide), if_neg (by decide), if_neg (by decide), List.length_eq_zero_iff.1 hTz]; exact roundF_first hE h0)
      rw [HF.out]
      obtain ⟨bb, oo, rfl, hc0, hbb⟩ := HX.out
      have hc0 := (HB0.out.cell (p := ⟨bb, oo, none⟩) hbb).trans hc0
      obtain ⟨z, hz⟩ : ∃ z, l.getD 0 0 = z := ⟨_, rfl⟩
      rw [hz] at hc0 ⊢
      have hmi : (0 : Int) < (l.length : Int) := by omega
      rw [hTz] at HB0 hc0 ⊢
      clear hz HF hone hpos hn hp hl hE HX HE H0 HLl HRn HRp HR HBk h0 h1 hL hTz hbb
      generalize l.length = m at *
      generalize nums.length = n at *
      go_enter Try.func40, Try.ntmps40
      go_wp2_with fail
      go_ret
      exact ⟨rfl, HB0.out⟩
    · skip
      obtain ⟨j, hj⟩ : ∃ j : Nat, (L.length : Int) - 1 = j := ⟨L.length - 1, by omega⟩
      have hjl : j < L.length := by omega
      obtain ⟨bp, op, rfl, _, cp0⟩ := HRp.out.int hjl
      have hlp : lastP L = L[j] := by rw [lastP_at (by omega)]; congr 1; omega
      rw [← hlp] at cp0
      have HPK := Lib.hid (show pickF 2 nums L l = roundF (lastP L) l by rw [pickF, if_neg (by decide), if_neg (by decide), if_neg (by decide)])
      rw [HPK.out]
      have HH := Lib.hid (fun (w' : World) hb => has_any ql cl l (lastP L) w' (hl.kept hb) h1)
      obtain ⟨z, hz⟩ : ∃ z, lastP L = z := ⟨_, rfl⟩
      rw [hz] at cp0 HH ⊢
      obtain ⟨m, hm⟩ : ∃ n, l.length = n := ⟨_, rfl⟩
      rw [hm] at h0 h1 HH ⊢
      have HM := Lib.hid hm
      have hjT : (j : Int) < (L.length : Int) := by omega
      have hT0 : ((L.length : Int) == 0) = false := by rw [beq_eq_false_iff_ne]; omega
      have hmi : (0 : Int) < (m : Int) := by omega
      clear hlp hz hm hn hp hl hE h0 HPK hone hpos HE H0 HLl HRn HRp hTz hjl HBk
      generalize L.length = T at *
      generalize nums.length = n at *
      obtain ⟨bb, oo, rfl, hc0, hbb⟩ := HX.out
      have hc0 := (HB0.out.cell (p := ⟨bb, oo, none⟩) hbb).trans hc0
      clear HX hbb
      go_enter Try.func40, Try.ntmps40
      go_wp2_with fail
      go_loop [9] (fun i => ∃ k : Nat, k ≤ m ∧ i = .int .i64 k ∧ Hid ((l.take k).find? (fun t => decide (z < t)) = none)) (fun i => m - (intOf i).toNat)
      case atStart => exact ⟨0, Nat.zero_le _, rfl, Lib.hid rfl⟩
      case round =>
        obtain ⟨k, hk, rfl, HK⟩ := hrel
        by_cases hlt : k < m
        · have hki : (k : Int) < (m : Int) := by omega
          have hlt2 : k < l.length := by rw [HM.out]; exact hlt
          obtain ⟨b', o', hp', _, hc⟩ := HR.out.int hlt2
          injection hp' with hp'
          injection hp' with e1 e2
          subst e1 e2
          have HT := Lib.hid (find_take hlt2 HK.out)
          obtain ⟨x, hx⟩ : ∃ x, l[k] = x := ⟨_, rfl⟩
          rw [hx] at hc HT
          clear hx hlt2
          by_cases hzx : z < x
          · have HF := Lib.hid (roundF_some (HT.out.1 hzx))
            go_wp2_with fail
            go_ret
            exact ⟨ret_int HF.out.symm, HB0.out⟩
          · have hzy : decide (z < x) = false := by simpa using hzx
            have HF := Lib.hid (HT.out.2 hzx)
            clear hzx
            go_wp2_with fail
            go_round
            case rel => exact ⟨k + 1, by omega, by go_num, HF⟩
            case measure => simp [intOf]; omega
        · have hkn : k = m := by omega
          subst hkn
          have HF := Lib.hid (show roundF z l = l.getD 0 0 from roundF_none (by have := HK.out; rwa [← HM.out, List.take_length] at this))
          go_wp2_with fail
          go_ret
          exact ⟨ret_int HF.out.symm, HB0.out⟩
  · skip
    have HB0 := Lib.hid ((Below.refl w.heap.size w).alloc (Nat.le_refl _) (.cells #[.int .i64 3, .slice qn nums.length cn, .slice qp L.length cp] 30))
    have HRn := Lib.hid (hn.kept HB0.out)
    have HRp := Lib.hid (hp.kept HB0.out)
    have HR := Lib.hid (hl.kept HB0.out)
    have HBk := Lib.hid (Blk.new w 30 [.int .i64 3, .slice qn nums.length cn, .slice qp L.length cp])
    have HX : Hid (∃ bb oo, ql = some ⟨bb, oo, none⟩ ∧ w.cell? ⟨bb, oo, none⟩ = some (.int .i64 (l.getD 0 0)) ∧ bb < w.heap.size) := Lib.hid (by
      obtain ⟨bb, oo, rfl, hbb, hc⟩ := hl.int h0
      exact ⟨bb, oo, rfl, by rw [Nat.add_zero] at hc; rw [getD_get l 0 h0]; exact hc, hbb⟩)
    have HE := Lib.hid hE
    have H0 := Lib.hid h0
    have HLl := Lib.hid hL
    by_cases hTz : L.length = 0
    · skip
      have HF := Lib.hid (show pickF 3 nums L l = l.getD 0 0 by rw [pickF, if_neg (by decide), if_neg (by decide), if_pos rfl, List.length_eq_zero_iff.1 hTz]; exact stickF_first hE h0)
      rw [HF.out]
      obtain ⟨bb, oo, rfl, hc0, hbb⟩ := HX.out
      have hc0 := (HB0.out.cell (p := ⟨bb, oo, none⟩) hbb).trans hc0
      obtain ⟨z, hz⟩ : ∃ z, l.getD 0 0 = z := ⟨_, rfl⟩
      rw [hz] at hc0 ⊢
      have hmi : (0 : Int) < (l.length : Int) := by omega
      rw [hTz] at HB0 hc0 ⊢
      clear hz HF hone hpos hn hp hl hE HX HE H0 HLl HRn HRp HR HBk h0 h1 hL hTz hbb
      generalize l.length = m at *
      generalize nums.length = n at *
      go_enter Try.func40, Try.ntmps40
      go_wp2_with fail
      go_ret
      exact ⟨rfl, HB0.out⟩
    · skip
      obtain ⟨j, hj⟩ : ∃ j : Nat, (L.length : Int) - 1 = j := ⟨L.length - 1, by omega⟩
      have hjl : j < L.length := by omega
      obtain ⟨bp, op, rfl, _, cp0⟩ := HRp.out.int hjl
      have hlp : lastP L = L[j] := by rw [lastP_at (by omega)]; congr 1; omega
      rw [← hlp] at cp0
      have HPK := Lib.hid (show pickF 3 nums L l = stickF (lastP L) l by rw [pickF, if_neg (by decide), if_neg (by decide), if_pos rfl])
      rw [HPK.out]
      have HH := Lib.hid (fun (w' : World) hb => has_any ql cl l (lastP L) w' (hl.kept hb) h1)
      obtain ⟨z, hz⟩ : ∃ z, lastP L = z := ⟨_, rfl⟩
      rw [hz] at cp0 HH ⊢
      obtain ⟨m, hm⟩ : ∃ n, l.length = n := ⟨_, rfl⟩
      rw [hm] at h0 h1 HH ⊢
      have HM := Lib.hid hm
      have hjT : (j : Int) < (L.length : Int) := by omega
      have hT0 : ((L.length : Int) == 0) = false := by rw [beq_eq_false_iff_ne]; omega
      have hmi : (0 : Int) < (m : Int) := by omega
      clear hlp hz hm hn hp hl hE h0 HPK hone hpos HE H0 HLl HRn HRp hTz hjl HBk
      generalize L.length = T at *
      generalize nums.length = n at *
      by_cases hmem : z ∈ l
      · rw [stickF, if_pos hmem]
        rw [decide_eq_true hmem] at HH
        clear hmem HX HR
        go_enter Try.func40, Try.ntmps40
        go_wp2_with fail
        refine (HH.out _ HB0.out).mono ?_
        rintro e w' ⟨rfl, rfl⟩
        go_wp2_with fail
        go_ret
        exact ⟨rfl, HB0.out⟩
      · rw [stickF, if_neg hmem]
        rw [decide_eq_false hmem] at HH
        clear hmem
        obtain ⟨bb, oo, rfl, hc0, hbb⟩ := HX.out
        have hc0 := (HB0.out.cell (p := ⟨bb, oo, none⟩) hbb).trans hc0
        clear HX hbb
        go_enter Try.func40, Try.ntmps40
        go_wp2_with fail
        refine (HH.out _ HB0.out).mono ?_
        rintro e w' ⟨rfl, rfl⟩
        go_wp2_with fail
        go_loop [9] (fun i => ∃ k : Nat, k ≤ m ∧ i = .int .i64 k ∧ Hid ((l.take k).find? (fun t => decide (z < t)) = none)) (fun i => m - (intOf i).toNat)
        case atStart => exact ⟨0, Nat.zero_le _, rfl, Lib.hid rfl⟩
        case round =>
          obtain ⟨k, hk, rfl, HK⟩ := hrel
          by_cases hlt : k < m
          · have hki : (k : Int) < (m : Int) := by omega
            have hlt2 : k < l.length := by rw [HM.out]; exact hlt
            obtain ⟨b', o', hp', _, hc⟩ := HR.out.int hlt2
            injection hp' with hp'
            injection hp' with e1 e2
            subst e1 e2
            have HT := Lib.hid (find_take hlt2 HK.out)
            obtain ⟨x, hx⟩ : ∃ x, l[k] = x := ⟨_, rfl⟩
            rw [hx] at hc HT
            clear hx hlt2
            by_cases hzx : z < x
            · have HF := Lib.hid (roundF_some (HT.out.1 hzx))
              go_wp2_with fail
              go_ret
              exact ⟨ret_int HF.out.symm, HB0.out⟩
            · have hzy : decide (z < x) = false := by simpa using hzx
              have HF := Lib.hid (HT.out.2 hzx)
              clear hzx
              go_wp2_with fail
              go_round
              case rel => exact ⟨k + 1, by omega, by go_num, HF⟩
              case measure => simp [intOf]; omega
          · have hkn : k = m := by omega
            subst hkn
            have HF := Lib.hid (show roundF z l = l.getD 0 0 from roundF_none (by have := HK.out; rwa [← HM.out, List.take_length] at this))
            go_wp2_with fail
            go_ret
            exact ⟨ret_int HF.out.symm, HB0.out⟩
  · skip
    have HB0 := Lib.hid ((Below.refl w.heap.size w).alloc (Nat.le_refl _) (.cells #[.int .i64 4, .slice qn nums.length cn, .slice qp L.length cp] 30))
    have HRn := Lib.hid (hn.kept HB0.out)
    have HRp := Lib.hid (hp.kept HB0.out)
    have HR := Lib.hid (hl.kept HB0.out)
    have HBk := Lib.hid (Blk.new w 30 [.int .i64 4, .slice qn nums.length cn, .slice qp L.length cp])
    have HX : Hid (∃ bb oo, ql = some ⟨bb, oo, none⟩ ∧ w.cell? ⟨bb, oo, none⟩ = some (.int .i64 (l.getD 0 0)) ∧ bb < w.heap.size) := Lib.hid (by
      obtain ⟨bb, oo, rfl, hbb, hc⟩ := hl.int h0
      exact ⟨bb, oo, rfl, by rw [Nat.add_zero] at hc; rw [getD_get l 0 h0]; exact hc, hbb⟩)
    have HE := Lib.hid hE
    have H0 := Lib.hid h0
    have HLl := Lib.hid hL
    have hpk : pickF 4 nums L l = oldF (lastT L) l := by rw [pickF, if_neg (by decide), if_pos rfl]
    rw [hpk]
    have HC := Lib.hid fun (w' : World) (hb : Below (w.alloc (.cells #[.int .i64 4, .slice qn nums.length cn, .slice qp L.length cp] 30)).heap.size (w.alloc (.cells #[.int .i64 4, .slice qn nums.length cn, .slice qp L.length cp] 30)) w') (x : Int) => last_any 4 qn nums.length cn qp cp L x (HRp.out.kept hb) hL
    have HT : Hid (∀ (k : Nat) (hk : k < l.length), (l.take (k + 1)).foldl (oldS (lastT L)) (l.getD 0 0) = oldS (lastT L) ((l.take k).foldl (oldS (lastT L)) (l.getD 0 0)) l[k]) := Lib.hid (fun k hk => oldF_take hk)
    obtain ⟨bb, oo, rfl, hc0, hbb⟩ := HX.out
    have hc0 := (HB0.out.cell (p := ⟨bb, oo, none⟩) hbb).trans hc0
    obtain ⟨z, hz⟩ : ∃ z, l.getD 0 0 = z := ⟨_, rfl⟩
    rw [hz] at hc0 HT
    have HZ := Lib.hid hz
    obtain ⟨m, hm⟩ : ∃ n, l.length = n := ⟨_, rfl⟩
    rw [hm] at h0 h1 ⊢
    have HM := Lib.hid hm
    obtain ⟨T, hT⟩ : ∃ T, L.length = T := ⟨_, rfl⟩
    rw [hT] at HC HBk HB0 hL HRp HR hc0 ⊢
    obtain ⟨n, hnn⟩ : ∃ T, nums.length = T := ⟨_, rfl⟩
    rw [hnn] at HC HBk HB0 HRp HR hc0 ⊢
    have hmi : (0 : Int) < (m : Int) := by omega
    clear hz hm hT hnn hn hp hl hE h0 hpk hone hpos HX HE H0 HLl HRn HRp hbb
    go_enter Try.func40, Try.ntmps40
    go_upto_region 7 with fail
    generalize hwa : (w.alloc (.cells #[.int .i64 4, .slice qn n cn, .slice qp T cp] 30)) = wa at HC HBk HB0 HR ⊢
    clear hc0 hwa
    go_wp2_with fail
    go_loopw [6, 7] (fun v i wr => ∃ k : Nat, k ≤ m ∧ i = .int .i64 k ∧ v = .int .i64 ((l.take k).foldl (oldS (lastT L)) z) ∧ Hid (Below wa.heap.size wa wr)) (fun _ i _ => m - (intOf i).toNat)
    case atStart => exact ⟨0, Nat.zero_le _, rfl, rfl, Lib.hid (Below.refl _ _)⟩
    case round =>
      obtain ⟨k, hk, rfl, rfl, HB⟩ := hrel
      by_cases hlt : k < m
      · have hki : (k : Int) < (m : Int) := by omega
        have hlt2 : k < l.length := by rw [HM.out]; exact hlt
        obtain ⟨b', o', hp', hbk, hc⟩ := (HR.out.kept HB.out).int hlt2
        injection hp' with hp'
        injection hp' with e1 e2
        subst e1 e2
        have HT1 := Lib.hid (HT.out k hlt2)
        obtain ⟨x, hx⟩ : ∃ x, l[k] = x := ⟨_, rfl⟩
        obtain ⟨y, hy⟩ : ∃ y, (l.take k).foldl (oldS (lastT L)) z = y := ⟨_, rfl⟩
        rw [hx] at hc HT1
        rw [hy] at HT1 ⊢
        replace HT1 := Lib.hid (show (l.take (k + 1)).foldl (oldS (lastT L)) z = if lastT L x < lastT L y then x else y from HT1.out)
        have HUV := Lib.hid (lastR_lt L x y)
        have HCg := Lib.hid (fun (w' : World) (hb : Below wr.heap.size wr w') (x : Int) => HC.out w' (below_step HB.out hb) x)
        have d0 := fun g => Gr.cell (HBk.out.kept HB.out) 0 _ rfl g
        have d1 := fun g => Gr.cell (HBk.out.kept HB.out) 1 _ rfl g
        have d2 := fun g => Gr.cell (HBk.out.kept HB.out) 2 _ rfl g
        have d3 := fun g => Gr.at_ hbk hc g
        clear hx hy
        by_cases huv : lastR L x < lastR L y
        · have HT2 := Lib.hid (HT1.out.trans (if_pos (HUV.out.1 huv)))
          clear HUV
          go_upto_region 10 with fail
          clear hc
          refine wp_region_grows (by kernel_rfl) (by kernel_rfl) ?_
          repeat (go_big_quiet_step ((first | (go_at_call 47; exact Calls.gr _ (HCg.out _ (Gr.h _) _)))))
          refine wpQuiet_nil ?_
          rintro _ ⟨g, rfl⟩
          have hb9 := g.h
          have hc9 := d3 g
          generalize g.w = w2 at hb9 hc9 ⊢
          have HB2 := Lib.hid (below_step HB.out hb9)
          clear hb9 d0 d1 d2 d3
          go_wp2_with fail
          go_roundw
          case rel => exact ⟨k + 1, by omega, by go_num, by rw [HT2.out], HB2⟩
          case measure => simp [intOf]; omega
        · have HT2 := Lib.hid (HT1.out.trans (if_neg (fun h => huv (HUV.out.2 h))))
          have huv2 : decide (lastR L x < lastR L y) = false := by simpa using huv
          clear HUV huv
          go_upto_region 10 with fail
          refine wp_region_grows (by kernel_rfl) (by kernel_rfl) ?_
          repeat (go_big_quiet_step ((first | (go_at_call 47; exact Calls.gr _ (HCg.out _ (Gr.h _) _)))))
          refine wpQuiet_nil ?_
          rintro _ ⟨g, rfl⟩
          have hb9 := g.h
          generalize g.w = w2 at hb9 ⊢
          have HB2 := Lib.hid (below_step HB.out hb9)
          clear hb9 d0 d1 d2 d3 hc
          go_wp2_with fail
          go_roundw
          case rel => exact ⟨k + 1, by omega, by go_num, by rw [HT2.out], HB2⟩
          case measure => simp [intOf]; omega
      · have hkn : k = m := by omega
        subst hkn
        have HF := Lib.hid (show oldF (lastT L) l = (l.take k).foldl (oldS (lastT L)) z by rw [oldF, HZ.out, ← HM.out, List.take_length])
        go_wp2_with fail
        go_ret
        exact ⟨ret_int HF.out.symm, below_step HB0.out HB.out⟩
end Go.Proofs.Ytfidnecdojgkjaa
