/- Answers, compared by the reference. Printed by hist_r.py. -/
import Derived.Test.YtbkkplednfdfdaaEqB
import Derived.Test.YtbkkplednfdfdaaArgs
namespace Go.Proofs.Ytbkkplednfdfdaa
open Go.RowKit Go.Maps

def eqA (a b : PA) : Bool := decide (a.op = b.op) && decide (a.err = b.err) && decide (a.cnt = b.cnt) && decide (a.lines = b.lines) && decide (batK a.bats = batK b.bats)
set_option maxRecDepth 100000 in
set_option maxHeartbeats 4000000 in
theorem sameAnswer_any (w : World) (xop xerr xcnt : Int) (xlq : Option Addr) (xln xlc : Nat) (xbq : Option Addr) (xbn xbc : Nat) (x : PA) (yop yerr ycnt : Int) (ylq : Option Addr) (yln ylc : Nat) (ybq : Option Addr) (ybn ybc : Nat) (y : PA)
    (hx : AR (RdW w w.heap.size) xop xerr xcnt xlq xln xlc xbq xbn xbc x) (hy : AR (RdW w w.heap.size) yop yerr ycnt ylq yln ylc ybq ybn ybc y) (hox : x.ok) (hoy : y.ok) :
    Calls Try.prog 35 #[.agg #[.int .i64 xop, .int .i64 xerr, .int .i64 xcnt, .slice xlq xln xlc, .slice xbq xbn xbc], .agg #[.int .i64 yop, .int .i64 yerr, .int .i64 ycnt, .slice ylq yln ylc, .slice ybq ybn ybc]] w fun e w' => e = .returned (.bool (eqA x y)) ∧ Below w.heap.size w w' := by
  have HB := Lib.hid (below_al (below_al (Below.refl w.heap.size w) (.cells #[.int .i64 xop, .int .i64 xerr, .int .i64 xcnt, .slice xlq xln xlc, .slice xbq xbn xbc] 36)) (.cells #[.int .i64 yop, .int .i64 yerr, .int .i64 ycnt, .slice ylq yln ylc, .slice ybq ybn ybc] 36))
  obtain ⟨xop', xerr', xcnt', xls, xbs⟩ := x
  obtain ⟨yop', yerr', ycnt', yls, ybs⟩ := y
  have HX := Lib.hid hx
  have HY := Lib.hid hy
  obtain ⟨rfl, rfl, rfl, hx1, hxlc, -, hx2, hxbc, -⟩ := hx
  obtain ⟨rfl, rfl, rfl, hy1, hylc, -, hy2, hybc, -⟩ := hy
  simp only at hx1 hx2 hy1 hy2
  have hlx : xln ≤ 1000 := by have := hox.1; simp only at this; omega
  have hly : yln ≤ 1000 := by have := hoy.1; simp only at this; omega
  have hbx : xbn ≤ 1000 := by have := hox.2.1; simp only at this; omega
  have hby : ybn ≤ 1000 := by have := hoy.2.1; simp only at this; omega
  clear hox hoy
  obtain ⟨r, hr⟩ : ∃ r, eqA ⟨xop, xerr, xcnt, xls, xbs⟩ ⟨yop, yerr, ycnt, yls, ybs⟩ = r := ⟨_, rfl⟩
  have HR := Lib.hid hr
  rw [hr]
  clear hr
  by_cases h0 : xop = yop
  · subst h0
    by_cases h1 : xerr = yerr
    · subst h1
      by_cases h2 : xcnt = ycnt
      · subst h2
        by_cases h3 : xln = yln
        · subst h3
          by_cases h4 : xbn = ybn
          · subst h4
            have HBX := Lib.hid ((Blk.new w 36 [.int .i64 xop, .int .i64 xerr, .int .i64 xcnt, .slice xlq xln xlc, .slice xbq xbn xbc]).alloc (.cells #[.int .i64 xop, .int .i64 xerr, .int .i64 xcnt, .slice ylq xln ylc, .slice ybq xbn ybc] 36))
            have HBY := Lib.hid (Blk.new' (n := w.heap.size + 1) (w.alloc (.cells #[.int .i64 xop, .int .i64 xerr, .int .i64 xcnt, .slice xlq xln xlc, .slice xbq xbn xbc] 36)) 36 [.int .i64 xop, .int .i64 xerr, .int .i64 xcnt, .slice ylq xln ylc, .slice ybq xbn ybc] (by simp))
            have HLX := Lib.hid hx1
            have HLY := Lib.hid hy1
            have HMX := Lib.hid hx2
            have HMY := Lib.hid hy2
            have hni : (xln : Int) ≤ 1000 := by omega
            have hmi : (xbn : Int) ≤ 1000 := by omega
            clear hx1 hx2 hy1 hy2
            go_enter Try.func35, Try.ntmps35
            go_upto_region 3 with fail
            obtain ⟨z, hz⟩ : ∃ z, w.heap.size = z := ⟨_, rfl⟩
            have HZ := Lib.hid hz
            rw [hz] at HBX HBY ⊢
            clear hz
            generalize (w.alloc (.cells #[.int .i64 xop, .int .i64 xerr, .int .i64 xcnt, .slice xlq xln xlc, .slice xbq xbn xbc] 36)).alloc (.cells #[.int .i64 xop, .int .i64 xerr, .int .i64 xcnt, .slice ylq xln ylc, .slice ybq xbn ybc] 36) = w1 at *
            go_wp2_with fail
            go_loopw [5] (fun i wr => ∃ (k : Nat), k ≤ xln ∧ i = .int .i64 k ∧ Hid (xls.take k = yls.take k) ∧ Hid (Below w1.heap.size w1 wr)) (fun i _ => xln - (intOf i).toNat)
            case atStart => exact ⟨0, Nat.zero_le _, rfl, Lib.hid rfl, Lib.hid (Below.refl _ _)⟩
            case round =>
              obtain ⟨k, hk, rfl, HI, HW⟩ := hrel
              have p3 := (HBX.out.kept HW.out).got 3 _ rfl
              have q3 := (HBY.out.kept HW.out).got 3 _ rfl
              by_cases hlt : k < xln
              · have hki : (k : Int) < (xln : Int) := by omega
                have hk1 : k < xls.length := by have : xln = _ := HLX.out; omega
                have hk2 : k < yls.length := by have : xln = _ := HLY.out; omega
                obtain ⟨x, hx⟩ : ∃ x, xls[k] = x := ⟨_, rfl⟩
                obtain ⟨y, hy⟩ : ∃ y, yls[k] = y := ⟨_, rfl⟩
                obtain ⟨b1, o1, rfl, hb1, -, hc1⟩ := (HX.out.rd.kept (HB.out.trans (HW.out.mono HB.out.size))).at_ (k := k * 2) (by simp only [lns_len]; omega)
                obtain ⟨b2, o2, rfl, hb2, -, hc2⟩ := (HY.out.rd.kept (HB.out.trans (HW.out.mono HB.out.size))).at_ (k := k * 2) (by simp only [lns_len]; omega)
                have u1 := hc1 (k * 2) _ (by rw [(lns_at xls k hk1).1, hx])
                have u2 := hc1 (k * 2 + 1) _ (by rw [(lns_at xls k hk1).2, hx])
                have v1 := hc2 (k * 2) _ (by rw [(lns_at yls k hk2).1, hy])
                have v2 := hc2 (k * 2 + 1) _ (by rw [(lns_at yls k hk2).2, hy])
                have HLA := Lib.hid (show xls.take (k + 1) = xls.take k ++ [x] by rw [← hx]; simp)
                have HLB := Lib.hid (show yls.take (k + 1) = yls.take k ++ [y] by rw [← hy]; simp)
                obtain ⟨s, i⟩ := x
                obtain ⟨t, j⟩ := y
                simp only [← Nat.add_assoc] at u1 u2 v1 v2
                clear hx hy hc1 hc2 hk1 hk2 hb1 hb2
                obtain ⟨zz, hz⟩ : ∃ zz, decide (s = t ∧ i = j) = zz := ⟨_, rfl⟩
                have HZZ := Lib.hid hz
                have hne : ∀ w, (binOp .neq 43 (.agg #[.string s, .int .i64 i]) (.agg #[.string t, .int .i64 j])).run Try.prog w = .ok (.bool (!zz)) w := fun w => by rw [← hz]; exact neq43 w s t i j
                have hg : ∀ w x y, (eqGuard .neq 43 x y (.agg #[.string s, .int .i64 i]) (.agg #[.string t, .int .i64 j])).run Try.prog w = .ok () w := fun w x y => run_eqGuard_agg w .neq 43 x y _ _ eqg43
                clear hz
                cases zz with
                | true =>
                  have HE := Lib.hid (show xls.take (k + 1) = yls.take (k + 1) by
                    have h := of_decide_eq_true HZZ.out
                    rw [HLA.out, HLB.out, HI.out, h.1, h.2])
                  go_wp2_with fail
                  go_quiet (fail)
                  have HD := Lib.hid (below_drewN HW.out nq)
                  clear u1 u2 v1 v2 hne hg p3 q3
                  generalize wr.drewN nq = w2 at *
                  go_wp2_with fail
                  go_roundw
                  case rel => exact ⟨k + 1, by omega, by go_num, HE, HD⟩
                  case measure => simp [intOf]; omega
                | false =>
                  have hrf : r = false := by
                    rw [← HR.out]
                    have hne : ¬ xls = yls := by
                      intro e
                      have h := of_decide_eq_false HZZ.out
                      have h2 := HLA.out
                      have h3 := HLB.out
                      rw [e] at h2
                      rw [h3] at h2
                      have h4 := List.append_inj_right h2 (by simp [e])
                      simp at h4
                      exact h ⟨h4.1.symm, h4.2.symm⟩
                    simp [eqA, hne]
                  subst hrf
                  go_wp2_with fail
                  go_quiet (fail)
                  have HD := Lib.hid (below_drewN HW.out nq)
                  clear u1 u2 v1 v2 hne hg p3 q3
                  generalize wr.drewN nq = w2 at *
                  go_wp2_with fail
                  go_ret
                  exact ⟨rfl, HB.out.trans (HD.out.mono HB.out.size)⟩
              · have hkn : k = xln := by omega
                subst hkn
                have hls : xls = yls := by
                  have h := HI.out
                  rw [List.take_of_length_le (by have : k = _ := HLX.out; omega), List.take_of_length_le (by have : k = _ := HLY.out; omega)] at h
                  exact h
                have HLS := Lib.hid hls
                have HW0 := Lib.hid HW.out
                clear hls hk hlt HI HW
                go_wp2_with fail
                clear p3 q3
                go_loopw [6] (fun i wr => ∃ (k : Nat), k ≤ xbn ∧ i = .int .i64 k ∧ Hid ((batK xbs).take k = (batK ybs).take k) ∧ Hid (Below w1.heap.size w1 wr)) (fun i _ => xbn - (intOf i).toNat)
                case atStart => exact ⟨0, Nat.zero_le _, rfl, Lib.hid rfl, HW0⟩
                case round =>
                  clear HW0
                  obtain ⟨j, hj, rfl, HI, HW⟩ := hrel
                  have p4 := (HBX.out.kept HW.out).got 4 _ rfl
                  have q4 := (HBY.out.kept HW.out).got 4 _ rfl
                  by_cases hlt : j < xbn
                  · have hki : (j : Int) < (xbn : Int) := by omega
                    have hbw : Below w.heap.size w wr := HB.out.trans (HW.out.mono HB.out.size)
                    obtain ⟨b1, o1, q1, m1, d1, x, rfl, hb1, u1, hx, rfl, hd1, hr1⟩ := HX.out.batR.at_ hlt
                    obtain ⟨b2, o2, q2, m2, d2, y, rfl, hb2, u2, hy, rfl, hd2, hr2⟩ := HY.out.batR.at_ hlt
                    have U1 := (hbw.cell (p := ⟨b1, o1 + j, none⟩) hb1).trans u1
                    have U2 := (hbw.cell (p := ⟨b2, o2 + j, none⟩) hb2).trans u2
                    have HLA := Lib.hid (show (batK xbs).take (j + 1) = (batK xbs).take j ++ [strOfNums x] by rw [List.take_add_one]; simp [batK, hx])
                    have HLB := Lib.hid (show (batK ybs).take (j + 1) = (batK ybs).take j ++ [strOfNums y] by rw [List.take_add_one]; simp [batK, hy])
                    have c1 := fun n => conv_any ((hr1.kept hbw).kept (below_drewN (Below.refl wr.heap.size wr) n)) d1
                    have c2 := fun n => conv_any ((hr2.kept hbw).kept (below_drewN (Below.refl wr.heap.size wr) n)) d2
                    clear hx hy hr1 hr2 hb1 hb2 u1 u2 hbw
                    obtain ⟨s, hs⟩ : ∃ s, strOfNums x = s := ⟨_, rfl⟩
                    obtain ⟨t, ht⟩ : ∃ t, strOfNums y = t := ⟨_, rfl⟩
                    rw [hs] at HLA c1
                    rw [ht] at HLB c2
                    generalize x.length = m1 at *
                    generalize y.length = m2 at *
                    clear hs ht
                    by_cases hst : s = t
                    · subst hst
                      have HE := Lib.hid (show (batK xbs).take (j + 1) = (batK ybs).take (j + 1) by rw [HLA.out, HLB.out, HI.out])
                      go_wp2_with fail
                      go_quiet (fail)
                      have HD := Lib.hid (below_drewN HW.out nq)
                      clear U1 U2 c1 c2 p4 q4
                      generalize wr.drewN nq = w2 at *
                      go_wp2_with fail
                      go_roundw
                      case rel => exact ⟨j + 1, by omega, by go_num, HE, HD⟩
                      case measure => simp [intOf]; omega
                    · have gst : (s.toList == t.toList) = false := by rw [str_beq]; simpa using hst
                      have hrf : r = false := by
                        rw [← HR.out]
                        have hne : ¬ batK xbs = batK ybs := by
                          intro e
                          have h2 := HLA.out
                          have h3 := HLB.out
                          rw [e] at h2
                          rw [h3] at h2
                          have h4 := List.append_inj_right h2 (by simp [e])
                          simp at h4
                          exact hst h4.symm
                        simp [eqA, hne]
                      subst hrf
                      clear hst
                      go_wp2_with fail
                      go_quiet (fail)
                      have HD := Lib.hid (below_drewN HW.out nq)
                      clear U1 U2 c1 c2 p4 q4 gst
                      generalize wr.drewN nq = w2 at *
                      go_wp2_with fail
                      go_ret
                      exact ⟨rfl, HB.out.trans (HD.out.mono HB.out.size)⟩
                  · have hjn : j = xbn := by omega
                    subst hjn
                    have hrt : r = true := by
                      rw [← HR.out]
                      have h := HI.out
                      rw [List.take_of_length_le (by have : j = _ := HMX.out; simp [batK]; omega), List.take_of_length_le (by have : j = _ := HMY.out; simp [batK]; omega)] at h
                      simp [eqA, h, HLS.out]
                    subst hrt
                    go_wp2_with fail
                    go_ret
                    exact ⟨rfl, HB.out.trans (HW.out.mono HB.out.size)⟩
          · have h4' : ¬ batK xbs = batK ybs := fun e => h4 (by have := congrArg List.length e; simp [batK] at this; omega)
            have hv : r = false := by rw [← HR.out]; simp [eqA, h4']
            subst hv
            clear HX HY HR
            have g4 : ((xbn : Int) != (ybn : Int)) = true := by simp; omega
            clear h4 h4' hx1 hx2 hy1 hy2
            go_enter Try.func35, Try.ntmps35
            go_wp2_with fail
            go_ret
            exact ⟨rfl, HB.out⟩
        · have h3' : ¬ xls = yls := fun e => h3 (by rw [hx1, hy1, e])
          have hv : r = false := by rw [← HR.out]; simp [eqA, h3']
          subst hv
          clear HX HY HR
          have g3 : ((xln : Int) != (yln : Int)) = true := by simp; omega
          clear h3 h3' hx1 hx2 hy1 hy2
          go_enter Try.func35, Try.ntmps35
          go_wp2_with fail
          go_ret
          exact ⟨rfl, HB.out⟩
      · have g2 : (xcnt != ycnt) = true := by simpa using h2
        have hv : r = false := by rw [← HR.out]; simp [eqA, h2]
        subst hv
        clear HX HY HR
        clear hx1 hx2 hy1 hy2 h2
        go_enter Try.func35, Try.ntmps35
        go_wp2_with fail
        go_ret
        exact ⟨rfl, HB.out⟩
    · have g1 : (xerr != yerr) = true := by simpa using h1
      have hv : r = false := by rw [← HR.out]; simp [eqA, h1]
      subst hv
      clear HX HY HR
      clear hx1 hx2 hy1 hy2 h1
      go_enter Try.func35, Try.ntmps35
      go_wp2_with fail
      go_ret
      exact ⟨rfl, HB.out⟩
  · have g0 : (xop != yop) = true := by simpa using h0
    have hv : r = false := by rw [← HR.out]; simp [eqA, h0]
    subst hv
    clear HX HY HR
    clear hx1 hx2 hy1 hy2 h0
    go_enter Try.func35, Try.ntmps35
    go_wp2_with fail
    go_ret
    exact ⟨rfl, HB.out⟩
end Go.Proofs.Ytbkkplednfdfdaa
