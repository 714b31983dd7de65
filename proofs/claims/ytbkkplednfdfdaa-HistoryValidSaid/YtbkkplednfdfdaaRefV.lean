/- The reference's Valid. Printed by hist_u.py. -/
import Derived.Test.YtbkkplednfdfdaaEqD
import Derived.Test.YtbkkplednfdfdaaVDefs
import Derived.Test.YtbkkplednfdfdaaEvsC
namespace Go.Proofs.Ytbkkplednfdfdaa
open Go.RowKit Go.Maps

def RetV (w : World) (l : List Ev) (e : Ending) (w' : World) : Prop := ∃ r, e = .returned (.bool r) ∧ (r = true ↔ RV l) ∧ Below w.heap.size w w'
theorem wpList_st0 {P : Program} {ops : Array Oper} {rest : List Oper} {op : Oper} {a : Act} {w : World} {Q : Exit → Act → World → Prop} (hgd : op.guard = none) (hdn : op.dst = none) (ty : TypeId) (x y : Operand) (ho : op.op = .store ty x y)
    (b o : Nat) (hx : a.eval x = .pointer (some ⟨b, o, none⟩)) (A : Array Value) (hy : a.eval y = .agg A) (t : TypeId) (cs cs' : List Value) (hb : Blk w b t cs) (hl : o + A.size ≤ cs.length)
    (hi : (P.info? ty).map (·.size) = some A.size) (h1 : A.toList.all (·.oneCell') = true) (hcs : putAt cs o A.toList = cs')
    (h : ∀ w', Blk w' b t cs' → Fr (fun x => x = b) w w' → wpList P ops Q rest a w') : wpList P ops Q (op :: rest) a w :=
  wpList_st hgd ty x y ho b o hx A hy t cs cs' hb hl hi h1 hcs (fun w' h1 h2 => by rw [hdn]; exact h w' h1 h2)
set_option maxRecDepth 100000 in
set_option maxHeartbeats 8000000 in
theorem refValid_any (w : World) (p : Option Addr) (c : Nat) (l : List Ev) (h : Rd w w.heap.size p (evs l)) (hc : l.length ≤ c) (hn2 : l.length ≤ 9223372036854775807) :
    Calls Try.prog 19 #[.slice p l.length c] w (RetV w l) := by
  have HR := Lib.hid h
  by_cases hbig : 4096 < l.length
  · have HP : Hid (¬ RV l) := Lib.hid (fun h => by have := h.1; omega)
    obtain ⟨n, hn9⟩ : ∃ n, l.length = n := ⟨_, rfl⟩
    rw [hn9] at hc hn2 hbig ⊢
    have hbi : (4096 : Int) < (n : Int) := by omega
    have hbj : (n : Int) ≤ 9223372036854775807 := by omega
    clear h hn9 hbig hn2
    go_enter Try.func19, Try.ntmps19
    go_wp2_with fail
    go_ret
    exact ⟨false, rfl, by simp [HP.out], Below.refl _ _⟩
  · have HP := Lib.hid hbig
    obtain ⟨n, hn9⟩ : ∃ n, l.length = n := ⟨_, rfl⟩
    have HN := Lib.hid hn9
    rw [hn9] at hc hbig ⊢
    have hbi : (n : Int) ≤ 4096 := by omega
    have hbn : n ≤ 4096 := by omega
    clear h hn9 hbig hn2
    go_enter Try.func19, Try.ntmps19
    go_wp2_with fail
    go_loopw [3] (fun i wr => ∃ (k : Nat), k ≤ n ∧ i = .int .i64 k ∧ Hid (RVi l k) ∧ Hid (Below w.heap.size w wr)) (fun i _ => n - (intOf i).toNat)
    case atStart => exact ⟨0, Nat.zero_le _, rfl, Lib.hid (fun j x hj => absurd hj (by omega)), Lib.hid (Below.refl _ _)⟩
    case round =>
      obtain ⟨k, hk, rfl, HI, HW⟩ := hrel
      by_cases hlt : k < n
      · have hki : (k : Int) < (n : Int) := by omega
        have hk2 : k < l.length := by rw [HN.out]; exact hlt
        obtain ⟨b, o, rfl, hb, hc9⟩ := evs_rd HR.out hk2
        have HLX := Lib.hid (List.getElem?_eq_getElem hk2)
        obtain ⟨x, hx⟩ : ∃ x, l[k] = x := ⟨_, rfl⟩
        rw [hx] at hc9 HLX
        have HX := Lib.hid (show ∀ i u, x.cells[i]? = some u → wr.cell? ⟨b, o + k * 15 + i, none⟩ = some u from fun i u hu => (HW.out.cell (p := ⟨b, o + k * 15 + i, none⟩) hb).trans (hc9 i u hu))
        clear hx
        obtain ⟨xt, xa, xm, xn, xop, xkey, xoth, xitem, xqty, xdq, xdn, xdc, xaop, xaerr, xacnt, xlq, xln, xlc, xbq, xbn, xbc⟩ := x
        have HRG := Lib.hid (show wr.rangeAt b (o + k * 15) [.int .i64 xt, .int .i64 xop, .string xkey, .string xoth, .string xitem, .int .i64 xqty, .slice xdq xdn xdc, .int .i64 xaop, .int .i64 xaerr, .int .i64 xacnt, .slice xlq xln xlc, .slice xbq xbn xbc, .int .i64 xa, .int .i64 xm, .int .i64 xn] from fun j v hv => HX.out j v hv)
        have HAZ := Lib.hid (Blk.new wr 41 [.int .i64 0, .int .i64 0, .string ⟨#[]⟩, .string ⟨#[]⟩, .string ⟨#[]⟩, .int .i64 0, .slice none 0 0, .int .i64 0, .int .i64 0, .int .i64 0, .slice none 0 0, .slice none 0 0, .int .i64 0, .int .i64 0, .int .i64 0])
        have HAB := Lib.hid (below_al (Below.refl wr.heap.size wr) (.cells #[.int .i64 0, .int .i64 0, .string ⟨#[]⟩, .string ⟨#[]⟩, .string ⟨#[]⟩, .int .i64 0, .slice none 0 0, .int .i64 0, .int .i64 0, .int .i64 0, .slice none 0 0, .slice none 0 0, .int .i64 0, .int .i64 0, .int .i64 0] 41))
        have HBN := Lib.hid hb
        clear hc9 hb
        go_upto_region 7 with (first | refine wpList_ld rfl 41 (.tmp 18) rfl b (o + k * 15) rfl #[.int .i64 xt, .int .i64 xop, .string xkey, .string xoth, .string xitem, .int .i64 xqty, .slice xdq xdn xdc, .int .i64 xaop, .int .i64 xaerr, .int .i64 xacnt, .slice xlq xln xlc, .slice xbq xbn xbc, .int .i64 xa, .int .i64 xm, .int .i64 xn] [.int .i64 xt, .int .i64 xop, .string xkey, .string xoth, .string xitem, .int .i64 xqty, .slice xdq xdn xdc, .int .i64 xaop, .int .i64 xaerr, .int .i64 xacnt, .slice xlq xln xlc, .slice xbq xbn xbc, .int .i64 xa, .int .i64 xm, .int .i64 xn] rfl _ HRG.out Try.underlying41 rfl info41 ?_ | (refine wpList_st0 rfl rfl 41 (.tmp 4) (.tmp 19) rfl wr.heap.size 0 rfl #[.int .i64 xt, .int .i64 xop, .string xkey, .string xoth, .string xitem, .int .i64 xqty, .slice xdq xdn xdc, .int .i64 xaop, .int .i64 xaerr, .int .i64 xacnt, .slice xlq xln xlc, .slice xbq xbn xbc, .int .i64 xa, .int .i64 xm, .int .i64 xn] rfl 41 _ [.int .i64 xt, .int .i64 xop, .string xkey, .string xoth, .string xitem, .int .i64 xqty, .slice xdq xdn xdc, .int .i64 xaop, .int .i64 xaerr, .int .i64 xacnt, .slice xlq xln xlc, .slice xbq xbn xbc, .int .i64 xa, .int .i64 xm, .int .i64 xn] HAZ.out (by simp) info41 (by rfl) (by rfl) ?_; intro w2 hb2 hf2; have HX2 := Lib.hid hb2; have HF2 := Lib.hid hf2; clear hb2 hf2))
        have HW2 := Lib.hid (HW.out.trans ((Fr.below HAB.out HF2.out (fun x hx => by have hx : x = wr.heap.size := hx; omega)).mono HW.out.size))
        obtain ⟨z, hz⟩ : ∃ z, wr.heap.size = z := ⟨_, rfl⟩
        rw [hz] at HX2 ⊢
        clear HRG HAZ HAB HF2 hz HX
        obtain ⟨v, hv⟩ : ∃ v, v = rbad ⟨xt, xa, xm, xn, xop, xkey, xoth, xitem, xqty, xdq, xdn, xdc, xaop, xaerr, xacnt, xlq, xln, xlc, xbq, xbn, xbc⟩ := ⟨_, rfl⟩
        have HV := Lib.hid hv
        clear hv
        go_cut [61] from 10 to 61 (fun c wx => c = .bool v ∧ wx = w2)
        case first =>
          have c0 := HX2.out.got 0 _ rfl
          have c12 := HX2.out.got 12 _ rfl
          have c13 := HX2.out.got 13 _ rfl
          have c14 := HX2.out.got 14 _ rfl
          by_cases h1 : xa < 0
          · have hv : v = true := by rw [HV.out]; simp [rbad, h1]
            subst hv
            clear HV
            go_wp2_with fail
            go_meet
            exact ⟨rfl, rfl⟩
          · have g1 : 0 ≤ xa := by omega
            by_cases h2 : xt < 0
            · have hv : v = true := by rw [HV.out]; simp [rbad, h2]
              subst hv
              clear HV
              go_wp2_with fail
              go_meet
              exact ⟨rfl, rfl⟩
            · have g2 : 0 ≤ xt := by omega
              by_cases h3 : 9999 < xt
              · have hv : v = true := by rw [HV.out]; simp [rbad, h3]
                subst hv
                clear HV
                go_wp2_with fail
                go_meet
                exact ⟨rfl, rfl⟩
              · have g3 : xt ≤ 9999 := by omega
                by_cases h4 : xm = -1
                · subst h4
                  by_cases h5 : xn = -1
                  · subst h5
                    have hv : v = false := by rw [HV.out]; simp [rbad, h1, h2, h3]
                    subst hv
                    clear HV
                    go_wp2_with fail
                    go_meet
                    exact ⟨rfl, rfl⟩
                  · have h5' : (xn == -1) = false := by simpa using h5
                    have h5n : (xn != -1) = true := by simpa using h5
                    have hv : v = true := by rw [HV.out]; simp [rbad, h5]
                    subst hv
                    clear HV
                    go_wp2_with fail
                    go_meet
                    exact ⟨rfl, rfl⟩
                · have h4' : (xm == -1) = false := by simpa using h4
                  have h4n : (xm != -1) = true := by simpa using h4
                  by_cases h6 : xa ≤ xm
                  · have g6 : decide (xm < xa) = false := by simpa using h6
                    by_cases h5 : xn = -1
                    · subst h5
                      have hv : v = false := by rw [HV.out]; simp [rbad, h1, h2, h3, h4, h6]
                      subst hv
                      clear HV
                      go_wp2_with fail
                      go_meet
                      exact ⟨rfl, rfl⟩
                    · have h5' : (xn == -1) = false := by simpa using h5
                      have h5n : (xn != -1) = true := by simpa using h5
                      by_cases h7 : xm ≤ xn
                      · have g7 : decide (xn < xm) = false := by simpa using h7
                        have hv : v = false := by rw [HV.out]; simp [rbad, h1, h2, h3, h4, h5, h6, h7]
                        subst hv
                        clear HV
                        go_wp2_with fail
                        go_meet
                        exact ⟨rfl, rfl⟩
                      · have h7' : xn < xm := by omega
                        have hv : v = true := by rw [HV.out]; simp [rbad, h5, h7']
                        subst hv
                        clear HV
                        go_wp2_with fail
                        go_meet
                        exact ⟨rfl, rfl⟩
                  · have h6' : xm < xa := by omega
                    have hv : v = true := by rw [HV.out]; simp [rbad, h4, h6']
                    subst hv
                    clear HV
                    go_wp2_with fail
                    go_meet
                    exact ⟨rfl, rfl⟩
        case rest =>
          obtain ⟨rfl, hwc⟩ := hcut
          subst hwc
          generalize wc = w2 at *
          cases v with
          | true =>
            have HE : Hid (¬ RV l) := Lib.hid (fun h => by have := (h.2 k _ (by rw [HN.out]; exact hlt) HLX.out).1; rw [← HV.out] at this; cases this)
            go_wp2_with fail
            go_ret
            exact ⟨false, rfl, by simp [HE.out], HW2.out⟩
          | false =>
            go_wp2_with fail
            go_loopw [5] (fun i wq => ∃ (j : Nat), j ≤ k ∧ i = .int .i64 j ∧ Hid (∀ (i : Nat) (y : Ev), i < j → l[i]? = some y → rbad2 y ⟨xt, xa, xm, xn, xop, xkey, xoth, xitem, xqty, xdq, xdn, xdc, xaop, xaerr, xacnt, xlq, xln, xlc, xbq, xbn, xbc⟩ = false) ∧ Hid (Below w2.heap.size w2 wq)) (fun i _ => k - (intOf i).toNat)
            case atStart => exact ⟨0, Nat.zero_le _, rfl, Lib.hid (fun i y hi => absurd hi (by omega)), Lib.hid (Below.refl _ _)⟩
            case round =>
              obtain ⟨j, hj, rfl, HJ, HWQ⟩ := hrel
              have HWR := Lib.hid (HW2.out.trans (HWQ.out.mono HW2.out.size))
              have HX3 := Lib.hid (HX2.out.kept HWQ.out)
              by_cases hjt : j < k
              · have hji : (j : Int) < (k : Int) := by omega
                have hjn : (j : Int) < (n : Int) := by omega
                have hj2 : j < l.length := by rw [HN.out]; omega
                obtain ⟨b9, o9, hp9, hb9, hc9⟩ := evs_rd HR.out hj2
                injection hp9 with hp9
                injection hp9 with e1 e2
                subst e1 e2
                have HLY := Lib.hid (List.getElem?_eq_getElem hj2)
                obtain ⟨y, hy⟩ : ∃ y, l[j] = y := ⟨_, rfl⟩
                rw [hy] at hc9 HLY
                clear hy
                obtain ⟨yt, ya, ym, yn, yop, ykey, yoth, yitem, yqty, ydq, ydn, ydc, yaop, yaerr, yacnt, ylq, yln, ylc, ybq, ybn, ybc⟩ := y
                have HRG := Lib.hid (show wr.rangeAt b (o + j * 15) [.int .i64 yt, .int .i64 yop, .string ykey, .string yoth, .string yitem, .int .i64 yqty, .slice ydq ydn ydc, .int .i64 yaop, .int .i64 yaerr, .int .i64 yacnt, .slice ylq yln ylc, .slice ybq ybn ybc, .int .i64 ya, .int .i64 ym, .int .i64 yn] from fun i v hv => (HWR.out.cell (p := ⟨b, o + j * 15 + i, none⟩) hb9).trans (hc9 i v hv))
                have HAZ := Lib.hid (Blk.new wr 41 [.int .i64 0, .int .i64 0, .string ⟨#[]⟩, .string ⟨#[]⟩, .string ⟨#[]⟩, .int .i64 0, .slice none 0 0, .int .i64 0, .int .i64 0, .int .i64 0, .slice none 0 0, .slice none 0 0, .int .i64 0, .int .i64 0, .int .i64 0])
                have HAB := Lib.hid (below_al (Below.refl wr.heap.size wr) (.cells #[.int .i64 0, .int .i64 0, .string ⟨#[]⟩, .string ⟨#[]⟩, .string ⟨#[]⟩, .int .i64 0, .slice none 0 0, .int .i64 0, .int .i64 0, .int .i64 0, .slice none 0 0, .slice none 0 0, .int .i64 0, .int .i64 0, .int .i64 0] 41))
                have HXA := Lib.hid (HX3.out.alloc (.cells #[.int .i64 0, .int .i64 0, .string ⟨#[]⟩, .string ⟨#[]⟩, .string ⟨#[]⟩, .int .i64 0, .slice none 0 0, .int .i64 0, .int .i64 0, .int .i64 0, .slice none 0 0, .slice none 0 0, .int .i64 0, .int .i64 0, .int .i64 0] 41))
                have HZL := Lib.hid HX3.out.lt
                clear hc9 hb9 hj2
                go_upto_region 13 with (first | refine wpList_ld rfl 41 (.tmp 69) rfl b (o + j * 15) rfl #[.int .i64 yt, .int .i64 yop, .string ykey, .string yoth, .string yitem, .int .i64 yqty, .slice ydq ydn ydc, .int .i64 yaop, .int .i64 yaerr, .int .i64 yacnt, .slice ylq yln ylc, .slice ybq ybn ybc, .int .i64 ya, .int .i64 ym, .int .i64 yn] [.int .i64 yt, .int .i64 yop, .string ykey, .string yoth, .string yitem, .int .i64 yqty, .slice ydq ydn ydc, .int .i64 yaop, .int .i64 yaerr, .int .i64 yacnt, .slice ylq yln ylc, .slice ybq ybn ybc, .int .i64 ya, .int .i64 ym, .int .i64 yn] rfl _ HRG.out Try.underlying41 rfl info41 ?_ | (refine wpList_st0 rfl rfl 41 (.tmp 6) (.tmp 70) rfl wr.heap.size 0 rfl #[.int .i64 yt, .int .i64 yop, .string ykey, .string yoth, .string yitem, .int .i64 yqty, .slice ydq ydn ydc, .int .i64 yaop, .int .i64 yaerr, .int .i64 yacnt, .slice ylq yln ylc, .slice ybq ybn ybc, .int .i64 ya, .int .i64 ym, .int .i64 yn] rfl 41 _ [.int .i64 yt, .int .i64 yop, .string ykey, .string yoth, .string yitem, .int .i64 yqty, .slice ydq ydn ydc, .int .i64 yaop, .int .i64 yaerr, .int .i64 yacnt, .slice ylq yln ylc, .slice ybq ybn ybc, .int .i64 ya, .int .i64 ym, .int .i64 yn] HAZ.out (by simp) info41 (by rfl) (by rfl) ?_; intro w4 hb4 hf4; have HY4 := Lib.hid hb4; have HF4 := Lib.hid hf4; clear hb4 hf4))
                have HB4 := Lib.hid (Fr.below HAB.out HF4.out (fun x hx => by have hx : x = wr.heap.size := hx; omega))
                have HX4 := Lib.hid (HX3.out.kept HB4.out)
                have HWQ4 := Lib.hid (HWQ.out.trans (HB4.out.mono HWQ.out.size))
                obtain ⟨zy, hzy⟩ : ∃ zy, wr.heap.size = zy := ⟨_, rfl⟩
                rw [hzy] at HY4 ⊢
                clear HRG HAZ HAB HF4 hzy HXA HZL HB4
                obtain ⟨v, hv⟩ : ∃ v, v = rbad2 ⟨yt, ya, ym, yn, yop, ykey, yoth, yitem, yqty, ydq, ydn, ydc, yaop, yaerr, yacnt, ylq, yln, ylc, ybq, ybn, ybc⟩ ⟨xt, xa, xm, xn, xop, xkey, xoth, xitem, xqty, xdq, xdn, xdc, xaop, xaerr, xacnt, xlq, xln, xlc, xbq, xbn, xbc⟩ := ⟨_, rfl⟩
                have HV2 := Lib.hid hv
                have HV := Lib.hid hv
                clear hv
                go_cut [105] from 62 to 105 (fun c wx => c = .bool v ∧ Hid (Below w4.heap.size w4 wx))
                case first =>
                  clear HV2
                  have c0 := HX4.out.got 0 _ rfl
                  have c12 := HX4.out.got 12 _ rfl
                  have c13 := HX4.out.got 13 _ rfl
                  have d0 := HY4.out.got 0 _ rfl
                  have d12 := HY4.out.got 12 _ rfl
                  have d13 := HY4.out.got 13 _ rfl
                  by_cases h1 : xa ≤ ya
                  · have hv : v = true := by rw [HV.out]; simp [rbad2, h1]
                    subst hv
                    clear HV
                    go_wp2_with fail
                    go_meet
                    exact ⟨rfl, Lib.hid (Below.refl _ _)⟩
                  · have g1 : ya < xa := by omega
                    by_cases h2 : xm = -1
                    · have h2' : (xm == -1) = true := by simpa using h2
                      have h2n : (xm != -1) = false := by simpa using h2
                      by_cases h4 : xt = yt
                      · subst h4
                        by_cases h5 : ym = -1
                        · subst h5
                          have hv : v = false := by rw [HV.out]; simp [rbad2, h1, h2]
                          subst hv
                          clear HV
                          go_wp2_with fail
                          go_meet
                          exact ⟨rfl, Lib.hid (Below.refl _ _)⟩
                        · have h5' : (ym == -1) = false := by simpa using h5
                          have h5n : (ym != -1) = true := by simpa using h5
                          have hv : v = !befB ⟨xt, ya, ym, yn, yop, ykey, yoth, yitem, yqty, ydq, ydn, ydc, yaop, yaerr, yacnt, ylq, yln, ylc, ybq, ybn, ybc⟩ ⟨xt, xa, xm, xn, xop, xkey, xoth, xitem, xqty, xdq, xdn, xdc, xaop, xaerr, xacnt, xlq, xln, xlc, xbq, xbn, xbc⟩ := by rw [HV.out]; simp [rbad2, h1, h2, h5]
                          have HBF := Lib.hid (fun w' => refBefore_any w' ⟨xt, ya, ym, yn, yop, ykey, yoth, yitem, yqty, ydq, ydn, ydc, yaop, yaerr, yacnt, ylq, yln, ylc, ybq, ybn, ybc⟩ ⟨xt, xa, xm, xn, xop, xkey, xoth, xitem, xqty, xdq, xdn, xdc, xaop, xaerr, xacnt, xlq, xln, xlc, xbq, xbn, xbc⟩)
                          simp only [Ev.agg] at HBF
                          generalize befB ⟨xt, ya, ym, yn, yop, ykey, yoth, yitem, yqty, ydq, ydn, ydc, yaop, yaerr, yacnt, ylq, yln, ylc, ybq, ybn, ybc⟩ ⟨xt, xa, xm, xn, xop, xkey, xoth, xitem, xqty, xdq, xdn, xdc, xaop, xaerr, xacnt, xlq, xln, xlc, xbq, xbn, xbc⟩ = eb at *
                          subst hv
                          clear HV h2
                          go_wp2_with (first | refine wpList_ldg (by rfl) 41 (.tmp 6) rfl zy 0 rfl #[.int .i64 xt, .int .i64 yop, .string ykey, .string yoth, .string yitem, .int .i64 yqty, .slice ydq ydn ydc, .int .i64 yaop, .int .i64 yaerr, .int .i64 yacnt, .slice ylq yln ylc, .slice ybq ybn ybc, .int .i64 ya, .int .i64 ym, .int .i64 yn] [.int .i64 xt, .int .i64 yop, .string ykey, .string yoth, .string yitem, .int .i64 yqty, .slice ydq ydn ydc, .int .i64 yaop, .int .i64 yaerr, .int .i64 yacnt, .slice ylq yln ylc, .slice ybq ybn ybc, .int .i64 ya, .int .i64 ym, .int .i64 yn] rfl _ HY4.out.range Try.underlying41 rfl info41 ?_ | refine wpList_ldg (by rfl) 41 (.tmp 4) rfl z 0 rfl #[.int .i64 xt, .int .i64 xop, .string xkey, .string xoth, .string xitem, .int .i64 xqty, .slice xdq xdn xdc, .int .i64 xaop, .int .i64 xaerr, .int .i64 xacnt, .slice xlq xln xlc, .slice xbq xbn xbc, .int .i64 xa, .int .i64 xm, .int .i64 xn] [.int .i64 xt, .int .i64 xop, .string xkey, .string xoth, .string xitem, .int .i64 xqty, .slice xdq xdn xdc, .int .i64 xaop, .int .i64 xaerr, .int .i64 xacnt, .slice xlq xln xlc, .slice xbq xbn xbc, .int .i64 xa, .int .i64 xm, .int .i64 xn] rfl _ HX4.out.range Try.underlying41 rfl info41 ?_)
                          refine (HBF.out _).mono ?_
                          rintro e w5 ⟨rfl, hb5⟩
                          have HB5 := Lib.hid hb5
                          clear hb5 HBF
                          go_wp2_with fail
                          go_meet
                          exact ⟨rfl, HB5⟩
                      · have h4' : (xt == yt) = false := by simpa using h4
                        have hv : v = false := by rw [HV.out]; simp [rbad2, h1, h2, h4]
                        subst hv
                        clear HV
                        go_wp2_with fail
                        go_meet
                        exact ⟨rfl, Lib.hid (Below.refl _ _)⟩
                    · have h2' : (xm == -1) = false := by simpa using h2
                      have h2n : (xm != -1) = true := by simpa using h2
                      by_cases h3 : xm = ym
                      · have h3' : (xm == ym) = true := by simpa using h3
                        have hv : v = true := by rw [HV.out]; simp [rbad2, ← h3, h2]
                        subst hv
                        clear HV
                        go_wp2_with fail
                        go_meet
                        exact ⟨rfl, Lib.hid (Below.refl _ _)⟩
                      · have h3' : (xm == ym) = false := by simpa using h3
                        by_cases h4 : xt = yt
                        · subst h4
                          by_cases h5 : ym = -1
                          · subst h5
                            have hv : v = false := by rw [HV.out]; simp [rbad2, h1, h2, h3]
                            subst hv
                            clear HV
                            go_wp2_with fail
                            go_meet
                            exact ⟨rfl, Lib.hid (Below.refl _ _)⟩
                          · have h5' : (ym == -1) = false := by simpa using h5
                            have h5n : (ym != -1) = true := by simpa using h5
                            have hv : v = !befB ⟨xt, ya, ym, yn, yop, ykey, yoth, yitem, yqty, ydq, ydn, ydc, yaop, yaerr, yacnt, ylq, yln, ylc, ybq, ybn, ybc⟩ ⟨xt, xa, xm, xn, xop, xkey, xoth, xitem, xqty, xdq, xdn, xdc, xaop, xaerr, xacnt, xlq, xln, xlc, xbq, xbn, xbc⟩ := by rw [HV.out]; simp [rbad2, h1, h2, h3, h5]
                            have HBF := Lib.hid (fun w' => refBefore_any w' ⟨xt, ya, ym, yn, yop, ykey, yoth, yitem, yqty, ydq, ydn, ydc, yaop, yaerr, yacnt, ylq, yln, ylc, ybq, ybn, ybc⟩ ⟨xt, xa, xm, xn, xop, xkey, xoth, xitem, xqty, xdq, xdn, xdc, xaop, xaerr, xacnt, xlq, xln, xlc, xbq, xbn, xbc⟩)
                            simp only [Ev.agg] at HBF
                            generalize befB ⟨xt, ya, ym, yn, yop, ykey, yoth, yitem, yqty, ydq, ydn, ydc, yaop, yaerr, yacnt, ylq, yln, ylc, ybq, ybn, ybc⟩ ⟨xt, xa, xm, xn, xop, xkey, xoth, xitem, xqty, xdq, xdn, xdc, xaop, xaerr, xacnt, xlq, xln, xlc, xbq, xbn, xbc⟩ = eb at *
                            subst hv
                            clear HV h2
                            go_wp2_with (first | refine wpList_ldg (by rfl) 41 (.tmp 6) rfl zy 0 rfl #[.int .i64 xt, .int .i64 yop, .string ykey, .string yoth, .string yitem, .int .i64 yqty, .slice ydq ydn ydc, .int .i64 yaop, .int .i64 yaerr, .int .i64 yacnt, .slice ylq yln ylc, .slice ybq ybn ybc, .int .i64 ya, .int .i64 ym, .int .i64 yn] [.int .i64 xt, .int .i64 yop, .string ykey, .string yoth, .string yitem, .int .i64 yqty, .slice ydq ydn ydc, .int .i64 yaop, .int .i64 yaerr, .int .i64 yacnt, .slice ylq yln ylc, .slice ybq ybn ybc, .int .i64 ya, .int .i64 ym, .int .i64 yn] rfl _ HY4.out.range Try.underlying41 rfl info41 ?_ | refine wpList_ldg (by rfl) 41 (.tmp 4) rfl z 0 rfl #[.int .i64 xt, .int .i64 xop, .string xkey, .string xoth, .string xitem, .int .i64 xqty, .slice xdq xdn xdc, .int .i64 xaop, .int .i64 xaerr, .int .i64 xacnt, .slice xlq xln xlc, .slice xbq xbn xbc, .int .i64 xa, .int .i64 xm, .int .i64 xn] [.int .i64 xt, .int .i64 xop, .string xkey, .string xoth, .string xitem, .int .i64 xqty, .slice xdq xdn xdc, .int .i64 xaop, .int .i64 xaerr, .int .i64 xacnt, .slice xlq xln xlc, .slice xbq xbn xbc, .int .i64 xa, .int .i64 xm, .int .i64 xn] rfl _ HX4.out.range Try.underlying41 rfl info41 ?_)
                            refine (HBF.out _).mono ?_
                            rintro e w5 ⟨rfl, hb5⟩
                            have HB5 := Lib.hid hb5
                            clear hb5 HBF
                            go_wp2_with fail
                            go_meet
                            exact ⟨rfl, HB5⟩
                        · have h4' : (xt == yt) = false := by simpa using h4
                          have hv : v = false := by rw [HV.out]; simp [rbad2, h1, h2, h3, h4]
                          subst hv
                          clear HV
                          go_wp2_with fail
                          go_meet
                          exact ⟨rfl, Lib.hid (Below.refl _ _)⟩
                case rest =>
                  obtain ⟨rfl, H5⟩ := hcut
                  have HWQ5 := Lib.hid (HWQ4.out.trans (H5.out.mono HWQ4.out.size))
                  clear H5 HWQ4 HX4 HY4
                  generalize wc = w5 at *
                  cases v with
                  | true =>
                    have HE : Hid (¬ RV l) := Lib.hid (fun h => by have := (h.2 k _ (by rw [HN.out]; exact hlt) HLX.out).2 j _ hjt HLY.out; rw [← HV2.out] at this; cases this)
                    go_wp2_with fail
                    go_ret
                    exact ⟨false, rfl, by simp [HE.out], HW2.out.trans (HWQ5.out.mono HW2.out.size)⟩
                  | false =>
                    have HNX := Lib.hid (show ∀ (i : Nat) (y : Ev), i < j + 1 → l[i]? = some y → rbad2 y ⟨xt, xa, xm, xn, xop, xkey, xoth, xitem, xqty, xdq, xdn, xdc, xaop, xaerr, xacnt, xlq, xln, xlc, xbq, xbn, xbc⟩ = false from fun i y hi hy => by
                      by_cases e : i = j
                      · subst e
                        rw [HLY.out] at hy
                        injection hy with hy
                        subst hy
                        exact HV2.out.symm
                      · exact HJ.out i y (by omega) hy)
                    clear HV HV2 HLY
                    go_wp2_with fail
                    go_roundw
                    case rel => exact ⟨j + 1, by omega, by go_num, HNX, HWQ5⟩
                    case measure => simp [intOf]; omega
              · have hje : j = k := by omega
                subst hje
                have HNX := Lib.hid (HI.out.next HLX.out HV.out.symm HJ.out)
                clear HV HJ HLX
                go_wp2_with fail
                go_roundw
                case rel => exact ⟨j + 1, by omega, by go_num, HNX, HWR⟩
                case measure => simp [intOf]; omega
      · have hkn : k = n := by omega
        subst hkn
        have HE : Hid (RV l) := Lib.hid ⟨by have := HP.out; omega, by rw [HN.out]; exact HI.out⟩
        go_wp2_with fail
        go_ret
        exact ⟨true, rfl, by simp [HE.out], HW.out⟩
end Go.Proofs.Ytbkkplednfdfdaa
