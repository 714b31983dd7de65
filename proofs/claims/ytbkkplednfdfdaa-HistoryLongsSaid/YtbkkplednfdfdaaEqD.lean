/- Events, compared by the reference. Printed by hist_s.py. -/
import Derived.Test.YtbkkplednfdfdaaEqC
namespace Go.Proofs.Ytbkkplednfdfdaa
open Go.RowKit Go.Maps

/-- A part of a block. -/
theorem Blk.sub {w : World} {g : Nat} {t : TypeId} (a m b : List Value) (h : Blk w g t (a ++ m ++ b)) : w.rangeAt g a.length m := fun j v hj => by
  rw [h.cell, List.append_assoc, List.getElem?_append_right (by omega), List.getElem?_append_left (by have := (List.getElem?_eq_some_iff.1 hj).1; omega)]
  rw [show a.length + j - a.length = j by omega]
  exact hj
def eqE (p q : PE) : Bool := decide (p.task = q.task) && decide (p.asked = q.asked) && decide (p.made = q.made) && decide (p.ans = q.ans) && eqC p.c q.c && eqA p.a q.a
theorem eqE_refl (p : PE) : eqE p p = true := by simp [eqE, eqC, eqA]
set_option maxRecDepth 100000 in
set_option maxHeartbeats 4000000 in
theorem refEqual_any (w : World) (x y : Ev) (p q : PE) (hx : EvR (RdW w w.heap.size) x p) (hy : EvR (RdW w w.heap.size) y q) (hpa : p.a.ok) (hqa : q.a.ok) :
    Calls Try.prog 21 #[x.agg, y.agg] w fun e w' => e = .returned (.bool (eqE p q)) ∧ Below w.heap.size w w' := by
  have HB := Lib.hid (below_al (below_al (Below.refl w.heap.size w) (.cells x.cells.toArray 41)) (.cells y.cells.toArray 41))
  obtain ⟨xt, xa, xm, xn, xop, xkey, xoth, xitem, xqty, xdq, xdn, xdc, xaop, xaerr, xacnt, xlq, xln, xlc, xbq, xbn, xbc⟩ := x
  obtain ⟨yt, ya, ym, yn, yop, ykey, yoth, yitem, yqty, ydq, ydn, ydc, yaop, yaerr, yacnt, ylq, yln, ylc, ybq, ybn, ybc⟩ := y
  obtain ⟨pt, pa, pm, pn, pc, pA⟩ := p
  obtain ⟨qt, qa, qm, qn, qc, qA⟩ := q
  obtain ⟨rfl, rfl, rfl, rfl, hxc, hxa⟩ := hx
  obtain ⟨rfl, rfl, rfl, rfl, hyc, hya⟩ := hy
  simp only [Ev.agg, Ev.cells] at HB ⊢
  simp only at hpa hqa hxc hxa hyc hya
  have HXC := Lib.hid hxc
  have HXA := Lib.hid hxa
  have HYC := Lib.hid hyc
  have HYA := Lib.hid hya
  have HPA := Lib.hid hpa
  have HQA := Lib.hid hqa
  obtain ⟨r, hr⟩ : ∃ r, eqE ⟨xt, xa, xm, xn, pc, pA⟩ ⟨yt, ya, ym, yn, qc, qA⟩ = r := ⟨_, rfl⟩
  have HR := Lib.hid hr
  rw [hr]
  have HBX := Lib.hid ((Blk.new w 41 [.int .i64 xt, .int .i64 xop, .string xkey, .string xoth, .string xitem, .int .i64 xqty, .slice xdq xdn xdc, .int .i64 xaop, .int .i64 xaerr, .int .i64 xacnt, .slice xlq xln xlc, .slice xbq xbn xbc, .int .i64 xa, .int .i64 xm, .int .i64 xn]).alloc (.cells #[.int .i64 yt, .int .i64 yop, .string ykey, .string yoth, .string yitem, .int .i64 yqty, .slice ydq ydn ydc, .int .i64 yaop, .int .i64 yaerr, .int .i64 yacnt, .slice ylq yln ylc, .slice ybq ybn ybc, .int .i64 ya, .int .i64 ym, .int .i64 yn] 41))
  have HBY := Lib.hid (Blk.new' (n := w.heap.size + 1) (w.alloc (.cells #[.int .i64 xt, .int .i64 xop, .string xkey, .string xoth, .string xitem, .int .i64 xqty, .slice xdq xdn xdc, .int .i64 xaop, .int .i64 xaerr, .int .i64 xacnt, .slice xlq xln xlc, .slice xbq xbn xbc, .int .i64 xa, .int .i64 xm, .int .i64 xn] 41)) 41 [.int .i64 yt, .int .i64 yop, .string ykey, .string yoth, .string yitem, .int .i64 yqty, .slice ydq ydn ydc, .int .i64 yaop, .int .i64 yaerr, .int .i64 yacnt, .slice ylq yln ylc, .slice ybq ybn ybc, .int .i64 ya, .int .i64 ym, .int .i64 yn] (by simp))
  clear hxc hxa hyc hya hr hpa hqa
  go_enter Try.func21, Try.ntmps21
  go_upto_region 1 with fail
  obtain ⟨z, hz⟩ : ∃ z, w.heap.size = z := ⟨_, rfl⟩
  have HZ := Lib.hid hz
  rw [hz] at HBX HBY ⊢
  clear hz
  generalize (w.alloc (.cells #[.int .i64 xt, .int .i64 xop, .string xkey, .string xoth, .string xitem, .int .i64 xqty, .slice xdq xdn xdc, .int .i64 xaop, .int .i64 xaerr, .int .i64 xacnt, .slice xlq xln xlc, .slice xbq xbn xbc, .int .i64 xa, .int .i64 xm, .int .i64 xn] 41)).alloc (.cells #[.int .i64 yt, .int .i64 yop, .string ykey, .string yoth, .string yitem, .int .i64 yqty, .slice ydq ydn ydc, .int .i64 yaop, .int .i64 yaerr, .int .i64 yacnt, .slice ylq yln ylc, .slice ybq ybn ybc, .int .i64 ya, .int .i64 ym, .int .i64 yn] 41) = w1 at *
  have xc0 := HBX.out.got 0 _ rfl
  have xc12 := HBX.out.got 12 _ rfl
  have xc13 := HBX.out.got 13 _ rfl
  have xc14 := HBX.out.got 14 _ rfl
  have yc0 := HBY.out.got 0 _ rfl
  have yc12 := HBY.out.got 12 _ rfl
  have yc13 := HBY.out.got 13 _ rfl
  have yc14 := HBY.out.got 14 _ rfl
  by_cases h0 : xt = yt
  · subst h0
    by_cases h1 : xa = ya
    · subst h1
      by_cases h2 : xm = ym
      · subst h2
        by_cases h3 : xn = yn
        · subst h3
          go_wp2_with (first | refine wpList_ldg (by rfl) 39 (.tmp 32) rfl z 1 rfl #[.int .i64 xop, .string xkey, .string xoth, .string xitem, .int .i64 xqty, .slice xdq xdn xdc] [.int .i64 xop, .string xkey, .string xoth, .string xitem, .int .i64 xqty, .slice xdq xdn xdc] rfl _ (HBX.out.sub [_] [.int .i64 xop, .string xkey, .string xoth, .string xitem, .int .i64 xqty, .slice xdq xdn xdc] [_, _, _, _, _, _, _, _]) Try.underlying39 rfl info39 ?_ | refine wpList_ldg (by rfl) 39 (.tmp 34) rfl (z + 1) 1 rfl #[.int .i64 yop, .string ykey, .string yoth, .string yitem, .int .i64 yqty, .slice ydq ydn ydc] [.int .i64 yop, .string ykey, .string yoth, .string yitem, .int .i64 yqty, .slice ydq ydn ydc] rfl _ (HBY.out.sub [_] [.int .i64 yop, .string ykey, .string yoth, .string yitem, .int .i64 yqty, .slice ydq ydn ydc] [_, _, _, _, _, _, _, _]) Try.underlying39 rfl info39 ?_)
          refine (sameCall_any _ xop xkey xoth xitem xqty xdq xdn xdc pc yop ykey yoth yitem yqty ydq ydn ydc qc (HXC.out.imp (fun p xs h => Rd.kept h HB.out)) (HYC.out.imp (fun p xs h => Rd.kept h HB.out))).mono ?_
          rintro e w2 ⟨rfl, hb2⟩
          have HB2 := Lib.hid (HB.out.trans (hb2.mono HB.out.size))
          have HBX2 := Lib.hid (HBX.out.kept hb2)
          have HBY2 := Lib.hid (HBY.out.kept hb2)
          clear hb2 HBX HBY
          obtain ⟨ec, hec⟩ : ∃ ec, eqC pc qc = ec := ⟨_, rfl⟩
          rw [hec]
          have HEC := Lib.hid hec
          clear hec xc0 xc12 xc13 xc14 yc0 yc12 yc13 yc14
          cases ec with
          | false =>
            have hv : r = false := by rw [← HR.out]; simp [eqE, HEC.out]
            subst hv
            clear HR
            go_wp2_with fail
            go_ret
            exact ⟨rfl, HB2.out⟩
          | true =>
            go_wp2_with (first | refine wpList_ldg (by rfl) 36 (.tmp 39) rfl z 7 rfl #[.int .i64 xaop, .int .i64 xaerr, .int .i64 xacnt, .slice xlq xln xlc, .slice xbq xbn xbc] [.int .i64 xaop, .int .i64 xaerr, .int .i64 xacnt, .slice xlq xln xlc, .slice xbq xbn xbc] rfl _ (HBX2.out.sub [_, _, _, _, _, _, _] [.int .i64 xaop, .int .i64 xaerr, .int .i64 xacnt, .slice xlq xln xlc, .slice xbq xbn xbc] [_, _, _]) Try.underlying36 rfl info36 ?_ | refine wpList_ldg (by rfl) 36 (.tmp 41) rfl (z + 1) 7 rfl #[.int .i64 yaop, .int .i64 yaerr, .int .i64 yacnt, .slice ylq yln ylc, .slice ybq ybn ybc] [.int .i64 yaop, .int .i64 yaerr, .int .i64 yacnt, .slice ylq yln ylc, .slice ybq ybn ybc] rfl _ (HBY2.out.sub [_, _, _, _, _, _, _] [.int .i64 yaop, .int .i64 yaerr, .int .i64 yacnt, .slice ylq yln ylc, .slice ybq ybn ybc] [_, _, _]) Try.underlying36 rfl info36 ?_)
            refine (sameAnswer_any _ xaop xaerr xacnt xlq xln xlc xbq xbn xbc pA yaop yaerr yacnt ylq yln ylc ybq ybn ybc qA (HXA.out.imp (fun _ p xs h => Rd.kept h HB2.out)) (HYA.out.imp (fun _ p xs h => Rd.kept h HB2.out)) HPA.out HQA.out).mono ?_
            rintro e w3 ⟨rfl, hb3⟩
            have HB3 := Lib.hid (HB2.out.trans (hb3.mono HB2.out.size))
            clear hb3 HBX2 HBY2
            have hv : eqA pA qA = r := by rw [← HR.out]; simp [eqE, HEC.out]
            rw [hv]
            clear hv HR HEC
            go_wp2_with fail
            go_ret
            exact ⟨rfl, HB3.out⟩
        · have g3 : (xn == yn) = false := by simpa using h3
          have hv : r = false := by rw [← HR.out]; simp [eqE, h3]
          subst hv
          clear HR
          clear h3
          go_wp2_with fail
          go_ret
          exact ⟨rfl, HB.out⟩
      · have g2 : (xm == ym) = false := by simpa using h2
        have hv : r = false := by rw [← HR.out]; simp [eqE, h2]
        subst hv
        clear HR
        clear h2
        go_wp2_with fail
        go_ret
        exact ⟨rfl, HB.out⟩
    · have g1 : (xa == ya) = false := by simpa using h1
      have hv : r = false := by rw [← HR.out]; simp [eqE, h1]
      subst hv
      clear HR
      clear h1
      go_wp2_with fail
      go_ret
      exact ⟨rfl, HB.out⟩
  · have g0 : (xt == yt) = false := by simpa using h0
    have hv : r = false := by rw [← HR.out]; simp [eqE, h0]
    subst hv
    clear HR
    clear h0
    go_wp2_with fail
    go_ret
    exact ⟨rfl, HB.out⟩
end Go.Proofs.Ytbkkplednfdfdaa
