/- Calls, compared by the reference. Printed by hist_q.py. -/
import Derived.Test.YtbkkplednfdfdaaEqA
namespace Go.Proofs.Ytbkkplednfdfdaa
open Go.RowKit Go.Maps

def eqC (c d : PC) : Bool := decide (c.op = d.op) && decide (c.key = d.key) && decide (c.oth = d.oth) && decide (c.item = d.item) && decide (c.qty = d.qty) && decide (strOfNums c.data = strOfNums d.data)
set_option maxRecDepth 100000 in
set_option maxHeartbeats 4000000 in
theorem sameCall_any (w : World) (xop : Int) (xkey xoth xitem : ByteArray) (xqty : Int) (xdq : Option Addr) (xdn xdc : Nat) (x : PC) (yop : Int) (ykey yoth yitem : ByteArray) (yqty : Int) (ydq : Option Addr) (ydn ydc : Nat) (y : PC)
    (hx : CR (RdW w w.heap.size) xop xkey xoth xitem xqty xdq xdn xdc x) (hy : CR (RdW w w.heap.size) yop ykey yoth yitem yqty ydq ydn ydc y) :
    Calls Try.prog 34 #[.agg #[.int .i64 xop, .string xkey, .string xoth, .string xitem, .int .i64 xqty, .slice xdq xdn xdc], .agg #[.int .i64 yop, .string ykey, .string yoth, .string yitem, .int .i64 yqty, .slice ydq ydn ydc]] w fun e w' => e = .returned (.bool (eqC x y)) ∧ Below w.heap.size w w' := by
  have HB := Lib.hid (below_al (below_al (Below.refl w.heap.size w) (.cells #[.int .i64 xop, .string xkey, .string xoth, .string xitem, .int .i64 xqty, .slice xdq xdn xdc] 39)) (.cells #[.int .i64 yop, .string ykey, .string yoth, .string yitem, .int .i64 yqty, .slice ydq ydn ydc] 39))
  obtain ⟨xop', xkey', xoth', xitem', xqty', xdat⟩ := x
  obtain ⟨yop', ykey', yoth', yitem', yqty', ydat⟩ := y
  obtain ⟨rfl, rfl, rfl, rfl, rfl, rfl, -, hxr⟩ := hx
  obtain ⟨rfl, rfl, rfl, rfl, rfl, rfl, -, hyr⟩ := hy
  have H1 := Lib.hid (conv_any (hxr.kept HB.out) xdc)
  have H2 := Lib.hid (conv_any (hyr.kept HB.out) ydc)
  clear hxr hyr
  obtain ⟨r, hr⟩ : ∃ r, eqC ⟨xop, xkey, xoth, xitem, xqty, xdat⟩ ⟨yop, ykey, yoth, yitem, yqty, ydat⟩ = r := ⟨_, rfl⟩
  rw [hr]
  by_cases h0 : xop = yop
  · subst h0
    by_cases h1 : xkey = ykey
    · subst h1
      by_cases h2 : xoth = yoth
      · subst h2
        by_cases h3 : xitem = yitem
        · subst h3
          by_cases h4 : xqty = yqty
          · subst h4
            by_cases h5 : strOfNums xdat = strOfNums ydat
            · have hv : r = true := by rw [← hr]; simp [eqC, h5]
              subst hv
              clear hr
              rw [h5] at H1
              generalize strOfNums ydat = t at H1 H2
              generalize xdat.length = xdn at *
              generalize ydat.length = ydn at *
              clear h5
              have c1 := H1.out
              have c2 := H2.out
              go_enter Try.func34, Try.ntmps34
              go_wp2_with fail
              go_ret
              exact ⟨rfl, HB.out⟩
            · have hv : r = false := by rw [← hr]; simp [eqC, h5]
              subst hv
              clear hr
              have g5 : ((strOfNums xdat).toList == (strOfNums ydat).toList) = false := by rw [str_beq]; simpa using h5
              generalize strOfNums xdat = s at *
              generalize strOfNums ydat = t at *
              generalize xdat.length = xdn at *
              generalize ydat.length = ydn at *
              clear h5
              have c1 := H1.out
              have c2 := H2.out
              go_enter Try.func34, Try.ntmps34
              go_wp2_with fail
              go_ret
              exact ⟨rfl, HB.out⟩
          · have g4 : (xqty == yqty) = false := by simpa using h4
            have hv : r = false := by rw [← hr]; simp [eqC, h4]
            subst hv
            clear hr
            go_enter Try.func34, Try.ntmps34
            go_wp2_with fail
            go_ret
            exact ⟨rfl, HB.out⟩
        · have g3 : (xitem.toList == yitem.toList) = false := by rw [str_beq]; simpa using h3
          have hv : r = false := by rw [← hr]; simp [eqC, h3]
          subst hv
          clear hr
          go_enter Try.func34, Try.ntmps34
          go_wp2_with fail
          go_ret
          exact ⟨rfl, HB.out⟩
      · have g2 : (xoth.toList == yoth.toList) = false := by rw [str_beq]; simpa using h2
        have hv : r = false := by rw [← hr]; simp [eqC, h2]
        subst hv
        clear hr
        go_enter Try.func34, Try.ntmps34
        go_wp2_with fail
        go_ret
        exact ⟨rfl, HB.out⟩
    · have g1 : (xkey.toList == ykey.toList) = false := by rw [str_beq]; simpa using h1
      have hv : r = false := by rw [← hr]; simp [eqC, h1]
      subst hv
      clear hr
      go_enter Try.func34, Try.ntmps34
      go_wp2_with fail
      go_ret
      exact ⟨rfl, HB.out⟩
  · have g0 : (xop == yop) = false := by simpa using h0
    have hv : r = false := by rw [← hr]; simp [eqC, h0]
    subst hv
    clear hr
    go_enter Try.func34, Try.ntmps34
    go_wp2_with fail
    go_ret
    exact ⟨rfl, HB.out⟩
end Go.Proofs.Ytbkkplednfdfdaa
