/- Whether an event's indices fit. Printed by hist_m.py. -/
import Derived.Test.YtbkkplednfdfdaaEvsA
import Derived.Test.YtbkkplednfdfdaaLd
import Derived.Test.YtbkkplednfdfdaaSteps
namespace Go.Proofs.Ytbkkplednfdfdaa
open Go.RowKit Go.Maps

def rightB (x : Ev) : Bool := !decide (x.asked < 0) && !decide (x.task < 0) && !decide (9999 < x.task) && (if x.made = -1 then decide (x.ans = -1) else decide (x.asked ≤ x.made) && (decide (x.ans = -1) || decide (x.made ≤ x.ans)))
set_option maxRecDepth 100000 in
set_option maxHeartbeats 4000000 in
theorem right_any (w : World) (x : Ev) : Calls Try.prog 30 #[x.agg] w fun e w' => e = .returned (.bool (rightB x)) ∧ Below w.heap.size w w' := by
  have HB := Lib.hid (below_al (Below.refl w.heap.size w) (.cells x.cells.toArray 41))
  obtain ⟨xt, xa, xm, xn, xop, xkey, xoth, xitem, xqty, xdq, xdn, xdc, xaop, xaerr, xacnt, xlq, xln, xlc, xbq, xbn, xbc⟩ := x
  simp only [Ev.agg, Ev.cells] at HB ⊢
  obtain ⟨r, hr⟩ : ∃ r, rightB ⟨xt, xa, xm, xn, xop, xkey, xoth, xitem, xqty, xdq, xdn, xdc, xaop, xaerr, xacnt, xlq, xln, xlc, xbq, xbn, xbc⟩ = r := ⟨_, rfl⟩
  rw [hr]
  by_cases h1 : xa < 0
  · have hv : r = false := by rw [← hr]; simp [rightB, h1]
    subst hv
    clear hr
    go_enter Try.func30, Try.ntmps30
    go_wp2_with fail
    go_ret
    exact ⟨rfl, HB.out⟩
  · by_cases h2 : xt < 0
    · have g1 : 0 ≤ xa := by omega
      have hv : r = false := by rw [← hr]; simp [rightB, h2]
      subst hv
      clear hr
      go_enter Try.func30, Try.ntmps30
      go_wp2_with fail
      go_ret
      exact ⟨rfl, HB.out⟩
    · by_cases h3 : 9999 < xt
      · have g1 : 0 ≤ xa := by omega
        have g2 : 0 ≤ xt := by omega
        have hv : r = false := by rw [← hr]; simp [rightB, h3]
        subst hv
        clear hr
        go_enter Try.func30, Try.ntmps30
        go_wp2_with fail
        go_ret
        exact ⟨rfl, HB.out⟩
      · have g1 : 0 ≤ xa := by omega
        have g2 : 0 ≤ xt := by omega
        have g3 : xt ≤ 9999 := by omega
        by_cases h4 : xm = -1
        · subst h4
          by_cases h5 : xn = -1
          · subst h5
            have hv : r = true := by rw [← hr]; simp [rightB, h1, h2, h3]
            subst hv
            clear hr
            go_enter Try.func30, Try.ntmps30
            go_wp2_with fail
            go_ret
            exact ⟨rfl, HB.out⟩
          · have h5' : (xn == -1) = false := by simpa using h5
            have hv : r = false := by rw [← hr]; simp [rightB, h1, h2, h3, h5]
            subst hv
            clear hr
            go_enter Try.func30, Try.ntmps30
            go_wp2_with fail
            go_ret
            exact ⟨rfl, HB.out⟩
        · have h4' : (xm == -1) = false := by simpa using h4
          by_cases h6 : xa ≤ xm
          · by_cases h5 : xn = -1
            · subst h5
              have hv : r = true := by rw [← hr]; simp [rightB, h1, h2, h3, h4, h6]
              subst hv
              clear hr
              go_enter Try.func30, Try.ntmps30
              go_wp2_with fail
              go_ret
              exact ⟨rfl, HB.out⟩
            · have h5' : (xn == -1) = false := by simpa using h5
              by_cases h7 : xm ≤ xn
              · have hv : r = true := by rw [← hr]; simp [rightB, h1, h2, h3, h4, h5, h6, h7]
                subst hv
                clear hr
                go_enter Try.func30, Try.ntmps30
                go_wp2_with fail
                go_ret
                exact ⟨rfl, HB.out⟩
              · have h7' : xn < xm := by omega
                have hv : r = false := by rw [← hr]; simp [rightB, h1, h2, h3, h4, h5, h6, h7]
                subst hv
                clear hr
                go_enter Try.func30, Try.ntmps30
                go_wp2_with fail
                go_ret
                exact ⟨rfl, HB.out⟩
          · have h6' : xm < xa := by omega
            have hv : r = false := by rw [← hr]; simp [rightB, h1, h2, h3, h4, h6]
            subst hv
            clear hr
            go_enter Try.func30, Try.ntmps30
            go_wp2_with fail
            go_ret
            exact ⟨rfl, HB.out⟩
end Go.Proofs.Ytbkkplednfdfdaa
