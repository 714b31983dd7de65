/- at and wrong of the chapter's examples. Printed by hist_o.py. -/
import Derived.Test.YtbkkplednfdfdaaMk
import Derived.Test.YtbkkplednfdfdaaOf
namespace Go.Proofs.Ytbkkplednfdfdaa
open Go.RowKit Go.Maps

set_option maxRecDepth 100000 in
set_option maxHeartbeats 4000000 in
theorem at_ok (w : World) (x : Ev) (t a m n : Int) (h0 : x.task = t) (h1 : x.asked = a) (h2 : x.made = m) (h3 : x.ans = n) :
    Calls Try.prog 24 #[x.agg, .int .i64 t, .int .i64 a, .int .i64 m, .int .i64 n] w fun e w' => e = .returned (.bool true) ∧ Below w.heap.size w w' := by
  subst h0 h1 h2 h3
  have HB := Lib.hid (below_al (Below.refl w.heap.size w) (.cells x.cells.toArray 41))
  obtain ⟨xt, xa, xm, xn, xop, xkey, xoth, xitem, xqty, xdq, xdn, xdc, xaop, xaerr, xacnt, xlq, xln, xlc, xbq, xbn, xbc⟩ := x
  simp only [Ev.agg, Ev.cells] at HB ⊢
  go_enter Try.func24, Try.ntmps24
  go_wp2_with fail
  go_ret
  exact ⟨rfl, HB.out⟩
/-- wrong, of steps without lists. -/
theorem wrong_ok (w : World) (p : Option Addr) (n c : Nat) (no : Int) (l : List Zd) (h : Rd w w.heap.size p (dis (l.map Zd.di))) (hn : l.length = n) (hc : n ≤ c) (hl : n ≤ 1000) (hp : pof (l.map Zd.pd) = ([], no)) :
    Calls Try.prog 25 #[.int .i64 no, .slice p n c] w fun e w' => e = .returned (.bool true) ∧ Below w.heap.size w w' := by
  have HO := Lib.hid (show Calls Try.prog 9 #[.slice p n c] w (RetOf w (l.map Zd.pd)) by
    have := of_any w p c (l.map Zd.di) (l.map Zd.pd) h (by simp) (by simpa [hn] using hc) (by simp; omega) (fun j d q hd hq => by
      rw [List.getElem?_map] at hd hq
      cases hz : l[j]? with
      | none => rw [hz] at hd; cases hd
      | some z =>
        rw [hz] at hd hq
        injection hd with hd
        injection hq with hq
        subst hd hq
        exact ⟨z.r (fun t => Rd.nil _ _ _), z.ok⟩)
    simpa [hn] using this)
  have HP := Lib.hid hp
  clear h hn hc hl hp
  go_enter Try.func25, Try.ntmps25
  go_wp2_with fail
  refine HO.out.mono ?_
  rintro e w1 ⟨hb, q, c', es, rfl, hown, hlen, -⟩
  have hes : es = [] := by rw [HP.out] at hlen; exact List.eq_nil_of_length_eq_zero hlen
  subst hes
  rw [HP.out]
  have HB := Lib.hid hb
  clear hb hown hlen
  go_wp2_with fail
  go_ret
  exact ⟨by simp, HB.out⟩
end Go.Proofs.Ytbkkplednfdfdaa
