/- HistoryValid, walked. Printed by hist_v.py. -/
import Derived.Test.YtbkkplednfdfdaaLawA
import Derived.Test.YtbkkplednfdfdaaEqE
import Derived.Test.YtbkkplednfdfdaaRefV
import Derived.Test.YtbkkplednfdfdaaPlainV
namespace Go.Proofs.Ytbkkplednfdfdaa
open Go.RowKit Go.Maps

theorem refValid_is (w : World) (p : Option Addr) (c : Nat) (l : List Ev) (h : Rd w w.heap.size p (evs l)) (hc : l.length ≤ c) (hn2 : l.length ≤ 9223372036854775807) :
    Calls Try.prog 19 #[.slice p l.length c] w fun e w' => e = .returned (.bool (validL l)) ∧ Below w.heap.size w w' :=
  (refValid_any w p c l h hc hn2).mono fun e w' ⟨r, he, hr, hb⟩ => ⟨by rw [he, show r = validL l from Bool.eq_iff_iff.2 (hr.trans (valid_iff l).symm)], hb⟩
set_option maxRecDepth 100000 in
set_option maxHeartbeats 4000000 in
theorem historyValid_walk (p0 : Option Addr) (c : Nat) (xs : List Ev) (x y : Ev) (W : World) (hr : Rd W W.heap.size p0 (evs xs)) (hc : xs.length ≤ c) (hm : c ≤ maxLen) (hok : ∀ x ∈ xs, EvOk W x) (hx : EvOk W x) (hy : EvOk W y) :
    Calls Try.prog 6 #[.slice p0 xs.length c, x.agg, y.agg] W fun e w' => e = .returned (.bool true) ∧ Below W.heap.size W w' := by
  obtain ⟨l, hl, hrel⟩ := choose_list hok
  obtain ⟨p, hxp, -⟩ := hx
  obtain ⟨q, hyq, -⟩ := hy
  have hn2 : xs.length ≤ 9223372036854775807 := by unfold maxLen at hm; omega
  have hmax : ∀ x ∈ xs, x.made ≤ 9223372036854775807 := fun x hx => by
    obtain ⟨r, h1, h2⟩ := hok x hx
    have := h2.made.2
    have := h1.made
    omega
  have HB := Lib.hid (below_al (below_al (Below.refl W.heap.size W) (.cells x.cells.toArray 41)) (.cells y.cells.toArray 41))
  have HS := Lib.hid (small_any ((W.alloc (.cells x.cells.toArray 41)).alloc (.cells y.cells.toArray 41)) p0 c xs l (hr.kept HB.out) hl hn2 (fun j x q hx hq => (hrel j x q hx hq).1.imp (fun _ _ _ h => Rd.kept h HB.out)))
  have HS2 := Lib.hid (fun (w : World) (hb : Below W.heap.size W w) => small_any (w.alloc (.cells (x.cells ++ y.cells).toArray 41)) (some ⟨w.heap.size, 0, none⟩) 2 [x, y] [p, q] (Rd.of_blk (Blk.new w 41 (x.cells ++ y.cells)) (by simp [evs])) rfl (by simp) (fun j z r hz hr => by
    match j, hz, hr with
    | 0, hz, hr =>
      simp at hz hr
      subst hz hr
      exact hxp.imp (fun _ _ _ h => Rd.kept h (below_al hb _))
    | 1, hz, hr =>
      simp at hz hr
      subst hz hr
      exact hyq.imp (fun _ _ _ h => Rd.kept h (below_al hb _))))
  have HK := Lib.hid known_any
  have HV := Lib.hid (fun w' (hb : Below W.heap.size W w') => valid_any w' p0 c xs (hr.kept hb) hc hn2 hmax)
  have HRV := Lib.hid (fun w' (hb : Below W.heap.size W w') => refValid_is w' p0 c xs (hr.kept hb) hc hn2)
  have HE := Lib.hid (fun w' (hb : Below W.heap.size W w') (h1 : p.a.ok) (h2 : q.a.ok) => equal_any w' x y p q (hxp.imp (fun _ _ _ h => Rd.kept h hb)) (hyq.imp (fun _ _ _ h => Rd.kept h hb)) h1 h2)
  have HEE := Lib.hid (fun w' (hb : Below W.heap.size W w') (h1 : p.a.ok) => equal_any w' x x p p (hxp.imp (fun _ _ _ h => Rd.kept h hb)) (hxp.imp (fun _ _ _ h => Rd.kept h hb)) h1 h1)
  have HRE := Lib.hid (fun w' (hb : Below W.heap.size W w') (h1 : p.a.ok) (h2 : q.a.ok) => refEqual_any w' x y p q (hxp.imp (fun _ _ _ h => Rd.kept h hb)) (hyq.imp (fun _ _ _ h => Rd.kept h hb)) h1 h2)
  have HBE := Lib.hid (fun w' => before_any w' x y)
  have HRB := Lib.hid (fun w' => refBefore_any w' x y)
  have HL := Lib.hid hl
  clear hr hm hok hrel hxp hyq hmax hn2
  obtain ⟨n, hn⟩ : ∃ n, xs.length = n := ⟨_, rfl⟩
  rw [hn] at HS HV HRV HL hc ⊢
  obtain ⟨v, hv⟩ : ∃ v, validL xs = v := ⟨_, rfl⟩
  obtain ⟨u, hu⟩ : ∃ u, eqE p q = u := ⟨_, rfl⟩
  obtain ⟨f, hf⟩ : ∃ f, befB x y = f := ⟨_, rfl⟩
  have hpp := eqE_refl p
  rw [hv] at HV HRV
  rw [hu] at HE HRE
  rw [hpp] at HEE
  rw [hf] at HBE HRB
  clear hn hl hv hu hf hpp
  have HBX := Lib.hid ((Blk.new W 41 x.cells).alloc (.cells y.cells.toArray 41))
  have HBY := Lib.hid (Blk.new' (n := W.heap.size + 1) (W.alloc (.cells x.cells.toArray 41)) 41 y.cells (by simp))
  obtain ⟨xt, xa, xm, xn, xop, xkey, xoth, xitem, xqty, xdq, xdn, xdc, xaop, xaerr, xacnt, xlq, xln, xlc, xbq, xbn, xbc⟩ := x
  obtain ⟨yt, ya, ym, yn, yop, ykey, yoth, yitem, yqty, ydq, ydn, ydc, yaop, yaerr, yacnt, ylq, yln, ylc, ybq, ybn, ybc⟩ := y
  simp only [Ev.agg, Ev.cells, List.cons_append, List.nil_append] at HB HS HS2 HE HEE HRE HBE HRB HBX HBY ⊢
  go_enter Try.func6, Try.ntmps6
  go_upto_region 1 with fail
  obtain ⟨z, hz⟩ : ∃ z, W.heap.size = z := ⟨_, rfl⟩
  have HZ := Lib.hid hz
  rw [hz] at HBX HBY ⊢
  clear hz
  generalize (W.alloc (.cells #[.int .i64 xt, .int .i64 xop, .string xkey, .string xoth, .string xitem, .int .i64 xqty, .slice xdq xdn xdc, .int .i64 xaop, .int .i64 xaerr, .int .i64 xacnt, .slice xlq xln xlc, .slice xbq xbn xbc, .int .i64 xa, .int .i64 xm, .int .i64 xn] 41)).alloc (.cells #[.int .i64 yt, .int .i64 yop, .string ykey, .string yoth, .string yitem, .int .i64 yqty, .slice ydq ydn ydc, .int .i64 yaop, .int .i64 yaerr, .int .i64 yacnt, .slice ylq yln ylc, .slice ybq ybn ybc, .int .i64 ya, .int .i64 ym, .int .i64 yn] 41) = w1 at *
  go_wp2_with fail
  refine HS.out.mono ?_
  rintro e w2 ⟨r1, rfl, rfl, hx1⟩
  clear HS
  generalize w2 = w1 at *
  cases r1 with
  | false =>
    clear hx1 HS2 HV HRV HE HEE HRE HBE HRB
    go_wp2_with fail
    refine (HK.out _).mono ?_
    rintro e w3 ⟨rfl, hb⟩
    have HB3 := Lib.hid (HB.out.trans (hb.mono HB.out.size))
    clear hb
    go_wp2_with fail
    go_ret
    exact ⟨rfl, HB3.out⟩
  | true =>
    have HRG1 := Lib.hid HBX.out.range
    have HRG2 := Lib.hid HBY.out.range
    have HX1 := Lib.hid (hx1 rfl)
    clear hx1
    go_wp2_with (first | refine wpList_ldg (by rfl) 41 (.tmp 4) rfl z 0 rfl #[.int .i64 xt, .int .i64 xop, .string xkey, .string xoth, .string xitem, .int .i64 xqty, .slice xdq xdn xdc, .int .i64 xaop, .int .i64 xaerr, .int .i64 xacnt, .slice xlq xln xlc, .slice xbq xbn xbc, .int .i64 xa, .int .i64 xm, .int .i64 xn] [.int .i64 xt, .int .i64 xop, .string xkey, .string xoth, .string xitem, .int .i64 xqty, .slice xdq xdn xdc, .int .i64 xaop, .int .i64 xaerr, .int .i64 xacnt, .slice xlq xln xlc, .slice xbq xbn xbc, .int .i64 xa, .int .i64 xm, .int .i64 xn] rfl _ HRG1.out Try.underlying41 rfl info41 ?_ | refine wpList_ldg (by rfl) 41 (.tmp 5) rfl (z + 1) 0 rfl #[.int .i64 yt, .int .i64 yop, .string ykey, .string yoth, .string yitem, .int .i64 yqty, .slice ydq ydn ydc, .int .i64 yaop, .int .i64 yaerr, .int .i64 yacnt, .slice ylq yln ylc, .slice ybq ybn ybc, .int .i64 ya, .int .i64 ym, .int .i64 yn] [.int .i64 yt, .int .i64 yop, .string ykey, .string yoth, .string yitem, .int .i64 yqty, .slice ydq ydn ydc, .int .i64 yaop, .int .i64 yaerr, .int .i64 yacnt, .slice ylq yln ylc, .slice ybq ybn ybc, .int .i64 ya, .int .i64 ym, .int .i64 yn] rfl _ HRG2.out Try.underlying41 rfl info41 ?_)
    refine (HS2.out _ HB.out).mono ?_
    rintro e w3 ⟨r2, rfl, rfl, hx2⟩
    have HA := Lib.hid (below_al (Below.refl w1.heap.size w1) (.cells #[.int .i64 xt, .int .i64 xop, .string xkey, .string xoth, .string xitem, .int .i64 xqty, .slice xdq xdn xdc, .int .i64 xaop, .int .i64 xaerr, .int .i64 xacnt, .slice xlq xln xlc, .slice xbq xbn xbc, .int .i64 xa, .int .i64 xm, .int .i64 xn, .int .i64 yt, .int .i64 yop, .string ykey, .string yoth, .string yitem, .int .i64 yqty, .slice ydq ydn ydc, .int .i64 yaop, .int .i64 yaerr, .int .i64 yacnt, .slice ylq yln ylc, .slice ybq ybn ybc, .int .i64 ya, .int .i64 ym, .int .i64 yn] 41))
    have HBX2 := Lib.hid (HBX.out.kept HA.out)
    have HBY2 := Lib.hid (HBY.out.kept HA.out)
    have HB2 := Lib.hid (HB.out.trans (HA.out.mono HB.out.size))
    clear HS2 HBX HBY HRG1 HRG2
    generalize w1.alloc (.cells #[.int .i64 xt, .int .i64 xop, .string xkey, .string xoth, .string xitem, .int .i64 xqty, .slice xdq xdn xdc, .int .i64 xaop, .int .i64 xaerr, .int .i64 xacnt, .slice xlq xln xlc, .slice xbq xbn xbc, .int .i64 xa, .int .i64 xm, .int .i64 xn, .int .i64 yt, .int .i64 yop, .string ykey, .string yoth, .string yitem, .int .i64 yqty, .slice ydq ydn ydc, .int .i64 yaop, .int .i64 yaerr, .int .i64 yacnt, .slice ylq yln ylc, .slice ybq ybn ybc, .int .i64 ya, .int .i64 ym, .int .i64 yn] 41) = w2 at *
    cases r2 with
    | false =>
      clear hx2 HV HRV HE HEE HRE HBE HRB
      go_wp2_with fail
      refine (HK.out _).mono ?_
      rintro e w3 ⟨rfl, hb⟩
      have HB3 := Lib.hid (HB2.out.trans (hb.mono HB2.out.size))
      clear hb
      go_wp2_with fail
      go_ret
      exact ⟨rfl, HB3.out⟩
    | true =>
      have hok := (hx2 rfl).2
      have HPA := Lib.hid (hok p (by simp)).2
      have HQA := Lib.hid (hok q (by simp)).2
      clear hx2 hok HX1
      go_upto_region 3 with fail
      have HG1 := Lib.hid (And.intro HBX2.out.lt HBX2.out.range)
      have HG2 := Lib.hid (And.intro HBY2.out.lt HBY2.out.range)
      have HQ := Lib.hid (show ∀ (w' : World) (pp : Value) (uu : Bool), Below W.heap.size W w' → ((pp = .agg #[.int .i64 yt, .int .i64 yop, .string ykey, .string yoth, .string yitem, .int .i64 yqty, .slice ydq ydn ydc, .int .i64 yaop, .int .i64 yaerr, .int .i64 yacnt, .slice ylq yln ylc, .slice ybq ybn ybc, .int .i64 ya, .int .i64 ym, .int .i64 yn] ∧ uu = u) ∨ (pp = .agg #[.int .i64 xt, .int .i64 xop, .string xkey, .string xoth, .string xitem, .int .i64 xqty, .slice xdq xdn xdc, .int .i64 xaop, .int .i64 xaerr, .int .i64 xacnt, .slice xlq xln xlc, .slice xbq xbn xbc, .int .i64 xa, .int .i64 xm, .int .i64 xn] ∧ uu = true)) → Calls Try.prog 20 #[.agg #[.int .i64 xt, .int .i64 xop, .string xkey, .string xoth, .string xitem, .int .i64 xqty, .slice xdq xdn xdc, .int .i64 xaop, .int .i64 xaerr, .int .i64 xacnt, .slice xlq xln xlc, .slice xbq xbn xbc, .int .i64 xa, .int .i64 xm, .int .i64 xn], pp] w' fun e w'' => e = .returned (.bool uu) ∧ Below w'.heap.size w' w'' from fun w' pp uu hb h => by
        rcases h with ⟨rfl, rfl⟩ | ⟨rfl, rfl⟩
        · exact HE.out w' hb HPA.out HQA.out
        · exact HEE.out w' hb HPA.out)
      clear HBX2 HBY2 HE HEE
      refine wp_region_grows (by kernel_rfl) (by kernel_rfl) ?_
      repeat (first | (go_big_quiet_want; refine quiet_ld 41 (.tmp 4) rfl z 0 rfl #[.int .i64 xt, .int .i64 xop, .string xkey, .string xoth, .string xitem, .int .i64 xqty, .slice xdq xdn xdc, .int .i64 xaop, .int .i64 xaerr, .int .i64 xacnt, .slice xlq xln xlc, .slice xbq xbn xbc, .int .i64 xa, .int .i64 xm, .int .i64 xn] [.int .i64 xt, .int .i64 xop, .string xkey, .string xoth, .string xitem, .int .i64 xqty, .slice xdq xdn xdc, .int .i64 xaop, .int .i64 xaerr, .int .i64 xacnt, .slice xlq xln xlc, .slice xbq xbn xbc, .int .i64 xa, .int .i64 xm, .int .i64 xn] rfl _ HG1.out.1 HG1.out.2 Try.underlying41 rfl info41 ?_; simp only [Act.put, List.setIfInBounds_toArray, List.set_cons_zero, List.set_cons_succ]; go_big_quiet_on) | (go_big_quiet_want; refine quiet_ld 41 (.tmp 5) rfl (z + 1) 0 rfl #[.int .i64 yt, .int .i64 yop, .string ykey, .string yoth, .string yitem, .int .i64 yqty, .slice ydq ydn ydc, .int .i64 yaop, .int .i64 yaerr, .int .i64 yacnt, .slice ylq yln ylc, .slice ybq ybn ybc, .int .i64 ya, .int .i64 ym, .int .i64 yn] [.int .i64 yt, .int .i64 yop, .string ykey, .string yoth, .string yitem, .int .i64 yqty, .slice ydq ydn ydc, .int .i64 yaop, .int .i64 yaerr, .int .i64 yacnt, .slice ylq yln ylc, .slice ybq ybn ybc, .int .i64 ya, .int .i64 ym, .int .i64 yn] rfl _ HG2.out.1 HG2.out.2 Try.underlying41 rfl info41 ?_; simp only [Act.put, List.setIfInBounds_toArray, List.set_cons_zero, List.set_cons_succ]; go_big_quiet_on) | go_big_quiet_step ((first
        | (go_at_call 18; exact Calls.gr _ (HV.out _ (below_step HB2.out (Gr.h _))))
        | (go_at_call 19; exact Calls.gr _ (HRV.out _ (below_step HB2.out (Gr.h _))))
        | (go_at_call 20; exact Calls.gr _ (HQ.out _ _ _ (below_step HB2.out (Gr.h _)) (by first | exact .inl ⟨rfl, rfl⟩ | exact .inr ⟨rfl, rfl⟩)))
        | (go_at_call 21; exact Calls.gr _ (HRE.out _ (below_step HB2.out (Gr.h _)) HPA.out HQA.out))
        | (go_at_call 22; exact Calls.gr _ (HBE.out _))
        | (go_at_call 23; exact Calls.gr _ (HRB.out _))
        | (go_at_call 8; exact Calls.gr _ (HK.out _)))))
      refine wpQuiet_nil ?_
      rintro _ ⟨g', rfl⟩
      have hb := g'.h
      generalize g'.w = w3 at hb ⊢
      have HB3 := Lib.hid (below_step HB2.out hb)
      clear hb HG1 HG2 HQ HV HRV HRE HBE HRB
      clear g'
      go_wp2_with fail
      go_ret
      exact ⟨rfl, HB3.out⟩
end Go.Proofs.Ytbkkplednfdfdaa
