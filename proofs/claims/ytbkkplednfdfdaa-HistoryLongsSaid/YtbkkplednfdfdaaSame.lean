/- Two histories, compared. Printed by hist_aa.py. -/
import Derived.Test.YtbkkplednfdfdaaRefO
import Derived.Test.YtbkkplednfdfdaaEqD
namespace Go.Proofs.Ytbkkplednfdfdaa
open Go.RowKit Go.Maps

set_option maxRecDepth 100000 in
set_option maxHeartbeats 8000000 in
/-- Same says yes of histories that say the same. -/
theorem same_ok (w : World) (p q : Option Addr) (c d : Nat) (es fs : List Ev) (l : List PE) (h1 : Rd w w.heap.size p (evs es)) (h2 : Rd w w.heap.size q (evs fs)) (hc : es.length ≤ c) (hd : fs.length ≤ d) (hl : l.length ≤ 4100)
    (r1 : EvL (RdW w w.heap.size) es l) (r2 : EvL (RdW w w.heap.size) fs l) (hok : ∀ x ∈ l, x.a.ok) :
    Calls Try.prog 11 #[.slice p es.length c, .slice q fs.length d] w fun e w' => e = .returned (.bool true) ∧ Below w.heap.size w w' := by
  have H1 := Lib.hid h1
  have H2 := Lib.hid h2
  have R1 := Lib.hid r1
  have R2 := Lib.hid r2
  have HOK := Lib.hid hok
  obtain ⟨n, hn9⟩ : ∃ n, l.length = n := ⟨_, rfl⟩
  have HLN := Lib.hid hn9
  have HN1 := Lib.hid (show es.length = n by rw [r1.1, hn9])
  have HN2 := Lib.hid (show fs.length = n by rw [r2.1, hn9])
  rw [HN1.out] at hc ⊢
  rw [HN2.out] at hd ⊢
  rw [hn9] at hl
  have hni : (n : Int) ≤ 4100 := by omega
  clear h1 h2 r1 r2 hok hn9
  go_enter Try.func11, Try.ntmps11
  go_wp2_with fail
  go_loopw [5] (fun i wr => ∃ (k : Nat), k ≤ n ∧ i = .int .i64 k ∧ Hid (Below w.heap.size w wr)) (fun i _ => n - (intOf i).toNat)
  case atStart => exact ⟨0, Nat.zero_le _, rfl, Lib.hid (Below.refl _ _)⟩
  case round =>
    obtain ⟨k, hk, rfl, HB⟩ := hrel
    by_cases hlt : k < n
    · have hki : (k : Int) < (n : Int) := by omega
      have hk1 : k < es.length := by rw [HN1.out]; exact hlt
      have hk2 : k < fs.length := by rw [HN2.out]; exact hlt
      have hk3 : k < l.length := by rw [HLN.out]; exact hlt
      obtain ⟨b1, o1, rfl, hb1, hc1⟩ := evs_rd H1.out hk1
      obtain ⟨b2, o2, rfl, hb2, hc2⟩ := evs_rd H2.out hk2
      have e1 := R1.out.2 k _ _ (List.getElem?_eq_getElem hk1) (List.getElem?_eq_getElem hk3)
      have e2 := R2.out.2 k _ _ (List.getElem?_eq_getElem hk2) (List.getElem?_eq_getElem hk3)
      have HA := Lib.hid (HOK.out _ (List.getElem_mem hk3))
      obtain ⟨x, hx⟩ : ∃ x, es[k] = x := ⟨_, rfl⟩
      obtain ⟨y, hy⟩ : ∃ y, fs[k] = y := ⟨_, rfl⟩
      rw [hx] at hc1 e1
      rw [hy] at hc2 e2
      have HC := Lib.hid (show ∀ w', Below w.heap.size w w' → Calls Try.prog 21 #[x.agg, y.agg] w' fun e w'' => e = .returned (.bool true) ∧ Below w'.heap.size w' w'' from fun w' hb => by
        have h := refEqual_any w' x y l[k] l[k] (e1.imp (fun _ _ _ h => Rd.kept h hb)) (e2.imp (fun _ _ _ h => Rd.kept h hb)) HA.out HA.out
        rw [eqE_refl] at h
        exact h)
      have HG1 := Lib.hid (And.intro (Nat.lt_of_lt_of_le hb1 HB.out.size) (show wr.rangeAt b1 (o1 + k * 15) x.cells from fun j v hv => (HB.out.cell (p := ⟨b1, o1 + k * 15 + j, none⟩) hb1).trans (hc1 j v hv)))
      have HG2 := Lib.hid (And.intro (Nat.lt_of_lt_of_le hb2 HB.out.size) (show wr.rangeAt b2 (o2 + k * 15) y.cells from fun j v hv => (HB.out.cell (p := ⟨b2, o2 + k * 15 + j, none⟩) hb2).trans (hc2 j v hv)))
      clear HA hk1 hk2 hk3 hb1 hb2 hc1 hc2 e1 e2 hx hy
      obtain ⟨xt, xa, xm, xn, xop, xkey, xoth, xitem, xqty, xdq, xdn, xdc, xaop, xaerr, xacnt, xlq, xln, xlc, xbq, xbn, xbc⟩ := x
      obtain ⟨yt, ya, ym, yn, yop, ykey, yoth, yitem, yqty, ydq, ydn, ydc, yaop, yaerr, yacnt, ylq, yln, ylc, ybq, ybn, ybc⟩ := y
      simp only [Ev.agg, Ev.cells] at HC HG1 HG2
      go_upto_region 6 with fail
      refine wp_region_grows (by kernel_rfl) (by kernel_rfl) ?_
      repeat (first | (go_big_quiet_want; refine quiet_ld 41 (.tmp 19) rfl b1 (o1 + k * 15) rfl #[.int .i64 xt, .int .i64 xop, .string xkey, .string xoth, .string xitem, .int .i64 xqty, .slice xdq xdn xdc, .int .i64 xaop, .int .i64 xaerr, .int .i64 xacnt, .slice xlq xln xlc, .slice xbq xbn xbc, .int .i64 xa, .int .i64 xm, .int .i64 xn] [.int .i64 xt, .int .i64 xop, .string xkey, .string xoth, .string xitem, .int .i64 xqty, .slice xdq xdn xdc, .int .i64 xaop, .int .i64 xaerr, .int .i64 xacnt, .slice xlq xln xlc, .slice xbq xbn xbc, .int .i64 xa, .int .i64 xm, .int .i64 xn] rfl _ HG1.out.1 HG1.out.2 Try.underlying41 rfl info41 ?_; simp only [Act.put, List.setIfInBounds_toArray, List.set_cons_zero, List.set_cons_succ]; go_big_quiet_on) | (go_big_quiet_want; refine quiet_ld 41 (.tmp 23) rfl b2 (o2 + k * 15) rfl #[.int .i64 yt, .int .i64 yop, .string ykey, .string yoth, .string yitem, .int .i64 yqty, .slice ydq ydn ydc, .int .i64 yaop, .int .i64 yaerr, .int .i64 yacnt, .slice ylq yln ylc, .slice ybq ybn ybc, .int .i64 ya, .int .i64 ym, .int .i64 yn] [.int .i64 yt, .int .i64 yop, .string ykey, .string yoth, .string yitem, .int .i64 yqty, .slice ydq ydn ydc, .int .i64 yaop, .int .i64 yaerr, .int .i64 yacnt, .slice ylq yln ylc, .slice ybq ybn ybc, .int .i64 ya, .int .i64 ym, .int .i64 yn] rfl _ HG2.out.1 HG2.out.2 Try.underlying41 rfl info41 ?_; simp only [Act.put, List.setIfInBounds_toArray, List.set_cons_zero, List.set_cons_succ]; go_big_quiet_on) | go_big_quiet_step ((go_at_call 21; exact Calls.gr _ (HC.out _ (below_step HB.out (Gr.h _))))))
      refine wpQuiet_nil ?_
      rintro _ ⟨g', rfl⟩
      have hb := g'.h
      generalize g'.w = w3 at hb ⊢
      have HB3 := Lib.hid (below_step HB.out hb)
      clear hb HG1 HG2 HC
      clear g'
      go_wp2_with fail
      go_roundw
      case rel => exact ⟨k + 1, by omega, by go_num, HB3⟩
      case measure => simp [intOf]; omega
    · have hkn : k = n := by omega
      subst hkn
      go_wp2_with fail
      go_ret
      exact ⟨rfl, HB.out⟩
end Go.Proofs.Ytbkkplednfdfdaa
