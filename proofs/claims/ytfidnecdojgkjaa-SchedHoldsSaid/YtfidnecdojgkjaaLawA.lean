/- SchedWorst, SchedFair. -/
import Derived.Test.YtfidnecdojgkjaaArgs
namespace Go.Proofs.Ytfidnecdojgkjaa
open Go.RowKit

theorem maxLen_le {n : Nat} (h : n ≤ maxLen) : n ≤ 9223372036854775807 := by unfold maxLen at h; omega
theorem tr_of {W : World} {p : Option Addr} {l : List Tp} (h : Rd W W.heap.size p (tps l)) (hok : ∀ x ∈ l, x.ok W) (hl : lightB l = true) : TR W W.heap.size p l :=
  ⟨h, fun x hx => ⟨(hok x hx).1, by have := (lightB_iff hl).2 x hx; omega⟩⟩
set_option maxRecDepth 100000 in
theorem schedWorst_walk (p : Option Addr) (c : Nat) (l : List Tp) (W : World) (h : Rd W W.heap.size p (tps l)) (hc : l.length ≤ c) (hm : c ≤ maxLen) (hok : ∀ x ∈ l, x.ok W) :
    Calls Try.prog 4 #[.slice p l.length c] W fun e w' => e = .returned (.bool true) ∧ Below W.heap.size W w' := by
  have HL := Lib.hid (light_any c l h (by have := maxLen_le hm; omega))
  have HK := Lib.hid known_any
  cases hb : lightB l with
  | false =>
    rw [hb] at HL
    clear h hc hm hok hb
    generalize l.length = n at *
    go_enter Try.func4, Try.ntmps4
    go_wp2_with fail
    refine HL.out.mono ?_
    rintro e w1 ⟨rfl, rfl⟩
    go_wp2_with fail
    refine (HK.out _).mono ?_
    rintro e w1 ⟨rfl, hb1⟩
    have HB := Lib.hid hb1
    clear hb1
    go_wp2_with fail
    go_ret
    exact ⟨rfl, HB.out⟩
  | true =>
    have ht := tr_of h hok hb
    have hlen : l.length ≤ 1000000 := by have := (lightB_iff hb).1; omega
    rw [hb] at HL
    have HR := Lib.hid (run_any p c l ht hlen)
    have HT := Lib.hid ht
    have HLL := Lib.hid hlen
    by_cases he : runE (l.map Tp.tn) = 0
    · have HRW := Lib.hid (fun (w1 : World) hbw => refWorst_any p c l (HT.out.kept (w' := w1) hbw) hlen)
      have HWI := Lib.hid (fun (w1 : World) hbw => worstIs_any p c l (HT.out.kept (w' := w1) hbw) hlen (worstF (l.map Tp.tn)).1 (worstF (l.map Tp.tn)).2 0 (if_pos he) (by rw [woN, if_pos he]) he)
      rw [he] at HR
      generalize worstF (l.map Tp.tn) = f at *
      obtain ⟨f1, f2⟩ := f
      clear h hc hm hok hb ht hlen he HT HLL
      generalize l.length = n at *
      go_enter Try.func4, Try.ntmps4
      go_wp2_with fail
      refine HL.out.mono ?_
      rintro e w1 ⟨rfl, rfl⟩
      go_wp2_with fail
      refine HR.out.mono ?_
      rintro e w1 ⟨rfl, hb1⟩
      have HB := Lib.hid hb1
      clear hb1
      go_wp2_with fail
      refine (HRW.out w1 HB.out).mono ?_
      rintro e w2 ⟨rfl, rfl⟩
      go_wp2_with fail
      refine (HWI.out _ HB.out).mono ?_
      rintro e w2 ⟨rfl, hb2⟩
      have HB2 := Lib.hid (below_step HB.out hb2)
      clear hb2
      go_wp2_with fail
      refine (HK.out _).mono ?_
      rintro e w3 ⟨rfl, hb3⟩
      have HB3 := Lib.hid (below_step HB2.out hb3)
      clear hb3
      go_wp2_with fail
      go_ret
      exact ⟨rfl, HB3.out⟩
    · have HWI := Lib.hid (fun (w1 : World) hbw => worstIs_any p c l (HT.out.kept (w' := w1) hbw) hlen 0 0 (runE (l.map Tp.tn)) (if_neg he) (if_neg he) rfl)
      have he2 : (runE (l.map Tp.tn) == 0) = false := by simpa using he
      generalize runE (l.map Tp.tn) = r at *
      clear h hc hm hok hb ht hlen he HT HLL
      generalize l.length = n at *
      go_enter Try.func4, Try.ntmps4
      go_wp2_with fail
      refine HL.out.mono ?_
      rintro e w1 ⟨rfl, rfl⟩
      go_wp2_with fail
      refine HR.out.mono ?_
      rintro e w1 ⟨rfl, hb1⟩
      have HB := Lib.hid hb1
      clear hb1
      go_wp2_with fail
      refine (HWI.out _ HB.out).mono ?_
      rintro e w2 ⟨rfl, hb2⟩
      have HB2 := Lib.hid (below_step HB.out hb2)
      clear hb2
      go_wp2_with fail
      refine (HK.out _).mono ?_
      rintro e w3 ⟨rfl, hb3⟩
      have HB3 := Lib.hid (below_step HB2.out hb3)
      clear hb3
      go_wp2_with fail
      go_ret
      exact ⟨rfl, HB3.out⟩
theorem runE_cases (T : List Tn) (h : T.length ≤ 100000) : runE T = 0 ∨ runE T = 2 := by
  unfold runE
  rw [if_neg (by omega)]
  split <;> simp
set_option maxRecDepth 100000 in
theorem schedFair_walk (p : Option Addr) (c : Nat) (l : List Tp) (b : Int) (W : World) (h : Rd W W.heap.size p (tps l)) (hc : l.length ≤ c) (hm : c ≤ maxLen) (hok : ∀ x ∈ l, x.ok W) :
    Calls Try.prog 5 #[.slice p l.length c, .int .i64 b] W fun e w' => e = .returned (.bool true) ∧ Below W.heap.size W w' := by
  have HL := Lib.hid (light_any c l h (by have := maxLen_le hm; omega))
  have HK := Lib.hid known_any
  cases hb : lightB l with
  | false =>
    rw [hb] at HL
    clear h hc hm hok hb
    generalize l.length = n at *
    go_enter Try.func5, Try.ntmps5
    go_wp2_with fail
    refine HL.out.mono ?_
    rintro e w1 ⟨rfl, rfl⟩
    go_wp2_with fail
    refine (HK.out _).mono ?_
    rintro e w1 ⟨rfl, hb1⟩
    have HB := Lib.hid hb1
    clear hb1
    go_wp2_with fail
    go_ret
    exact ⟨rfl, HB.out⟩
  | true =>
    have ht := tr_of h hok hb
    have hl1 := (lightB_iff hb).1
    have hlen : l.length ≤ 1000000 := by omega
    rw [hb] at HL
    have HR := Lib.hid (run_any p c l ht hlen)
    have HT := Lib.hid ht
    by_cases he : runE (l.map Tp.tn) = 0
    · rw [he] at HR
      by_cases hb1 : b < 1
      · have HWI := Lib.hid (fun (w1 : World) hbw => fairIs_any p c l (HT.out.kept (w' := w1) hbw) hlen b 0 2 (by rw [faI, if_pos he, if_pos hb1]) (by rw [faE, if_pos he, if_pos hb1]))
        clear h hc hm hok hb ht hlen he HT hl1
        generalize l.length = n at *
        go_enter Try.func5, Try.ntmps5
        go_wp2_with fail
        refine HL.out.mono ?_
        rintro e w1 ⟨rfl, rfl⟩
        go_wp2_with fail
        refine HR.out.mono ?_
        rintro e w1 ⟨rfl, hb1⟩
        have HB := Lib.hid hb1
        clear hb1
        go_wp2_with fail
        refine (HWI.out _ HB.out).mono ?_
        rintro e w2 ⟨rfl, hb2⟩
        have HB2 := Lib.hid (below_step HB.out hb2)
        clear hb2
        go_wp2_with fail
        refine (HK.out _).mono ?_
        rintro e w3 ⟨rfl, hb3⟩
        have HB3 := Lib.hid (below_step HB2.out hb3)
        clear hb3
        go_wp2_with fail
        go_ret
        exact ⟨rfl, HB3.out⟩
      · have hb2 : decide (b < 1) = false := by simpa using hb1
        have HRW := Lib.hid (fun (w1 : World) hbw => refFair_any p c l b (HT.out.kept (w' := w1) hbw) hlen)
        have HWI := Lib.hid (fun (w1 : World) hbw => fairIs_any p c l (HT.out.kept (w' := w1) hbw) hlen b (fairF (l.map Tp.tn) b) 0 (by rw [faI, if_pos he, if_neg hb1]) (by rw [faE, if_pos he, if_neg hb1]))
        generalize fairF (l.map Tp.tn) b = f at *
        clear h hc hm hok hb ht hlen he HT hl1 hb1
        generalize l.length = n at *
        go_enter Try.func5, Try.ntmps5
        go_wp2_with fail
        refine HL.out.mono ?_
        rintro e w1 ⟨rfl, rfl⟩
        go_wp2_with fail
        refine HR.out.mono ?_
        rintro e w1 ⟨rfl, hb1⟩
        have HB := Lib.hid hb1
        clear hb1
        go_wp2_with fail
        refine (HRW.out w1 HB.out).mono ?_
        rintro e w2 ⟨rfl, rfl⟩
        go_wp2_with fail
        refine (HWI.out _ HB.out).mono ?_
        rintro e w2 ⟨rfl, hb2⟩
        have HB2 := Lib.hid (below_step HB.out hb2)
        clear hb2
        go_wp2_with fail
        refine (HK.out _).mono ?_
        rintro e w3 ⟨rfl, hb3⟩
        have HB3 := Lib.hid (below_step HB2.out hb3)
        clear hb3
        go_wp2_with fail
        go_ret
        exact ⟨rfl, HB3.out⟩
    · have he2 : runE (l.map Tp.tn) = 2 := by
        rcases runE_cases (l.map Tp.tn) (by rw [tn_len]; omega) with h | h
        · exact absurd h he
        · exact h
      have HWI := Lib.hid (fun (w1 : World) hbw => fairIs_any p c l (HT.out.kept (w' := w1) hbw) hlen b 0 2 (by rw [faI, if_neg he]) (by rw [faE, if_neg he, he2]))
      rw [he2] at HR
      clear h hc hm hok hb ht hlen he HT he2 hl1
      generalize l.length = n at *
      go_enter Try.func5, Try.ntmps5
      go_wp2_with fail
      refine HL.out.mono ?_
      rintro e w1 ⟨rfl, rfl⟩
      go_wp2_with fail
      refine HR.out.mono ?_
      rintro e w1 ⟨rfl, hb1⟩
      have HB := Lib.hid hb1
      clear hb1
      go_wp2_with fail
      refine (HWI.out _ HB.out).mono ?_
      rintro e w2 ⟨rfl, hb2⟩
      have HB2 := Lib.hid (below_step HB.out hb2)
      clear hb2
      go_wp2_with fail
      refine (HK.out _).mono ?_
      rintro e w3 ⟨rfl, hb3⟩
      have HB3 := Lib.hid (below_step HB2.out hb3)
      clear hb3
      go_wp2_with fail
      go_ret
      exact ⟨rfl, HB3.out⟩
end Go.Proofs.Ytfidnecdojgkjaa
