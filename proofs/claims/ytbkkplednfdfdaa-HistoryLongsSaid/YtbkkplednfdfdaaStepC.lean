/- Steps noted. Printed by hist_j.py. -/
import Derived.Test.YtbkkplednfdfdaaStep
namespace Go.Proofs.Ytbkkplednfdfdaa
open Go.RowKit Go.Maps
set_option linter.unusedVariables false
set_option maxRecDepth 100000 in
set_option maxHeartbeats 8000000 in
theorem step_on {w : World} {B t mb c : Nat} {p : Option Addr} {A : Int → Option Nat} {es : List Ev} {S : PS} (hT : Tell w B t mb p c A es S) (i : Nat) (d : Di) (pd : PD) (hd : DiR (RdW w B) d pd) (hok : pd.c.ok ∧ pd.a.ok) (hl : es.length ≤ i) (hi : i < 4096)
    (hev : ∀ x s, S.T x = some s → ∃ q, S.es[s.event]? = some q) (hb1 : 1 ≤ pd.step) (hb7 : pd.step ≤ 7) (ht0 : 0 ≤ pd.task) (ht1 : pd.task ≤ 9999) (hk1 : ¬ pd.step = 1) (hk7 : ¬ pd.step = 7) (hA : A pd.task = none) :
    Calls Try.prog 26 #[.pointer (some ⟨t, 0, none⟩), .int .i64 i, d.agg] w fun e w' => e = .returned (.bool (pstep i pd S).isSome) ∧ Below B w w' ∧ ∀ S', pstep i pd S = some S' → ∃ p' c' A' es', Tell w' B t mb p' c' A' es' S' := by
  have HWB : Hid (B ≤ w.heap.size) := Lib.hid (by have := hT.bt; have := hT.blk.lt; omega)
  have HDR := Lib.hid (fun (w' : World) (hb : Below B w w') => hd.imp (fun t p xs h => (show Rd w' w'.heap.size p xs from (Rd.below h hb).more (Nat.le_trans HWB.out hb.size))))
  have HEVX := Lib.hid hev
  clear hd hev
  obtain ⟨task, step, stripe, waits, next, vq, vn, vc, mk, op, key, oth, item, qty, dq, dn, dc, aop, aerr, acnt, lq, ln, lc, bq, bn, bc⟩ := d
  obtain ⟨pt, ps, pm, pc, pa⟩ := pd
  obtain ⟨hq1, hq2, hq3, -, -⟩ := HDR.out w (Below.refl _ _)
  simp only at hq1 hq2 hq3 hok hb1 hb7 ht0 ht1 hA hk1 hk7
  subst hq1 hq2 hq3
  have HOK := Lib.hid hok
  have HT0 := Lib.hid hT
  have HL := Lib.hid hl
  clear hok hT hl
  simp only [Di.agg]
  go_enter Try.func26, Try.ntmps26
  go_upto_region 1 with fail
  have HBX := Lib.hid (Blk.new w 51 [.int .i64 task, .int .i64 step, .int .i64 stripe, .bool waits, .int .i64 next, .slice vq vn vc, .bool mk, .int .i64 op, .string key, .string oth, .string item, .int .i64 qty, .slice dq dn dc, .int .i64 aop, .int .i64 aerr, .int .i64 acnt, .slice lq ln lc, .slice bq bn bc])
  have HB1 := Lib.hid (below_al (Below.refl w.heap.size w) (.cells #[.int .i64 task, .int .i64 step, .int .i64 stripe, .bool waits, .int .i64 next, .slice vq vn vc, .bool mk, .int .i64 op, .string key, .string oth, .string item, .int .i64 qty, .slice dq dn dc, .int .i64 aop, .int .i64 aerr, .int .i64 acnt, .slice lq ln lc, .slice bq bn bc] 51))
  have HT1 := Lib.hid (HT0.out.kept HB1.out)
  generalize w.alloc (.cells #[.int .i64 task, .int .i64 step, .int .i64 stripe, .bool waits, .int .i64 next, .slice vq vn vc, .bool mk, .int .i64 op, .string key, .string oth, .string item, .int .i64 qty, .slice dq dn dc, .int .i64 aop, .int .i64 aerr, .int .i64 acnt, .slice lq ln lc, .slice bq bn bc] 51) = w1 at *
  obtain ⟨z, hz⟩ : ∃ z, w.heap.size = z := ⟨_, rfl⟩
  rw [hz] at HBX ⊢
  clear hz
  replace HB1 := Lib.hid (HB1.out.mono HWB.out)
  have b0 := HBX.out.got 0 _ rfl
  have b1 := HBX.out.got 1 _ rfl
  have HN1 := Lib.hid (show ¬ (step : Int) < 1 by omega)
  have HN2 := Lib.hid (show ¬ (7 : Int) < step by omega)
  have HN3 := Lib.hid (show ¬ task < 0 by omega)
  have HN4 := Lib.hid (show ¬ 9999 < task by omega)
  have HSN := Lib.hid (HT1.out.no task hA)
  have HA := Lib.hid hA
  have HE : Hid (pended (S.T task) = false) := Lib.hid (by rw [HSN.out]; rfl)
  obtain ⟨N, hN⟩ := HT1.out.mp
  have hlk := fun n => look60n hN task ht0 ht1 n
  rw [hA] at hlk
  simp only [ptrO] at hlk
  clear hN
  have c0 := HT1.out.blk.got 0 _ rfl
  clear hA
  go_upto_region 3 with fail
  go_quiet (fail)
  have HT3 := Lib.hid (HT1.out.kept (below_drewN (Below.refl _ _) nq))
  have HBX3 := Lib.hid (HBX.out.kept (below_drewN (Below.refl _ _) nq))
  have HB3 := Lib.hid (below_drewN HB1.out nq)
  generalize w1.drewN nq = w3 at *
  clear hlk c0 b0 b1
  have b1 := HBX3.out.got 1 _ rfl
  have h1' : (step == 1) = false := by simpa using hk1
  have h7' : (step == 7) = false := by simpa using hk7
  have H1 := Lib.hid hk1
  have H7 := Lib.hid hk7
  clear hk1 hk7
  have HR : Hid (pstep i ⟨task, step, mk, pc, pa⟩ S = none) := Lib.hid (by simp [pstep, HN1.out, HN2.out, HN3.out, HN4.out, H1.out, H7.out, HSN.out])
  have b1z := HBX3.out.got 1 _ rfl
  obtain ⟨N, hN⟩ := HT3.out.mp
  have hlk := fun n => look60n hN task ht0 ht1 n
  rw [HA.out] at hlk
  simp only [ptrO] at hlk
  clear hN
  have c0 := HT3.out.blk.got 0 _ rfl
  have b0 := HBX3.out.got 0 _ rfl
  go_upto_region 9 with fail
  go_quiet (fail)
  replace HT3 := Lib.hid (HT3.out.kept (below_drewN (Below.refl _ _) nq))
  replace HBX3 := Lib.hid (HBX3.out.kept (below_drewN (Below.refl _ _) nq))
  replace HB3 := Lib.hid (below_drewN HB3.out nq)
  generalize w3.drewN nq = w4 at *
  clear c0 b0 hlk
  go_wp2_with fail
  go_ret
  exact ⟨by rw [HR.out]; rfl, HB3.out, fun S' hS' => by rw [HR.out] at hS'; cases hS'⟩
set_option maxRecDepth 100000 in
set_option maxHeartbeats 8000000 in
theorem step_os {w : World} {B t mb c : Nat} {p : Option Addr} {A : Int → Option Nat} {es : List Ev} {S : PS} (hT : Tell w B t mb p c A es S) (i : Nat) (d : Di) (pd : PD) (hd : DiR (RdW w B) d pd) (hok : pd.c.ok ∧ pd.a.ok) (hl : es.length ≤ i) (hi : i < 4096)
    (hev : ∀ x s, S.T x = some s → ∃ q, S.es[s.event]? = some q) (hb1 : 1 ≤ pd.step) (hb7 : pd.step ≤ 7) (ht0 : 0 ≤ pd.task) (ht1 : pd.task ≤ 9999) (hk1 : ¬ pd.step = 1) (hk7 : ¬ pd.step = 7) (a : Nat) (hA : A pd.task = some a) :
    Calls Try.prog 26 #[.pointer (some ⟨t, 0, none⟩), .int .i64 i, d.agg] w fun e w' => e = .returned (.bool (pstep i pd S).isSome) ∧ Below B w w' ∧ ∀ S', pstep i pd S = some S' → ∃ p' c' A' es', Tell w' B t mb p' c' A' es' S' := by
  have HWB : Hid (B ≤ w.heap.size) := Lib.hid (by have := hT.bt; have := hT.blk.lt; omega)
  have HDR := Lib.hid (fun (w' : World) (hb : Below B w w') => hd.imp (fun t p xs h => (show Rd w' w'.heap.size p xs from (Rd.below h hb).more (Nat.le_trans HWB.out hb.size))))
  have HEVX := Lib.hid hev
  clear hd hev
  obtain ⟨task, step, stripe, waits, next, vq, vn, vc, mk, op, key, oth, item, qty, dq, dn, dc, aop, aerr, acnt, lq, ln, lc, bq, bn, bc⟩ := d
  obtain ⟨pt, ps, pm, pc, pa⟩ := pd
  obtain ⟨hq1, hq2, hq3, -, -⟩ := HDR.out w (Below.refl _ _)
  simp only at hq1 hq2 hq3 hok hb1 hb7 ht0 ht1 hA hk1 hk7
  subst hq1 hq2 hq3
  have HOK := Lib.hid hok
  have HT0 := Lib.hid hT
  have HL := Lib.hid hl
  clear hok hT hl
  simp only [Di.agg]
  go_enter Try.func26, Try.ntmps26
  go_upto_region 1 with fail
  have HBX := Lib.hid (Blk.new w 51 [.int .i64 task, .int .i64 step, .int .i64 stripe, .bool waits, .int .i64 next, .slice vq vn vc, .bool mk, .int .i64 op, .string key, .string oth, .string item, .int .i64 qty, .slice dq dn dc, .int .i64 aop, .int .i64 aerr, .int .i64 acnt, .slice lq ln lc, .slice bq bn bc])
  have HB1 := Lib.hid (below_al (Below.refl w.heap.size w) (.cells #[.int .i64 task, .int .i64 step, .int .i64 stripe, .bool waits, .int .i64 next, .slice vq vn vc, .bool mk, .int .i64 op, .string key, .string oth, .string item, .int .i64 qty, .slice dq dn dc, .int .i64 aop, .int .i64 aerr, .int .i64 acnt, .slice lq ln lc, .slice bq bn bc] 51))
  have HT1 := Lib.hid (HT0.out.kept HB1.out)
  generalize w.alloc (.cells #[.int .i64 task, .int .i64 step, .int .i64 stripe, .bool waits, .int .i64 next, .slice vq vn vc, .bool mk, .int .i64 op, .string key, .string oth, .string item, .int .i64 qty, .slice dq dn dc, .int .i64 aop, .int .i64 aerr, .int .i64 acnt, .slice lq ln lc, .slice bq bn bc] 51) = w1 at *
  obtain ⟨z, hz⟩ : ∃ z, w.heap.size = z := ⟨_, rfl⟩
  rw [hz] at HBX ⊢
  clear hz
  replace HB1 := Lib.hid (HB1.out.mono HWB.out)
  have b0 := HBX.out.got 0 _ rfl
  have b1 := HBX.out.got 1 _ rfl
  have HN1 := Lib.hid (show ¬ (step : Int) < 1 by omega)
  have HN2 := Lib.hid (show ¬ (7 : Int) < step by omega)
  have HN3 := Lib.hid (show ¬ task < 0 by omega)
  have HN4 := Lib.hid (show ¬ 9999 < task by omega)
  obtain ⟨s0, hs0, hba, -, -⟩ := HT1.out.st task a hA
  obtain ⟨x0, hx0⟩ := HEVX.out task s0 hs0
  have HBA := Lib.hid hba
  obtain ⟨N, hN⟩ := HT1.out.mp
  have hlk := fun n => look60n hN task ht0 ht1 n
  rw [hA] at hlk
  simp only [ptrO] at hlk
  clear hN
  have c0 := HT1.out.blk.got 0 _ rfl
  clear hA hba
  go_upto_region 3 with fail
  go_quiet (fail)
  have HT3 := Lib.hid (HT1.out.kept (below_drewN (Below.refl _ _) nq))
  have HBX3 := Lib.hid (HBX.out.kept (below_drewN (Below.refl _ _) nq))
  have HB3 := Lib.hid (below_drewN HB1.out nq)
  have a2 := (HBA.out.kept (below_drewN (Below.refl _ _) nq)).got 2 _ rfl
  generalize w1.drewN nq = w3 at *
  clear hlk c0 b0 b1
  have b1 := HBX3.out.got 1 _ rfl
  obtain ⟨looks, ev, ended⟩ := s0
  cases ended with
  | true =>
    have HR : Hid (pstep i ⟨task, step, mk, pc, pa⟩ S = none) := Lib.hid (by simp [pstep, HN1.out, HN2.out, HN3.out, HN4.out, pended, hs0])
    clear hs0 hx0
    go_wp2_with fail
    go_ret
    exact ⟨by rw [HR.out]; rfl, HB3.out, fun S' hS' => by rw [HR.out] at hS'; cases hS'⟩
  | false =>
    have HE : Hid (pended (S.T task) = false) := Lib.hid (by rw [hs0]; rfl)
    obtain ⟨s1, hs1⟩ : ∃ s1 : TS, (⟨looks, ev, false⟩ : TS) = s1 := ⟨_, rfl⟩
    obtain ⟨x1, hx1⟩ : ∃ x1, x0 = x1 := ⟨_, rfl⟩
    rw [hs1] at hs0
    have hx0 : S.es[s1.event]? = some x1 := by rw [← hs1, ← hx1]; exact hx0
    have HS1 := Lib.hid hs0
    have HX1 := Lib.hid hx0
    clear hs0 hx0 hs1 hx1
    have h1' : (step == 1) = false := by simpa using hk1
    have h7' : (step == 7) = false := by simpa using hk7
    have H1 := Lib.hid hk1
    have H7 := Lib.hid hk7
    clear hk1 hk7
    have HE2 := Lib.hid (show pended (some s1) = false by rw [← HS1.out]; exact HE.out)
    have HL1 := Lib.hid (show S.es.length ≤ 4096 by have := HL.out; have := HT3.out.len; omega)
    have b1z := HBX3.out.got 1 _ rfl
    obtain ⟨a1, ha1⟩ := HT3.out.ptr HS1.out
    obtain ⟨N, hN⟩ := HT3.out.mp
    have hlk := fun n => look60n hN task ht0 ht1 n
    rw [ha1] at hlk
    simp only [ptrO] at hlk
    clear hN
    have c0 := HT3.out.blk.got 0 _ rfl
    clear ha1
    have b0 := HBX3.out.got 0 _ rfl
    go_upto_region 9 with fail
    go_quiet (fail)
    replace HT3 := Lib.hid (HT3.out.kept (below_drewN (Below.refl _ _) nq))
    replace HBX3 := Lib.hid (HBX3.out.kept (below_drewN (Below.refl _ _) nq))
    replace HB3 := Lib.hid (below_drewN HB3.out nq)
    generalize w3.drewN nq = w4 at *
    clear c0 b0 hlk
    cases mk with
    | true =>
      have HCM : Hid (Calls Try.prog 37 #[.pointer (some ⟨t, 0, none⟩), .int .i64 i, .agg #[.int .i64 task, .int .i64 step, .int .i64 stripe, .bool waits, .int .i64 next, .slice vq vn vc, .bool true, .int .i64 op, .string key, .string oth, .string item, .int .i64 qty, .slice dq dn dc, .int .i64 aop, .int .i64 aerr, .int .i64 acnt, .slice lq ln lc, .slice bq bn bc]] w4 fun e w' => e = .returned (.bool (pmade i ⟨task, step, true, pc, pa⟩ s1 x1 S).isSome) ∧ Below B w4 w' ∧ K51 w4 w' ∧ ∀ S', pmade i ⟨task, step, true, pc, pa⟩ s1 x1 S = some S' → ∃ p' c' A' es', Tell w' B t mb p' c' A' es' S') :=
        Lib.hid (made_any HT3.out i ⟨task, step, stripe, waits, next, vq, vn, vc, true, op, key, oth, item, qty, dq, dn, dc, aop, aerr, acnt, lq, ln, lc, bq, bn, bc⟩ ⟨task, step, true, pc, pa⟩ (HDR.out _ HB3.out) HOK.out (by have := HT3.out.len; have := HL1.out; omega) (by omega) ht0 ht1 s1 HS1.out x1 HX1.out)
      have HRGx := Lib.hid HBX3.out.range
      have b6x := HBX3.out.got 6 _ rfl
      go_wp2_with (refine wpList_ld rfl 51 (.tmp 5) rfl z 0 rfl #[.int .i64 task, .int .i64 step, .int .i64 stripe, .bool waits, .int .i64 next, .slice vq vn vc, .bool true, .int .i64 op, .string key, .string oth, .string item, .int .i64 qty, .slice dq dn dc, .int .i64 aop, .int .i64 aerr, .int .i64 acnt, .slice lq ln lc, .slice bq bn bc] [.int .i64 task, .int .i64 step, .int .i64 stripe, .bool waits, .int .i64 next, .slice vq vn vc, .bool true, .int .i64 op, .string key, .string oth, .string item, .int .i64 qty, .slice dq dn dc, .int .i64 aop, .int .i64 aerr, .int .i64 acnt, .slice lq ln lc, .slice bq bn bc] rfl _ HRGx.out Try.underlying51 rfl info51 ?_)
      refine HCM.out.mono ?_
      rintro e w5 ⟨rfl, hb5, hk5, ht5⟩
      cases hp5 : pmade i ⟨task, step, true, pc, pa⟩ s1 x1 S with
      | none =>
        have HR : Hid (pstep i ⟨task, step, true, pc, pa⟩ S = none) := Lib.hid (by simp [pstep, H1.out, H7.out, HE2.out, HS1.out, HX1.out, hp5])
        have HB5 := Lib.hid (HB3.out.trans hb5)
        have HBX5 := Lib.hid (hk5 _ _ HBX3.out)
        simp only [Option.isSome]
        clear hp5 hb5 hk5 ht5 HRGx b6x
        have b1z := HBX5.out.got 1 _ rfl
        go_wp2_with fail
        go_ret
        exact ⟨by rw [HR.out]; rfl, HB5.out, fun S' hS' => by rw [HR.out] at hS'; cases hS'⟩
      | some S2 =>
        have HB5 := Lib.hid (HB3.out.trans hb5)
        have HBX5 := Lib.hid (hk5 _ _ HBX3.out)
        obtain ⟨p5, c5, A5, es5, hT5⟩ := ht5 S2 hp5
        have HT5 := Lib.hid hT5
        have HP5 := Lib.hid hp5
        obtain ⟨x2, hs2, hx2, hl2⟩ := pmade_some hp5 HS1.out HX1.out
        have HS2 := Lib.hid hs2
        have HX2 := Lib.hid hx2
        replace HL1 := Lib.hid (show S2.es.length ≤ 4096 by have := HL1.out; omega)
        simp only [Option.isSome]
        clear hp5 hb5 hk5 ht5 hT5 hs2 hx2 hl2 HRGx b6x
        by_cases h6 : step = 6
        · subst h6
          have HBX6 := HBX5
          clear HBX5
          have HBX6 := HBX6
          have HCA : Hid (Calls Try.prog 38 #[.pointer (some ⟨t, 0, none⟩), .int .i64 i, .agg #[.int .i64 task, .int .i64 6, .int .i64 stripe, .bool waits, .int .i64 next, .slice vq vn vc, .bool true, .int .i64 op, .string key, .string oth, .string item, .int .i64 qty, .slice dq dn dc, .int .i64 aop, .int .i64 aerr, .int .i64 acnt, .slice lq ln lc, .slice bq bn bc]] w5 fun e w' => e = .returned (.bool (pans i ⟨task, 6, true, pc, pa⟩ s1 x2 S2).isSome) ∧ Below B w5 w' ∧ K51 w5 w' ∧ ∀ S', pans i ⟨task, 6, true, pc, pa⟩ s1 x2 S2 = some S' → ∃ p' c' A' es', Tell w' B t mb p' c' A' es' S') :=
            Lib.hid (answered_any HT5.out i ⟨task, 6, stripe, waits, next, vq, vn, vc, true, op, key, oth, item, qty, dq, dn, dc, aop, aerr, acnt, lq, ln, lc, bq, bn, bc⟩ ⟨task, 6, true, pc, pa⟩ (HDR.out _ HB5.out) HOK.out (by have := HT5.out.len; have := HL1.out; omega) (by omega) ht0 ht1 s1 HS2.out x2 HX2.out)
          have b1y := HBX6.out.got 1 _ rfl
          have HRGy := Lib.hid HBX6.out.range
          go_wp2_with (refine wpList_ld rfl 51 (.tmp 5) rfl z 0 rfl #[.int .i64 task, .int .i64 6, .int .i64 stripe, .bool waits, .int .i64 next, .slice vq vn vc, .bool true, .int .i64 op, .string key, .string oth, .string item, .int .i64 qty, .slice dq dn dc, .int .i64 aop, .int .i64 aerr, .int .i64 acnt, .slice lq ln lc, .slice bq bn bc] [.int .i64 task, .int .i64 6, .int .i64 stripe, .bool waits, .int .i64 next, .slice vq vn vc, .bool true, .int .i64 op, .string key, .string oth, .string item, .int .i64 qty, .slice dq dn dc, .int .i64 aop, .int .i64 aerr, .int .i64 acnt, .slice lq ln lc, .slice bq bn bc] rfl _ HRGy.out Try.underlying51 rfl info51 ?_)
          refine HCA.out.mono ?_
          rintro e w8 ⟨rfl, hb8, hk8, ht8⟩
          cases hp8 : pans i ⟨task, 6, true, pc, pa⟩ s1 x2 S2 with
          | none =>
            have HR : Hid (pstep i ⟨task, 6, true, pc, pa⟩ S = none) := Lib.hid (by simp [pstep, H1.out, H7.out, HE2.out, HS1.out, HX1.out, HP5.out, HX2.out, hp8])
            have HB8 := Lib.hid (HB5.out.trans hb8)
            simp only [Option.isSome]
            clear hp8 hb8 hk8 ht8 HRGy b1y
            go_wp2_with fail
            go_ret
            exact ⟨by rw [HR.out]; rfl, HB8.out, fun S' hS' => by rw [HR.out] at hS'; cases hS'⟩
          | some S8 =>
            have HR : Hid (pstep i ⟨task, 6, true, pc, pa⟩ S = some S8) := Lib.hid (by simp [pstep, HN3.out, HN4.out, H1.out, H7.out, HE2.out, HS1.out, HX1.out, HP5.out, HX2.out, hp8])
            have HB8 := Lib.hid (HB5.out.trans hb8)
            obtain ⟨p8, c8, A8, es8, hT8⟩ := ht8 S8 hp8
            have HT8 := Lib.hid hT8
            simp only [Option.isSome]
            clear hp8 hb8 hk8 ht8 hT8 HRGy b1y
            go_wp2_with fail
            go_ret
            exact ⟨by rw [HR.out]; rfl, HB8.out, fun S' hS' => by rw [HR.out] at hS'; injection hS' with hS'; subst hS'; exact ⟨_, _, _, _, HT8.out⟩⟩
        · have h6' : (step == 6) = false := by simpa using h6
          have HR : Hid (pstep i ⟨task, step, true, pc, pa⟩ S = some S2) := Lib.hid (by simp [pstep, HN1.out, HN2.out, HN3.out, HN4.out, H1.out, H7.out, HE2.out, HS1.out, HX1.out, HP5.out, HX2.out, h6])
          clear h6
          have b1z := HBX5.out.got 1 _ rfl
          go_wp2_with fail
          go_ret
          exact ⟨by rw [HR.out]; rfl, HB5.out, fun S' hS' => by rw [HR.out] at hS'; injection hS' with hS'; subst hS'; exact ⟨_, _, _, _, HT5.out⟩⟩
    | false =>
      have HS2 := HS1
      have HX2 := HX1
      obtain ⟨x2, hx2e⟩ : ∃ x2, x1 = x2 := ⟨_, rfl⟩
      rw [hx2e] at HX2
      clear hx2e
      have b6z := HBX3.out.got 6 _ rfl
      by_cases h6 : step = 6
      · subst h6
        have HBX6 := HBX3
        clear HBX3
        have HBX6 := HBX6
        have HCA : Hid (Calls Try.prog 38 #[.pointer (some ⟨t, 0, none⟩), .int .i64 i, .agg #[.int .i64 task, .int .i64 6, .int .i64 stripe, .bool waits, .int .i64 next, .slice vq vn vc, .bool false, .int .i64 op, .string key, .string oth, .string item, .int .i64 qty, .slice dq dn dc, .int .i64 aop, .int .i64 aerr, .int .i64 acnt, .slice lq ln lc, .slice bq bn bc]] w4 fun e w' => e = .returned (.bool (pans i ⟨task, 6, false, pc, pa⟩ s1 x2 S).isSome) ∧ Below B w4 w' ∧ K51 w4 w' ∧ ∀ S', pans i ⟨task, 6, false, pc, pa⟩ s1 x2 S = some S' → ∃ p' c' A' es', Tell w' B t mb p' c' A' es' S') :=
          Lib.hid (answered_any HT3.out i ⟨task, 6, stripe, waits, next, vq, vn, vc, false, op, key, oth, item, qty, dq, dn, dc, aop, aerr, acnt, lq, ln, lc, bq, bn, bc⟩ ⟨task, 6, false, pc, pa⟩ (HDR.out _ HB3.out) HOK.out (by have := HT3.out.len; have := HL1.out; omega) (by omega) ht0 ht1 s1 HS2.out x2 HX2.out)
        have b1y := HBX6.out.got 1 _ rfl
        have HRGy := Lib.hid HBX6.out.range
        go_wp2_with (refine wpList_ld rfl 51 (.tmp 5) rfl z 0 rfl #[.int .i64 task, .int .i64 6, .int .i64 stripe, .bool waits, .int .i64 next, .slice vq vn vc, .bool false, .int .i64 op, .string key, .string oth, .string item, .int .i64 qty, .slice dq dn dc, .int .i64 aop, .int .i64 aerr, .int .i64 acnt, .slice lq ln lc, .slice bq bn bc] [.int .i64 task, .int .i64 6, .int .i64 stripe, .bool waits, .int .i64 next, .slice vq vn vc, .bool false, .int .i64 op, .string key, .string oth, .string item, .int .i64 qty, .slice dq dn dc, .int .i64 aop, .int .i64 aerr, .int .i64 acnt, .slice lq ln lc, .slice bq bn bc] rfl _ HRGy.out Try.underlying51 rfl info51 ?_)
        refine HCA.out.mono ?_
        rintro e w8 ⟨rfl, hb8, hk8, ht8⟩
        cases hp8 : pans i ⟨task, 6, false, pc, pa⟩ s1 x2 S with
        | none =>
          have HR : Hid (pstep i ⟨task, 6, false, pc, pa⟩ S = none) := Lib.hid (by simp [pstep, H1.out, H7.out, HE2.out, HS1.out, HX2.out, hp8])
          have HB8 := Lib.hid (HB3.out.trans hb8)
          simp only [Option.isSome]
          clear hp8 hb8 hk8 ht8 HRGy b1y
          go_wp2_with fail
          go_ret
          exact ⟨by rw [HR.out]; rfl, HB8.out, fun S' hS' => by rw [HR.out] at hS'; cases hS'⟩
        | some S8 =>
          have HR : Hid (pstep i ⟨task, 6, false, pc, pa⟩ S = some S8) := Lib.hid (by simp [pstep, HN3.out, HN4.out, H1.out, H7.out, HE2.out, HS1.out, HX2.out, hp8])
          have HB8 := Lib.hid (HB3.out.trans hb8)
          obtain ⟨p8, c8, A8, es8, hT8⟩ := ht8 S8 hp8
          have HT8 := Lib.hid hT8
          simp only [Option.isSome]
          clear hp8 hb8 hk8 ht8 hT8 HRGy b1y
          go_wp2_with fail
          go_ret
          exact ⟨by rw [HR.out]; rfl, HB8.out, fun S' hS' => by rw [HR.out] at hS'; injection hS' with hS'; subst hS'; exact ⟨_, _, _, _, HT8.out⟩⟩
      · have h6' : (step == 6) = false := by simpa using h6
        have HR : Hid (pstep i ⟨task, step, false, pc, pa⟩ S = some S) := Lib.hid (by simp [pstep, HN1.out, HN2.out, HN3.out, HN4.out, H1.out, H7.out, HE2.out, HS1.out, HX2.out, h6])
        clear h6
        have b1z := HBX3.out.got 1 _ rfl
        go_wp2_with fail
        go_ret
        exact ⟨by rw [HR.out]; rfl, HB3.out, fun S' hS' => by rw [HR.out] at hS'; injection hS' with hS'; subst hS'; exact ⟨_, _, _, _, HT3.out⟩⟩
end Go.Proofs.Ytbkkplednfdfdaa
