/- A call made; a call answered. Printed by hist_i.py. -/
import Derived.Test.YtbkkplednfdfdaaBegin
namespace Go.Proofs.Ytbkkplednfdfdaa
open Go.RowKit Go.Maps
set_option linter.unusedVariables false

theorem own_some {w : World} {B c n size : Nat} {t : TypeId} {p : Option Addr} {xs : List Value} (h : w.ownsRow B t size (.slice p n c) n xs) (hn : 0 < n) : ∃ g, p = some ⟨g, 0, none⟩ := by
  rcases h.2 with ⟨h1, h2⟩ | ⟨g, cap, cur, hv, hg, hh, hn', hc, hs, ht⟩
  · injection h1 with _ h3 _
    omega
  · injection hv with hp
    exact ⟨g, hp⟩
theorem own_form' {w : World} {B c n size : Nat} {t : TypeId} {p : Option Addr} {xs : List Value} (h : w.ownsRow B t size (.slice p n c) n xs) : True ∧ n ≤ c ∧ c ≤ maxLen ∧ True := by
  obtain ⟨p', c', hv, h1, h2⟩ := own_shape h
  injection hv with _ _ h3
  exact ⟨trivial, by omega, by omega, trivial⟩
set_option maxRecDepth 100000 in
set_option maxHeartbeats 8000000 in
theorem made_any {w : World} {B t mb c : Nat} {p : Option Addr} {A : Int → Option Nat} {es : List Ev} {S : PS} (hT : Tell w B t mb p c A es S) (i : Nat) (d : Di) (pd : PD) (hd : DiR (RdW w w.heap.size) d pd) (hok : pd.c.ok ∧ pd.a.ok) (hl : es.length ≤ 4096) (hi : i ≤ 4096) (ht0 : 0 ≤ pd.task) (ht1 : pd.task ≤ 9999)
    (s : TS) (hs : S.T pd.task = some s) (x : PE) (hx : S.es[s.event]? = some x) :
    Calls Try.prog 37 #[.pointer (some ⟨t, 0, none⟩), .int .i64 i, d.agg] w fun e w' => e = .returned (.bool (pmade i pd s x S).isSome) ∧ Below B w w' ∧ K51 w w' ∧ ∀ S', pmade i pd s x S = some S' → ∃ p' c' A' es', Tell w' B t mb p' c' A' es' S' := by
  obtain ⟨task, step, stripe, waits, next, vq, vn, vc, mk, op, key, oth, item, qty, dq, dn, dc, aop, aerr, acnt, lq, ln, lc, bq, bn, bc⟩ := d
  obtain ⟨pt, ps, pm, pc, pa⟩ := pd
  obtain ⟨d1, d2, d3, d4, d5⟩ := hd
  simp only at d1 d2 d3 d4 d5 hok ht0 ht1
  subst d1 d2 d3
  have HD4 := Lib.hid d4
  have HD5 := Lib.hid d5
  have HOK := Lib.hid hok
  have HT0 := Lib.hid hT
  have HL := Lib.hid hl
  clear d4 d5 hok hT hl
  simp only [Di.agg]
  go_enter Try.func37, Try.ntmps37
  go_upto_region 1 with fail
  have HBX := Lib.hid (Blk.new w 51 [.int .i64 task, .int .i64 step, .int .i64 stripe, .bool waits, .int .i64 next, .slice vq vn vc, .bool mk, .int .i64 op, .string key, .string oth, .string item, .int .i64 qty, .slice dq dn dc, .int .i64 aop, .int .i64 aerr, .int .i64 acnt, .slice lq ln lc, .slice bq bn bc])
  have HB1 := Lib.hid (below_al (Below.refl w.heap.size w) (.cells #[.int .i64 task, .int .i64 step, .int .i64 stripe, .bool waits, .int .i64 next, .slice vq vn vc, .bool mk, .int .i64 op, .string key, .string oth, .string item, .int .i64 qty, .slice dq dn dc, .int .i64 aop, .int .i64 aerr, .int .i64 acnt, .slice lq ln lc, .slice bq bn bc] 51))
  have HT1 := Lib.hid (HT0.out.kept HB1.out)
  generalize w.alloc (.cells #[.int .i64 task, .int .i64 step, .int .i64 stripe, .bool waits, .int .i64 next, .slice vq vn vc, .bool mk, .int .i64 op, .string key, .string oth, .string item, .int .i64 qty, .slice dq dn dc, .int .i64 aop, .int .i64 aerr, .int .i64 acnt, .slice lq ln lc, .slice bq bn bc] 51) = w1 at *
  obtain ⟨z, hz⟩ : ∃ z, w.heap.size = z := ⟨_, rfl⟩
  have HZ := Lib.hid hz
  rw [hz] at HBX ⊢
  clear hz
  have HWB : Hid (B ≤ w.heap.size) := Lib.hid (by have := HT0.out.bt; have := HT0.out.blk.lt; omega)
  obtain ⟨a, hA⟩ : ∃ a, A task = some a := by
    cases h : A task with
    | none => have := HT1.out.no task h; rw [hs] at this; cases this
    | some a => exact ⟨a, rfl⟩
  obtain ⟨s', hS', hba, hBa, hev⟩ := HT1.out.st task a hA
  rw [hs] at hS'
  injection hS' with hS'
  subst hS'
  obtain ⟨looks, ev, ended⟩ := s
  simp only at hba hev hx
  obtain ⟨g, rfl⟩ := own_some HT1.out.own (by omega)
  obtain ⟨cur, hcur⟩ := HT1.out.ownBlk (g := g) rfl
  obtain ⟨-, hes, -, -⟩ := own_form' HT1.out.own
  have hgne : g ≠ a := fun e => by subst e; exact absurd (hcur.type hba) (by decide)
  have hxr := HT1.out.ev ev es[ev] x (List.getElem?_eq_getElem hev) hx
  have hrd := Rd.of_own HT1.out.own
  have HEV := Lib.hid (show ∀ (w' : World), Below w1.heap.size w1 w' → ∀ i u, (es[ev]).cells[i]? = some u → w'.cell? ⟨g, ev * 15 + i, none⟩ = some u from fun w' hb i u hu => by
    obtain ⟨b, o, hp, hlt, hc⟩ := evs_rd (hrd.kept hb) hev
    injection hp with hp
    injection hp with h1 h2
    subst h1 h2
    have := hc i u hu
    rwa [Nat.zero_add] at this)
  obtain ⟨xx, hxx⟩ : ∃ xx, es[ev] = xx := ⟨_, rfl⟩
  have HXX := Lib.hid hxx
  rw [hxx] at hxr HEV
  clear hxx
  obtain ⟨xt, xa, xm, xn, xop, xkey, xoth, xitem, xqty, xdq, xdn, xdc, xaop, xaerr, xacnt, xlq, xln, xlc, xbq, xbn, xbc⟩ := xx
  obtain ⟨qt, qa, qm, qn, qc, qe⟩ := x
  obtain ⟨r1, r2, r3, r4, r5, r6⟩ := hxr
  simp only at r1 r2 r3 r4 r5 r6
  subst r1 r2 r3 r4
  have HQ5 := Lib.hid r5
  have HQ6 := Lib.hid r6
  have HEVL := Lib.hid hev
  have HAA := Lib.hid hA
  have HBA := Lib.hid hba
  have HCUR := Lib.hid hcur
  have HSS := Lib.hid hs
  have HXE := Lib.hid hx
  have HBAB := Lib.hid hBa
  have hesl : es.length ≤ 4096 := HL.out
  have hevi : (ev : Int) < (es.length : Int) := by omega
  have c0 := HT1.out.blk.got 0 _ rfl
  have b0 := HBX.out.got 0 _ rfl
  obtain ⟨M, hM⟩ := HT1.out.mp
  have hlk := fun n => look60n hM task ht0 ht1 n
  rw [hA] at hlk
  simp only [ptrO] at hlk
  clear r5 r6 hM hcur hba hs hx hA hrd hBa
  go_quiet (fail)
  have HB2 := Lib.hid (below_drewN (Below.refl w1.heap.size w1) nq)
  have HD := Lib.hid (fun (n m : Nat) => below_drewN (below_drewN (Below.refl w1.heap.size w1) n) m)
  generalize w1.drewN nq = w2 at *
  clear hlk c0 b0
  go_upto_region 2 with fail
  have HT2 := Lib.hid (HT1.out.kept HB2.out)
  have t1 := HT2.out.blk.got 1 _ rfl
  have a1 := (HBA.out.kept HB2.out).got 1 _ rfl
  go_quiet (fail)
  replace HB2 := Lib.hid (below_drewN HB2.out nq)
  generalize w2.drewN nq = w3 at *
  clear t1 a1 HD HT2
  have HT3 := Lib.hid (HT1.out.kept HB2.out)
  have HBX3 := Lib.hid (HBX.out.kept HB2.out)
  have HBA3 := Lib.hid (HBA.out.kept HB2.out)
  have HC3 := Lib.hid (HCUR.out.kept HB2.out)
  have HE3 := Lib.hid (HEV.out w3 HB2.out)
  have HBw := Lib.hid (HB1.out.trans (HB2.out.mono HB1.out.size))
  have HCG := Lib.hid (fun (w' : World) (hb : Below w.heap.size w w') => call_gen w' op key oth item qty dq dn dc pc (HD4.out.imp (fun p xs h => Rd.kept h hb)) HOK.out.1)
  replace HCG := Lib.hid (fun (w' : World) (hb : Below w.heap.size w w') => (HCG.out w' hb).mono (fun e w'' (h : ∃ q m, e = _ ∧ CR (RdD w'' w'.heap.size) op key oth item qty q dn m pc ∧ Below w'.heap.size w' w'') => (show ∃ q m, e = _ ∧ CR (RdD w'' w.heap.size) op key oth item qty q dn m pc ∧ Below w'.heap.size w' w'' from let ⟨q, m, h1, h2, h3⟩ := h; ⟨q, m, h1, h2.imp (fun p xs hr => hr.low hb.size), h3⟩)))
  have HAG := Lib.hid (fun (w' : World) (hb : Below w.heap.size w w') => (answer_gen w' aop aerr acnt lq ln lc bq bn bc pa (HD5.out.imp (fun t p xs h => Rd.kept h hb)) HOK.out.2).mono (fun e w'' (h : ∃ lq' lc' bq' bc', e = _ ∧ AR (RdD w'' w'.heap.size) aop aerr acnt lq' ln lc' bq' bn bc' pa ∧ Below w'.heap.size w' w'') => (show ∃ lq' lc' bq' bc', e = _ ∧ AR (RdD w'' w.heap.size) aop aerr acnt lq' ln lc' bq' bn bc' pa ∧ Below w'.heap.size w' w'' from let ⟨q, m, q2, m2, h1, h2, h3⟩ := h; ⟨q, m, q2, m2, h1, h2.imp (fun t p xs hr => hr.low hb.size), h3⟩)))
  have HZG : Hid (z ≠ g) := Lib.hid (fun e => by have h1 := HBX.out; rw [e] at h1; exact absurd (h1.type HCUR.out) (by decide))
  have e13 := HE3.out 13 _ rfl
  have b1 := HBX3.out.got 1 _ rfl
  by_cases hm : 0 ≤ xm
  · have HR : Hid (pmade i ⟨task, step, mk, pc, pa⟩ ⟨looks, ev, ended⟩ ⟨xt, xa, xm, xn, qc, qe⟩ S = none) := Lib.hid (by simp [pmade, pmadeB, hm])
    have hm' : (decide (xm ≥ 0)) = true := by simpa using hm
    go_wp2_with fail
    go_ret
    exact ⟨by rw [HR.out]; rfl, HBw.out.mono HWB.out, K51.of HBw.out, fun S' hS' => by rw [HR.out] at hS'; cases hS'⟩
  · have hm' : (decide (xm ≥ 0)) = false := by simpa using hm
    have hm2 : (decide (0 ≤ xm)) = false := by simpa using hm
    have HM := Lib.hid hm
    clear hm
    by_cases h1 : step = 1
    · subst h1
      cases looks with
      | true =>
        have HR : Hid (pmade i ⟨task, 1, mk, pc, pa⟩ ⟨true, ev, ended⟩ ⟨xt, xa, xm, xn, qc, qe⟩ S = some ⟨S.T, S.es.set ev (pmadeE i ⟨task, 1, mk, pc, pa⟩ ⟨true, ev, ended⟩ ⟨xt, xa, xm, xn, qc, qe⟩)⟩) := Lib.hid (by simp [pmade, pmadeB, HM.out])
        go_upto_region 5 with fail
        clear e13 b1
        refine wp_region_noPanic ?_
        refine wp_region_held_drew (S := fun w' => w'.cell? ⟨z, 7, none⟩ = some (.int .i64 op) ∧ w'.cell? ⟨z, 8, none⟩ = some (.string key) ∧ w'.cell? ⟨z, 9, none⟩ = some (.string oth) ∧ w'.cell? ⟨z, 10, none⟩ = some (.string item) ∧ w'.cell? ⟨z, 11, none⟩ = some (.int .i64 qty) ∧ w'.cell? ⟨z, 12, none⟩ = some (.slice dq dn dc) ∧ w'.cell? ⟨z, 13, none⟩ = some (.int .i64 aop) ∧ w'.cell? ⟨z, 14, none⟩ = some (.int .i64 aerr) ∧ w'.cell? ⟨z, 15, none⟩ = some (.int .i64 acnt) ∧ w'.cell? ⟨z, 16, none⟩ = some (.slice lq ln lc) ∧ w'.cell? ⟨z, 17, none⟩ = some (.slice bq bn bc)) (by kernel_rfl) (⟨HBX3.out.got 7 _ rfl, HBX3.out.got 8 _ rfl, HBX3.out.got 9 _ rfl, HBX3.out.got 10 _ rfl, HBX3.out.got 11 _ rfl, HBX3.out.got 12 _ rfl, HBX3.out.got 13 _ rfl, HBX3.out.got 14 _ rfl, HBX3.out.got 15 _ rfl, HBX3.out.got 16 _ rfl, HBX3.out.got 17 _ rfl⟩) (fun hHeld => ?_)
        refine wpAnyH_take (i := 0) (oi := ⟨some 40, _, _, _, _, _⟩) (v := ?_) rfl (by kernel_rfl) (by kernel_rfl) (by kernel_rfl) (fun _ _ _ h => h) (Or.inl ⟨by rfl, ?_⟩) hHeld ?_
        rotate_left
        · (intro w hSw; obtain ⟨hq0, hq1, hq2, hq3, hq4, hq5, hq6, hq7, hq8, hq9, hq10⟩ := hSw; go_simp; try with_reducible rfl)
        try simp only [Act.put, List.setIfInBounds_toArray, List.set_cons_zero, List.set_cons_succ]
        refine wpAnyH_take (i := 1) (oi := ⟨some 41, _, _, _, _, _⟩) (v := ?_) rfl (by kernel_rfl) (by kernel_rfl) (by kernel_rfl) (fun _ _ _ h => h) (Or.inl ⟨by rfl, ?_⟩) hHeld ?_
        rotate_left
        · (intro w hSw; obtain ⟨hq0, hq1, hq2, hq3, hq4, hq5, hq6, hq7, hq8, hq9, hq10⟩ := hSw; go_simp; try with_reducible rfl)
        try simp only [Act.put, List.setIfInBounds_toArray, List.set_cons_zero, List.set_cons_succ]
        refine wpAnyH_take (i := 2) (oi := ⟨some 42, _, _, _, _, _⟩) (v := ?_) rfl (by kernel_rfl) (by kernel_rfl) (by kernel_rfl) (fun _ _ _ h => h) (Or.inl ⟨by rfl, ?_⟩) hHeld ?_
        rotate_left
        · (intro w hSw; obtain ⟨hq0, hq1, hq2, hq3, hq4, hq5, hq6, hq7, hq8, hq9, hq10⟩ := hSw; go_simp; try with_reducible rfl)
        try simp only [Act.put, List.setIfInBounds_toArray, List.set_cons_zero, List.set_cons_succ]
        refine wpAnyH_take (i := 3) (oi := ⟨some 43, _, _, _, _, _⟩) (v := ?_) rfl (by kernel_rfl) (by kernel_rfl) (by kernel_rfl) (fun _ _ _ h => h) (Or.inl ⟨by rfl, ?_⟩) hHeld ?_
        rotate_left
        · (intro w hSw; obtain ⟨hq0, hq1, hq2, hq3, hq4, hq5, hq6, hq7, hq8, hq9, hq10⟩ := hSw; go_simp; try with_reducible rfl)
        try simp only [Act.put, List.setIfInBounds_toArray, List.set_cons_zero, List.set_cons_succ]
        refine wpAnyH_take (i := 4) (oi := ⟨some 44, _, _, _, _, _⟩) (v := ?_) rfl (by kernel_rfl) (by kernel_rfl) (by kernel_rfl) (fun _ _ _ h => h) (Or.inl ⟨by rfl, ?_⟩) hHeld ?_
        rotate_left
        · (intro w hSw; obtain ⟨hq0, hq1, hq2, hq3, hq4, hq5, hq6, hq7, hq8, hq9, hq10⟩ := hSw; go_simp; try with_reducible rfl)
        try simp only [Act.put, List.setIfInBounds_toArray, List.set_cons_zero, List.set_cons_succ]
        refine wpAnyH_take (i := 5) (oi := ⟨some 45, _, _, _, _, _⟩) (v := ?_) rfl (by kernel_rfl) (by kernel_rfl) (by kernel_rfl) (fun _ _ _ h => h) (Or.inl ⟨by rfl, ?_⟩) hHeld ?_
        rotate_left
        · (intro w hSw; obtain ⟨hq0, hq1, hq2, hq3, hq4, hq5, hq6, hq7, hq8, hq9, hq10⟩ := hSw; go_simp; try with_reducible rfl)
        try simp only [Act.put, List.setIfInBounds_toArray, List.set_cons_zero, List.set_cons_succ]
        refine wpAnyH_take (i := 7) (oi := ⟨some 47, _, _, _, _, _⟩) (v := ?_) rfl (by kernel_rfl) (by kernel_rfl) (by kernel_rfl) (fun _ _ _ h => h) (Or.inl ⟨by rfl, ?_⟩) hHeld ?_
        rotate_left
        · (intro w hSw; obtain ⟨hq0, hq1, hq2, hq3, hq4, hq5, hq6, hq7, hq8, hq9, hq10⟩ := hSw; go_simp; try with_reducible rfl)
        try simp only [Act.put, List.setIfInBounds_toArray, List.set_cons_zero, List.set_cons_succ]
        refine wpAnyH_take (i := 8) (oi := ⟨some 48, _, _, _, _, _⟩) (v := ?_) rfl (by kernel_rfl) (by kernel_rfl) (by kernel_rfl) (fun _ _ _ h => h) (Or.inl ⟨by rfl, ?_⟩) hHeld ?_
        rotate_left
        · (intro w hSw; obtain ⟨hq0, hq1, hq2, hq3, hq4, hq5, hq6, hq7, hq8, hq9, hq10⟩ := hSw; go_simp; try with_reducible rfl)
        try simp only [Act.put, List.setIfInBounds_toArray, List.set_cons_zero, List.set_cons_succ]
        refine wpAnyH_ready (rs := [6]) (by kernel_rfl) (by simp) ?_
        refine (AllReadyH.cons (o := ⟨some 46, _, _, _, _, _⟩) rfl (fun K hK => ?_) AllReadyH.nil)
        go_simp
        (refine (HCG.out _ (by first | exact HBw.out | exact HBw.out.drew)).mono ?_; rintro e w4 ⟨dq', dc', rfl, hcr, hb4⟩)
        replace hb4 : Below w3.heap.size w3 w4 := ⟨hb4.os, hb4.tape, hb4.output, hb4.size, hb4.block⟩
        have HCR := Lib.hid hcr
        have HB4 := Lib.hid hb4
        have HBX4 := Lib.hid (HBX3.out.kept hb4)
        have HBw4 := Lib.hid (HBw.out.trans (hb4.mono HBw.out.size))
        clear hcr hb4
        refine hK.out _ _ (⟨HBX4.out.got 7 _ rfl, HBX4.out.got 8 _ rfl, HBX4.out.got 9 _ rfl, HBX4.out.got 10 _ rfl, HBX4.out.got 11 _ rfl, HBX4.out.got 12 _ rfl, HBX4.out.got 13 _ rfl, HBX4.out.got 14 _ rfl, HBX4.out.got 15 _ rfl, HBX4.out.got 16 _ rfl, HBX4.out.got 17 _ rfl⟩) (fun hHeld => ?_)
        clear hK K
        try simp only [Act.put, List.setIfInBounds_toArray, List.set_cons_zero, List.set_cons_succ]
        refine wpAnyH_ready (rs := [9]) (by kernel_rfl) (by simp) ?_
        refine (AllReadyH.cons (o := ⟨some 49, _, _, _, _, _⟩) rfl (fun K hK => ?_) AllReadyH.nil)
        go_simp
        (refine (HAG.out _ (by first | exact HBw4.out | exact HBw4.out.drew)).mono ?_; rintro e w5 ⟨lq', lc', bq', bc', rfl, har, hb5⟩)
        replace hb5 : Below w4.heap.size w4 w5 := ⟨hb5.os, hb5.tape, hb5.output, hb5.size, hb5.block⟩
        have HAR := Lib.hid har
        have HCR5 := Lib.hid (HCR.out.imp (fun p xs h => RdD.kept h hb5))
        have HB5 := Lib.hid ((HB2.out.trans (HB4.out.mono HB2.out.size)).trans (hb5.mono (Nat.le_trans HB2.out.size HB4.out.size)))
        have HBX5 := Lib.hid (HBX4.out.kept hb5)
        have HBw5 := Lib.hid (HBw4.out.trans (hb5.mono HBw4.out.size))
        have HC5 := Lib.hid (HCUR.out.kept HB5.out)
        have HE5 := Lib.hid (HEV.out w5 HB5.out)
        have HBA5 := Lib.hid (HBA.out.kept HB5.out)
        have HT5 := Lib.hid (HT1.out.kept HB5.out)
        have e1 := HE5.out 1 _ rfl
        have e2 := HE5.out 2 _ rfl
        have e3 := HE5.out 3 _ rfl
        have e4 := HE5.out 4 _ rfl
        have e5 := HE5.out 5 _ rfl
        have e6 := HE5.out 6 _ rfl
        have e7 := HE5.out 7 _ rfl
        have e8 := HE5.out 8 _ rfl
        have e9 := HE5.out 9 _ rfl
        have e10 := HE5.out 10 _ rfl
        have e11 := HE5.out 11 _ rfl
        have e12 := HE5.out 12 _ rfl
        have e13 := HE5.out 13 _ rfl
        have e14 := HE5.out 14 _ rfl
        have f1 := HC5.out.free (ev * 15 + 1)
        have f2 := HC5.out.free (ev * 15 + 2)
        have f3 := HC5.out.free (ev * 15 + 3)
        have f4 := HC5.out.free (ev * 15 + 4)
        have f5 := HC5.out.free (ev * 15 + 5)
        have f6 := HC5.out.free (ev * 15 + 6)
        have f7 := HC5.out.free (ev * 15 + 7)
        have f8 := HC5.out.free (ev * 15 + 8)
        have f9 := HC5.out.free (ev * 15 + 9)
        have f10 := HC5.out.free (ev * 15 + 10)
        have f11 := HC5.out.free (ev * 15 + 11)
        have f12 := HC5.out.free (ev * 15 + 12)
        have f13 := HC5.out.free (ev * 15 + 13)
        have f14 := HC5.out.free (ev * 15 + 14)
        have a0 := HBA5.out.got 0 _ rfl
        have hne2 : a ≠ g := fun e => hgne e.symm
        clear har hb5
        refine hK.out _ _ (⟨HBX5.out.got 7 _ rfl, HBX5.out.got 8 _ rfl, HBX5.out.got 9 _ rfl, HBX5.out.got 10 _ rfl, HBX5.out.got 11 _ rfl, HBX5.out.got 12 _ rfl, HBX5.out.got 13 _ rfl, HBX5.out.got 14 _ rfl, HBX5.out.got 15 _ rfl, HBX5.out.got 16 _ rfl, HBX5.out.got 17 _ rfl⟩) (fun hHeld => ?_)
        clear hK K
        try simp only [Act.put, List.setIfInBounds_toArray, List.set_cons_zero, List.set_cons_succ]
        refine wpAnyH_take (i := 10) (oi := ⟨some 50, _, _, _, _, _⟩) (v := ?_) rfl (by kernel_rfl) (by kernel_rfl) (by kernel_rfl) (fun _ _ _ h => h) (Or.inl ⟨by rfl, ?_⟩) hHeld ?_
        rotate_left
        · (intro w hSw; obtain ⟨hq0, hq1, hq2, hq3, hq4, hq5, hq6, hq7, hq8, hq9, hq10⟩ := hSw; go_simp; try with_reducible rfl)
        try simp only [Act.put, List.setIfInBounds_toArray, List.set_cons_zero, List.set_cons_succ]
        refine wpAnyH_take (i := 11) (oi := ⟨some 51, _, _, _, _, _⟩) (v := ?_) rfl (by kernel_rfl) (by kernel_rfl) (by kernel_rfl) (fun _ _ _ h => h) (Or.inl ⟨by rfl, ?_⟩) hHeld ?_
        rotate_left
        · (intro w hSw; obtain ⟨hq0, hq1, hq2, hq3, hq4, hq5, hq6, hq7, hq8, hq9, hq10⟩ := hSw; go_simp; try with_reducible rfl)
        try simp only [Act.put, List.setIfInBounds_toArray, List.set_cons_zero, List.set_cons_succ]
        refine wpAnyH_ready (rs := [12]) (by kernel_rfl) (by simp) ?_
        refine (AllReadyH.cons (o := ⟨none, _, _, _, _, _⟩) rfl (fun K hK => ?_) AllReadyH.nil)
        go_simp
        refine hK.out _ _ (⟨(HBX5.out.far (p := ⟨g, ev * 15 + 13, none⟩) HZG.out (.int .i64 i)).got 7 _ rfl, (HBX5.out.far (p := ⟨g, ev * 15 + 13, none⟩) HZG.out (.int .i64 i)).got 8 _ rfl, (HBX5.out.far (p := ⟨g, ev * 15 + 13, none⟩) HZG.out (.int .i64 i)).got 9 _ rfl, (HBX5.out.far (p := ⟨g, ev * 15 + 13, none⟩) HZG.out (.int .i64 i)).got 10 _ rfl, (HBX5.out.far (p := ⟨g, ev * 15 + 13, none⟩) HZG.out (.int .i64 i)).got 11 _ rfl, (HBX5.out.far (p := ⟨g, ev * 15 + 13, none⟩) HZG.out (.int .i64 i)).got 12 _ rfl, (HBX5.out.far (p := ⟨g, ev * 15 + 13, none⟩) HZG.out (.int .i64 i)).got 13 _ rfl, (HBX5.out.far (p := ⟨g, ev * 15 + 13, none⟩) HZG.out (.int .i64 i)).got 14 _ rfl, (HBX5.out.far (p := ⟨g, ev * 15 + 13, none⟩) HZG.out (.int .i64 i)).got 15 _ rfl, (HBX5.out.far (p := ⟨g, ev * 15 + 13, none⟩) HZG.out (.int .i64 i)).got 16 _ rfl, (HBX5.out.far (p := ⟨g, ev * 15 + 13, none⟩) HZG.out (.int .i64 i)).got 17 _ rfl⟩) (fun hHeld => ?_)
        clear hK K
        try simp only [Act.put, List.setIfInBounds_toArray, List.set_cons_zero, List.set_cons_succ]
        refine wpAnyH_take (i := 13) (oi := ⟨some 52, _, _, _, _, _⟩) (v := ?_) rfl (by kernel_rfl) (by kernel_rfl) (by kernel_rfl) (fun _ _ _ h => h) (Or.inl ⟨by rfl, ?_⟩) hHeld ?_
        rotate_left
        · (intro w hSw; obtain ⟨hq0, hq1, hq2, hq3, hq4, hq5, hq6, hq7, hq8, hq9, hq10⟩ := hSw; go_simp; try with_reducible rfl)
        try simp only [Act.put, List.setIfInBounds_toArray, List.set_cons_zero, List.set_cons_succ]
        refine wpAnyH_take (i := 14) (oi := ⟨some 53, _, _, _, _, _⟩) (v := ?_) rfl (by kernel_rfl) (by kernel_rfl) (by kernel_rfl) (fun _ _ _ h => h) (Or.inl ⟨by rfl, ?_⟩) hHeld ?_
        rotate_left
        · (intro w hSw; obtain ⟨hq0, hq1, hq2, hq3, hq4, hq5, hq6, hq7, hq8, hq9, hq10⟩ := hSw; go_simp; try with_reducible rfl)
        try simp only [Act.put, List.setIfInBounds_toArray, List.set_cons_zero, List.set_cons_succ]
        refine wpAnyH_ready (rs := [15]) (by kernel_rfl) (by simp) ?_
        refine (AllReadyH.cons (o := ⟨none, _, _, _, _, _⟩) rfl (fun K hK => ?_) AllReadyH.nil)
        go_simp
        refine hK.out _ _ (⟨(((((((HBX5.out.far (p := ⟨g, ev * 15 + 13, none⟩) HZG.out (.int .i64 i)).far (p := ⟨g, ev * 15 + 1, none⟩) HZG.out (.int .i64 op)).far (p := ⟨g, ev * 15 + 2, none⟩) HZG.out (.string key)).far (p := ⟨g, ev * 15 + 3, none⟩) HZG.out (.string oth)).far (p := ⟨g, ev * 15 + 4, none⟩) HZG.out (.string item)).far (p := ⟨g, ev * 15 + 5, none⟩) HZG.out (.int .i64 qty)).far (p := ⟨g, ev * 15 + 6, none⟩) HZG.out (.slice dq' dn dc')).got 7 _ rfl, (((((((HBX5.out.far (p := ⟨g, ev * 15 + 13, none⟩) HZG.out (.int .i64 i)).far (p := ⟨g, ev * 15 + 1, none⟩) HZG.out (.int .i64 op)).far (p := ⟨g, ev * 15 + 2, none⟩) HZG.out (.string key)).far (p := ⟨g, ev * 15 + 3, none⟩) HZG.out (.string oth)).far (p := ⟨g, ev * 15 + 4, none⟩) HZG.out (.string item)).far (p := ⟨g, ev * 15 + 5, none⟩) HZG.out (.int .i64 qty)).far (p := ⟨g, ev * 15 + 6, none⟩) HZG.out (.slice dq' dn dc')).got 8 _ rfl, (((((((HBX5.out.far (p := ⟨g, ev * 15 + 13, none⟩) HZG.out (.int .i64 i)).far (p := ⟨g, ev * 15 + 1, none⟩) HZG.out (.int .i64 op)).far (p := ⟨g, ev * 15 + 2, none⟩) HZG.out (.string key)).far (p := ⟨g, ev * 15 + 3, none⟩) HZG.out (.string oth)).far (p := ⟨g, ev * 15 + 4, none⟩) HZG.out (.string item)).far (p := ⟨g, ev * 15 + 5, none⟩) HZG.out (.int .i64 qty)).far (p := ⟨g, ev * 15 + 6, none⟩) HZG.out (.slice dq' dn dc')).got 9 _ rfl, (((((((HBX5.out.far (p := ⟨g, ev * 15 + 13, none⟩) HZG.out (.int .i64 i)).far (p := ⟨g, ev * 15 + 1, none⟩) HZG.out (.int .i64 op)).far (p := ⟨g, ev * 15 + 2, none⟩) HZG.out (.string key)).far (p := ⟨g, ev * 15 + 3, none⟩) HZG.out (.string oth)).far (p := ⟨g, ev * 15 + 4, none⟩) HZG.out (.string item)).far (p := ⟨g, ev * 15 + 5, none⟩) HZG.out (.int .i64 qty)).far (p := ⟨g, ev * 15 + 6, none⟩) HZG.out (.slice dq' dn dc')).got 10 _ rfl, (((((((HBX5.out.far (p := ⟨g, ev * 15 + 13, none⟩) HZG.out (.int .i64 i)).far (p := ⟨g, ev * 15 + 1, none⟩) HZG.out (.int .i64 op)).far (p := ⟨g, ev * 15 + 2, none⟩) HZG.out (.string key)).far (p := ⟨g, ev * 15 + 3, none⟩) HZG.out (.string oth)).far (p := ⟨g, ev * 15 + 4, none⟩) HZG.out (.string item)).far (p := ⟨g, ev * 15 + 5, none⟩) HZG.out (.int .i64 qty)).far (p := ⟨g, ev * 15 + 6, none⟩) HZG.out (.slice dq' dn dc')).got 11 _ rfl, (((((((HBX5.out.far (p := ⟨g, ev * 15 + 13, none⟩) HZG.out (.int .i64 i)).far (p := ⟨g, ev * 15 + 1, none⟩) HZG.out (.int .i64 op)).far (p := ⟨g, ev * 15 + 2, none⟩) HZG.out (.string key)).far (p := ⟨g, ev * 15 + 3, none⟩) HZG.out (.string oth)).far (p := ⟨g, ev * 15 + 4, none⟩) HZG.out (.string item)).far (p := ⟨g, ev * 15 + 5, none⟩) HZG.out (.int .i64 qty)).far (p := ⟨g, ev * 15 + 6, none⟩) HZG.out (.slice dq' dn dc')).got 12 _ rfl, (((((((HBX5.out.far (p := ⟨g, ev * 15 + 13, none⟩) HZG.out (.int .i64 i)).far (p := ⟨g, ev * 15 + 1, none⟩) HZG.out (.int .i64 op)).far (p := ⟨g, ev * 15 + 2, none⟩) HZG.out (.string key)).far (p := ⟨g, ev * 15 + 3, none⟩) HZG.out (.string oth)).far (p := ⟨g, ev * 15 + 4, none⟩) HZG.out (.string item)).far (p := ⟨g, ev * 15 + 5, none⟩) HZG.out (.int .i64 qty)).far (p := ⟨g, ev * 15 + 6, none⟩) HZG.out (.slice dq' dn dc')).got 13 _ rfl, (((((((HBX5.out.far (p := ⟨g, ev * 15 + 13, none⟩) HZG.out (.int .i64 i)).far (p := ⟨g, ev * 15 + 1, none⟩) HZG.out (.int .i64 op)).far (p := ⟨g, ev * 15 + 2, none⟩) HZG.out (.string key)).far (p := ⟨g, ev * 15 + 3, none⟩) HZG.out (.string oth)).far (p := ⟨g, ev * 15 + 4, none⟩) HZG.out (.string item)).far (p := ⟨g, ev * 15 + 5, none⟩) HZG.out (.int .i64 qty)).far (p := ⟨g, ev * 15 + 6, none⟩) HZG.out (.slice dq' dn dc')).got 14 _ rfl, (((((((HBX5.out.far (p := ⟨g, ev * 15 + 13, none⟩) HZG.out (.int .i64 i)).far (p := ⟨g, ev * 15 + 1, none⟩) HZG.out (.int .i64 op)).far (p := ⟨g, ev * 15 + 2, none⟩) HZG.out (.string key)).far (p := ⟨g, ev * 15 + 3, none⟩) HZG.out (.string oth)).far (p := ⟨g, ev * 15 + 4, none⟩) HZG.out (.string item)).far (p := ⟨g, ev * 15 + 5, none⟩) HZG.out (.int .i64 qty)).far (p := ⟨g, ev * 15 + 6, none⟩) HZG.out (.slice dq' dn dc')).got 15 _ rfl, (((((((HBX5.out.far (p := ⟨g, ev * 15 + 13, none⟩) HZG.out (.int .i64 i)).far (p := ⟨g, ev * 15 + 1, none⟩) HZG.out (.int .i64 op)).far (p := ⟨g, ev * 15 + 2, none⟩) HZG.out (.string key)).far (p := ⟨g, ev * 15 + 3, none⟩) HZG.out (.string oth)).far (p := ⟨g, ev * 15 + 4, none⟩) HZG.out (.string item)).far (p := ⟨g, ev * 15 + 5, none⟩) HZG.out (.int .i64 qty)).far (p := ⟨g, ev * 15 + 6, none⟩) HZG.out (.slice dq' dn dc')).got 16 _ rfl, (((((((HBX5.out.far (p := ⟨g, ev * 15 + 13, none⟩) HZG.out (.int .i64 i)).far (p := ⟨g, ev * 15 + 1, none⟩) HZG.out (.int .i64 op)).far (p := ⟨g, ev * 15 + 2, none⟩) HZG.out (.string key)).far (p := ⟨g, ev * 15 + 3, none⟩) HZG.out (.string oth)).far (p := ⟨g, ev * 15 + 4, none⟩) HZG.out (.string item)).far (p := ⟨g, ev * 15 + 5, none⟩) HZG.out (.int .i64 qty)).far (p := ⟨g, ev * 15 + 6, none⟩) HZG.out (.slice dq' dn dc')).got 17 _ rfl⟩) (fun hHeld => ?_)
        clear hK K
        try simp only [Act.put, List.setIfInBounds_toArray, List.set_cons_zero, List.set_cons_succ]
        refine wpAnyH_take (i := 16) (oi := ⟨some 54, _, _, _, _, _⟩) (v := ?_) rfl (by kernel_rfl) (by kernel_rfl) (by kernel_rfl) (fun _ _ _ h => h) (Or.inl ⟨by rfl, ?_⟩) hHeld ?_
        rotate_left
        · (intro w hSw; obtain ⟨hq0, hq1, hq2, hq3, hq4, hq5, hq6, hq7, hq8, hq9, hq10⟩ := hSw; go_simp; try with_reducible rfl)
        try simp only [Act.put, List.setIfInBounds_toArray, List.set_cons_zero, List.set_cons_succ]
        refine wpAnyH_take (i := 17) (oi := ⟨some 55, _, _, _, _, _⟩) (v := ?_) rfl (by kernel_rfl) (by kernel_rfl) (by kernel_rfl) (fun _ _ _ h => h) (Or.inl ⟨by rfl, ?_⟩) hHeld ?_
        rotate_left
        · (intro w hSw; obtain ⟨hq0, hq1, hq2, hq3, hq4, hq5, hq6, hq7, hq8, hq9, hq10⟩ := hSw; go_simp; try with_reducible rfl)
        try simp only [Act.put, List.setIfInBounds_toArray, List.set_cons_zero, List.set_cons_succ]
        refine wpAnyH_ready (rs := [18]) (by kernel_rfl) (by simp) ?_
        refine (AllReadyH.cons (o := ⟨none, _, _, _, _, _⟩) rfl (fun K hK => ?_) AllReadyH.nil)
        go_simp
        refine hK.out _ _ (⟨((((((((((((HBX5.out.far (p := ⟨g, ev * 15 + 13, none⟩) HZG.out (.int .i64 i)).far (p := ⟨g, ev * 15 + 1, none⟩) HZG.out (.int .i64 op)).far (p := ⟨g, ev * 15 + 2, none⟩) HZG.out (.string key)).far (p := ⟨g, ev * 15 + 3, none⟩) HZG.out (.string oth)).far (p := ⟨g, ev * 15 + 4, none⟩) HZG.out (.string item)).far (p := ⟨g, ev * 15 + 5, none⟩) HZG.out (.int .i64 qty)).far (p := ⟨g, ev * 15 + 6, none⟩) HZG.out (.slice dq' dn dc')).far (p := ⟨g, ev * 15 + 7, none⟩) HZG.out (.int .i64 aop)).far (p := ⟨g, ev * 15 + 8, none⟩) HZG.out (.int .i64 aerr)).far (p := ⟨g, ev * 15 + 9, none⟩) HZG.out (.int .i64 acnt)).far (p := ⟨g, ev * 15 + 10, none⟩) HZG.out (.slice lq' ln lc')).far (p := ⟨g, ev * 15 + 11, none⟩) HZG.out (.slice bq' bn bc')).got 7 _ rfl, ((((((((((((HBX5.out.far (p := ⟨g, ev * 15 + 13, none⟩) HZG.out (.int .i64 i)).far (p := ⟨g, ev * 15 + 1, none⟩) HZG.out (.int .i64 op)).far (p := ⟨g, ev * 15 + 2, none⟩) HZG.out (.string key)).far (p := ⟨g, ev * 15 + 3, none⟩) HZG.out (.string oth)).far (p := ⟨g, ev * 15 + 4, none⟩) HZG.out (.string item)).far (p := ⟨g, ev * 15 + 5, none⟩) HZG.out (.int .i64 qty)).far (p := ⟨g, ev * 15 + 6, none⟩) HZG.out (.slice dq' dn dc')).far (p := ⟨g, ev * 15 + 7, none⟩) HZG.out (.int .i64 aop)).far (p := ⟨g, ev * 15 + 8, none⟩) HZG.out (.int .i64 aerr)).far (p := ⟨g, ev * 15 + 9, none⟩) HZG.out (.int .i64 acnt)).far (p := ⟨g, ev * 15 + 10, none⟩) HZG.out (.slice lq' ln lc')).far (p := ⟨g, ev * 15 + 11, none⟩) HZG.out (.slice bq' bn bc')).got 8 _ rfl, ((((((((((((HBX5.out.far (p := ⟨g, ev * 15 + 13, none⟩) HZG.out (.int .i64 i)).far (p := ⟨g, ev * 15 + 1, none⟩) HZG.out (.int .i64 op)).far (p := ⟨g, ev * 15 + 2, none⟩) HZG.out (.string key)).far (p := ⟨g, ev * 15 + 3, none⟩) HZG.out (.string oth)).far (p := ⟨g, ev * 15 + 4, none⟩) HZG.out (.string item)).far (p := ⟨g, ev * 15 + 5, none⟩) HZG.out (.int .i64 qty)).far (p := ⟨g, ev * 15 + 6, none⟩) HZG.out (.slice dq' dn dc')).far (p := ⟨g, ev * 15 + 7, none⟩) HZG.out (.int .i64 aop)).far (p := ⟨g, ev * 15 + 8, none⟩) HZG.out (.int .i64 aerr)).far (p := ⟨g, ev * 15 + 9, none⟩) HZG.out (.int .i64 acnt)).far (p := ⟨g, ev * 15 + 10, none⟩) HZG.out (.slice lq' ln lc')).far (p := ⟨g, ev * 15 + 11, none⟩) HZG.out (.slice bq' bn bc')).got 9 _ rfl, ((((((((((((HBX5.out.far (p := ⟨g, ev * 15 + 13, none⟩) HZG.out (.int .i64 i)).far (p := ⟨g, ev * 15 + 1, none⟩) HZG.out (.int .i64 op)).far (p := ⟨g, ev * 15 + 2, none⟩) HZG.out (.string key)).far (p := ⟨g, ev * 15 + 3, none⟩) HZG.out (.string oth)).far (p := ⟨g, ev * 15 + 4, none⟩) HZG.out (.string item)).far (p := ⟨g, ev * 15 + 5, none⟩) HZG.out (.int .i64 qty)).far (p := ⟨g, ev * 15 + 6, none⟩) HZG.out (.slice dq' dn dc')).far (p := ⟨g, ev * 15 + 7, none⟩) HZG.out (.int .i64 aop)).far (p := ⟨g, ev * 15 + 8, none⟩) HZG.out (.int .i64 aerr)).far (p := ⟨g, ev * 15 + 9, none⟩) HZG.out (.int .i64 acnt)).far (p := ⟨g, ev * 15 + 10, none⟩) HZG.out (.slice lq' ln lc')).far (p := ⟨g, ev * 15 + 11, none⟩) HZG.out (.slice bq' bn bc')).got 10 _ rfl, ((((((((((((HBX5.out.far (p := ⟨g, ev * 15 + 13, none⟩) HZG.out (.int .i64 i)).far (p := ⟨g, ev * 15 + 1, none⟩) HZG.out (.int .i64 op)).far (p := ⟨g, ev * 15 + 2, none⟩) HZG.out (.string key)).far (p := ⟨g, ev * 15 + 3, none⟩) HZG.out (.string oth)).far (p := ⟨g, ev * 15 + 4, none⟩) HZG.out (.string item)).far (p := ⟨g, ev * 15 + 5, none⟩) HZG.out (.int .i64 qty)).far (p := ⟨g, ev * 15 + 6, none⟩) HZG.out (.slice dq' dn dc')).far (p := ⟨g, ev * 15 + 7, none⟩) HZG.out (.int .i64 aop)).far (p := ⟨g, ev * 15 + 8, none⟩) HZG.out (.int .i64 aerr)).far (p := ⟨g, ev * 15 + 9, none⟩) HZG.out (.int .i64 acnt)).far (p := ⟨g, ev * 15 + 10, none⟩) HZG.out (.slice lq' ln lc')).far (p := ⟨g, ev * 15 + 11, none⟩) HZG.out (.slice bq' bn bc')).got 11 _ rfl, ((((((((((((HBX5.out.far (p := ⟨g, ev * 15 + 13, none⟩) HZG.out (.int .i64 i)).far (p := ⟨g, ev * 15 + 1, none⟩) HZG.out (.int .i64 op)).far (p := ⟨g, ev * 15 + 2, none⟩) HZG.out (.string key)).far (p := ⟨g, ev * 15 + 3, none⟩) HZG.out (.string oth)).far (p := ⟨g, ev * 15 + 4, none⟩) HZG.out (.string item)).far (p := ⟨g, ev * 15 + 5, none⟩) HZG.out (.int .i64 qty)).far (p := ⟨g, ev * 15 + 6, none⟩) HZG.out (.slice dq' dn dc')).far (p := ⟨g, ev * 15 + 7, none⟩) HZG.out (.int .i64 aop)).far (p := ⟨g, ev * 15 + 8, none⟩) HZG.out (.int .i64 aerr)).far (p := ⟨g, ev * 15 + 9, none⟩) HZG.out (.int .i64 acnt)).far (p := ⟨g, ev * 15 + 10, none⟩) HZG.out (.slice lq' ln lc')).far (p := ⟨g, ev * 15 + 11, none⟩) HZG.out (.slice bq' bn bc')).got 12 _ rfl, ((((((((((((HBX5.out.far (p := ⟨g, ev * 15 + 13, none⟩) HZG.out (.int .i64 i)).far (p := ⟨g, ev * 15 + 1, none⟩) HZG.out (.int .i64 op)).far (p := ⟨g, ev * 15 + 2, none⟩) HZG.out (.string key)).far (p := ⟨g, ev * 15 + 3, none⟩) HZG.out (.string oth)).far (p := ⟨g, ev * 15 + 4, none⟩) HZG.out (.string item)).far (p := ⟨g, ev * 15 + 5, none⟩) HZG.out (.int .i64 qty)).far (p := ⟨g, ev * 15 + 6, none⟩) HZG.out (.slice dq' dn dc')).far (p := ⟨g, ev * 15 + 7, none⟩) HZG.out (.int .i64 aop)).far (p := ⟨g, ev * 15 + 8, none⟩) HZG.out (.int .i64 aerr)).far (p := ⟨g, ev * 15 + 9, none⟩) HZG.out (.int .i64 acnt)).far (p := ⟨g, ev * 15 + 10, none⟩) HZG.out (.slice lq' ln lc')).far (p := ⟨g, ev * 15 + 11, none⟩) HZG.out (.slice bq' bn bc')).got 13 _ rfl, ((((((((((((HBX5.out.far (p := ⟨g, ev * 15 + 13, none⟩) HZG.out (.int .i64 i)).far (p := ⟨g, ev * 15 + 1, none⟩) HZG.out (.int .i64 op)).far (p := ⟨g, ev * 15 + 2, none⟩) HZG.out (.string key)).far (p := ⟨g, ev * 15 + 3, none⟩) HZG.out (.string oth)).far (p := ⟨g, ev * 15 + 4, none⟩) HZG.out (.string item)).far (p := ⟨g, ev * 15 + 5, none⟩) HZG.out (.int .i64 qty)).far (p := ⟨g, ev * 15 + 6, none⟩) HZG.out (.slice dq' dn dc')).far (p := ⟨g, ev * 15 + 7, none⟩) HZG.out (.int .i64 aop)).far (p := ⟨g, ev * 15 + 8, none⟩) HZG.out (.int .i64 aerr)).far (p := ⟨g, ev * 15 + 9, none⟩) HZG.out (.int .i64 acnt)).far (p := ⟨g, ev * 15 + 10, none⟩) HZG.out (.slice lq' ln lc')).far (p := ⟨g, ev * 15 + 11, none⟩) HZG.out (.slice bq' bn bc')).got 14 _ rfl, ((((((((((((HBX5.out.far (p := ⟨g, ev * 15 + 13, none⟩) HZG.out (.int .i64 i)).far (p := ⟨g, ev * 15 + 1, none⟩) HZG.out (.int .i64 op)).far (p := ⟨g, ev * 15 + 2, none⟩) HZG.out (.string key)).far (p := ⟨g, ev * 15 + 3, none⟩) HZG.out (.string oth)).far (p := ⟨g, ev * 15 + 4, none⟩) HZG.out (.string item)).far (p := ⟨g, ev * 15 + 5, none⟩) HZG.out (.int .i64 qty)).far (p := ⟨g, ev * 15 + 6, none⟩) HZG.out (.slice dq' dn dc')).far (p := ⟨g, ev * 15 + 7, none⟩) HZG.out (.int .i64 aop)).far (p := ⟨g, ev * 15 + 8, none⟩) HZG.out (.int .i64 aerr)).far (p := ⟨g, ev * 15 + 9, none⟩) HZG.out (.int .i64 acnt)).far (p := ⟨g, ev * 15 + 10, none⟩) HZG.out (.slice lq' ln lc')).far (p := ⟨g, ev * 15 + 11, none⟩) HZG.out (.slice bq' bn bc')).got 15 _ rfl, ((((((((((((HBX5.out.far (p := ⟨g, ev * 15 + 13, none⟩) HZG.out (.int .i64 i)).far (p := ⟨g, ev * 15 + 1, none⟩) HZG.out (.int .i64 op)).far (p := ⟨g, ev * 15 + 2, none⟩) HZG.out (.string key)).far (p := ⟨g, ev * 15 + 3, none⟩) HZG.out (.string oth)).far (p := ⟨g, ev * 15 + 4, none⟩) HZG.out (.string item)).far (p := ⟨g, ev * 15 + 5, none⟩) HZG.out (.int .i64 qty)).far (p := ⟨g, ev * 15 + 6, none⟩) HZG.out (.slice dq' dn dc')).far (p := ⟨g, ev * 15 + 7, none⟩) HZG.out (.int .i64 aop)).far (p := ⟨g, ev * 15 + 8, none⟩) HZG.out (.int .i64 aerr)).far (p := ⟨g, ev * 15 + 9, none⟩) HZG.out (.int .i64 acnt)).far (p := ⟨g, ev * 15 + 10, none⟩) HZG.out (.slice lq' ln lc')).far (p := ⟨g, ev * 15 + 11, none⟩) HZG.out (.slice bq' bn bc')).got 16 _ rfl, ((((((((((((HBX5.out.far (p := ⟨g, ev * 15 + 13, none⟩) HZG.out (.int .i64 i)).far (p := ⟨g, ev * 15 + 1, none⟩) HZG.out (.int .i64 op)).far (p := ⟨g, ev * 15 + 2, none⟩) HZG.out (.string key)).far (p := ⟨g, ev * 15 + 3, none⟩) HZG.out (.string oth)).far (p := ⟨g, ev * 15 + 4, none⟩) HZG.out (.string item)).far (p := ⟨g, ev * 15 + 5, none⟩) HZG.out (.int .i64 qty)).far (p := ⟨g, ev * 15 + 6, none⟩) HZG.out (.slice dq' dn dc')).far (p := ⟨g, ev * 15 + 7, none⟩) HZG.out (.int .i64 aop)).far (p := ⟨g, ev * 15 + 8, none⟩) HZG.out (.int .i64 aerr)).far (p := ⟨g, ev * 15 + 9, none⟩) HZG.out (.int .i64 acnt)).far (p := ⟨g, ev * 15 + 10, none⟩) HZG.out (.slice lq' ln lc')).far (p := ⟨g, ev * 15 + 11, none⟩) HZG.out (.slice bq' bn bc')).got 17 _ rfl⟩) (fun hHeld => ?_)
        clear hK K
        try simp only [Act.put, List.setIfInBounds_toArray, List.set_cons_zero, List.set_cons_succ]
        refine wpAnyH_done (by kernel_rfl) ?_ _
        refine NoPanic.normal ?_
        clear hHeld
        go_wp2_with fail
        go_ret
        as_aux_lemma =>
          have hF := sets_fr g (ev * 15) [(13, .int .i64 i), (1, .int .i64 op), (2, .string key), (3, .string oth), (4, .string item), (5, .int .i64 qty), (6, .slice dq' dn dc'), (7, .int .i64 aop), (8, .int .i64 aerr), (9, .int .i64 acnt), (10, .slice lq' ln lc'), (11, .slice bq' bn bc'), (14, .int .i64 i)] w5 w5 (Fr.refl _ _)
          have ho := own_sets (e' := ⟨xt, xa, i, i, op, key, oth, item, qty, dq', dn, dc', aop, aerr, acnt, lq', ln, lc', bq', bn, bc'⟩) (l := [(13, .int .i64 i), (1, .int .i64 op), (2, .string key), (3, .string oth), (4, .string item), (5, .int .i64 qty), (6, .slice dq' dn dc'), (7, .int .i64 aop), (8, .int .i64 aerr), (9, .int .i64 acnt), (10, .slice lq' ln lc'), (11, .slice bq' bn bc'), (14, .int .i64 i)]) HT5.out.own HEVL.out (by intro p hp; simp at hp; rcases hp with rfl | rfl | rfl | rfl | rfl | rfl | rfl | rfl | rfl | rfl | rfl | rfl | rfl <;> simp) (by rw [HXX.out]; rfl)
          have hE : EvR (RdD w5 B) ⟨xt, xa, i, i, op, key, oth, item, qty, dq', dn, dc', aop, aerr, acnt, lq', ln, lc', bq', bn, bc'⟩ (pmadeE i ⟨task, 1, mk, pc, pa⟩ ⟨true, ev, ended⟩ ⟨xt, xa, xm, xn, qc, qe⟩) := ⟨rfl, rfl, rfl, rfl, HCR5.out.imp (fun p xs h => h.low HWB.out), HAR.out.imp (fun t p xs h => h.low HWB.out)⟩
          have hT := HT5.out.turn (w' := sets w5 g (ev * 15) [(13, .int .i64 i), (1, .int .i64 op), (2, .string key), (3, .string oth), (4, .string item), (5, .int .i64 qty), (6, .slice dq' dn dc'), (7, .int .i64 aop), (8, .int .i64 aerr), (9, .int .i64 acnt), (10, .slice lq' ln lc'), (11, .slice bq' bn bc'), (14, .int .i64 i)]) (k := ev) (s := ⟨true, ev, ended⟩) (e := ⟨xt, xa, i, i, op, key, oth, item, qty, dq', dn, dc', aop, aerr, acnt, lq', ln, lc', bq', bn, bc'⟩) HAA.out HEVL.out (hF.mono (fun b hb => .inl (.inl hb))) (HBA5.out.fr hF (fun hx => hgne hx.symm)) HEVL.out ho hE
          refine ⟨by rw [HR.out]; rfl, (HBw5.out.mono HWB.out).trans hT.2.1, (K51.of HBw5.out).trans hT.2.2, fun S' hS' => ?_⟩
          rw [HR.out] at hS'
          injection hS' with hS'
          rw [← hS']
          have hT1 := hT.1
          rw [upd_id S.T task ⟨true, ev, ended⟩ HSS.out] at hT1
          exact ⟨_, c, A, _, hT1⟩
      | false =>
        have HR : Hid (pmade i ⟨task, 1, mk, pc, pa⟩ ⟨false, ev, ended⟩ ⟨xt, xa, xm, xn, qc, qe⟩ S = some ⟨S.T, S.es.set ev (pmadeE i ⟨task, 1, mk, pc, pa⟩ ⟨false, ev, ended⟩ ⟨xt, xa, xm, xn, qc, qe⟩)⟩) := Lib.hid (by simp [pmade, pmadeB, HM.out])
        go_upto_region 5 with fail
        clear e13 b1
        refine wp_region_noPanic ?_
        refine wp_region_held_drew (S := fun w' => w'.cell? ⟨z, 7, none⟩ = some (.int .i64 op) ∧ w'.cell? ⟨z, 8, none⟩ = some (.string key) ∧ w'.cell? ⟨z, 9, none⟩ = some (.string oth) ∧ w'.cell? ⟨z, 10, none⟩ = some (.string item) ∧ w'.cell? ⟨z, 11, none⟩ = some (.int .i64 qty) ∧ w'.cell? ⟨z, 12, none⟩ = some (.slice dq dn dc) ∧ w'.cell? ⟨z, 13, none⟩ = some (.int .i64 aop) ∧ w'.cell? ⟨z, 14, none⟩ = some (.int .i64 aerr) ∧ w'.cell? ⟨z, 15, none⟩ = some (.int .i64 acnt) ∧ w'.cell? ⟨z, 16, none⟩ = some (.slice lq ln lc) ∧ w'.cell? ⟨z, 17, none⟩ = some (.slice bq bn bc)) (by kernel_rfl) (⟨HBX3.out.got 7 _ rfl, HBX3.out.got 8 _ rfl, HBX3.out.got 9 _ rfl, HBX3.out.got 10 _ rfl, HBX3.out.got 11 _ rfl, HBX3.out.got 12 _ rfl, HBX3.out.got 13 _ rfl, HBX3.out.got 14 _ rfl, HBX3.out.got 15 _ rfl, HBX3.out.got 16 _ rfl, HBX3.out.got 17 _ rfl⟩) (fun hHeld => ?_)
        refine wpAnyH_take (i := 0) (oi := ⟨some 40, _, _, _, _, _⟩) (v := ?_) rfl (by kernel_rfl) (by kernel_rfl) (by kernel_rfl) (fun _ _ _ h => h) (Or.inl ⟨by rfl, ?_⟩) hHeld ?_
        rotate_left
        · (intro w hSw; obtain ⟨hq0, hq1, hq2, hq3, hq4, hq5, hq6, hq7, hq8, hq9, hq10⟩ := hSw; go_simp; try with_reducible rfl)
        try simp only [Act.put, List.setIfInBounds_toArray, List.set_cons_zero, List.set_cons_succ]
        refine wpAnyH_take (i := 1) (oi := ⟨some 41, _, _, _, _, _⟩) (v := ?_) rfl (by kernel_rfl) (by kernel_rfl) (by kernel_rfl) (fun _ _ _ h => h) (Or.inl ⟨by rfl, ?_⟩) hHeld ?_
        rotate_left
        · (intro w hSw; obtain ⟨hq0, hq1, hq2, hq3, hq4, hq5, hq6, hq7, hq8, hq9, hq10⟩ := hSw; go_simp; try with_reducible rfl)
        try simp only [Act.put, List.setIfInBounds_toArray, List.set_cons_zero, List.set_cons_succ]
        refine wpAnyH_take (i := 2) (oi := ⟨some 42, _, _, _, _, _⟩) (v := ?_) rfl (by kernel_rfl) (by kernel_rfl) (by kernel_rfl) (fun _ _ _ h => h) (Or.inl ⟨by rfl, ?_⟩) hHeld ?_
        rotate_left
        · (intro w hSw; obtain ⟨hq0, hq1, hq2, hq3, hq4, hq5, hq6, hq7, hq8, hq9, hq10⟩ := hSw; go_simp; try with_reducible rfl)
        try simp only [Act.put, List.setIfInBounds_toArray, List.set_cons_zero, List.set_cons_succ]
        refine wpAnyH_take (i := 3) (oi := ⟨some 43, _, _, _, _, _⟩) (v := ?_) rfl (by kernel_rfl) (by kernel_rfl) (by kernel_rfl) (fun _ _ _ h => h) (Or.inl ⟨by rfl, ?_⟩) hHeld ?_
        rotate_left
        · (intro w hSw; obtain ⟨hq0, hq1, hq2, hq3, hq4, hq5, hq6, hq7, hq8, hq9, hq10⟩ := hSw; go_simp; try with_reducible rfl)
        try simp only [Act.put, List.setIfInBounds_toArray, List.set_cons_zero, List.set_cons_succ]
        refine wpAnyH_take (i := 4) (oi := ⟨some 44, _, _, _, _, _⟩) (v := ?_) rfl (by kernel_rfl) (by kernel_rfl) (by kernel_rfl) (fun _ _ _ h => h) (Or.inl ⟨by rfl, ?_⟩) hHeld ?_
        rotate_left
        · (intro w hSw; obtain ⟨hq0, hq1, hq2, hq3, hq4, hq5, hq6, hq7, hq8, hq9, hq10⟩ := hSw; go_simp; try with_reducible rfl)
        try simp only [Act.put, List.setIfInBounds_toArray, List.set_cons_zero, List.set_cons_succ]
        refine wpAnyH_take (i := 5) (oi := ⟨some 45, _, _, _, _, _⟩) (v := ?_) rfl (by kernel_rfl) (by kernel_rfl) (by kernel_rfl) (fun _ _ _ h => h) (Or.inl ⟨by rfl, ?_⟩) hHeld ?_
        rotate_left
        · (intro w hSw; obtain ⟨hq0, hq1, hq2, hq3, hq4, hq5, hq6, hq7, hq8, hq9, hq10⟩ := hSw; go_simp; try with_reducible rfl)
        try simp only [Act.put, List.setIfInBounds_toArray, List.set_cons_zero, List.set_cons_succ]
        refine wpAnyH_take (i := 7) (oi := ⟨some 47, _, _, _, _, _⟩) (v := ?_) rfl (by kernel_rfl) (by kernel_rfl) (by kernel_rfl) (fun _ _ _ h => h) (Or.inl ⟨by rfl, ?_⟩) hHeld ?_
        rotate_left
        · (intro w hSw; obtain ⟨hq0, hq1, hq2, hq3, hq4, hq5, hq6, hq7, hq8, hq9, hq10⟩ := hSw; go_simp; try with_reducible rfl)
        try simp only [Act.put, List.setIfInBounds_toArray, List.set_cons_zero, List.set_cons_succ]
        refine wpAnyH_take (i := 8) (oi := ⟨some 48, _, _, _, _, _⟩) (v := ?_) rfl (by kernel_rfl) (by kernel_rfl) (by kernel_rfl) (fun _ _ _ h => h) (Or.inl ⟨by rfl, ?_⟩) hHeld ?_
        rotate_left
        · (intro w hSw; obtain ⟨hq0, hq1, hq2, hq3, hq4, hq5, hq6, hq7, hq8, hq9, hq10⟩ := hSw; go_simp; try with_reducible rfl)
        try simp only [Act.put, List.setIfInBounds_toArray, List.set_cons_zero, List.set_cons_succ]
        refine wpAnyH_ready (rs := [6]) (by kernel_rfl) (by simp) ?_
        refine (AllReadyH.cons (o := ⟨some 46, _, _, _, _, _⟩) rfl (fun K hK => ?_) AllReadyH.nil)
        go_simp
        (refine (HCG.out _ (by first | exact HBw.out | exact HBw.out.drew)).mono ?_; rintro e w4 ⟨dq', dc', rfl, hcr, hb4⟩)
        replace hb4 : Below w3.heap.size w3 w4 := ⟨hb4.os, hb4.tape, hb4.output, hb4.size, hb4.block⟩
        have HCR := Lib.hid hcr
        have HB4 := Lib.hid hb4
        have HBX4 := Lib.hid (HBX3.out.kept hb4)
        have HBw4 := Lib.hid (HBw.out.trans (hb4.mono HBw.out.size))
        clear hcr hb4
        refine hK.out _ _ (⟨HBX4.out.got 7 _ rfl, HBX4.out.got 8 _ rfl, HBX4.out.got 9 _ rfl, HBX4.out.got 10 _ rfl, HBX4.out.got 11 _ rfl, HBX4.out.got 12 _ rfl, HBX4.out.got 13 _ rfl, HBX4.out.got 14 _ rfl, HBX4.out.got 15 _ rfl, HBX4.out.got 16 _ rfl, HBX4.out.got 17 _ rfl⟩) (fun hHeld => ?_)
        clear hK K
        try simp only [Act.put, List.setIfInBounds_toArray, List.set_cons_zero, List.set_cons_succ]
        refine wpAnyH_ready (rs := [9]) (by kernel_rfl) (by simp) ?_
        refine (AllReadyH.cons (o := ⟨some 49, _, _, _, _, _⟩) rfl (fun K hK => ?_) AllReadyH.nil)
        go_simp
        (refine (HAG.out _ (by first | exact HBw4.out | exact HBw4.out.drew)).mono ?_; rintro e w5 ⟨lq', lc', bq', bc', rfl, har, hb5⟩)
        replace hb5 : Below w4.heap.size w4 w5 := ⟨hb5.os, hb5.tape, hb5.output, hb5.size, hb5.block⟩
        have HAR := Lib.hid har
        have HCR5 := Lib.hid (HCR.out.imp (fun p xs h => RdD.kept h hb5))
        have HB5 := Lib.hid ((HB2.out.trans (HB4.out.mono HB2.out.size)).trans (hb5.mono (Nat.le_trans HB2.out.size HB4.out.size)))
        have HBX5 := Lib.hid (HBX4.out.kept hb5)
        have HBw5 := Lib.hid (HBw4.out.trans (hb5.mono HBw4.out.size))
        have HC5 := Lib.hid (HCUR.out.kept HB5.out)
        have HE5 := Lib.hid (HEV.out w5 HB5.out)
        have HBA5 := Lib.hid (HBA.out.kept HB5.out)
        have HT5 := Lib.hid (HT1.out.kept HB5.out)
        have e1 := HE5.out 1 _ rfl
        have e2 := HE5.out 2 _ rfl
        have e3 := HE5.out 3 _ rfl
        have e4 := HE5.out 4 _ rfl
        have e5 := HE5.out 5 _ rfl
        have e6 := HE5.out 6 _ rfl
        have e7 := HE5.out 7 _ rfl
        have e8 := HE5.out 8 _ rfl
        have e9 := HE5.out 9 _ rfl
        have e10 := HE5.out 10 _ rfl
        have e11 := HE5.out 11 _ rfl
        have e12 := HE5.out 12 _ rfl
        have e13 := HE5.out 13 _ rfl
        have e14 := HE5.out 14 _ rfl
        have f1 := HC5.out.free (ev * 15 + 1)
        have f2 := HC5.out.free (ev * 15 + 2)
        have f3 := HC5.out.free (ev * 15 + 3)
        have f4 := HC5.out.free (ev * 15 + 4)
        have f5 := HC5.out.free (ev * 15 + 5)
        have f6 := HC5.out.free (ev * 15 + 6)
        have f7 := HC5.out.free (ev * 15 + 7)
        have f8 := HC5.out.free (ev * 15 + 8)
        have f9 := HC5.out.free (ev * 15 + 9)
        have f10 := HC5.out.free (ev * 15 + 10)
        have f11 := HC5.out.free (ev * 15 + 11)
        have f12 := HC5.out.free (ev * 15 + 12)
        have f13 := HC5.out.free (ev * 15 + 13)
        have f14 := HC5.out.free (ev * 15 + 14)
        have a0 := HBA5.out.got 0 _ rfl
        have hne2 : a ≠ g := fun e => hgne e.symm
        clear har hb5
        refine hK.out _ _ (⟨HBX5.out.got 7 _ rfl, HBX5.out.got 8 _ rfl, HBX5.out.got 9 _ rfl, HBX5.out.got 10 _ rfl, HBX5.out.got 11 _ rfl, HBX5.out.got 12 _ rfl, HBX5.out.got 13 _ rfl, HBX5.out.got 14 _ rfl, HBX5.out.got 15 _ rfl, HBX5.out.got 16 _ rfl, HBX5.out.got 17 _ rfl⟩) (fun hHeld => ?_)
        clear hK K
        try simp only [Act.put, List.setIfInBounds_toArray, List.set_cons_zero, List.set_cons_succ]
        refine wpAnyH_take (i := 10) (oi := ⟨some 50, _, _, _, _, _⟩) (v := ?_) rfl (by kernel_rfl) (by kernel_rfl) (by kernel_rfl) (fun _ _ _ h => h) (Or.inl ⟨by rfl, ?_⟩) hHeld ?_
        rotate_left
        · (intro w hSw; obtain ⟨hq0, hq1, hq2, hq3, hq4, hq5, hq6, hq7, hq8, hq9, hq10⟩ := hSw; go_simp; try with_reducible rfl)
        try simp only [Act.put, List.setIfInBounds_toArray, List.set_cons_zero, List.set_cons_succ]
        refine wpAnyH_take (i := 11) (oi := ⟨some 51, _, _, _, _, _⟩) (v := ?_) rfl (by kernel_rfl) (by kernel_rfl) (by kernel_rfl) (fun _ _ _ h => h) (Or.inl ⟨by rfl, ?_⟩) hHeld ?_
        rotate_left
        · (intro w hSw; obtain ⟨hq0, hq1, hq2, hq3, hq4, hq5, hq6, hq7, hq8, hq9, hq10⟩ := hSw; go_simp; try with_reducible rfl)
        try simp only [Act.put, List.setIfInBounds_toArray, List.set_cons_zero, List.set_cons_succ]
        refine wpAnyH_ready (rs := [12]) (by kernel_rfl) (by simp) ?_
        refine (AllReadyH.cons (o := ⟨none, _, _, _, _, _⟩) rfl (fun K hK => ?_) AllReadyH.nil)
        go_simp
        refine hK.out _ _ (⟨(HBX5.out.far (p := ⟨g, ev * 15 + 13, none⟩) HZG.out (.int .i64 i)).got 7 _ rfl, (HBX5.out.far (p := ⟨g, ev * 15 + 13, none⟩) HZG.out (.int .i64 i)).got 8 _ rfl, (HBX5.out.far (p := ⟨g, ev * 15 + 13, none⟩) HZG.out (.int .i64 i)).got 9 _ rfl, (HBX5.out.far (p := ⟨g, ev * 15 + 13, none⟩) HZG.out (.int .i64 i)).got 10 _ rfl, (HBX5.out.far (p := ⟨g, ev * 15 + 13, none⟩) HZG.out (.int .i64 i)).got 11 _ rfl, (HBX5.out.far (p := ⟨g, ev * 15 + 13, none⟩) HZG.out (.int .i64 i)).got 12 _ rfl, (HBX5.out.far (p := ⟨g, ev * 15 + 13, none⟩) HZG.out (.int .i64 i)).got 13 _ rfl, (HBX5.out.far (p := ⟨g, ev * 15 + 13, none⟩) HZG.out (.int .i64 i)).got 14 _ rfl, (HBX5.out.far (p := ⟨g, ev * 15 + 13, none⟩) HZG.out (.int .i64 i)).got 15 _ rfl, (HBX5.out.far (p := ⟨g, ev * 15 + 13, none⟩) HZG.out (.int .i64 i)).got 16 _ rfl, (HBX5.out.far (p := ⟨g, ev * 15 + 13, none⟩) HZG.out (.int .i64 i)).got 17 _ rfl⟩) (fun hHeld => ?_)
        clear hK K
        try simp only [Act.put, List.setIfInBounds_toArray, List.set_cons_zero, List.set_cons_succ]
        refine wpAnyH_take (i := 13) (oi := ⟨some 52, _, _, _, _, _⟩) (v := ?_) rfl (by kernel_rfl) (by kernel_rfl) (by kernel_rfl) (fun _ _ _ h => h) (Or.inl ⟨by rfl, ?_⟩) hHeld ?_
        rotate_left
        · (intro w hSw; obtain ⟨hq0, hq1, hq2, hq3, hq4, hq5, hq6, hq7, hq8, hq9, hq10⟩ := hSw; go_simp; try with_reducible rfl)
        try simp only [Act.put, List.setIfInBounds_toArray, List.set_cons_zero, List.set_cons_succ]
        refine wpAnyH_take (i := 14) (oi := ⟨some 53, _, _, _, _, _⟩) (v := ?_) rfl (by kernel_rfl) (by kernel_rfl) (by kernel_rfl) (fun _ _ _ h => h) (Or.inl ⟨by rfl, ?_⟩) hHeld ?_
        rotate_left
        · (intro w hSw; obtain ⟨hq0, hq1, hq2, hq3, hq4, hq5, hq6, hq7, hq8, hq9, hq10⟩ := hSw; go_simp; try with_reducible rfl)
        try simp only [Act.put, List.setIfInBounds_toArray, List.set_cons_zero, List.set_cons_succ]
        refine wpAnyH_ready (rs := [15]) (by kernel_rfl) (by simp) ?_
        refine (AllReadyH.cons (o := ⟨none, _, _, _, _, _⟩) rfl (fun K hK => ?_) AllReadyH.nil)
        go_simp
        refine hK.out _ _ (⟨(((((((HBX5.out.far (p := ⟨g, ev * 15 + 13, none⟩) HZG.out (.int .i64 i)).far (p := ⟨g, ev * 15 + 1, none⟩) HZG.out (.int .i64 op)).far (p := ⟨g, ev * 15 + 2, none⟩) HZG.out (.string key)).far (p := ⟨g, ev * 15 + 3, none⟩) HZG.out (.string oth)).far (p := ⟨g, ev * 15 + 4, none⟩) HZG.out (.string item)).far (p := ⟨g, ev * 15 + 5, none⟩) HZG.out (.int .i64 qty)).far (p := ⟨g, ev * 15 + 6, none⟩) HZG.out (.slice dq' dn dc')).got 7 _ rfl, (((((((HBX5.out.far (p := ⟨g, ev * 15 + 13, none⟩) HZG.out (.int .i64 i)).far (p := ⟨g, ev * 15 + 1, none⟩) HZG.out (.int .i64 op)).far (p := ⟨g, ev * 15 + 2, none⟩) HZG.out (.string key)).far (p := ⟨g, ev * 15 + 3, none⟩) HZG.out (.string oth)).far (p := ⟨g, ev * 15 + 4, none⟩) HZG.out (.string item)).far (p := ⟨g, ev * 15 + 5, none⟩) HZG.out (.int .i64 qty)).far (p := ⟨g, ev * 15 + 6, none⟩) HZG.out (.slice dq' dn dc')).got 8 _ rfl, (((((((HBX5.out.far (p := ⟨g, ev * 15 + 13, none⟩) HZG.out (.int .i64 i)).far (p := ⟨g, ev * 15 + 1, none⟩) HZG.out (.int .i64 op)).far (p := ⟨g, ev * 15 + 2, none⟩) HZG.out (.string key)).far (p := ⟨g, ev * 15 + 3, none⟩) HZG.out (.string oth)).far (p := ⟨g, ev * 15 + 4, none⟩) HZG.out (.string item)).far (p := ⟨g, ev * 15 + 5, none⟩) HZG.out (.int .i64 qty)).far (p := ⟨g, ev * 15 + 6, none⟩) HZG.out (.slice dq' dn dc')).got 9 _ rfl, (((((((HBX5.out.far (p := ⟨g, ev * 15 + 13, none⟩) HZG.out (.int .i64 i)).far (p := ⟨g, ev * 15 + 1, none⟩) HZG.out (.int .i64 op)).far (p := ⟨g, ev * 15 + 2, none⟩) HZG.out (.string key)).far (p := ⟨g, ev * 15 + 3, none⟩) HZG.out (.string oth)).far (p := ⟨g, ev * 15 + 4, none⟩) HZG.out (.string item)).far (p := ⟨g, ev * 15 + 5, none⟩) HZG.out (.int .i64 qty)).far (p := ⟨g, ev * 15 + 6, none⟩) HZG.out (.slice dq' dn dc')).got 10 _ rfl, (((((((HBX5.out.far (p := ⟨g, ev * 15 + 13, none⟩) HZG.out (.int .i64 i)).far (p := ⟨g, ev * 15 + 1, none⟩) HZG.out (.int .i64 op)).far (p := ⟨g, ev * 15 + 2, none⟩) HZG.out (.string key)).far (p := ⟨g, ev * 15 + 3, none⟩) HZG.out (.string oth)).far (p := ⟨g, ev * 15 + 4, none⟩) HZG.out (.string item)).far (p := ⟨g, ev * 15 + 5, none⟩) HZG.out (.int .i64 qty)).far (p := ⟨g, ev * 15 + 6, none⟩) HZG.out (.slice dq' dn dc')).got 11 _ rfl, (((((((HBX5.out.far (p := ⟨g, ev * 15 + 13, none⟩) HZG.out (.int .i64 i)).far (p := ⟨g, ev * 15 + 1, none⟩) HZG.out (.int .i64 op)).far (p := ⟨g, ev * 15 + 2, none⟩) HZG.out (.string key)).far (p := ⟨g, ev * 15 + 3, none⟩) HZG.out (.string oth)).far (p := ⟨g, ev * 15 + 4, none⟩) HZG.out (.string item)).far (p := ⟨g, ev * 15 + 5, none⟩) HZG.out (.int .i64 qty)).far (p := ⟨g, ev * 15 + 6, none⟩) HZG.out (.slice dq' dn dc')).got 12 _ rfl, (((((((HBX5.out.far (p := ⟨g, ev * 15 + 13, none⟩) HZG.out (.int .i64 i)).far (p := ⟨g, ev * 15 + 1, none⟩) HZG.out (.int .i64 op)).far (p := ⟨g, ev * 15 + 2, none⟩) HZG.out (.string key)).far (p := ⟨g, ev * 15 + 3, none⟩) HZG.out (.string oth)).far (p := ⟨g, ev * 15 + 4, none⟩) HZG.out (.string item)).far (p := ⟨g, ev * 15 + 5, none⟩) HZG.out (.int .i64 qty)).far (p := ⟨g, ev * 15 + 6, none⟩) HZG.out (.slice dq' dn dc')).got 13 _ rfl, (((((((HBX5.out.far (p := ⟨g, ev * 15 + 13, none⟩) HZG.out (.int .i64 i)).far (p := ⟨g, ev * 15 + 1, none⟩) HZG.out (.int .i64 op)).far (p := ⟨g, ev * 15 + 2, none⟩) HZG.out (.string key)).far (p := ⟨g, ev * 15 + 3, none⟩) HZG.out (.string oth)).far (p := ⟨g, ev * 15 + 4, none⟩) HZG.out (.string item)).far (p := ⟨g, ev * 15 + 5, none⟩) HZG.out (.int .i64 qty)).far (p := ⟨g, ev * 15 + 6, none⟩) HZG.out (.slice dq' dn dc')).got 14 _ rfl, (((((((HBX5.out.far (p := ⟨g, ev * 15 + 13, none⟩) HZG.out (.int .i64 i)).far (p := ⟨g, ev * 15 + 1, none⟩) HZG.out (.int .i64 op)).far (p := ⟨g, ev * 15 + 2, none⟩) HZG.out (.string key)).far (p := ⟨g, ev * 15 + 3, none⟩) HZG.out (.string oth)).far (p := ⟨g, ev * 15 + 4, none⟩) HZG.out (.string item)).far (p := ⟨g, ev * 15 + 5, none⟩) HZG.out (.int .i64 qty)).far (p := ⟨g, ev * 15 + 6, none⟩) HZG.out (.slice dq' dn dc')).got 15 _ rfl, (((((((HBX5.out.far (p := ⟨g, ev * 15 + 13, none⟩) HZG.out (.int .i64 i)).far (p := ⟨g, ev * 15 + 1, none⟩) HZG.out (.int .i64 op)).far (p := ⟨g, ev * 15 + 2, none⟩) HZG.out (.string key)).far (p := ⟨g, ev * 15 + 3, none⟩) HZG.out (.string oth)).far (p := ⟨g, ev * 15 + 4, none⟩) HZG.out (.string item)).far (p := ⟨g, ev * 15 + 5, none⟩) HZG.out (.int .i64 qty)).far (p := ⟨g, ev * 15 + 6, none⟩) HZG.out (.slice dq' dn dc')).got 16 _ rfl, (((((((HBX5.out.far (p := ⟨g, ev * 15 + 13, none⟩) HZG.out (.int .i64 i)).far (p := ⟨g, ev * 15 + 1, none⟩) HZG.out (.int .i64 op)).far (p := ⟨g, ev * 15 + 2, none⟩) HZG.out (.string key)).far (p := ⟨g, ev * 15 + 3, none⟩) HZG.out (.string oth)).far (p := ⟨g, ev * 15 + 4, none⟩) HZG.out (.string item)).far (p := ⟨g, ev * 15 + 5, none⟩) HZG.out (.int .i64 qty)).far (p := ⟨g, ev * 15 + 6, none⟩) HZG.out (.slice dq' dn dc')).got 17 _ rfl⟩) (fun hHeld => ?_)
        clear hK K
        try simp only [Act.put, List.setIfInBounds_toArray, List.set_cons_zero, List.set_cons_succ]
        refine wpAnyH_take (i := 16) (oi := ⟨some 54, _, _, _, _, _⟩) (v := ?_) rfl (by kernel_rfl) (by kernel_rfl) (by kernel_rfl) (fun _ _ _ h => h) (Or.inl ⟨by rfl, ?_⟩) hHeld ?_
        rotate_left
        · (intro w hSw; obtain ⟨hq0, hq1, hq2, hq3, hq4, hq5, hq6, hq7, hq8, hq9, hq10⟩ := hSw; go_simp; try with_reducible rfl)
        try simp only [Act.put, List.setIfInBounds_toArray, List.set_cons_zero, List.set_cons_succ]
        refine wpAnyH_take (i := 17) (oi := ⟨some 55, _, _, _, _, _⟩) (v := ?_) rfl (by kernel_rfl) (by kernel_rfl) (by kernel_rfl) (fun _ _ _ h => h) (Or.inl ⟨by rfl, ?_⟩) hHeld ?_
        rotate_left
        · (intro w hSw; obtain ⟨hq0, hq1, hq2, hq3, hq4, hq5, hq6, hq7, hq8, hq9, hq10⟩ := hSw; go_simp; try with_reducible rfl)
        try simp only [Act.put, List.setIfInBounds_toArray, List.set_cons_zero, List.set_cons_succ]
        refine wpAnyH_ready (rs := [18]) (by kernel_rfl) (by simp) ?_
        refine (AllReadyH.cons (o := ⟨none, _, _, _, _, _⟩) rfl (fun K hK => ?_) AllReadyH.nil)
        go_simp
        refine hK.out _ _ (⟨((((((((((((HBX5.out.far (p := ⟨g, ev * 15 + 13, none⟩) HZG.out (.int .i64 i)).far (p := ⟨g, ev * 15 + 1, none⟩) HZG.out (.int .i64 op)).far (p := ⟨g, ev * 15 + 2, none⟩) HZG.out (.string key)).far (p := ⟨g, ev * 15 + 3, none⟩) HZG.out (.string oth)).far (p := ⟨g, ev * 15 + 4, none⟩) HZG.out (.string item)).far (p := ⟨g, ev * 15 + 5, none⟩) HZG.out (.int .i64 qty)).far (p := ⟨g, ev * 15 + 6, none⟩) HZG.out (.slice dq' dn dc')).far (p := ⟨g, ev * 15 + 7, none⟩) HZG.out (.int .i64 aop)).far (p := ⟨g, ev * 15 + 8, none⟩) HZG.out (.int .i64 aerr)).far (p := ⟨g, ev * 15 + 9, none⟩) HZG.out (.int .i64 acnt)).far (p := ⟨g, ev * 15 + 10, none⟩) HZG.out (.slice lq' ln lc')).far (p := ⟨g, ev * 15 + 11, none⟩) HZG.out (.slice bq' bn bc')).got 7 _ rfl, ((((((((((((HBX5.out.far (p := ⟨g, ev * 15 + 13, none⟩) HZG.out (.int .i64 i)).far (p := ⟨g, ev * 15 + 1, none⟩) HZG.out (.int .i64 op)).far (p := ⟨g, ev * 15 + 2, none⟩) HZG.out (.string key)).far (p := ⟨g, ev * 15 + 3, none⟩) HZG.out (.string oth)).far (p := ⟨g, ev * 15 + 4, none⟩) HZG.out (.string item)).far (p := ⟨g, ev * 15 + 5, none⟩) HZG.out (.int .i64 qty)).far (p := ⟨g, ev * 15 + 6, none⟩) HZG.out (.slice dq' dn dc')).far (p := ⟨g, ev * 15 + 7, none⟩) HZG.out (.int .i64 aop)).far (p := ⟨g, ev * 15 + 8, none⟩) HZG.out (.int .i64 aerr)).far (p := ⟨g, ev * 15 + 9, none⟩) HZG.out (.int .i64 acnt)).far (p := ⟨g, ev * 15 + 10, none⟩) HZG.out (.slice lq' ln lc')).far (p := ⟨g, ev * 15 + 11, none⟩) HZG.out (.slice bq' bn bc')).got 8 _ rfl, ((((((((((((HBX5.out.far (p := ⟨g, ev * 15 + 13, none⟩) HZG.out (.int .i64 i)).far (p := ⟨g, ev * 15 + 1, none⟩) HZG.out (.int .i64 op)).far (p := ⟨g, ev * 15 + 2, none⟩) HZG.out (.string key)).far (p := ⟨g, ev * 15 + 3, none⟩) HZG.out (.string oth)).far (p := ⟨g, ev * 15 + 4, none⟩) HZG.out (.string item)).far (p := ⟨g, ev * 15 + 5, none⟩) HZG.out (.int .i64 qty)).far (p := ⟨g, ev * 15 + 6, none⟩) HZG.out (.slice dq' dn dc')).far (p := ⟨g, ev * 15 + 7, none⟩) HZG.out (.int .i64 aop)).far (p := ⟨g, ev * 15 + 8, none⟩) HZG.out (.int .i64 aerr)).far (p := ⟨g, ev * 15 + 9, none⟩) HZG.out (.int .i64 acnt)).far (p := ⟨g, ev * 15 + 10, none⟩) HZG.out (.slice lq' ln lc')).far (p := ⟨g, ev * 15 + 11, none⟩) HZG.out (.slice bq' bn bc')).got 9 _ rfl, ((((((((((((HBX5.out.far (p := ⟨g, ev * 15 + 13, none⟩) HZG.out (.int .i64 i)).far (p := ⟨g, ev * 15 + 1, none⟩) HZG.out (.int .i64 op)).far (p := ⟨g, ev * 15 + 2, none⟩) HZG.out (.string key)).far (p := ⟨g, ev * 15 + 3, none⟩) HZG.out (.string oth)).far (p := ⟨g, ev * 15 + 4, none⟩) HZG.out (.string item)).far (p := ⟨g, ev * 15 + 5, none⟩) HZG.out (.int .i64 qty)).far (p := ⟨g, ev * 15 + 6, none⟩) HZG.out (.slice dq' dn dc')).far (p := ⟨g, ev * 15 + 7, none⟩) HZG.out (.int .i64 aop)).far (p := ⟨g, ev * 15 + 8, none⟩) HZG.out (.int .i64 aerr)).far (p := ⟨g, ev * 15 + 9, none⟩) HZG.out (.int .i64 acnt)).far (p := ⟨g, ev * 15 + 10, none⟩) HZG.out (.slice lq' ln lc')).far (p := ⟨g, ev * 15 + 11, none⟩) HZG.out (.slice bq' bn bc')).got 10 _ rfl, ((((((((((((HBX5.out.far (p := ⟨g, ev * 15 + 13, none⟩) HZG.out (.int .i64 i)).far (p := ⟨g, ev * 15 + 1, none⟩) HZG.out (.int .i64 op)).far (p := ⟨g, ev * 15 + 2, none⟩) HZG.out (.string key)).far (p := ⟨g, ev * 15 + 3, none⟩) HZG.out (.string oth)).far (p := ⟨g, ev * 15 + 4, none⟩) HZG.out (.string item)).far (p := ⟨g, ev * 15 + 5, none⟩) HZG.out (.int .i64 qty)).far (p := ⟨g, ev * 15 + 6, none⟩) HZG.out (.slice dq' dn dc')).far (p := ⟨g, ev * 15 + 7, none⟩) HZG.out (.int .i64 aop)).far (p := ⟨g, ev * 15 + 8, none⟩) HZG.out (.int .i64 aerr)).far (p := ⟨g, ev * 15 + 9, none⟩) HZG.out (.int .i64 acnt)).far (p := ⟨g, ev * 15 + 10, none⟩) HZG.out (.slice lq' ln lc')).far (p := ⟨g, ev * 15 + 11, none⟩) HZG.out (.slice bq' bn bc')).got 11 _ rfl, ((((((((((((HBX5.out.far (p := ⟨g, ev * 15 + 13, none⟩) HZG.out (.int .i64 i)).far (p := ⟨g, ev * 15 + 1, none⟩) HZG.out (.int .i64 op)).far (p := ⟨g, ev * 15 + 2, none⟩) HZG.out (.string key)).far (p := ⟨g, ev * 15 + 3, none⟩) HZG.out (.string oth)).far (p := ⟨g, ev * 15 + 4, none⟩) HZG.out (.string item)).far (p := ⟨g, ev * 15 + 5, none⟩) HZG.out (.int .i64 qty)).far (p := ⟨g, ev * 15 + 6, none⟩) HZG.out (.slice dq' dn dc')).far (p := ⟨g, ev * 15 + 7, none⟩) HZG.out (.int .i64 aop)).far (p := ⟨g, ev * 15 + 8, none⟩) HZG.out (.int .i64 aerr)).far (p := ⟨g, ev * 15 + 9, none⟩) HZG.out (.int .i64 acnt)).far (p := ⟨g, ev * 15 + 10, none⟩) HZG.out (.slice lq' ln lc')).far (p := ⟨g, ev * 15 + 11, none⟩) HZG.out (.slice bq' bn bc')).got 12 _ rfl, ((((((((((((HBX5.out.far (p := ⟨g, ev * 15 + 13, none⟩) HZG.out (.int .i64 i)).far (p := ⟨g, ev * 15 + 1, none⟩) HZG.out (.int .i64 op)).far (p := ⟨g, ev * 15 + 2, none⟩) HZG.out (.string key)).far (p := ⟨g, ev * 15 + 3, none⟩) HZG.out (.string oth)).far (p := ⟨g, ev * 15 + 4, none⟩) HZG.out (.string item)).far (p := ⟨g, ev * 15 + 5, none⟩) HZG.out (.int .i64 qty)).far (p := ⟨g, ev * 15 + 6, none⟩) HZG.out (.slice dq' dn dc')).far (p := ⟨g, ev * 15 + 7, none⟩) HZG.out (.int .i64 aop)).far (p := ⟨g, ev * 15 + 8, none⟩) HZG.out (.int .i64 aerr)).far (p := ⟨g, ev * 15 + 9, none⟩) HZG.out (.int .i64 acnt)).far (p := ⟨g, ev * 15 + 10, none⟩) HZG.out (.slice lq' ln lc')).far (p := ⟨g, ev * 15 + 11, none⟩) HZG.out (.slice bq' bn bc')).got 13 _ rfl, ((((((((((((HBX5.out.far (p := ⟨g, ev * 15 + 13, none⟩) HZG.out (.int .i64 i)).far (p := ⟨g, ev * 15 + 1, none⟩) HZG.out (.int .i64 op)).far (p := ⟨g, ev * 15 + 2, none⟩) HZG.out (.string key)).far (p := ⟨g, ev * 15 + 3, none⟩) HZG.out (.string oth)).far (p := ⟨g, ev * 15 + 4, none⟩) HZG.out (.string item)).far (p := ⟨g, ev * 15 + 5, none⟩) HZG.out (.int .i64 qty)).far (p := ⟨g, ev * 15 + 6, none⟩) HZG.out (.slice dq' dn dc')).far (p := ⟨g, ev * 15 + 7, none⟩) HZG.out (.int .i64 aop)).far (p := ⟨g, ev * 15 + 8, none⟩) HZG.out (.int .i64 aerr)).far (p := ⟨g, ev * 15 + 9, none⟩) HZG.out (.int .i64 acnt)).far (p := ⟨g, ev * 15 + 10, none⟩) HZG.out (.slice lq' ln lc')).far (p := ⟨g, ev * 15 + 11, none⟩) HZG.out (.slice bq' bn bc')).got 14 _ rfl, ((((((((((((HBX5.out.far (p := ⟨g, ev * 15 + 13, none⟩) HZG.out (.int .i64 i)).far (p := ⟨g, ev * 15 + 1, none⟩) HZG.out (.int .i64 op)).far (p := ⟨g, ev * 15 + 2, none⟩) HZG.out (.string key)).far (p := ⟨g, ev * 15 + 3, none⟩) HZG.out (.string oth)).far (p := ⟨g, ev * 15 + 4, none⟩) HZG.out (.string item)).far (p := ⟨g, ev * 15 + 5, none⟩) HZG.out (.int .i64 qty)).far (p := ⟨g, ev * 15 + 6, none⟩) HZG.out (.slice dq' dn dc')).far (p := ⟨g, ev * 15 + 7, none⟩) HZG.out (.int .i64 aop)).far (p := ⟨g, ev * 15 + 8, none⟩) HZG.out (.int .i64 aerr)).far (p := ⟨g, ev * 15 + 9, none⟩) HZG.out (.int .i64 acnt)).far (p := ⟨g, ev * 15 + 10, none⟩) HZG.out (.slice lq' ln lc')).far (p := ⟨g, ev * 15 + 11, none⟩) HZG.out (.slice bq' bn bc')).got 15 _ rfl, ((((((((((((HBX5.out.far (p := ⟨g, ev * 15 + 13, none⟩) HZG.out (.int .i64 i)).far (p := ⟨g, ev * 15 + 1, none⟩) HZG.out (.int .i64 op)).far (p := ⟨g, ev * 15 + 2, none⟩) HZG.out (.string key)).far (p := ⟨g, ev * 15 + 3, none⟩) HZG.out (.string oth)).far (p := ⟨g, ev * 15 + 4, none⟩) HZG.out (.string item)).far (p := ⟨g, ev * 15 + 5, none⟩) HZG.out (.int .i64 qty)).far (p := ⟨g, ev * 15 + 6, none⟩) HZG.out (.slice dq' dn dc')).far (p := ⟨g, ev * 15 + 7, none⟩) HZG.out (.int .i64 aop)).far (p := ⟨g, ev * 15 + 8, none⟩) HZG.out (.int .i64 aerr)).far (p := ⟨g, ev * 15 + 9, none⟩) HZG.out (.int .i64 acnt)).far (p := ⟨g, ev * 15 + 10, none⟩) HZG.out (.slice lq' ln lc')).far (p := ⟨g, ev * 15 + 11, none⟩) HZG.out (.slice bq' bn bc')).got 16 _ rfl, ((((((((((((HBX5.out.far (p := ⟨g, ev * 15 + 13, none⟩) HZG.out (.int .i64 i)).far (p := ⟨g, ev * 15 + 1, none⟩) HZG.out (.int .i64 op)).far (p := ⟨g, ev * 15 + 2, none⟩) HZG.out (.string key)).far (p := ⟨g, ev * 15 + 3, none⟩) HZG.out (.string oth)).far (p := ⟨g, ev * 15 + 4, none⟩) HZG.out (.string item)).far (p := ⟨g, ev * 15 + 5, none⟩) HZG.out (.int .i64 qty)).far (p := ⟨g, ev * 15 + 6, none⟩) HZG.out (.slice dq' dn dc')).far (p := ⟨g, ev * 15 + 7, none⟩) HZG.out (.int .i64 aop)).far (p := ⟨g, ev * 15 + 8, none⟩) HZG.out (.int .i64 aerr)).far (p := ⟨g, ev * 15 + 9, none⟩) HZG.out (.int .i64 acnt)).far (p := ⟨g, ev * 15 + 10, none⟩) HZG.out (.slice lq' ln lc')).far (p := ⟨g, ev * 15 + 11, none⟩) HZG.out (.slice bq' bn bc')).got 17 _ rfl⟩) (fun hHeld => ?_)
        clear hK K
        try simp only [Act.put, List.setIfInBounds_toArray, List.set_cons_zero, List.set_cons_succ]
        refine wpAnyH_done (by kernel_rfl) ?_ _
        refine NoPanic.normal ?_
        clear hHeld
        go_wp2_with fail
        go_ret
        as_aux_lemma =>
          have hF := sets_fr g (ev * 15) [(13, .int .i64 i), (1, .int .i64 op), (2, .string key), (3, .string oth), (4, .string item), (5, .int .i64 qty), (6, .slice dq' dn dc'), (7, .int .i64 aop), (8, .int .i64 aerr), (9, .int .i64 acnt), (10, .slice lq' ln lc'), (11, .slice bq' bn bc')] w5 w5 (Fr.refl _ _)
          have ho := own_sets (e' := ⟨xt, xa, i, xn, op, key, oth, item, qty, dq', dn, dc', aop, aerr, acnt, lq', ln, lc', bq', bn, bc'⟩) (l := [(13, .int .i64 i), (1, .int .i64 op), (2, .string key), (3, .string oth), (4, .string item), (5, .int .i64 qty), (6, .slice dq' dn dc'), (7, .int .i64 aop), (8, .int .i64 aerr), (9, .int .i64 acnt), (10, .slice lq' ln lc'), (11, .slice bq' bn bc')]) HT5.out.own HEVL.out (by intro p hp; simp at hp; rcases hp with rfl | rfl | rfl | rfl | rfl | rfl | rfl | rfl | rfl | rfl | rfl | rfl <;> simp) (by rw [HXX.out]; rfl)
          have hE : EvR (RdD w5 B) ⟨xt, xa, i, xn, op, key, oth, item, qty, dq', dn, dc', aop, aerr, acnt, lq', ln, lc', bq', bn, bc'⟩ (pmadeE i ⟨task, 1, mk, pc, pa⟩ ⟨false, ev, ended⟩ ⟨xt, xa, xm, xn, qc, qe⟩) := ⟨rfl, rfl, rfl, rfl, HCR5.out.imp (fun p xs h => h.low HWB.out), HAR.out.imp (fun t p xs h => h.low HWB.out)⟩
          have hT := HT5.out.turn (w' := sets w5 g (ev * 15) [(13, .int .i64 i), (1, .int .i64 op), (2, .string key), (3, .string oth), (4, .string item), (5, .int .i64 qty), (6, .slice dq' dn dc'), (7, .int .i64 aop), (8, .int .i64 aerr), (9, .int .i64 acnt), (10, .slice lq' ln lc'), (11, .slice bq' bn bc')]) (k := ev) (s := ⟨false, ev, ended⟩) (e := ⟨xt, xa, i, xn, op, key, oth, item, qty, dq', dn, dc', aop, aerr, acnt, lq', ln, lc', bq', bn, bc'⟩) HAA.out HEVL.out (hF.mono (fun b hb => .inl (.inl hb))) (HBA5.out.fr hF (fun hx => hgne hx.symm)) HEVL.out ho hE
          refine ⟨by rw [HR.out]; rfl, (HBw5.out.mono HWB.out).trans hT.2.1, (K51.of HBw5.out).trans hT.2.2, fun S' hS' => ?_⟩
          rw [HR.out] at hS'
          injection hS' with hS'
          rw [← hS']
          have hT1 := hT.1
          rw [upd_id S.T task ⟨false, ev, ended⟩ HSS.out] at hT1
          exact ⟨_, c, A, _, hT1⟩
    · have h1' : (step == 1) = false := by simpa using h1
      have h1n : (step != 1) = true := by simpa using h1
      by_cases h4 : step = 4
      · subst h4
        clear h1 h1' h1n
        cases looks with
        | true =>
          have HR : Hid (pmade i ⟨task, 4, mk, pc, pa⟩ ⟨true, ev, ended⟩ ⟨xt, xa, xm, xn, qc, qe⟩ S = some ⟨S.T, S.es.set ev (pmadeE i ⟨task, 4, mk, pc, pa⟩ ⟨true, ev, ended⟩ ⟨xt, xa, xm, xn, qc, qe⟩)⟩) := Lib.hid (by simp [pmade, pmadeB, HM.out])
          go_upto_region 5 with fail
          clear e13 b1
          refine wp_region_noPanic ?_
          refine wp_region_held_drew (S := fun w' => w'.cell? ⟨z, 7, none⟩ = some (.int .i64 op) ∧ w'.cell? ⟨z, 8, none⟩ = some (.string key) ∧ w'.cell? ⟨z, 9, none⟩ = some (.string oth) ∧ w'.cell? ⟨z, 10, none⟩ = some (.string item) ∧ w'.cell? ⟨z, 11, none⟩ = some (.int .i64 qty) ∧ w'.cell? ⟨z, 12, none⟩ = some (.slice dq dn dc) ∧ w'.cell? ⟨z, 13, none⟩ = some (.int .i64 aop) ∧ w'.cell? ⟨z, 14, none⟩ = some (.int .i64 aerr) ∧ w'.cell? ⟨z, 15, none⟩ = some (.int .i64 acnt) ∧ w'.cell? ⟨z, 16, none⟩ = some (.slice lq ln lc) ∧ w'.cell? ⟨z, 17, none⟩ = some (.slice bq bn bc)) (by kernel_rfl) (⟨HBX3.out.got 7 _ rfl, HBX3.out.got 8 _ rfl, HBX3.out.got 9 _ rfl, HBX3.out.got 10 _ rfl, HBX3.out.got 11 _ rfl, HBX3.out.got 12 _ rfl, HBX3.out.got 13 _ rfl, HBX3.out.got 14 _ rfl, HBX3.out.got 15 _ rfl, HBX3.out.got 16 _ rfl, HBX3.out.got 17 _ rfl⟩) (fun hHeld => ?_)
          refine wpAnyH_take (i := 0) (oi := ⟨some 40, _, _, _, _, _⟩) (v := ?_) rfl (by kernel_rfl) (by kernel_rfl) (by kernel_rfl) (fun _ _ _ h => h) (Or.inl ⟨by rfl, ?_⟩) hHeld ?_
          rotate_left
          · (intro w hSw; obtain ⟨hq0, hq1, hq2, hq3, hq4, hq5, hq6, hq7, hq8, hq9, hq10⟩ := hSw; go_simp; try with_reducible rfl)
          try simp only [Act.put, List.setIfInBounds_toArray, List.set_cons_zero, List.set_cons_succ]
          refine wpAnyH_take (i := 1) (oi := ⟨some 41, _, _, _, _, _⟩) (v := ?_) rfl (by kernel_rfl) (by kernel_rfl) (by kernel_rfl) (fun _ _ _ h => h) (Or.inl ⟨by rfl, ?_⟩) hHeld ?_
          rotate_left
          · (intro w hSw; obtain ⟨hq0, hq1, hq2, hq3, hq4, hq5, hq6, hq7, hq8, hq9, hq10⟩ := hSw; go_simp; try with_reducible rfl)
          try simp only [Act.put, List.setIfInBounds_toArray, List.set_cons_zero, List.set_cons_succ]
          refine wpAnyH_take (i := 2) (oi := ⟨some 42, _, _, _, _, _⟩) (v := ?_) rfl (by kernel_rfl) (by kernel_rfl) (by kernel_rfl) (fun _ _ _ h => h) (Or.inl ⟨by rfl, ?_⟩) hHeld ?_
          rotate_left
          · (intro w hSw; obtain ⟨hq0, hq1, hq2, hq3, hq4, hq5, hq6, hq7, hq8, hq9, hq10⟩ := hSw; go_simp; try with_reducible rfl)
          try simp only [Act.put, List.setIfInBounds_toArray, List.set_cons_zero, List.set_cons_succ]
          refine wpAnyH_take (i := 3) (oi := ⟨some 43, _, _, _, _, _⟩) (v := ?_) rfl (by kernel_rfl) (by kernel_rfl) (by kernel_rfl) (fun _ _ _ h => h) (Or.inl ⟨by rfl, ?_⟩) hHeld ?_
          rotate_left
          · (intro w hSw; obtain ⟨hq0, hq1, hq2, hq3, hq4, hq5, hq6, hq7, hq8, hq9, hq10⟩ := hSw; go_simp; try with_reducible rfl)
          try simp only [Act.put, List.setIfInBounds_toArray, List.set_cons_zero, List.set_cons_succ]
          refine wpAnyH_take (i := 4) (oi := ⟨some 44, _, _, _, _, _⟩) (v := ?_) rfl (by kernel_rfl) (by kernel_rfl) (by kernel_rfl) (fun _ _ _ h => h) (Or.inl ⟨by rfl, ?_⟩) hHeld ?_
          rotate_left
          · (intro w hSw; obtain ⟨hq0, hq1, hq2, hq3, hq4, hq5, hq6, hq7, hq8, hq9, hq10⟩ := hSw; go_simp; try with_reducible rfl)
          try simp only [Act.put, List.setIfInBounds_toArray, List.set_cons_zero, List.set_cons_succ]
          refine wpAnyH_take (i := 5) (oi := ⟨some 45, _, _, _, _, _⟩) (v := ?_) rfl (by kernel_rfl) (by kernel_rfl) (by kernel_rfl) (fun _ _ _ h => h) (Or.inl ⟨by rfl, ?_⟩) hHeld ?_
          rotate_left
          · (intro w hSw; obtain ⟨hq0, hq1, hq2, hq3, hq4, hq5, hq6, hq7, hq8, hq9, hq10⟩ := hSw; go_simp; try with_reducible rfl)
          try simp only [Act.put, List.setIfInBounds_toArray, List.set_cons_zero, List.set_cons_succ]
          refine wpAnyH_take (i := 7) (oi := ⟨some 47, _, _, _, _, _⟩) (v := ?_) rfl (by kernel_rfl) (by kernel_rfl) (by kernel_rfl) (fun _ _ _ h => h) (Or.inl ⟨by rfl, ?_⟩) hHeld ?_
          rotate_left
          · (intro w hSw; obtain ⟨hq0, hq1, hq2, hq3, hq4, hq5, hq6, hq7, hq8, hq9, hq10⟩ := hSw; go_simp; try with_reducible rfl)
          try simp only [Act.put, List.setIfInBounds_toArray, List.set_cons_zero, List.set_cons_succ]
          refine wpAnyH_take (i := 8) (oi := ⟨some 48, _, _, _, _, _⟩) (v := ?_) rfl (by kernel_rfl) (by kernel_rfl) (by kernel_rfl) (fun _ _ _ h => h) (Or.inl ⟨by rfl, ?_⟩) hHeld ?_
          rotate_left
          · (intro w hSw; obtain ⟨hq0, hq1, hq2, hq3, hq4, hq5, hq6, hq7, hq8, hq9, hq10⟩ := hSw; go_simp; try with_reducible rfl)
          try simp only [Act.put, List.setIfInBounds_toArray, List.set_cons_zero, List.set_cons_succ]
          refine wpAnyH_ready (rs := [6]) (by kernel_rfl) (by simp) ?_
          refine (AllReadyH.cons (o := ⟨some 46, _, _, _, _, _⟩) rfl (fun K hK => ?_) AllReadyH.nil)
          go_simp
          (refine (HCG.out _ (by first | exact HBw.out | exact HBw.out.drew)).mono ?_; rintro e w4 ⟨dq', dc', rfl, hcr, hb4⟩)
          replace hb4 : Below w3.heap.size w3 w4 := ⟨hb4.os, hb4.tape, hb4.output, hb4.size, hb4.block⟩
          have HCR := Lib.hid hcr
          have HB4 := Lib.hid hb4
          have HBX4 := Lib.hid (HBX3.out.kept hb4)
          have HBw4 := Lib.hid (HBw.out.trans (hb4.mono HBw.out.size))
          clear hcr hb4
          refine hK.out _ _ (⟨HBX4.out.got 7 _ rfl, HBX4.out.got 8 _ rfl, HBX4.out.got 9 _ rfl, HBX4.out.got 10 _ rfl, HBX4.out.got 11 _ rfl, HBX4.out.got 12 _ rfl, HBX4.out.got 13 _ rfl, HBX4.out.got 14 _ rfl, HBX4.out.got 15 _ rfl, HBX4.out.got 16 _ rfl, HBX4.out.got 17 _ rfl⟩) (fun hHeld => ?_)
          clear hK K
          try simp only [Act.put, List.setIfInBounds_toArray, List.set_cons_zero, List.set_cons_succ]
          refine wpAnyH_ready (rs := [9]) (by kernel_rfl) (by simp) ?_
          refine (AllReadyH.cons (o := ⟨some 49, _, _, _, _, _⟩) rfl (fun K hK => ?_) AllReadyH.nil)
          go_simp
          (refine (HAG.out _ (by first | exact HBw4.out | exact HBw4.out.drew)).mono ?_; rintro e w5 ⟨lq', lc', bq', bc', rfl, har, hb5⟩)
          replace hb5 : Below w4.heap.size w4 w5 := ⟨hb5.os, hb5.tape, hb5.output, hb5.size, hb5.block⟩
          have HAR := Lib.hid har
          have HCR5 := Lib.hid (HCR.out.imp (fun p xs h => RdD.kept h hb5))
          have HB5 := Lib.hid ((HB2.out.trans (HB4.out.mono HB2.out.size)).trans (hb5.mono (Nat.le_trans HB2.out.size HB4.out.size)))
          have HBX5 := Lib.hid (HBX4.out.kept hb5)
          have HBw5 := Lib.hid (HBw4.out.trans (hb5.mono HBw4.out.size))
          have HC5 := Lib.hid (HCUR.out.kept HB5.out)
          have HE5 := Lib.hid (HEV.out w5 HB5.out)
          have HBA5 := Lib.hid (HBA.out.kept HB5.out)
          have HT5 := Lib.hid (HT1.out.kept HB5.out)
          have e1 := HE5.out 1 _ rfl
          have e2 := HE5.out 2 _ rfl
          have e3 := HE5.out 3 _ rfl
          have e4 := HE5.out 4 _ rfl
          have e5 := HE5.out 5 _ rfl
          have e6 := HE5.out 6 _ rfl
          have e7 := HE5.out 7 _ rfl
          have e8 := HE5.out 8 _ rfl
          have e9 := HE5.out 9 _ rfl
          have e10 := HE5.out 10 _ rfl
          have e11 := HE5.out 11 _ rfl
          have e12 := HE5.out 12 _ rfl
          have e13 := HE5.out 13 _ rfl
          have e14 := HE5.out 14 _ rfl
          have f1 := HC5.out.free (ev * 15 + 1)
          have f2 := HC5.out.free (ev * 15 + 2)
          have f3 := HC5.out.free (ev * 15 + 3)
          have f4 := HC5.out.free (ev * 15 + 4)
          have f5 := HC5.out.free (ev * 15 + 5)
          have f6 := HC5.out.free (ev * 15 + 6)
          have f7 := HC5.out.free (ev * 15 + 7)
          have f8 := HC5.out.free (ev * 15 + 8)
          have f9 := HC5.out.free (ev * 15 + 9)
          have f10 := HC5.out.free (ev * 15 + 10)
          have f11 := HC5.out.free (ev * 15 + 11)
          have f12 := HC5.out.free (ev * 15 + 12)
          have f13 := HC5.out.free (ev * 15 + 13)
          have f14 := HC5.out.free (ev * 15 + 14)
          have a0 := HBA5.out.got 0 _ rfl
          have hne2 : a ≠ g := fun e => hgne e.symm
          clear har hb5
          refine hK.out _ _ (⟨HBX5.out.got 7 _ rfl, HBX5.out.got 8 _ rfl, HBX5.out.got 9 _ rfl, HBX5.out.got 10 _ rfl, HBX5.out.got 11 _ rfl, HBX5.out.got 12 _ rfl, HBX5.out.got 13 _ rfl, HBX5.out.got 14 _ rfl, HBX5.out.got 15 _ rfl, HBX5.out.got 16 _ rfl, HBX5.out.got 17 _ rfl⟩) (fun hHeld => ?_)
          clear hK K
          try simp only [Act.put, List.setIfInBounds_toArray, List.set_cons_zero, List.set_cons_succ]
          refine wpAnyH_take (i := 10) (oi := ⟨some 50, _, _, _, _, _⟩) (v := ?_) rfl (by kernel_rfl) (by kernel_rfl) (by kernel_rfl) (fun _ _ _ h => h) (Or.inl ⟨by rfl, ?_⟩) hHeld ?_
          rotate_left
          · (intro w hSw; obtain ⟨hq0, hq1, hq2, hq3, hq4, hq5, hq6, hq7, hq8, hq9, hq10⟩ := hSw; go_simp; try with_reducible rfl)
          try simp only [Act.put, List.setIfInBounds_toArray, List.set_cons_zero, List.set_cons_succ]
          refine wpAnyH_take (i := 11) (oi := ⟨some 51, _, _, _, _, _⟩) (v := ?_) rfl (by kernel_rfl) (by kernel_rfl) (by kernel_rfl) (fun _ _ _ h => h) (Or.inl ⟨by rfl, ?_⟩) hHeld ?_
          rotate_left
          · (intro w hSw; obtain ⟨hq0, hq1, hq2, hq3, hq4, hq5, hq6, hq7, hq8, hq9, hq10⟩ := hSw; go_simp; try with_reducible rfl)
          try simp only [Act.put, List.setIfInBounds_toArray, List.set_cons_zero, List.set_cons_succ]
          refine wpAnyH_ready (rs := [12]) (by kernel_rfl) (by simp) ?_
          refine (AllReadyH.cons (o := ⟨none, _, _, _, _, _⟩) rfl (fun K hK => ?_) AllReadyH.nil)
          go_simp
          refine hK.out _ _ (⟨(HBX5.out.far (p := ⟨g, ev * 15 + 13, none⟩) HZG.out (.int .i64 i)).got 7 _ rfl, (HBX5.out.far (p := ⟨g, ev * 15 + 13, none⟩) HZG.out (.int .i64 i)).got 8 _ rfl, (HBX5.out.far (p := ⟨g, ev * 15 + 13, none⟩) HZG.out (.int .i64 i)).got 9 _ rfl, (HBX5.out.far (p := ⟨g, ev * 15 + 13, none⟩) HZG.out (.int .i64 i)).got 10 _ rfl, (HBX5.out.far (p := ⟨g, ev * 15 + 13, none⟩) HZG.out (.int .i64 i)).got 11 _ rfl, (HBX5.out.far (p := ⟨g, ev * 15 + 13, none⟩) HZG.out (.int .i64 i)).got 12 _ rfl, (HBX5.out.far (p := ⟨g, ev * 15 + 13, none⟩) HZG.out (.int .i64 i)).got 13 _ rfl, (HBX5.out.far (p := ⟨g, ev * 15 + 13, none⟩) HZG.out (.int .i64 i)).got 14 _ rfl, (HBX5.out.far (p := ⟨g, ev * 15 + 13, none⟩) HZG.out (.int .i64 i)).got 15 _ rfl, (HBX5.out.far (p := ⟨g, ev * 15 + 13, none⟩) HZG.out (.int .i64 i)).got 16 _ rfl, (HBX5.out.far (p := ⟨g, ev * 15 + 13, none⟩) HZG.out (.int .i64 i)).got 17 _ rfl⟩) (fun hHeld => ?_)
          clear hK K
          try simp only [Act.put, List.setIfInBounds_toArray, List.set_cons_zero, List.set_cons_succ]
          refine wpAnyH_take (i := 13) (oi := ⟨some 52, _, _, _, _, _⟩) (v := ?_) rfl (by kernel_rfl) (by kernel_rfl) (by kernel_rfl) (fun _ _ _ h => h) (Or.inl ⟨by rfl, ?_⟩) hHeld ?_
          rotate_left
          · (intro w hSw; obtain ⟨hq0, hq1, hq2, hq3, hq4, hq5, hq6, hq7, hq8, hq9, hq10⟩ := hSw; go_simp; try with_reducible rfl)
          try simp only [Act.put, List.setIfInBounds_toArray, List.set_cons_zero, List.set_cons_succ]
          refine wpAnyH_take (i := 14) (oi := ⟨some 53, _, _, _, _, _⟩) (v := ?_) rfl (by kernel_rfl) (by kernel_rfl) (by kernel_rfl) (fun _ _ _ h => h) (Or.inl ⟨by rfl, ?_⟩) hHeld ?_
          rotate_left
          · (intro w hSw; obtain ⟨hq0, hq1, hq2, hq3, hq4, hq5, hq6, hq7, hq8, hq9, hq10⟩ := hSw; go_simp; try with_reducible rfl)
          try simp only [Act.put, List.setIfInBounds_toArray, List.set_cons_zero, List.set_cons_succ]
          refine wpAnyH_ready (rs := [15]) (by kernel_rfl) (by simp) ?_
          refine (AllReadyH.cons (o := ⟨none, _, _, _, _, _⟩) rfl (fun K hK => ?_) AllReadyH.nil)
          go_simp
          refine hK.out _ _ (⟨(((((((HBX5.out.far (p := ⟨g, ev * 15 + 13, none⟩) HZG.out (.int .i64 i)).far (p := ⟨g, ev * 15 + 1, none⟩) HZG.out (.int .i64 op)).far (p := ⟨g, ev * 15 + 2, none⟩) HZG.out (.string key)).far (p := ⟨g, ev * 15 + 3, none⟩) HZG.out (.string oth)).far (p := ⟨g, ev * 15 + 4, none⟩) HZG.out (.string item)).far (p := ⟨g, ev * 15 + 5, none⟩) HZG.out (.int .i64 qty)).far (p := ⟨g, ev * 15 + 6, none⟩) HZG.out (.slice dq' dn dc')).got 7 _ rfl, (((((((HBX5.out.far (p := ⟨g, ev * 15 + 13, none⟩) HZG.out (.int .i64 i)).far (p := ⟨g, ev * 15 + 1, none⟩) HZG.out (.int .i64 op)).far (p := ⟨g, ev * 15 + 2, none⟩) HZG.out (.string key)).far (p := ⟨g, ev * 15 + 3, none⟩) HZG.out (.string oth)).far (p := ⟨g, ev * 15 + 4, none⟩) HZG.out (.string item)).far (p := ⟨g, ev * 15 + 5, none⟩) HZG.out (.int .i64 qty)).far (p := ⟨g, ev * 15 + 6, none⟩) HZG.out (.slice dq' dn dc')).got 8 _ rfl, (((((((HBX5.out.far (p := ⟨g, ev * 15 + 13, none⟩) HZG.out (.int .i64 i)).far (p := ⟨g, ev * 15 + 1, none⟩) HZG.out (.int .i64 op)).far (p := ⟨g, ev * 15 + 2, none⟩) HZG.out (.string key)).far (p := ⟨g, ev * 15 + 3, none⟩) HZG.out (.string oth)).far (p := ⟨g, ev * 15 + 4, none⟩) HZG.out (.string item)).far (p := ⟨g, ev * 15 + 5, none⟩) HZG.out (.int .i64 qty)).far (p := ⟨g, ev * 15 + 6, none⟩) HZG.out (.slice dq' dn dc')).got 9 _ rfl, (((((((HBX5.out.far (p := ⟨g, ev * 15 + 13, none⟩) HZG.out (.int .i64 i)).far (p := ⟨g, ev * 15 + 1, none⟩) HZG.out (.int .i64 op)).far (p := ⟨g, ev * 15 + 2, none⟩) HZG.out (.string key)).far (p := ⟨g, ev * 15 + 3, none⟩) HZG.out (.string oth)).far (p := ⟨g, ev * 15 + 4, none⟩) HZG.out (.string item)).far (p := ⟨g, ev * 15 + 5, none⟩) HZG.out (.int .i64 qty)).far (p := ⟨g, ev * 15 + 6, none⟩) HZG.out (.slice dq' dn dc')).got 10 _ rfl, (((((((HBX5.out.far (p := ⟨g, ev * 15 + 13, none⟩) HZG.out (.int .i64 i)).far (p := ⟨g, ev * 15 + 1, none⟩) HZG.out (.int .i64 op)).far (p := ⟨g, ev * 15 + 2, none⟩) HZG.out (.string key)).far (p := ⟨g, ev * 15 + 3, none⟩) HZG.out (.string oth)).far (p := ⟨g, ev * 15 + 4, none⟩) HZG.out (.string item)).far (p := ⟨g, ev * 15 + 5, none⟩) HZG.out (.int .i64 qty)).far (p := ⟨g, ev * 15 + 6, none⟩) HZG.out (.slice dq' dn dc')).got 11 _ rfl, (((((((HBX5.out.far (p := ⟨g, ev * 15 + 13, none⟩) HZG.out (.int .i64 i)).far (p := ⟨g, ev * 15 + 1, none⟩) HZG.out (.int .i64 op)).far (p := ⟨g, ev * 15 + 2, none⟩) HZG.out (.string key)).far (p := ⟨g, ev * 15 + 3, none⟩) HZG.out (.string oth)).far (p := ⟨g, ev * 15 + 4, none⟩) HZG.out (.string item)).far (p := ⟨g, ev * 15 + 5, none⟩) HZG.out (.int .i64 qty)).far (p := ⟨g, ev * 15 + 6, none⟩) HZG.out (.slice dq' dn dc')).got 12 _ rfl, (((((((HBX5.out.far (p := ⟨g, ev * 15 + 13, none⟩) HZG.out (.int .i64 i)).far (p := ⟨g, ev * 15 + 1, none⟩) HZG.out (.int .i64 op)).far (p := ⟨g, ev * 15 + 2, none⟩) HZG.out (.string key)).far (p := ⟨g, ev * 15 + 3, none⟩) HZG.out (.string oth)).far (p := ⟨g, ev * 15 + 4, none⟩) HZG.out (.string item)).far (p := ⟨g, ev * 15 + 5, none⟩) HZG.out (.int .i64 qty)).far (p := ⟨g, ev * 15 + 6, none⟩) HZG.out (.slice dq' dn dc')).got 13 _ rfl, (((((((HBX5.out.far (p := ⟨g, ev * 15 + 13, none⟩) HZG.out (.int .i64 i)).far (p := ⟨g, ev * 15 + 1, none⟩) HZG.out (.int .i64 op)).far (p := ⟨g, ev * 15 + 2, none⟩) HZG.out (.string key)).far (p := ⟨g, ev * 15 + 3, none⟩) HZG.out (.string oth)).far (p := ⟨g, ev * 15 + 4, none⟩) HZG.out (.string item)).far (p := ⟨g, ev * 15 + 5, none⟩) HZG.out (.int .i64 qty)).far (p := ⟨g, ev * 15 + 6, none⟩) HZG.out (.slice dq' dn dc')).got 14 _ rfl, (((((((HBX5.out.far (p := ⟨g, ev * 15 + 13, none⟩) HZG.out (.int .i64 i)).far (p := ⟨g, ev * 15 + 1, none⟩) HZG.out (.int .i64 op)).far (p := ⟨g, ev * 15 + 2, none⟩) HZG.out (.string key)).far (p := ⟨g, ev * 15 + 3, none⟩) HZG.out (.string oth)).far (p := ⟨g, ev * 15 + 4, none⟩) HZG.out (.string item)).far (p := ⟨g, ev * 15 + 5, none⟩) HZG.out (.int .i64 qty)).far (p := ⟨g, ev * 15 + 6, none⟩) HZG.out (.slice dq' dn dc')).got 15 _ rfl, (((((((HBX5.out.far (p := ⟨g, ev * 15 + 13, none⟩) HZG.out (.int .i64 i)).far (p := ⟨g, ev * 15 + 1, none⟩) HZG.out (.int .i64 op)).far (p := ⟨g, ev * 15 + 2, none⟩) HZG.out (.string key)).far (p := ⟨g, ev * 15 + 3, none⟩) HZG.out (.string oth)).far (p := ⟨g, ev * 15 + 4, none⟩) HZG.out (.string item)).far (p := ⟨g, ev * 15 + 5, none⟩) HZG.out (.int .i64 qty)).far (p := ⟨g, ev * 15 + 6, none⟩) HZG.out (.slice dq' dn dc')).got 16 _ rfl, (((((((HBX5.out.far (p := ⟨g, ev * 15 + 13, none⟩) HZG.out (.int .i64 i)).far (p := ⟨g, ev * 15 + 1, none⟩) HZG.out (.int .i64 op)).far (p := ⟨g, ev * 15 + 2, none⟩) HZG.out (.string key)).far (p := ⟨g, ev * 15 + 3, none⟩) HZG.out (.string oth)).far (p := ⟨g, ev * 15 + 4, none⟩) HZG.out (.string item)).far (p := ⟨g, ev * 15 + 5, none⟩) HZG.out (.int .i64 qty)).far (p := ⟨g, ev * 15 + 6, none⟩) HZG.out (.slice dq' dn dc')).got 17 _ rfl⟩) (fun hHeld => ?_)
          clear hK K
          try simp only [Act.put, List.setIfInBounds_toArray, List.set_cons_zero, List.set_cons_succ]
          refine wpAnyH_take (i := 16) (oi := ⟨some 54, _, _, _, _, _⟩) (v := ?_) rfl (by kernel_rfl) (by kernel_rfl) (by kernel_rfl) (fun _ _ _ h => h) (Or.inl ⟨by rfl, ?_⟩) hHeld ?_
          rotate_left
          · (intro w hSw; obtain ⟨hq0, hq1, hq2, hq3, hq4, hq5, hq6, hq7, hq8, hq9, hq10⟩ := hSw; go_simp; try with_reducible rfl)
          try simp only [Act.put, List.setIfInBounds_toArray, List.set_cons_zero, List.set_cons_succ]
          refine wpAnyH_take (i := 17) (oi := ⟨some 55, _, _, _, _, _⟩) (v := ?_) rfl (by kernel_rfl) (by kernel_rfl) (by kernel_rfl) (fun _ _ _ h => h) (Or.inl ⟨by rfl, ?_⟩) hHeld ?_
          rotate_left
          · (intro w hSw; obtain ⟨hq0, hq1, hq2, hq3, hq4, hq5, hq6, hq7, hq8, hq9, hq10⟩ := hSw; go_simp; try with_reducible rfl)
          try simp only [Act.put, List.setIfInBounds_toArray, List.set_cons_zero, List.set_cons_succ]
          refine wpAnyH_ready (rs := [18]) (by kernel_rfl) (by simp) ?_
          refine (AllReadyH.cons (o := ⟨none, _, _, _, _, _⟩) rfl (fun K hK => ?_) AllReadyH.nil)
          go_simp
          refine hK.out _ _ (⟨((((((((((((HBX5.out.far (p := ⟨g, ev * 15 + 13, none⟩) HZG.out (.int .i64 i)).far (p := ⟨g, ev * 15 + 1, none⟩) HZG.out (.int .i64 op)).far (p := ⟨g, ev * 15 + 2, none⟩) HZG.out (.string key)).far (p := ⟨g, ev * 15 + 3, none⟩) HZG.out (.string oth)).far (p := ⟨g, ev * 15 + 4, none⟩) HZG.out (.string item)).far (p := ⟨g, ev * 15 + 5, none⟩) HZG.out (.int .i64 qty)).far (p := ⟨g, ev * 15 + 6, none⟩) HZG.out (.slice dq' dn dc')).far (p := ⟨g, ev * 15 + 7, none⟩) HZG.out (.int .i64 aop)).far (p := ⟨g, ev * 15 + 8, none⟩) HZG.out (.int .i64 aerr)).far (p := ⟨g, ev * 15 + 9, none⟩) HZG.out (.int .i64 acnt)).far (p := ⟨g, ev * 15 + 10, none⟩) HZG.out (.slice lq' ln lc')).far (p := ⟨g, ev * 15 + 11, none⟩) HZG.out (.slice bq' bn bc')).got 7 _ rfl, ((((((((((((HBX5.out.far (p := ⟨g, ev * 15 + 13, none⟩) HZG.out (.int .i64 i)).far (p := ⟨g, ev * 15 + 1, none⟩) HZG.out (.int .i64 op)).far (p := ⟨g, ev * 15 + 2, none⟩) HZG.out (.string key)).far (p := ⟨g, ev * 15 + 3, none⟩) HZG.out (.string oth)).far (p := ⟨g, ev * 15 + 4, none⟩) HZG.out (.string item)).far (p := ⟨g, ev * 15 + 5, none⟩) HZG.out (.int .i64 qty)).far (p := ⟨g, ev * 15 + 6, none⟩) HZG.out (.slice dq' dn dc')).far (p := ⟨g, ev * 15 + 7, none⟩) HZG.out (.int .i64 aop)).far (p := ⟨g, ev * 15 + 8, none⟩) HZG.out (.int .i64 aerr)).far (p := ⟨g, ev * 15 + 9, none⟩) HZG.out (.int .i64 acnt)).far (p := ⟨g, ev * 15 + 10, none⟩) HZG.out (.slice lq' ln lc')).far (p := ⟨g, ev * 15 + 11, none⟩) HZG.out (.slice bq' bn bc')).got 8 _ rfl, ((((((((((((HBX5.out.far (p := ⟨g, ev * 15 + 13, none⟩) HZG.out (.int .i64 i)).far (p := ⟨g, ev * 15 + 1, none⟩) HZG.out (.int .i64 op)).far (p := ⟨g, ev * 15 + 2, none⟩) HZG.out (.string key)).far (p := ⟨g, ev * 15 + 3, none⟩) HZG.out (.string oth)).far (p := ⟨g, ev * 15 + 4, none⟩) HZG.out (.string item)).far (p := ⟨g, ev * 15 + 5, none⟩) HZG.out (.int .i64 qty)).far (p := ⟨g, ev * 15 + 6, none⟩) HZG.out (.slice dq' dn dc')).far (p := ⟨g, ev * 15 + 7, none⟩) HZG.out (.int .i64 aop)).far (p := ⟨g, ev * 15 + 8, none⟩) HZG.out (.int .i64 aerr)).far (p := ⟨g, ev * 15 + 9, none⟩) HZG.out (.int .i64 acnt)).far (p := ⟨g, ev * 15 + 10, none⟩) HZG.out (.slice lq' ln lc')).far (p := ⟨g, ev * 15 + 11, none⟩) HZG.out (.slice bq' bn bc')).got 9 _ rfl, ((((((((((((HBX5.out.far (p := ⟨g, ev * 15 + 13, none⟩) HZG.out (.int .i64 i)).far (p := ⟨g, ev * 15 + 1, none⟩) HZG.out (.int .i64 op)).far (p := ⟨g, ev * 15 + 2, none⟩) HZG.out (.string key)).far (p := ⟨g, ev * 15 + 3, none⟩) HZG.out (.string oth)).far (p := ⟨g, ev * 15 + 4, none⟩) HZG.out (.string item)).far (p := ⟨g, ev * 15 + 5, none⟩) HZG.out (.int .i64 qty)).far (p := ⟨g, ev * 15 + 6, none⟩) HZG.out (.slice dq' dn dc')).far (p := ⟨g, ev * 15 + 7, none⟩) HZG.out (.int .i64 aop)).far (p := ⟨g, ev * 15 + 8, none⟩) HZG.out (.int .i64 aerr)).far (p := ⟨g, ev * 15 + 9, none⟩) HZG.out (.int .i64 acnt)).far (p := ⟨g, ev * 15 + 10, none⟩) HZG.out (.slice lq' ln lc')).far (p := ⟨g, ev * 15 + 11, none⟩) HZG.out (.slice bq' bn bc')).got 10 _ rfl, ((((((((((((HBX5.out.far (p := ⟨g, ev * 15 + 13, none⟩) HZG.out (.int .i64 i)).far (p := ⟨g, ev * 15 + 1, none⟩) HZG.out (.int .i64 op)).far (p := ⟨g, ev * 15 + 2, none⟩) HZG.out (.string key)).far (p := ⟨g, ev * 15 + 3, none⟩) HZG.out (.string oth)).far (p := ⟨g, ev * 15 + 4, none⟩) HZG.out (.string item)).far (p := ⟨g, ev * 15 + 5, none⟩) HZG.out (.int .i64 qty)).far (p := ⟨g, ev * 15 + 6, none⟩) HZG.out (.slice dq' dn dc')).far (p := ⟨g, ev * 15 + 7, none⟩) HZG.out (.int .i64 aop)).far (p := ⟨g, ev * 15 + 8, none⟩) HZG.out (.int .i64 aerr)).far (p := ⟨g, ev * 15 + 9, none⟩) HZG.out (.int .i64 acnt)).far (p := ⟨g, ev * 15 + 10, none⟩) HZG.out (.slice lq' ln lc')).far (p := ⟨g, ev * 15 + 11, none⟩) HZG.out (.slice bq' bn bc')).got 11 _ rfl, ((((((((((((HBX5.out.far (p := ⟨g, ev * 15 + 13, none⟩) HZG.out (.int .i64 i)).far (p := ⟨g, ev * 15 + 1, none⟩) HZG.out (.int .i64 op)).far (p := ⟨g, ev * 15 + 2, none⟩) HZG.out (.string key)).far (p := ⟨g, ev * 15 + 3, none⟩) HZG.out (.string oth)).far (p := ⟨g, ev * 15 + 4, none⟩) HZG.out (.string item)).far (p := ⟨g, ev * 15 + 5, none⟩) HZG.out (.int .i64 qty)).far (p := ⟨g, ev * 15 + 6, none⟩) HZG.out (.slice dq' dn dc')).far (p := ⟨g, ev * 15 + 7, none⟩) HZG.out (.int .i64 aop)).far (p := ⟨g, ev * 15 + 8, none⟩) HZG.out (.int .i64 aerr)).far (p := ⟨g, ev * 15 + 9, none⟩) HZG.out (.int .i64 acnt)).far (p := ⟨g, ev * 15 + 10, none⟩) HZG.out (.slice lq' ln lc')).far (p := ⟨g, ev * 15 + 11, none⟩) HZG.out (.slice bq' bn bc')).got 12 _ rfl, ((((((((((((HBX5.out.far (p := ⟨g, ev * 15 + 13, none⟩) HZG.out (.int .i64 i)).far (p := ⟨g, ev * 15 + 1, none⟩) HZG.out (.int .i64 op)).far (p := ⟨g, ev * 15 + 2, none⟩) HZG.out (.string key)).far (p := ⟨g, ev * 15 + 3, none⟩) HZG.out (.string oth)).far (p := ⟨g, ev * 15 + 4, none⟩) HZG.out (.string item)).far (p := ⟨g, ev * 15 + 5, none⟩) HZG.out (.int .i64 qty)).far (p := ⟨g, ev * 15 + 6, none⟩) HZG.out (.slice dq' dn dc')).far (p := ⟨g, ev * 15 + 7, none⟩) HZG.out (.int .i64 aop)).far (p := ⟨g, ev * 15 + 8, none⟩) HZG.out (.int .i64 aerr)).far (p := ⟨g, ev * 15 + 9, none⟩) HZG.out (.int .i64 acnt)).far (p := ⟨g, ev * 15 + 10, none⟩) HZG.out (.slice lq' ln lc')).far (p := ⟨g, ev * 15 + 11, none⟩) HZG.out (.slice bq' bn bc')).got 13 _ rfl, ((((((((((((HBX5.out.far (p := ⟨g, ev * 15 + 13, none⟩) HZG.out (.int .i64 i)).far (p := ⟨g, ev * 15 + 1, none⟩) HZG.out (.int .i64 op)).far (p := ⟨g, ev * 15 + 2, none⟩) HZG.out (.string key)).far (p := ⟨g, ev * 15 + 3, none⟩) HZG.out (.string oth)).far (p := ⟨g, ev * 15 + 4, none⟩) HZG.out (.string item)).far (p := ⟨g, ev * 15 + 5, none⟩) HZG.out (.int .i64 qty)).far (p := ⟨g, ev * 15 + 6, none⟩) HZG.out (.slice dq' dn dc')).far (p := ⟨g, ev * 15 + 7, none⟩) HZG.out (.int .i64 aop)).far (p := ⟨g, ev * 15 + 8, none⟩) HZG.out (.int .i64 aerr)).far (p := ⟨g, ev * 15 + 9, none⟩) HZG.out (.int .i64 acnt)).far (p := ⟨g, ev * 15 + 10, none⟩) HZG.out (.slice lq' ln lc')).far (p := ⟨g, ev * 15 + 11, none⟩) HZG.out (.slice bq' bn bc')).got 14 _ rfl, ((((((((((((HBX5.out.far (p := ⟨g, ev * 15 + 13, none⟩) HZG.out (.int .i64 i)).far (p := ⟨g, ev * 15 + 1, none⟩) HZG.out (.int .i64 op)).far (p := ⟨g, ev * 15 + 2, none⟩) HZG.out (.string key)).far (p := ⟨g, ev * 15 + 3, none⟩) HZG.out (.string oth)).far (p := ⟨g, ev * 15 + 4, none⟩) HZG.out (.string item)).far (p := ⟨g, ev * 15 + 5, none⟩) HZG.out (.int .i64 qty)).far (p := ⟨g, ev * 15 + 6, none⟩) HZG.out (.slice dq' dn dc')).far (p := ⟨g, ev * 15 + 7, none⟩) HZG.out (.int .i64 aop)).far (p := ⟨g, ev * 15 + 8, none⟩) HZG.out (.int .i64 aerr)).far (p := ⟨g, ev * 15 + 9, none⟩) HZG.out (.int .i64 acnt)).far (p := ⟨g, ev * 15 + 10, none⟩) HZG.out (.slice lq' ln lc')).far (p := ⟨g, ev * 15 + 11, none⟩) HZG.out (.slice bq' bn bc')).got 15 _ rfl, ((((((((((((HBX5.out.far (p := ⟨g, ev * 15 + 13, none⟩) HZG.out (.int .i64 i)).far (p := ⟨g, ev * 15 + 1, none⟩) HZG.out (.int .i64 op)).far (p := ⟨g, ev * 15 + 2, none⟩) HZG.out (.string key)).far (p := ⟨g, ev * 15 + 3, none⟩) HZG.out (.string oth)).far (p := ⟨g, ev * 15 + 4, none⟩) HZG.out (.string item)).far (p := ⟨g, ev * 15 + 5, none⟩) HZG.out (.int .i64 qty)).far (p := ⟨g, ev * 15 + 6, none⟩) HZG.out (.slice dq' dn dc')).far (p := ⟨g, ev * 15 + 7, none⟩) HZG.out (.int .i64 aop)).far (p := ⟨g, ev * 15 + 8, none⟩) HZG.out (.int .i64 aerr)).far (p := ⟨g, ev * 15 + 9, none⟩) HZG.out (.int .i64 acnt)).far (p := ⟨g, ev * 15 + 10, none⟩) HZG.out (.slice lq' ln lc')).far (p := ⟨g, ev * 15 + 11, none⟩) HZG.out (.slice bq' bn bc')).got 16 _ rfl, ((((((((((((HBX5.out.far (p := ⟨g, ev * 15 + 13, none⟩) HZG.out (.int .i64 i)).far (p := ⟨g, ev * 15 + 1, none⟩) HZG.out (.int .i64 op)).far (p := ⟨g, ev * 15 + 2, none⟩) HZG.out (.string key)).far (p := ⟨g, ev * 15 + 3, none⟩) HZG.out (.string oth)).far (p := ⟨g, ev * 15 + 4, none⟩) HZG.out (.string item)).far (p := ⟨g, ev * 15 + 5, none⟩) HZG.out (.int .i64 qty)).far (p := ⟨g, ev * 15 + 6, none⟩) HZG.out (.slice dq' dn dc')).far (p := ⟨g, ev * 15 + 7, none⟩) HZG.out (.int .i64 aop)).far (p := ⟨g, ev * 15 + 8, none⟩) HZG.out (.int .i64 aerr)).far (p := ⟨g, ev * 15 + 9, none⟩) HZG.out (.int .i64 acnt)).far (p := ⟨g, ev * 15 + 10, none⟩) HZG.out (.slice lq' ln lc')).far (p := ⟨g, ev * 15 + 11, none⟩) HZG.out (.slice bq' bn bc')).got 17 _ rfl⟩) (fun hHeld => ?_)
          clear hK K
          try simp only [Act.put, List.setIfInBounds_toArray, List.set_cons_zero, List.set_cons_succ]
          refine wpAnyH_done (by kernel_rfl) ?_ _
          refine NoPanic.normal ?_
          clear hHeld
          go_wp2_with fail
          go_ret
          as_aux_lemma =>
            have hF := sets_fr g (ev * 15) [(13, .int .i64 i), (1, .int .i64 op), (2, .string key), (3, .string oth), (4, .string item), (5, .int .i64 qty), (6, .slice dq' dn dc'), (7, .int .i64 aop), (8, .int .i64 aerr), (9, .int .i64 acnt), (10, .slice lq' ln lc'), (11, .slice bq' bn bc'), (14, .int .i64 i)] w5 w5 (Fr.refl _ _)
            have ho := own_sets (e' := ⟨xt, xa, i, i, op, key, oth, item, qty, dq', dn, dc', aop, aerr, acnt, lq', ln, lc', bq', bn, bc'⟩) (l := [(13, .int .i64 i), (1, .int .i64 op), (2, .string key), (3, .string oth), (4, .string item), (5, .int .i64 qty), (6, .slice dq' dn dc'), (7, .int .i64 aop), (8, .int .i64 aerr), (9, .int .i64 acnt), (10, .slice lq' ln lc'), (11, .slice bq' bn bc'), (14, .int .i64 i)]) HT5.out.own HEVL.out (by intro p hp; simp at hp; rcases hp with rfl | rfl | rfl | rfl | rfl | rfl | rfl | rfl | rfl | rfl | rfl | rfl | rfl <;> simp) (by rw [HXX.out]; rfl)
            have hE : EvR (RdD w5 B) ⟨xt, xa, i, i, op, key, oth, item, qty, dq', dn, dc', aop, aerr, acnt, lq', ln, lc', bq', bn, bc'⟩ (pmadeE i ⟨task, 4, mk, pc, pa⟩ ⟨true, ev, ended⟩ ⟨xt, xa, xm, xn, qc, qe⟩) := ⟨rfl, rfl, rfl, rfl, HCR5.out.imp (fun p xs h => h.low HWB.out), HAR.out.imp (fun t p xs h => h.low HWB.out)⟩
            have hT := HT5.out.turn (w' := sets w5 g (ev * 15) [(13, .int .i64 i), (1, .int .i64 op), (2, .string key), (3, .string oth), (4, .string item), (5, .int .i64 qty), (6, .slice dq' dn dc'), (7, .int .i64 aop), (8, .int .i64 aerr), (9, .int .i64 acnt), (10, .slice lq' ln lc'), (11, .slice bq' bn bc'), (14, .int .i64 i)]) (k := ev) (s := ⟨true, ev, ended⟩) (e := ⟨xt, xa, i, i, op, key, oth, item, qty, dq', dn, dc', aop, aerr, acnt, lq', ln, lc', bq', bn, bc'⟩) HAA.out HEVL.out (hF.mono (fun b hb => .inl (.inl hb))) (HBA5.out.fr hF (fun hx => hgne hx.symm)) HEVL.out ho hE
            refine ⟨by rw [HR.out]; rfl, (HBw5.out.mono HWB.out).trans hT.2.1, (K51.of HBw5.out).trans hT.2.2, fun S' hS' => ?_⟩
            rw [HR.out] at hS'
            injection hS' with hS'
            rw [← hS']
            have hT1 := hT.1
            rw [upd_id S.T task ⟨true, ev, ended⟩ HSS.out] at hT1
            exact ⟨_, c, A, _, hT1⟩
        | false =>
          have HR : Hid (pmade i ⟨task, 4, mk, pc, pa⟩ ⟨false, ev, ended⟩ ⟨xt, xa, xm, xn, qc, qe⟩ S = some ⟨S.T, S.es.set ev (pmadeE i ⟨task, 4, mk, pc, pa⟩ ⟨false, ev, ended⟩ ⟨xt, xa, xm, xn, qc, qe⟩)⟩) := Lib.hid (by simp [pmade, pmadeB, HM.out])
          go_upto_region 5 with fail
          clear e13 b1
          refine wp_region_noPanic ?_
          refine wp_region_held_drew (S := fun w' => w'.cell? ⟨z, 7, none⟩ = some (.int .i64 op) ∧ w'.cell? ⟨z, 8, none⟩ = some (.string key) ∧ w'.cell? ⟨z, 9, none⟩ = some (.string oth) ∧ w'.cell? ⟨z, 10, none⟩ = some (.string item) ∧ w'.cell? ⟨z, 11, none⟩ = some (.int .i64 qty) ∧ w'.cell? ⟨z, 12, none⟩ = some (.slice dq dn dc) ∧ w'.cell? ⟨z, 13, none⟩ = some (.int .i64 aop) ∧ w'.cell? ⟨z, 14, none⟩ = some (.int .i64 aerr) ∧ w'.cell? ⟨z, 15, none⟩ = some (.int .i64 acnt) ∧ w'.cell? ⟨z, 16, none⟩ = some (.slice lq ln lc) ∧ w'.cell? ⟨z, 17, none⟩ = some (.slice bq bn bc)) (by kernel_rfl) (⟨HBX3.out.got 7 _ rfl, HBX3.out.got 8 _ rfl, HBX3.out.got 9 _ rfl, HBX3.out.got 10 _ rfl, HBX3.out.got 11 _ rfl, HBX3.out.got 12 _ rfl, HBX3.out.got 13 _ rfl, HBX3.out.got 14 _ rfl, HBX3.out.got 15 _ rfl, HBX3.out.got 16 _ rfl, HBX3.out.got 17 _ rfl⟩) (fun hHeld => ?_)
          refine wpAnyH_take (i := 0) (oi := ⟨some 40, _, _, _, _, _⟩) (v := ?_) rfl (by kernel_rfl) (by kernel_rfl) (by kernel_rfl) (fun _ _ _ h => h) (Or.inl ⟨by rfl, ?_⟩) hHeld ?_
          rotate_left
          · (intro w hSw; obtain ⟨hq0, hq1, hq2, hq3, hq4, hq5, hq6, hq7, hq8, hq9, hq10⟩ := hSw; go_simp; try with_reducible rfl)
          try simp only [Act.put, List.setIfInBounds_toArray, List.set_cons_zero, List.set_cons_succ]
          refine wpAnyH_take (i := 1) (oi := ⟨some 41, _, _, _, _, _⟩) (v := ?_) rfl (by kernel_rfl) (by kernel_rfl) (by kernel_rfl) (fun _ _ _ h => h) (Or.inl ⟨by rfl, ?_⟩) hHeld ?_
          rotate_left
          · (intro w hSw; obtain ⟨hq0, hq1, hq2, hq3, hq4, hq5, hq6, hq7, hq8, hq9, hq10⟩ := hSw; go_simp; try with_reducible rfl)
          try simp only [Act.put, List.setIfInBounds_toArray, List.set_cons_zero, List.set_cons_succ]
          refine wpAnyH_take (i := 2) (oi := ⟨some 42, _, _, _, _, _⟩) (v := ?_) rfl (by kernel_rfl) (by kernel_rfl) (by kernel_rfl) (fun _ _ _ h => h) (Or.inl ⟨by rfl, ?_⟩) hHeld ?_
          rotate_left
          · (intro w hSw; obtain ⟨hq0, hq1, hq2, hq3, hq4, hq5, hq6, hq7, hq8, hq9, hq10⟩ := hSw; go_simp; try with_reducible rfl)
          try simp only [Act.put, List.setIfInBounds_toArray, List.set_cons_zero, List.set_cons_succ]
          refine wpAnyH_take (i := 3) (oi := ⟨some 43, _, _, _, _, _⟩) (v := ?_) rfl (by kernel_rfl) (by kernel_rfl) (by kernel_rfl) (fun _ _ _ h => h) (Or.inl ⟨by rfl, ?_⟩) hHeld ?_
          rotate_left
          · (intro w hSw; obtain ⟨hq0, hq1, hq2, hq3, hq4, hq5, hq6, hq7, hq8, hq9, hq10⟩ := hSw; go_simp; try with_reducible rfl)
          try simp only [Act.put, List.setIfInBounds_toArray, List.set_cons_zero, List.set_cons_succ]
          refine wpAnyH_take (i := 4) (oi := ⟨some 44, _, _, _, _, _⟩) (v := ?_) rfl (by kernel_rfl) (by kernel_rfl) (by kernel_rfl) (fun _ _ _ h => h) (Or.inl ⟨by rfl, ?_⟩) hHeld ?_
          rotate_left
          · (intro w hSw; obtain ⟨hq0, hq1, hq2, hq3, hq4, hq5, hq6, hq7, hq8, hq9, hq10⟩ := hSw; go_simp; try with_reducible rfl)
          try simp only [Act.put, List.setIfInBounds_toArray, List.set_cons_zero, List.set_cons_succ]
          refine wpAnyH_take (i := 5) (oi := ⟨some 45, _, _, _, _, _⟩) (v := ?_) rfl (by kernel_rfl) (by kernel_rfl) (by kernel_rfl) (fun _ _ _ h => h) (Or.inl ⟨by rfl, ?_⟩) hHeld ?_
          rotate_left
          · (intro w hSw; obtain ⟨hq0, hq1, hq2, hq3, hq4, hq5, hq6, hq7, hq8, hq9, hq10⟩ := hSw; go_simp; try with_reducible rfl)
          try simp only [Act.put, List.setIfInBounds_toArray, List.set_cons_zero, List.set_cons_succ]
          refine wpAnyH_take (i := 7) (oi := ⟨some 47, _, _, _, _, _⟩) (v := ?_) rfl (by kernel_rfl) (by kernel_rfl) (by kernel_rfl) (fun _ _ _ h => h) (Or.inl ⟨by rfl, ?_⟩) hHeld ?_
          rotate_left
          · (intro w hSw; obtain ⟨hq0, hq1, hq2, hq3, hq4, hq5, hq6, hq7, hq8, hq9, hq10⟩ := hSw; go_simp; try with_reducible rfl)
          try simp only [Act.put, List.setIfInBounds_toArray, List.set_cons_zero, List.set_cons_succ]
          refine wpAnyH_take (i := 8) (oi := ⟨some 48, _, _, _, _, _⟩) (v := ?_) rfl (by kernel_rfl) (by kernel_rfl) (by kernel_rfl) (fun _ _ _ h => h) (Or.inl ⟨by rfl, ?_⟩) hHeld ?_
          rotate_left
          · (intro w hSw; obtain ⟨hq0, hq1, hq2, hq3, hq4, hq5, hq6, hq7, hq8, hq9, hq10⟩ := hSw; go_simp; try with_reducible rfl)
          try simp only [Act.put, List.setIfInBounds_toArray, List.set_cons_zero, List.set_cons_succ]
          refine wpAnyH_ready (rs := [6]) (by kernel_rfl) (by simp) ?_
          refine (AllReadyH.cons (o := ⟨some 46, _, _, _, _, _⟩) rfl (fun K hK => ?_) AllReadyH.nil)
          go_simp
          (refine (HCG.out _ (by first | exact HBw.out | exact HBw.out.drew)).mono ?_; rintro e w4 ⟨dq', dc', rfl, hcr, hb4⟩)
          replace hb4 : Below w3.heap.size w3 w4 := ⟨hb4.os, hb4.tape, hb4.output, hb4.size, hb4.block⟩
          have HCR := Lib.hid hcr
          have HB4 := Lib.hid hb4
          have HBX4 := Lib.hid (HBX3.out.kept hb4)
          have HBw4 := Lib.hid (HBw.out.trans (hb4.mono HBw.out.size))
          clear hcr hb4
          refine hK.out _ _ (⟨HBX4.out.got 7 _ rfl, HBX4.out.got 8 _ rfl, HBX4.out.got 9 _ rfl, HBX4.out.got 10 _ rfl, HBX4.out.got 11 _ rfl, HBX4.out.got 12 _ rfl, HBX4.out.got 13 _ rfl, HBX4.out.got 14 _ rfl, HBX4.out.got 15 _ rfl, HBX4.out.got 16 _ rfl, HBX4.out.got 17 _ rfl⟩) (fun hHeld => ?_)
          clear hK K
          try simp only [Act.put, List.setIfInBounds_toArray, List.set_cons_zero, List.set_cons_succ]
          refine wpAnyH_ready (rs := [9]) (by kernel_rfl) (by simp) ?_
          refine (AllReadyH.cons (o := ⟨some 49, _, _, _, _, _⟩) rfl (fun K hK => ?_) AllReadyH.nil)
          go_simp
          (refine (HAG.out _ (by first | exact HBw4.out | exact HBw4.out.drew)).mono ?_; rintro e w5 ⟨lq', lc', bq', bc', rfl, har, hb5⟩)
          replace hb5 : Below w4.heap.size w4 w5 := ⟨hb5.os, hb5.tape, hb5.output, hb5.size, hb5.block⟩
          have HAR := Lib.hid har
          have HCR5 := Lib.hid (HCR.out.imp (fun p xs h => RdD.kept h hb5))
          have HB5 := Lib.hid ((HB2.out.trans (HB4.out.mono HB2.out.size)).trans (hb5.mono (Nat.le_trans HB2.out.size HB4.out.size)))
          have HBX5 := Lib.hid (HBX4.out.kept hb5)
          have HBw5 := Lib.hid (HBw4.out.trans (hb5.mono HBw4.out.size))
          have HC5 := Lib.hid (HCUR.out.kept HB5.out)
          have HE5 := Lib.hid (HEV.out w5 HB5.out)
          have HBA5 := Lib.hid (HBA.out.kept HB5.out)
          have HT5 := Lib.hid (HT1.out.kept HB5.out)
          have e1 := HE5.out 1 _ rfl
          have e2 := HE5.out 2 _ rfl
          have e3 := HE5.out 3 _ rfl
          have e4 := HE5.out 4 _ rfl
          have e5 := HE5.out 5 _ rfl
          have e6 := HE5.out 6 _ rfl
          have e7 := HE5.out 7 _ rfl
          have e8 := HE5.out 8 _ rfl
          have e9 := HE5.out 9 _ rfl
          have e10 := HE5.out 10 _ rfl
          have e11 := HE5.out 11 _ rfl
          have e12 := HE5.out 12 _ rfl
          have e13 := HE5.out 13 _ rfl
          have e14 := HE5.out 14 _ rfl
          have f1 := HC5.out.free (ev * 15 + 1)
          have f2 := HC5.out.free (ev * 15 + 2)
          have f3 := HC5.out.free (ev * 15 + 3)
          have f4 := HC5.out.free (ev * 15 + 4)
          have f5 := HC5.out.free (ev * 15 + 5)
          have f6 := HC5.out.free (ev * 15 + 6)
          have f7 := HC5.out.free (ev * 15 + 7)
          have f8 := HC5.out.free (ev * 15 + 8)
          have f9 := HC5.out.free (ev * 15 + 9)
          have f10 := HC5.out.free (ev * 15 + 10)
          have f11 := HC5.out.free (ev * 15 + 11)
          have f12 := HC5.out.free (ev * 15 + 12)
          have f13 := HC5.out.free (ev * 15 + 13)
          have f14 := HC5.out.free (ev * 15 + 14)
          have a0 := HBA5.out.got 0 _ rfl
          have hne2 : a ≠ g := fun e => hgne e.symm
          clear har hb5
          refine hK.out _ _ (⟨HBX5.out.got 7 _ rfl, HBX5.out.got 8 _ rfl, HBX5.out.got 9 _ rfl, HBX5.out.got 10 _ rfl, HBX5.out.got 11 _ rfl, HBX5.out.got 12 _ rfl, HBX5.out.got 13 _ rfl, HBX5.out.got 14 _ rfl, HBX5.out.got 15 _ rfl, HBX5.out.got 16 _ rfl, HBX5.out.got 17 _ rfl⟩) (fun hHeld => ?_)
          clear hK K
          try simp only [Act.put, List.setIfInBounds_toArray, List.set_cons_zero, List.set_cons_succ]
          refine wpAnyH_take (i := 10) (oi := ⟨some 50, _, _, _, _, _⟩) (v := ?_) rfl (by kernel_rfl) (by kernel_rfl) (by kernel_rfl) (fun _ _ _ h => h) (Or.inl ⟨by rfl, ?_⟩) hHeld ?_
          rotate_left
          · (intro w hSw; obtain ⟨hq0, hq1, hq2, hq3, hq4, hq5, hq6, hq7, hq8, hq9, hq10⟩ := hSw; go_simp; try with_reducible rfl)
          try simp only [Act.put, List.setIfInBounds_toArray, List.set_cons_zero, List.set_cons_succ]
          refine wpAnyH_take (i := 11) (oi := ⟨some 51, _, _, _, _, _⟩) (v := ?_) rfl (by kernel_rfl) (by kernel_rfl) (by kernel_rfl) (fun _ _ _ h => h) (Or.inl ⟨by rfl, ?_⟩) hHeld ?_
          rotate_left
          · (intro w hSw; obtain ⟨hq0, hq1, hq2, hq3, hq4, hq5, hq6, hq7, hq8, hq9, hq10⟩ := hSw; go_simp; try with_reducible rfl)
          try simp only [Act.put, List.setIfInBounds_toArray, List.set_cons_zero, List.set_cons_succ]
          refine wpAnyH_ready (rs := [12]) (by kernel_rfl) (by simp) ?_
          refine (AllReadyH.cons (o := ⟨none, _, _, _, _, _⟩) rfl (fun K hK => ?_) AllReadyH.nil)
          go_simp
          refine hK.out _ _ (⟨(HBX5.out.far (p := ⟨g, ev * 15 + 13, none⟩) HZG.out (.int .i64 i)).got 7 _ rfl, (HBX5.out.far (p := ⟨g, ev * 15 + 13, none⟩) HZG.out (.int .i64 i)).got 8 _ rfl, (HBX5.out.far (p := ⟨g, ev * 15 + 13, none⟩) HZG.out (.int .i64 i)).got 9 _ rfl, (HBX5.out.far (p := ⟨g, ev * 15 + 13, none⟩) HZG.out (.int .i64 i)).got 10 _ rfl, (HBX5.out.far (p := ⟨g, ev * 15 + 13, none⟩) HZG.out (.int .i64 i)).got 11 _ rfl, (HBX5.out.far (p := ⟨g, ev * 15 + 13, none⟩) HZG.out (.int .i64 i)).got 12 _ rfl, (HBX5.out.far (p := ⟨g, ev * 15 + 13, none⟩) HZG.out (.int .i64 i)).got 13 _ rfl, (HBX5.out.far (p := ⟨g, ev * 15 + 13, none⟩) HZG.out (.int .i64 i)).got 14 _ rfl, (HBX5.out.far (p := ⟨g, ev * 15 + 13, none⟩) HZG.out (.int .i64 i)).got 15 _ rfl, (HBX5.out.far (p := ⟨g, ev * 15 + 13, none⟩) HZG.out (.int .i64 i)).got 16 _ rfl, (HBX5.out.far (p := ⟨g, ev * 15 + 13, none⟩) HZG.out (.int .i64 i)).got 17 _ rfl⟩) (fun hHeld => ?_)
          clear hK K
          try simp only [Act.put, List.setIfInBounds_toArray, List.set_cons_zero, List.set_cons_succ]
          refine wpAnyH_take (i := 13) (oi := ⟨some 52, _, _, _, _, _⟩) (v := ?_) rfl (by kernel_rfl) (by kernel_rfl) (by kernel_rfl) (fun _ _ _ h => h) (Or.inl ⟨by rfl, ?_⟩) hHeld ?_
          rotate_left
          · (intro w hSw; obtain ⟨hq0, hq1, hq2, hq3, hq4, hq5, hq6, hq7, hq8, hq9, hq10⟩ := hSw; go_simp; try with_reducible rfl)
          try simp only [Act.put, List.setIfInBounds_toArray, List.set_cons_zero, List.set_cons_succ]
          refine wpAnyH_take (i := 14) (oi := ⟨some 53, _, _, _, _, _⟩) (v := ?_) rfl (by kernel_rfl) (by kernel_rfl) (by kernel_rfl) (fun _ _ _ h => h) (Or.inl ⟨by rfl, ?_⟩) hHeld ?_
          rotate_left
          · (intro w hSw; obtain ⟨hq0, hq1, hq2, hq3, hq4, hq5, hq6, hq7, hq8, hq9, hq10⟩ := hSw; go_simp; try with_reducible rfl)
          try simp only [Act.put, List.setIfInBounds_toArray, List.set_cons_zero, List.set_cons_succ]
          refine wpAnyH_ready (rs := [15]) (by kernel_rfl) (by simp) ?_
          refine (AllReadyH.cons (o := ⟨none, _, _, _, _, _⟩) rfl (fun K hK => ?_) AllReadyH.nil)
          go_simp
          refine hK.out _ _ (⟨(((((((HBX5.out.far (p := ⟨g, ev * 15 + 13, none⟩) HZG.out (.int .i64 i)).far (p := ⟨g, ev * 15 + 1, none⟩) HZG.out (.int .i64 op)).far (p := ⟨g, ev * 15 + 2, none⟩) HZG.out (.string key)).far (p := ⟨g, ev * 15 + 3, none⟩) HZG.out (.string oth)).far (p := ⟨g, ev * 15 + 4, none⟩) HZG.out (.string item)).far (p := ⟨g, ev * 15 + 5, none⟩) HZG.out (.int .i64 qty)).far (p := ⟨g, ev * 15 + 6, none⟩) HZG.out (.slice dq' dn dc')).got 7 _ rfl, (((((((HBX5.out.far (p := ⟨g, ev * 15 + 13, none⟩) HZG.out (.int .i64 i)).far (p := ⟨g, ev * 15 + 1, none⟩) HZG.out (.int .i64 op)).far (p := ⟨g, ev * 15 + 2, none⟩) HZG.out (.string key)).far (p := ⟨g, ev * 15 + 3, none⟩) HZG.out (.string oth)).far (p := ⟨g, ev * 15 + 4, none⟩) HZG.out (.string item)).far (p := ⟨g, ev * 15 + 5, none⟩) HZG.out (.int .i64 qty)).far (p := ⟨g, ev * 15 + 6, none⟩) HZG.out (.slice dq' dn dc')).got 8 _ rfl, (((((((HBX5.out.far (p := ⟨g, ev * 15 + 13, none⟩) HZG.out (.int .i64 i)).far (p := ⟨g, ev * 15 + 1, none⟩) HZG.out (.int .i64 op)).far (p := ⟨g, ev * 15 + 2, none⟩) HZG.out (.string key)).far (p := ⟨g, ev * 15 + 3, none⟩) HZG.out (.string oth)).far (p := ⟨g, ev * 15 + 4, none⟩) HZG.out (.string item)).far (p := ⟨g, ev * 15 + 5, none⟩) HZG.out (.int .i64 qty)).far (p := ⟨g, ev * 15 + 6, none⟩) HZG.out (.slice dq' dn dc')).got 9 _ rfl, (((((((HBX5.out.far (p := ⟨g, ev * 15 + 13, none⟩) HZG.out (.int .i64 i)).far (p := ⟨g, ev * 15 + 1, none⟩) HZG.out (.int .i64 op)).far (p := ⟨g, ev * 15 + 2, none⟩) HZG.out (.string key)).far (p := ⟨g, ev * 15 + 3, none⟩) HZG.out (.string oth)).far (p := ⟨g, ev * 15 + 4, none⟩) HZG.out (.string item)).far (p := ⟨g, ev * 15 + 5, none⟩) HZG.out (.int .i64 qty)).far (p := ⟨g, ev * 15 + 6, none⟩) HZG.out (.slice dq' dn dc')).got 10 _ rfl, (((((((HBX5.out.far (p := ⟨g, ev * 15 + 13, none⟩) HZG.out (.int .i64 i)).far (p := ⟨g, ev * 15 + 1, none⟩) HZG.out (.int .i64 op)).far (p := ⟨g, ev * 15 + 2, none⟩) HZG.out (.string key)).far (p := ⟨g, ev * 15 + 3, none⟩) HZG.out (.string oth)).far (p := ⟨g, ev * 15 + 4, none⟩) HZG.out (.string item)).far (p := ⟨g, ev * 15 + 5, none⟩) HZG.out (.int .i64 qty)).far (p := ⟨g, ev * 15 + 6, none⟩) HZG.out (.slice dq' dn dc')).got 11 _ rfl, (((((((HBX5.out.far (p := ⟨g, ev * 15 + 13, none⟩) HZG.out (.int .i64 i)).far (p := ⟨g, ev * 15 + 1, none⟩) HZG.out (.int .i64 op)).far (p := ⟨g, ev * 15 + 2, none⟩) HZG.out (.string key)).far (p := ⟨g, ev * 15 + 3, none⟩) HZG.out (.string oth)).far (p := ⟨g, ev * 15 + 4, none⟩) HZG.out (.string item)).far (p := ⟨g, ev * 15 + 5, none⟩) HZG.out (.int .i64 qty)).far (p := ⟨g, ev * 15 + 6, none⟩) HZG.out (.slice dq' dn dc')).got 12 _ rfl, (((((((HBX5.out.far (p := ⟨g, ev * 15 + 13, none⟩) HZG.out (.int .i64 i)).far (p := ⟨g, ev * 15 + 1, none⟩) HZG.out (.int .i64 op)).far (p := ⟨g, ev * 15 + 2, none⟩) HZG.out (.string key)).far (p := ⟨g, ev * 15 + 3, none⟩) HZG.out (.string oth)).far (p := ⟨g, ev * 15 + 4, none⟩) HZG.out (.string item)).far (p := ⟨g, ev * 15 + 5, none⟩) HZG.out (.int .i64 qty)).far (p := ⟨g, ev * 15 + 6, none⟩) HZG.out (.slice dq' dn dc')).got 13 _ rfl, (((((((HBX5.out.far (p := ⟨g, ev * 15 + 13, none⟩) HZG.out (.int .i64 i)).far (p := ⟨g, ev * 15 + 1, none⟩) HZG.out (.int .i64 op)).far (p := ⟨g, ev * 15 + 2, none⟩) HZG.out (.string key)).far (p := ⟨g, ev * 15 + 3, none⟩) HZG.out (.string oth)).far (p := ⟨g, ev * 15 + 4, none⟩) HZG.out (.string item)).far (p := ⟨g, ev * 15 + 5, none⟩) HZG.out (.int .i64 qty)).far (p := ⟨g, ev * 15 + 6, none⟩) HZG.out (.slice dq' dn dc')).got 14 _ rfl, (((((((HBX5.out.far (p := ⟨g, ev * 15 + 13, none⟩) HZG.out (.int .i64 i)).far (p := ⟨g, ev * 15 + 1, none⟩) HZG.out (.int .i64 op)).far (p := ⟨g, ev * 15 + 2, none⟩) HZG.out (.string key)).far (p := ⟨g, ev * 15 + 3, none⟩) HZG.out (.string oth)).far (p := ⟨g, ev * 15 + 4, none⟩) HZG.out (.string item)).far (p := ⟨g, ev * 15 + 5, none⟩) HZG.out (.int .i64 qty)).far (p := ⟨g, ev * 15 + 6, none⟩) HZG.out (.slice dq' dn dc')).got 15 _ rfl, (((((((HBX5.out.far (p := ⟨g, ev * 15 + 13, none⟩) HZG.out (.int .i64 i)).far (p := ⟨g, ev * 15 + 1, none⟩) HZG.out (.int .i64 op)).far (p := ⟨g, ev * 15 + 2, none⟩) HZG.out (.string key)).far (p := ⟨g, ev * 15 + 3, none⟩) HZG.out (.string oth)).far (p := ⟨g, ev * 15 + 4, none⟩) HZG.out (.string item)).far (p := ⟨g, ev * 15 + 5, none⟩) HZG.out (.int .i64 qty)).far (p := ⟨g, ev * 15 + 6, none⟩) HZG.out (.slice dq' dn dc')).got 16 _ rfl, (((((((HBX5.out.far (p := ⟨g, ev * 15 + 13, none⟩) HZG.out (.int .i64 i)).far (p := ⟨g, ev * 15 + 1, none⟩) HZG.out (.int .i64 op)).far (p := ⟨g, ev * 15 + 2, none⟩) HZG.out (.string key)).far (p := ⟨g, ev * 15 + 3, none⟩) HZG.out (.string oth)).far (p := ⟨g, ev * 15 + 4, none⟩) HZG.out (.string item)).far (p := ⟨g, ev * 15 + 5, none⟩) HZG.out (.int .i64 qty)).far (p := ⟨g, ev * 15 + 6, none⟩) HZG.out (.slice dq' dn dc')).got 17 _ rfl⟩) (fun hHeld => ?_)
          clear hK K
          try simp only [Act.put, List.setIfInBounds_toArray, List.set_cons_zero, List.set_cons_succ]
          refine wpAnyH_take (i := 16) (oi := ⟨some 54, _, _, _, _, _⟩) (v := ?_) rfl (by kernel_rfl) (by kernel_rfl) (by kernel_rfl) (fun _ _ _ h => h) (Or.inl ⟨by rfl, ?_⟩) hHeld ?_
          rotate_left
          · (intro w hSw; obtain ⟨hq0, hq1, hq2, hq3, hq4, hq5, hq6, hq7, hq8, hq9, hq10⟩ := hSw; go_simp; try with_reducible rfl)
          try simp only [Act.put, List.setIfInBounds_toArray, List.set_cons_zero, List.set_cons_succ]
          refine wpAnyH_take (i := 17) (oi := ⟨some 55, _, _, _, _, _⟩) (v := ?_) rfl (by kernel_rfl) (by kernel_rfl) (by kernel_rfl) (fun _ _ _ h => h) (Or.inl ⟨by rfl, ?_⟩) hHeld ?_
          rotate_left
          · (intro w hSw; obtain ⟨hq0, hq1, hq2, hq3, hq4, hq5, hq6, hq7, hq8, hq9, hq10⟩ := hSw; go_simp; try with_reducible rfl)
          try simp only [Act.put, List.setIfInBounds_toArray, List.set_cons_zero, List.set_cons_succ]
          refine wpAnyH_ready (rs := [18]) (by kernel_rfl) (by simp) ?_
          refine (AllReadyH.cons (o := ⟨none, _, _, _, _, _⟩) rfl (fun K hK => ?_) AllReadyH.nil)
          go_simp
          refine hK.out _ _ (⟨((((((((((((HBX5.out.far (p := ⟨g, ev * 15 + 13, none⟩) HZG.out (.int .i64 i)).far (p := ⟨g, ev * 15 + 1, none⟩) HZG.out (.int .i64 op)).far (p := ⟨g, ev * 15 + 2, none⟩) HZG.out (.string key)).far (p := ⟨g, ev * 15 + 3, none⟩) HZG.out (.string oth)).far (p := ⟨g, ev * 15 + 4, none⟩) HZG.out (.string item)).far (p := ⟨g, ev * 15 + 5, none⟩) HZG.out (.int .i64 qty)).far (p := ⟨g, ev * 15 + 6, none⟩) HZG.out (.slice dq' dn dc')).far (p := ⟨g, ev * 15 + 7, none⟩) HZG.out (.int .i64 aop)).far (p := ⟨g, ev * 15 + 8, none⟩) HZG.out (.int .i64 aerr)).far (p := ⟨g, ev * 15 + 9, none⟩) HZG.out (.int .i64 acnt)).far (p := ⟨g, ev * 15 + 10, none⟩) HZG.out (.slice lq' ln lc')).far (p := ⟨g, ev * 15 + 11, none⟩) HZG.out (.slice bq' bn bc')).got 7 _ rfl, ((((((((((((HBX5.out.far (p := ⟨g, ev * 15 + 13, none⟩) HZG.out (.int .i64 i)).far (p := ⟨g, ev * 15 + 1, none⟩) HZG.out (.int .i64 op)).far (p := ⟨g, ev * 15 + 2, none⟩) HZG.out (.string key)).far (p := ⟨g, ev * 15 + 3, none⟩) HZG.out (.string oth)).far (p := ⟨g, ev * 15 + 4, none⟩) HZG.out (.string item)).far (p := ⟨g, ev * 15 + 5, none⟩) HZG.out (.int .i64 qty)).far (p := ⟨g, ev * 15 + 6, none⟩) HZG.out (.slice dq' dn dc')).far (p := ⟨g, ev * 15 + 7, none⟩) HZG.out (.int .i64 aop)).far (p := ⟨g, ev * 15 + 8, none⟩) HZG.out (.int .i64 aerr)).far (p := ⟨g, ev * 15 + 9, none⟩) HZG.out (.int .i64 acnt)).far (p := ⟨g, ev * 15 + 10, none⟩) HZG.out (.slice lq' ln lc')).far (p := ⟨g, ev * 15 + 11, none⟩) HZG.out (.slice bq' bn bc')).got 8 _ rfl, ((((((((((((HBX5.out.far (p := ⟨g, ev * 15 + 13, none⟩) HZG.out (.int .i64 i)).far (p := ⟨g, ev * 15 + 1, none⟩) HZG.out (.int .i64 op)).far (p := ⟨g, ev * 15 + 2, none⟩) HZG.out (.string key)).far (p := ⟨g, ev * 15 + 3, none⟩) HZG.out (.string oth)).far (p := ⟨g, ev * 15 + 4, none⟩) HZG.out (.string item)).far (p := ⟨g, ev * 15 + 5, none⟩) HZG.out (.int .i64 qty)).far (p := ⟨g, ev * 15 + 6, none⟩) HZG.out (.slice dq' dn dc')).far (p := ⟨g, ev * 15 + 7, none⟩) HZG.out (.int .i64 aop)).far (p := ⟨g, ev * 15 + 8, none⟩) HZG.out (.int .i64 aerr)).far (p := ⟨g, ev * 15 + 9, none⟩) HZG.out (.int .i64 acnt)).far (p := ⟨g, ev * 15 + 10, none⟩) HZG.out (.slice lq' ln lc')).far (p := ⟨g, ev * 15 + 11, none⟩) HZG.out (.slice bq' bn bc')).got 9 _ rfl, ((((((((((((HBX5.out.far (p := ⟨g, ev * 15 + 13, none⟩) HZG.out (.int .i64 i)).far (p := ⟨g, ev * 15 + 1, none⟩) HZG.out (.int .i64 op)).far (p := ⟨g, ev * 15 + 2, none⟩) HZG.out (.string key)).far (p := ⟨g, ev * 15 + 3, none⟩) HZG.out (.string oth)).far (p := ⟨g, ev * 15 + 4, none⟩) HZG.out (.string item)).far (p := ⟨g, ev * 15 + 5, none⟩) HZG.out (.int .i64 qty)).far (p := ⟨g, ev * 15 + 6, none⟩) HZG.out (.slice dq' dn dc')).far (p := ⟨g, ev * 15 + 7, none⟩) HZG.out (.int .i64 aop)).far (p := ⟨g, ev * 15 + 8, none⟩) HZG.out (.int .i64 aerr)).far (p := ⟨g, ev * 15 + 9, none⟩) HZG.out (.int .i64 acnt)).far (p := ⟨g, ev * 15 + 10, none⟩) HZG.out (.slice lq' ln lc')).far (p := ⟨g, ev * 15 + 11, none⟩) HZG.out (.slice bq' bn bc')).got 10 _ rfl, ((((((((((((HBX5.out.far (p := ⟨g, ev * 15 + 13, none⟩) HZG.out (.int .i64 i)).far (p := ⟨g, ev * 15 + 1, none⟩) HZG.out (.int .i64 op)).far (p := ⟨g, ev * 15 + 2, none⟩) HZG.out (.string key)).far (p := ⟨g, ev * 15 + 3, none⟩) HZG.out (.string oth)).far (p := ⟨g, ev * 15 + 4, none⟩) HZG.out (.string item)).far (p := ⟨g, ev * 15 + 5, none⟩) HZG.out (.int .i64 qty)).far (p := ⟨g, ev * 15 + 6, none⟩) HZG.out (.slice dq' dn dc')).far (p := ⟨g, ev * 15 + 7, none⟩) HZG.out (.int .i64 aop)).far (p := ⟨g, ev * 15 + 8, none⟩) HZG.out (.int .i64 aerr)).far (p := ⟨g, ev * 15 + 9, none⟩) HZG.out (.int .i64 acnt)).far (p := ⟨g, ev * 15 + 10, none⟩) HZG.out (.slice lq' ln lc')).far (p := ⟨g, ev * 15 + 11, none⟩) HZG.out (.slice bq' bn bc')).got 11 _ rfl, ((((((((((((HBX5.out.far (p := ⟨g, ev * 15 + 13, none⟩) HZG.out (.int .i64 i)).far (p := ⟨g, ev * 15 + 1, none⟩) HZG.out (.int .i64 op)).far (p := ⟨g, ev * 15 + 2, none⟩) HZG.out (.string key)).far (p := ⟨g, ev * 15 + 3, none⟩) HZG.out (.string oth)).far (p := ⟨g, ev * 15 + 4, none⟩) HZG.out (.string item)).far (p := ⟨g, ev * 15 + 5, none⟩) HZG.out (.int .i64 qty)).far (p := ⟨g, ev * 15 + 6, none⟩) HZG.out (.slice dq' dn dc')).far (p := ⟨g, ev * 15 + 7, none⟩) HZG.out (.int .i64 aop)).far (p := ⟨g, ev * 15 + 8, none⟩) HZG.out (.int .i64 aerr)).far (p := ⟨g, ev * 15 + 9, none⟩) HZG.out (.int .i64 acnt)).far (p := ⟨g, ev * 15 + 10, none⟩) HZG.out (.slice lq' ln lc')).far (p := ⟨g, ev * 15 + 11, none⟩) HZG.out (.slice bq' bn bc')).got 12 _ rfl, ((((((((((((HBX5.out.far (p := ⟨g, ev * 15 + 13, none⟩) HZG.out (.int .i64 i)).far (p := ⟨g, ev * 15 + 1, none⟩) HZG.out (.int .i64 op)).far (p := ⟨g, ev * 15 + 2, none⟩) HZG.out (.string key)).far (p := ⟨g, ev * 15 + 3, none⟩) HZG.out (.string oth)).far (p := ⟨g, ev * 15 + 4, none⟩) HZG.out (.string item)).far (p := ⟨g, ev * 15 + 5, none⟩) HZG.out (.int .i64 qty)).far (p := ⟨g, ev * 15 + 6, none⟩) HZG.out (.slice dq' dn dc')).far (p := ⟨g, ev * 15 + 7, none⟩) HZG.out (.int .i64 aop)).far (p := ⟨g, ev * 15 + 8, none⟩) HZG.out (.int .i64 aerr)).far (p := ⟨g, ev * 15 + 9, none⟩) HZG.out (.int .i64 acnt)).far (p := ⟨g, ev * 15 + 10, none⟩) HZG.out (.slice lq' ln lc')).far (p := ⟨g, ev * 15 + 11, none⟩) HZG.out (.slice bq' bn bc')).got 13 _ rfl, ((((((((((((HBX5.out.far (p := ⟨g, ev * 15 + 13, none⟩) HZG.out (.int .i64 i)).far (p := ⟨g, ev * 15 + 1, none⟩) HZG.out (.int .i64 op)).far (p := ⟨g, ev * 15 + 2, none⟩) HZG.out (.string key)).far (p := ⟨g, ev * 15 + 3, none⟩) HZG.out (.string oth)).far (p := ⟨g, ev * 15 + 4, none⟩) HZG.out (.string item)).far (p := ⟨g, ev * 15 + 5, none⟩) HZG.out (.int .i64 qty)).far (p := ⟨g, ev * 15 + 6, none⟩) HZG.out (.slice dq' dn dc')).far (p := ⟨g, ev * 15 + 7, none⟩) HZG.out (.int .i64 aop)).far (p := ⟨g, ev * 15 + 8, none⟩) HZG.out (.int .i64 aerr)).far (p := ⟨g, ev * 15 + 9, none⟩) HZG.out (.int .i64 acnt)).far (p := ⟨g, ev * 15 + 10, none⟩) HZG.out (.slice lq' ln lc')).far (p := ⟨g, ev * 15 + 11, none⟩) HZG.out (.slice bq' bn bc')).got 14 _ rfl, ((((((((((((HBX5.out.far (p := ⟨g, ev * 15 + 13, none⟩) HZG.out (.int .i64 i)).far (p := ⟨g, ev * 15 + 1, none⟩) HZG.out (.int .i64 op)).far (p := ⟨g, ev * 15 + 2, none⟩) HZG.out (.string key)).far (p := ⟨g, ev * 15 + 3, none⟩) HZG.out (.string oth)).far (p := ⟨g, ev * 15 + 4, none⟩) HZG.out (.string item)).far (p := ⟨g, ev * 15 + 5, none⟩) HZG.out (.int .i64 qty)).far (p := ⟨g, ev * 15 + 6, none⟩) HZG.out (.slice dq' dn dc')).far (p := ⟨g, ev * 15 + 7, none⟩) HZG.out (.int .i64 aop)).far (p := ⟨g, ev * 15 + 8, none⟩) HZG.out (.int .i64 aerr)).far (p := ⟨g, ev * 15 + 9, none⟩) HZG.out (.int .i64 acnt)).far (p := ⟨g, ev * 15 + 10, none⟩) HZG.out (.slice lq' ln lc')).far (p := ⟨g, ev * 15 + 11, none⟩) HZG.out (.slice bq' bn bc')).got 15 _ rfl, ((((((((((((HBX5.out.far (p := ⟨g, ev * 15 + 13, none⟩) HZG.out (.int .i64 i)).far (p := ⟨g, ev * 15 + 1, none⟩) HZG.out (.int .i64 op)).far (p := ⟨g, ev * 15 + 2, none⟩) HZG.out (.string key)).far (p := ⟨g, ev * 15 + 3, none⟩) HZG.out (.string oth)).far (p := ⟨g, ev * 15 + 4, none⟩) HZG.out (.string item)).far (p := ⟨g, ev * 15 + 5, none⟩) HZG.out (.int .i64 qty)).far (p := ⟨g, ev * 15 + 6, none⟩) HZG.out (.slice dq' dn dc')).far (p := ⟨g, ev * 15 + 7, none⟩) HZG.out (.int .i64 aop)).far (p := ⟨g, ev * 15 + 8, none⟩) HZG.out (.int .i64 aerr)).far (p := ⟨g, ev * 15 + 9, none⟩) HZG.out (.int .i64 acnt)).far (p := ⟨g, ev * 15 + 10, none⟩) HZG.out (.slice lq' ln lc')).far (p := ⟨g, ev * 15 + 11, none⟩) HZG.out (.slice bq' bn bc')).got 16 _ rfl, ((((((((((((HBX5.out.far (p := ⟨g, ev * 15 + 13, none⟩) HZG.out (.int .i64 i)).far (p := ⟨g, ev * 15 + 1, none⟩) HZG.out (.int .i64 op)).far (p := ⟨g, ev * 15 + 2, none⟩) HZG.out (.string key)).far (p := ⟨g, ev * 15 + 3, none⟩) HZG.out (.string oth)).far (p := ⟨g, ev * 15 + 4, none⟩) HZG.out (.string item)).far (p := ⟨g, ev * 15 + 5, none⟩) HZG.out (.int .i64 qty)).far (p := ⟨g, ev * 15 + 6, none⟩) HZG.out (.slice dq' dn dc')).far (p := ⟨g, ev * 15 + 7, none⟩) HZG.out (.int .i64 aop)).far (p := ⟨g, ev * 15 + 8, none⟩) HZG.out (.int .i64 aerr)).far (p := ⟨g, ev * 15 + 9, none⟩) HZG.out (.int .i64 acnt)).far (p := ⟨g, ev * 15 + 10, none⟩) HZG.out (.slice lq' ln lc')).far (p := ⟨g, ev * 15 + 11, none⟩) HZG.out (.slice bq' bn bc')).got 17 _ rfl⟩) (fun hHeld => ?_)
          clear hK K
          try simp only [Act.put, List.setIfInBounds_toArray, List.set_cons_zero, List.set_cons_succ]
          refine wpAnyH_done (by kernel_rfl) ?_ _
          refine NoPanic.normal ?_
          clear hHeld
          go_wp2_with fail
          go_ret
          as_aux_lemma =>
            have hF := sets_fr g (ev * 15) [(13, .int .i64 i), (1, .int .i64 op), (2, .string key), (3, .string oth), (4, .string item), (5, .int .i64 qty), (6, .slice dq' dn dc'), (7, .int .i64 aop), (8, .int .i64 aerr), (9, .int .i64 acnt), (10, .slice lq' ln lc'), (11, .slice bq' bn bc')] w5 w5 (Fr.refl _ _)
            have ho := own_sets (e' := ⟨xt, xa, i, xn, op, key, oth, item, qty, dq', dn, dc', aop, aerr, acnt, lq', ln, lc', bq', bn, bc'⟩) (l := [(13, .int .i64 i), (1, .int .i64 op), (2, .string key), (3, .string oth), (4, .string item), (5, .int .i64 qty), (6, .slice dq' dn dc'), (7, .int .i64 aop), (8, .int .i64 aerr), (9, .int .i64 acnt), (10, .slice lq' ln lc'), (11, .slice bq' bn bc')]) HT5.out.own HEVL.out (by intro p hp; simp at hp; rcases hp with rfl | rfl | rfl | rfl | rfl | rfl | rfl | rfl | rfl | rfl | rfl | rfl <;> simp) (by rw [HXX.out]; rfl)
            have hE : EvR (RdD w5 B) ⟨xt, xa, i, xn, op, key, oth, item, qty, dq', dn, dc', aop, aerr, acnt, lq', ln, lc', bq', bn, bc'⟩ (pmadeE i ⟨task, 4, mk, pc, pa⟩ ⟨false, ev, ended⟩ ⟨xt, xa, xm, xn, qc, qe⟩) := ⟨rfl, rfl, rfl, rfl, HCR5.out.imp (fun p xs h => h.low HWB.out), HAR.out.imp (fun t p xs h => h.low HWB.out)⟩
            have hT := HT5.out.turn (w' := sets w5 g (ev * 15) [(13, .int .i64 i), (1, .int .i64 op), (2, .string key), (3, .string oth), (4, .string item), (5, .int .i64 qty), (6, .slice dq' dn dc'), (7, .int .i64 aop), (8, .int .i64 aerr), (9, .int .i64 acnt), (10, .slice lq' ln lc'), (11, .slice bq' bn bc')]) (k := ev) (s := ⟨false, ev, ended⟩) (e := ⟨xt, xa, i, xn, op, key, oth, item, qty, dq', dn, dc', aop, aerr, acnt, lq', ln, lc', bq', bn, bc'⟩) HAA.out HEVL.out (hF.mono (fun b hb => .inl (.inl hb))) (HBA5.out.fr hF (fun hx => hgne hx.symm)) HEVL.out ho hE
            refine ⟨by rw [HR.out]; rfl, (HBw5.out.mono HWB.out).trans hT.2.1, (K51.of HBw5.out).trans hT.2.2, fun S' hS' => ?_⟩
            rw [HR.out] at hS'
            injection hS' with hS'
            rw [← hS']
            have hT1 := hT.1
            rw [upd_id S.T task ⟨false, ev, ended⟩ HSS.out] at hT1
            exact ⟨_, c, A, _, hT1⟩
      · have h4n : (step != 4) = true := by simpa using h4
        have HR : Hid (pmade i ⟨task, step, mk, pc, pa⟩ ⟨looks, ev, ended⟩ ⟨xt, xa, xm, xn, qc, qe⟩ S = none) := Lib.hid (by simp [pmade, pmadeB, h1, h4])
        clear h1 h4 h1'
        go_wp2_with fail
        go_ret
        exact ⟨by rw [HR.out]; rfl, HBw.out.mono HWB.out, K51.of HBw.out, fun S' hS' => by rw [HR.out] at hS'; cases hS'⟩

set_option maxRecDepth 100000 in
set_option maxHeartbeats 8000000 in
theorem answered_any {w : World} {B t mb c : Nat} {p : Option Addr} {A : Int → Option Nat} {es : List Ev} {S : PS} (hT : Tell w B t mb p c A es S) (i : Nat) (d : Di) (pd : PD) (hd : DiR (RdW w w.heap.size) d pd) (hok : pd.c.ok ∧ pd.a.ok) (hl : es.length ≤ 4096) (hi : i ≤ 4096) (ht0 : 0 ≤ pd.task) (ht1 : pd.task ≤ 9999)
    (s : TS) (hs : S.T pd.task = some s) (x : PE) (hx : S.es[s.event]? = some x) :
    Calls Try.prog 38 #[.pointer (some ⟨t, 0, none⟩), .int .i64 i, d.agg] w fun e w' => e = .returned (.bool (pans i pd s x S).isSome) ∧ Below B w w' ∧ K51 w w' ∧ ∀ S', pans i pd s x S = some S' → ∃ p' c' A' es', Tell w' B t mb p' c' A' es' S' := by
  obtain ⟨task, step, stripe, waits, next, vq, vn, vc, mk, op, key, oth, item, qty, dq, dn, dc, aop, aerr, acnt, lq, ln, lc, bq, bn, bc⟩ := d
  obtain ⟨pt, ps, pm, pc, pa⟩ := pd
  obtain ⟨d1, d2, d3, d4, d5⟩ := hd
  simp only at d1 d2 d3 d4 d5 hok ht0 ht1
  subst d1 d2 d3
  have HD4 := Lib.hid d4
  have HD5 := Lib.hid d5
  have HOK := Lib.hid hok
  have HT0 := Lib.hid hT
  have HL := Lib.hid hl
  clear d4 d5 hok hT hl
  simp only [Di.agg]
  go_enter Try.func38, Try.ntmps38
  go_upto_region 1 with fail
  have HBX := Lib.hid (Blk.new w 51 [.int .i64 task, .int .i64 step, .int .i64 stripe, .bool waits, .int .i64 next, .slice vq vn vc, .bool mk, .int .i64 op, .string key, .string oth, .string item, .int .i64 qty, .slice dq dn dc, .int .i64 aop, .int .i64 aerr, .int .i64 acnt, .slice lq ln lc, .slice bq bn bc])
  have HB1 := Lib.hid (below_al (Below.refl w.heap.size w) (.cells #[.int .i64 task, .int .i64 step, .int .i64 stripe, .bool waits, .int .i64 next, .slice vq vn vc, .bool mk, .int .i64 op, .string key, .string oth, .string item, .int .i64 qty, .slice dq dn dc, .int .i64 aop, .int .i64 aerr, .int .i64 acnt, .slice lq ln lc, .slice bq bn bc] 51))
  have HT1 := Lib.hid (HT0.out.kept HB1.out)
  generalize w.alloc (.cells #[.int .i64 task, .int .i64 step, .int .i64 stripe, .bool waits, .int .i64 next, .slice vq vn vc, .bool mk, .int .i64 op, .string key, .string oth, .string item, .int .i64 qty, .slice dq dn dc, .int .i64 aop, .int .i64 aerr, .int .i64 acnt, .slice lq ln lc, .slice bq bn bc] 51) = w1 at *
  obtain ⟨z, hz⟩ : ∃ z, w.heap.size = z := ⟨_, rfl⟩
  have HZ := Lib.hid hz
  rw [hz] at HBX ⊢
  clear hz
  have HWB : Hid (B ≤ w.heap.size) := Lib.hid (by have := HT0.out.bt; have := HT0.out.blk.lt; omega)
  obtain ⟨a, hA⟩ : ∃ a, A task = some a := by
    cases h : A task with
    | none => have := HT1.out.no task h; rw [hs] at this; cases this
    | some a => exact ⟨a, rfl⟩
  obtain ⟨s', hS', hba, hBa, hev⟩ := HT1.out.st task a hA
  rw [hs] at hS'
  injection hS' with hS'
  subst hS'
  obtain ⟨looks, ev, ended⟩ := s
  simp only at hba hev hx
  obtain ⟨g, rfl⟩ := own_some HT1.out.own (by omega)
  obtain ⟨cur, hcur⟩ := HT1.out.ownBlk (g := g) rfl
  obtain ⟨-, hes, -, -⟩ := own_form' HT1.out.own
  have hgne : g ≠ a := fun e => by subst e; exact absurd (hcur.type hba) (by decide)
  have hxr := HT1.out.ev ev es[ev] x (List.getElem?_eq_getElem hev) hx
  have hrd := Rd.of_own HT1.out.own
  have HEV := Lib.hid (show ∀ (w' : World), Below w1.heap.size w1 w' → ∀ i u, (es[ev]).cells[i]? = some u → w'.cell? ⟨g, ev * 15 + i, none⟩ = some u from fun w' hb i u hu => by
    obtain ⟨b, o, hp, hlt, hc⟩ := evs_rd (hrd.kept hb) hev
    injection hp with hp
    injection hp with h1 h2
    subst h1 h2
    have := hc i u hu
    rwa [Nat.zero_add] at this)
  obtain ⟨xx, hxx⟩ : ∃ xx, es[ev] = xx := ⟨_, rfl⟩
  have HXX := Lib.hid hxx
  rw [hxx] at hxr HEV
  clear hxx
  obtain ⟨xt, xa, xm, xn, xop, xkey, xoth, xitem, xqty, xdq, xdn, xdc, xaop, xaerr, xacnt, xlq, xln, xlc, xbq, xbn, xbc⟩ := xx
  obtain ⟨qt, qa, qm, qn, qc, qe⟩ := x
  obtain ⟨r1, r2, r3, r4, r5, r6⟩ := hxr
  simp only at r1 r2 r3 r4 r5 r6
  subst r1 r2 r3 r4
  have HQ5 := Lib.hid r5
  have HQ6 := Lib.hid r6
  have HEVL := Lib.hid hev
  have HAA := Lib.hid hA
  have HBA := Lib.hid hba
  have HCUR := Lib.hid hcur
  have HSS := Lib.hid hs
  have HXE := Lib.hid hx
  have HBAB := Lib.hid hBa
  have hesl : es.length ≤ 4096 := HL.out
  have hevi : (ev : Int) < (es.length : Int) := by omega
  have c0 := HT1.out.blk.got 0 _ rfl
  have b0 := HBX.out.got 0 _ rfl
  obtain ⟨M, hM⟩ := HT1.out.mp
  have hlk := fun n => look60n hM task ht0 ht1 n
  rw [hA] at hlk
  simp only [ptrO] at hlk
  clear r5 r6 hM hcur hba hs hx hA hrd hBa
  go_quiet (fail)
  have HB2 := Lib.hid (below_drewN (Below.refl w1.heap.size w1) nq)
  have HD := Lib.hid (fun (n m : Nat) => below_drewN (below_drewN (Below.refl w1.heap.size w1) n) m)
  generalize w1.drewN nq = w2 at *
  clear hlk c0 b0
  go_upto_region 2 with fail
  have HT2 := Lib.hid (HT1.out.kept HB2.out)
  have t1 := HT2.out.blk.got 1 _ rfl
  have a1 := (HBA.out.kept HB2.out).got 1 _ rfl
  go_quiet (fail)
  replace HB2 := Lib.hid (below_drewN HB2.out nq)
  generalize w2.drewN nq = w3 at *
  clear t1 a1 HD HT2
  have HT3 := Lib.hid (HT1.out.kept HB2.out)
  have HBX3 := Lib.hid (HBX.out.kept HB2.out)
  have HBA3 := Lib.hid (HBA.out.kept HB2.out)
  have HC3 := Lib.hid (HCUR.out.kept HB2.out)
  have HE3 := Lib.hid (HEV.out w3 HB2.out)
  have HBw := Lib.hid (HB1.out.trans (HB2.out.mono HB1.out.size))
  have e13 := HE3.out 13 _ rfl
  have e14 := HE3.out 14 _ rfl
  have f14 := HC3.out.free (ev * 15 + 14)
  have a0 := HBA3.out.got 0 _ rfl
  have a2 := HBA3.out.got 2 _ rfl
  have a2' := HBA3.out.free 2
  have hne2 : a ≠ g := fun e => hgne e.symm
  cases looks with
  | true =>
    have HR : Hid (pans i ⟨task, step, mk, pc, pa⟩ ⟨true, ev, ended⟩ ⟨xt, xa, xm, xn, qc, qe⟩ S = none) := Lib.hid (by simp [pans, pansB])
    go_wp2_with fail
    go_ret
    exact ⟨by rw [HR.out]; rfl, HBw.out.mono HWB.out, K51.of HBw.out, fun S' hS' => by rw [HR.out] at hS'; cases hS'⟩
  | false =>
    by_cases hm : xm < 0
    · have HR : Hid (pans i ⟨task, step, mk, pc, pa⟩ ⟨false, ev, ended⟩ ⟨xt, xa, xm, xn, qc, qe⟩ S = none) := Lib.hid (by simp [pans, pansB, hm])
      go_wp2_with fail
      go_ret
      exact ⟨by rw [HR.out]; rfl, HBw.out.mono HWB.out, K51.of HBw.out, fun S' hS' => by rw [HR.out] at hS'; cases hS'⟩
    · have hm' : decide (xm < 0) = false := by simpa using hm
      have HR : Hid (pans i ⟨task, step, mk, pc, pa⟩ ⟨false, ev, ended⟩ ⟨xt, xa, xm, xn, qc, qe⟩ S = some ⟨upd S.T task ⟨false, ev, true⟩, S.es.set ev (pansE i ⟨xt, xa, xm, xn, qc, qe⟩)⟩) := Lib.hid (by simp [pans, pansB, hm])
      clear hm
      go_wp2_with fail
      go_ret
      as_aux_lemma =>
        have hF := sets_fr g (ev * 15) [(14, .int .i64 i)] w3 w3 (Fr.refl _ _)
        have hF2 := (hF.mono (T := fun x => x = g ∨ x = a) (fun b hb => .inl (.inl hb))).set ⟨a, 2, none⟩ (.bool true) (.inl (.inr rfl))
        have ho := own_sets (e' := ⟨xt, xa, xm, i, xop, xkey, xoth, xitem, xqty, xdq, xdn, xdc, xaop, xaerr, xacnt, xlq, xln, xlc, xbq, xbn, xbc⟩) (l := [(14, .int .i64 i)]) HT3.out.own HEVL.out (by intro p hp; simp at hp; subst hp; simp) (by rw [HXX.out]; rfl)
        have ho2 := own_fr ho ((Fr.refl (fun x => x = a) _).set ⟨a, 2, none⟩ (.bool true) (.inl rfl)) (fun c hc => by injection hc with hc; subst hc; exact hgne)
        have hE : EvR (RdD w3 B) ⟨xt, xa, xm, i, xop, xkey, xoth, xitem, xqty, xdq, xdn, xdc, xaop, xaerr, xacnt, xlq, xln, xlc, xbq, xbn, xbc⟩ (pansE i ⟨xt, xa, xm, xn, qc, qe⟩) := ⟨rfl, rfl, rfl, rfl, HQ5.out.imp (fun p xs h => h.kept HB2.out), HQ6.out.imp (fun t p xs h => h.kept HB2.out)⟩
        have hT := HT3.out.turn (w' := (sets w3 g (ev * 15) [(14, .int .i64 i)]).setCell ⟨a, 2, none⟩ (.bool true)) (k := ev) (s := ⟨false, ev, true⟩) (e := ⟨xt, xa, xm, i, xop, xkey, xoth, xitem, xqty, xdq, xdn, xdc, xaop, xaerr, xacnt, xlq, xln, xlc, xbq, xbn, xbc⟩) HAA.out HEVL.out hF2 ((HBA3.out.fr hF (fun hx => hgne hx.symm)).set_ 2 (.bool true)) HEVL.out ho2 hE
        refine ⟨by rw [HR.out]; rfl, (HBw.out.mono HWB.out).trans hT.2.1, (K51.of HBw.out).trans hT.2.2, fun S' hS' => ?_⟩
        rw [HR.out] at hS'
        injection hS' with hS'
        rw [← hS']
        exact ⟨_, c, A, _, hT.1⟩
end Go.Proofs.Ytbkkplednfdfdaa
