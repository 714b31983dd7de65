/- The beginning of an event. Printed by hist_h.py. -/
import Derived.Test.YtbkkplednfdfdaaSteps
namespace Go.Proofs.Ytbkkplednfdfdaa
open Go.RowKit Go.Maps
set_option linter.unusedVariables false

theorem Tell.dist {w : World} {B t mb c : Nat} {p : Option Addr} {A : Int → Option Nat} {es : List Ev} {S : PS} (h : Tell w B t mb p c A es S) : t ≠ mb ∧ ∀ g, (Value.slice p es.length c).ownBlock = some g → g ≠ t ∧ g ≠ mb := by
  obtain ⟨M, hM⟩ := h.mp
  refine ⟨fun e => hM.noblk (e ▸ h.blk), fun g hg => ?_⟩
  obtain ⟨cs, hcs⟩ := h.ownBlk hg
  exact ⟨fun e => by subst e; exact absurd (h.blk.type hcs) (by decide), fun e => by subst e; exact hM.noblk hcs⟩
set_option maxRecDepth 100000 in
set_option maxHeartbeats 8000000 in
theorem begin_any {w : World} {B t mb c : Nat} {p : Option Addr} {A : Int → Option Nat} {es : List Ev} {S : PS} (hT : Tell w B t mb p c A es S) (i : Nat) (d : Di) (pd : PD) (hd : DiR (RdW w w.heap.size) d pd) (hok : pd.c.ok ∧ pd.a.ok) (hl : es.length ≤ 4096) (hi : i ≤ 4096) (ht0 : 0 ≤ pd.task) (ht1 : pd.task ≤ 9999) :
    Calls Try.prog 36 #[.pointer (some ⟨t, 0, none⟩), .int .i64 i, d.agg] w fun e w' => e = .returned (.bool (pbegin i pd S).isSome) ∧ Below B w w' ∧ K51 w w' ∧ ∀ S', pbegin i pd S = some S' → ∃ p' c' A' es', Tell w' B t mb p' c' A' es' S' := by
  obtain ⟨task, step, stripe, waits, next, vq, vn, vc, mk, op, key, oth, item, qty, dq, dn, dc, aop, aerr, acnt, lq, ln, lc, bq, bn, bc⟩ := d
  obtain ⟨pt, ps, pm, pc, pa⟩ := pd
  obtain ⟨d1, d2, d3, d4, d5⟩ := hd
  simp only at d1 d2 d3 d4 d5 hok ht0 ht1
  subst d1 d2 d3
  have HD4 := Lib.hid d4
  have HD5 := Lib.hid d5
  have HOK := Lib.hid hok
  have HT0 := Lib.hid hT
  have HL := Lib.hid hl
  clear d4 d5 hok hT hl
  simp only [Di.agg]
  go_enter Try.func36, Try.ntmps36
  go_upto_region 1 with fail
  have HBX := Lib.hid (Blk.new w 51 [.int .i64 task, .int .i64 step, .int .i64 stripe, .bool waits, .int .i64 next, .slice vq vn vc, .bool mk, .int .i64 op, .string key, .string oth, .string item, .int .i64 qty, .slice dq dn dc, .int .i64 aop, .int .i64 aerr, .int .i64 acnt, .slice lq ln lc, .slice bq bn bc])
  have HB1 := Lib.hid (below_al (Below.refl w.heap.size w) (.cells #[.int .i64 task, .int .i64 step, .int .i64 stripe, .bool waits, .int .i64 next, .slice vq vn vc, .bool mk, .int .i64 op, .string key, .string oth, .string item, .int .i64 qty, .slice dq dn dc, .int .i64 aop, .int .i64 aerr, .int .i64 acnt, .slice lq ln lc, .slice bq bn bc] 51))
  have HT1 := Lib.hid (HT0.out.kept HB1.out)
  generalize w.alloc (.cells #[.int .i64 task, .int .i64 step, .int .i64 stripe, .bool waits, .int .i64 next, .slice vq vn vc, .bool mk, .int .i64 op, .string key, .string oth, .string item, .int .i64 qty, .slice dq dn dc, .int .i64 aop, .int .i64 aerr, .int .i64 acnt, .slice lq ln lc, .slice bq bn bc] 51) = w1 at *
  obtain ⟨z, hz⟩ : ∃ z, w.heap.size = z := ⟨_, rfl⟩
  have HZ := Lib.hid hz
  rw [hz] at HBX ⊢
  clear hz
  have HWB : Hid (B ≤ w.heap.size) := Lib.hid (by have := HT0.out.bt; have := HT0.out.blk.lt; omega)
  have HBw := HWB
  have HCG := Lib.hid (fun (w' : World) (hb : Below w.heap.size w w') => call_gen w' op key oth item qty dq dn dc pc (HD4.out.imp (fun p xs h => Rd.kept h hb)) HOK.out.1)
  replace HCG := Lib.hid (fun (w' : World) (hb : Below w.heap.size w w') => (HCG.out w' hb).mono (fun e w'' (h : ∃ q m, e = _ ∧ CR (RdD w'' w'.heap.size) op key oth item qty q dn m pc ∧ Below w'.heap.size w' w'') => (show ∃ q m, e = _ ∧ CR (RdD w'' w.heap.size) op key oth item qty q dn m pc ∧ Below w'.heap.size w' w'' from let ⟨q, m, h1, h2, h3⟩ := h; ⟨q, m, h1, h2.imp (fun p xs hr => hr.low hb.size), h3⟩)))
  have c0 := HT1.out.blk.got 0 _ rfl
  have b0 := HBX.out.got 0 _ rfl
  have b1 := HBX.out.got 1 _ rfl
  obtain ⟨N, hN⟩ := HT1.out.mp
  have hlk := fun n => look60n hN task ht0 ht1 n
  cases hA : A task with
  | none =>
    have hS := HT1.out.no task hA
    rw [hA] at hlk
    simp only [ptrO] at hlk
    by_cases h7 : step = 7
    · subst h7
      have HR : Hid (pbegin i ⟨task, 7, mk, pc, pa⟩ S = some (padd i ⟨task, 7, mk, pc, pa⟩ S true)) := Lib.hid (by simp [pbegin, hS, pfit])
      clear hA hS
      go_quiet (fail)
      have HT2 := Lib.hid (HT1.out.kept (below_drewN (Below.refl _ _) nq))
      have HBX2 := Lib.hid (HBX.out.kept (below_drewN (Below.refl _ _) nq))
      have HB2 := Lib.hid (below_drewN HB1.out nq)
      generalize w1.drewN nq = w2 at *
      clear hlk hN c0 b0 b1
      have b0 := HBX2.out.got 0 _ rfl
      have b1 := HBX2.out.got 1 _ rfl
      go_upto_region 8 with fail
      have HBz := Lib.hid (HB2.out.trans ((below_al (Below.refl w2.heap.size w2) (.cells #[.int .i64 task, .int .i64 0, .string ⟨#[]⟩, .string ⟨#[]⟩, .string ⟨#[]⟩, .int .i64 0, .slice none 0 0, .int .i64 0, .int .i64 0, .int .i64 0, .slice none 0 0, .slice none 0 0, .int .i64 i, .int .i64 (-1), .int .i64 (-1)] 41)).mono HB2.out.size))
      have HTz := Lib.hid (HT2.out.kept (below_al (Below.refl w2.heap.size w2) (.cells #[.int .i64 task, .int .i64 0, .string ⟨#[]⟩, .string ⟨#[]⟩, .string ⟨#[]⟩, .int .i64 0, .slice none 0 0, .int .i64 0, .int .i64 0, .int .i64 0, .slice none 0 0, .slice none 0 0, .int .i64 i, .int .i64 (-1), .int .i64 (-1)] 41)))
      have HBXz := Lib.hid (HBX2.out.alloc (.cells #[.int .i64 task, .int .i64 0, .string ⟨#[]⟩, .string ⟨#[]⟩, .string ⟨#[]⟩, .int .i64 0, .slice none 0 0, .int .i64 0, .int .i64 0, .int .i64 0, .slice none 0 0, .slice none 0 0, .int .i64 i, .int .i64 (-1), .int .i64 (-1)] 41))
      have HEz := Lib.hid (Blk.new w2 41 [.int .i64 task, .int .i64 0, .string ⟨#[]⟩, .string ⟨#[]⟩, .string ⟨#[]⟩, .int .i64 0, .slice none 0 0, .int .i64 0, .int .i64 0, .int .i64 0, .slice none 0 0, .slice none 0 0, .int .i64 i, .int .i64 (-1), .int .i64 (-1)])
      generalize w2.alloc (.cells #[.int .i64 task, .int .i64 0, .string ⟨#[]⟩, .string ⟨#[]⟩, .string ⟨#[]⟩, .int .i64 0, .slice none 0 0, .int .i64 0, .int .i64 0, .int .i64 0, .slice none 0 0, .slice none 0 0, .int .i64 i, .int .i64 (-1), .int .i64 (-1)] 41) = wz at *
      generalize w2.heap.size = e9 at *
      have HEV := Lib.hid (show EvR (RdD wz B) ⟨task, i, -1, -1, 0, ⟨#[]⟩, ⟨#[]⟩, ⟨#[]⟩, 0, none, 0, 0, 0, 0, 0, none, 0, 0, none, 0, 0⟩ (pnew i ⟨task, 7, mk, pc, pa⟩ true) from ⟨rfl, rfl, rfl, rfl, CR.zero _ (fun _ => .inl rfl), AR.zero _ (fun _ => .inl rfl)⟩)
      have HBB : Hid (Below B w wz) := Lib.hid (HBz.out.mono HBw.out)
      obtain ⟨N, hN⟩ := HTz.out.mp
      have HMP := Lib.hid (show Mp (wz.alloc (.cells #[.bool true, .int .i64 es.length, .bool false] 78)) mb N (ptrs A) from hN.kept (below_al (Below.refl _ _) _))
      have HTM := Lib.hid HTz.out.dist.1
      have HGM := Lib.hid (fun g hg => (HTz.out.dist.2 g hg).2)
      have HGT := Lib.hid (fun g hg => (HTz.out.dist.2 g hg).1)
      have HZM : Hid (z ≠ mb) := Lib.hid (fun e => hN.noblk (e ▸ HBXz.out))
      have HEM : Hid (e9 ≠ mb) := Lib.hid (fun e => hN.noblk (e ▸ HEz.out))
      have hesl : es.length ≤ 4096 := HL.out
      clear hN
      refine wp_region_noPanic ?_
      refine wp_region_held_drew (S := fun w' => w'.cell? ⟨t, 0, none⟩ = some (.map (some mb)) ∧ w'.cell? ⟨t, 1, none⟩ = some (.slice p es.length c) ∧ w'.cell? ⟨z, 0, none⟩ = some (.int .i64 task)) (by kernel_rfl) (⟨HTz.out.blk.got 0 _ rfl, HTz.out.blk.got 1 _ rfl, HBXz.out.got 0 _ rfl⟩) (fun hHeld => ?_)
      refine wpAnyH_take (i := 0) (oi := ⟨some 42, _, _, _, _, _⟩) (v := ?_) rfl (by kernel_rfl) (by kernel_rfl) (by kernel_rfl) (fun _ _ _ h => h) (Or.inl ⟨by rfl, ?_⟩) hHeld ?_
      rotate_left
      · (intro w hSw; obtain ⟨hq1, hq2, hq3⟩ := hSw; go_simp; try with_reducible rfl)
      try simp only [Act.put, List.setIfInBounds_toArray, List.set_cons_zero, List.set_cons_succ]
      refine wpAnyH_take (i := 1) (oi := ⟨some 43, _, _, _, _, _⟩) (v := ?_) rfl (by kernel_rfl) (by kernel_rfl) (by kernel_rfl) (fun _ _ _ h => h) (Or.inl ⟨by rfl, ?_⟩) hHeld ?_
      rotate_left
      · (intro w hSw; obtain ⟨hq1, hq2, hq3⟩ := hSw; go_simp; try with_reducible rfl)
      try simp only [Act.put, List.setIfInBounds_toArray, List.set_cons_zero, List.set_cons_succ]
      refine wpAnyH_take (i := 2) (oi := ⟨some 44, _, _, _, _, _⟩) (v := ?_) rfl (by kernel_rfl) (by kernel_rfl) (by kernel_rfl) (fun _ _ _ h => h) (Or.inl ⟨by rfl, ?_⟩) hHeld ?_
      rotate_left
      · (intro w hSw; obtain ⟨hq1, hq2, hq3⟩ := hSw; go_simp; try with_reducible rfl)
      try simp only [Act.put, List.setIfInBounds_toArray, List.set_cons_zero, List.set_cons_succ]
      refine wpAnyH_take (i := 3) (oi := ⟨some 45, _, _, _, _, _⟩) (v := ?_) rfl (by kernel_rfl) (by kernel_rfl) (by kernel_rfl) (fun _ _ _ h => h) (Or.inl ⟨by rfl, ?_⟩) hHeld ?_
      rotate_left
      · (intro w hSw; obtain ⟨hq1, hq2, hq3⟩ := hSw; go_simp; try with_reducible rfl)
      try simp only [Act.put, List.setIfInBounds_toArray, List.set_cons_zero, List.set_cons_succ]
      refine wpAnyH_take (i := 4) (oi := ⟨some 46, _, _, _, _, _⟩) (v := ?_) rfl (by kernel_rfl) (by kernel_rfl) (by kernel_rfl) (fun _ _ _ h => h) (Or.inl ⟨by rfl, ?_⟩) hHeld ?_
      rotate_left
      · (intro w hSw; obtain ⟨hq1, hq2, hq3⟩ := hSw; go_simp; try with_reducible rfl)
      try simp only [Act.put, List.setIfInBounds_toArray, List.set_cons_zero, List.set_cons_succ]
      refine wpAnyH_take (i := 5) (oi := ⟨some 47, _, _, _, _, _⟩) (v := ?_) rfl (by kernel_rfl) (by kernel_rfl) (by kernel_rfl) (fun _ _ _ h => h) (Or.inl ⟨by rfl, ?_⟩) hHeld ?_
      rotate_left
      · (intro w hSw; obtain ⟨hq1, hq2, hq3⟩ := hSw; go_simp; try with_reducible rfl)
      try simp only [Act.put, List.setIfInBounds_toArray, List.set_cons_zero, List.set_cons_succ]
      refine wpAnyH_take (i := 6) (oi := ⟨some 48, _, _, _, _, _⟩) (v := ?_) rfl (by kernel_rfl) (by kernel_rfl) (by kernel_rfl) (fun _ _ _ h => h) (Or.inl ⟨by rfl, ?_⟩) hHeld ?_
      rotate_left
      · (intro w hSw; obtain ⟨hq1, hq2, hq3⟩ := hSw; go_simp; try with_reducible rfl)
      try simp only [Act.put, List.setIfInBounds_toArray, List.set_cons_zero, List.set_cons_succ]
      refine wpAnyH_take (i := 7) (oi := ⟨some 49, _, _, _, _, _⟩) (v := ?_) rfl (by kernel_rfl) (by kernel_rfl) (by kernel_rfl) (fun _ _ _ h => h) (Or.inl ⟨by rfl, ?_⟩) hHeld ?_
      rotate_left
      · (intro w hSw; obtain ⟨hq1, hq2, hq3⟩ := hSw; go_simp; try with_reducible rfl)
      try simp only [Act.put, List.setIfInBounds_toArray, List.set_cons_zero, List.set_cons_succ]
      refine wpAnyH_take (i := 8) (oi := ⟨some 50, _, _, _, _, _⟩) (v := ?_) rfl (by kernel_rfl) (by kernel_rfl) (by kernel_rfl) (fun _ _ _ h => h) (Or.inl ⟨by rfl, ?_⟩) hHeld ?_
      rotate_left
      · (intro w hSw; obtain ⟨hq1, hq2, hq3⟩ := hSw; go_simp; try with_reducible rfl)
      try simp only [Act.put, List.setIfInBounds_toArray, List.set_cons_zero, List.set_cons_succ]
      refine wpAnyH_take (i := 9) (oi := ⟨some 51, _, _, _, _, _⟩) (v := ?_) rfl (by kernel_rfl) (by kernel_rfl) (by kernel_rfl) (fun _ _ _ h => h) (Or.inl ⟨by rfl, ?_⟩) hHeld ?_
      rotate_left
      · (intro w hSw; obtain ⟨hq1, hq2, hq3⟩ := hSw; go_simp; try with_reducible rfl)
      try simp only [Act.put, List.setIfInBounds_toArray, List.set_cons_zero, List.set_cons_succ]
      refine wpAnyH_take (i := 10) (oi := ⟨some 52, _, _, _, _, _⟩) (v := ?_) rfl (by kernel_rfl) (by kernel_rfl) (by kernel_rfl) (fun _ _ _ h => h) (Or.inl ⟨by rfl, ?_⟩) hHeld ?_
      rotate_left
      · (intro w hSw; obtain ⟨hq1, hq2, hq3⟩ := hSw; go_simp; try with_reducible rfl)
      try simp only [Act.put, List.setIfInBounds_toArray, List.set_cons_zero, List.set_cons_succ]
      refine wpAnyH_take (i := 11) (oi := ⟨some 53, _, _, _, _, _⟩) (v := ?_) rfl (by kernel_rfl) (by kernel_rfl) (by kernel_rfl) (fun _ _ _ h => h) (Or.inl ⟨by rfl, ?_⟩) hHeld ?_
      rotate_left
      · (intro w hSw; obtain ⟨hq1, hq2, hq3⟩ := hSw; go_simp; try with_reducible rfl)
      try simp only [Act.put, List.setIfInBounds_toArray, List.set_cons_zero, List.set_cons_succ]
      refine wpAnyH_take (i := 12) (oi := ⟨some 54, _, _, _, _, _⟩) (v := ?_) rfl (by kernel_rfl) (by kernel_rfl) (by kernel_rfl) (fun _ _ _ h => h) (Or.inl ⟨by rfl, ?_⟩) hHeld ?_
      rotate_left
      · (intro w hSw; obtain ⟨hq1, hq2, hq3⟩ := hSw; go_simp; try with_reducible rfl)
      try simp only [Act.put, List.setIfInBounds_toArray, List.set_cons_zero, List.set_cons_succ]
      refine wpAnyH_ready (rs := [13]) (by kernel_rfl) (by simp) ?_
      refine (AllReadyH.cons (o := ⟨some 55, _, _, _, _, _⟩) rfl (fun K hK => ?_) AllReadyH.nil)
      go_simp
      refine hK.out _ _ (⟨(HTz.out.blk.alloc _).got 0 _ rfl, (HTz.out.blk.alloc _).got 1 _ rfl, (HBXz.out.alloc _).got 0 _ rfl⟩) (fun hHeld => ?_)
      clear hK K
      try simp only [Act.put, List.setIfInBounds_toArray, List.set_cons_zero, List.set_cons_succ]
      refine wpAnyH_ready (rs := [14]) (by kernel_rfl) (by simp) ?_
      refine (AllReadyH.cons (o := ⟨none, _, _, _, _, _⟩) rfl (fun K hK => ?_) AllReadyH.nil)
      (refine step_mput (by rfl) (.tmp 45) (.tmp 47) (.tmp 55) (by rfl) (by rfl) task (by rfl) (.pointer (some ⟨wz.heap.size, 0, none⟩)) (by rfl) (n := N) (f := ptrs A) (by exact HMP.out) under3 under60 (wf_of (by omega) (by omega)) ?_; intro w3 hm3 hf3)
      have HM3 := Lib.hid hm3
      have HF3 := Lib.hid (show Fr (fun x => x = mb) (wz.alloc (.cells #[.bool true, .int .i64 es.length, .bool false] 78)) w3 from ⟨hf3.os, hf3.tape, hf3.output, hf3.size, hf3.block⟩)
      have HT3 := Lib.hid ((HTz.out.blk.alloc _).fr HF3.out HTM.out)
      have HBX3 := Lib.hid ((HBXz.out.alloc _).fr HF3.out HZM.out)
      clear hm3 hf3
      refine hK.out _ _ (⟨HT3.out.got 0 _ rfl, HT3.out.got 1 _ rfl, HBX3.out.got 0 _ rfl⟩) (fun hHeld => ?_)
      clear hK K
      try simp only [Act.put]
      refine wpAnyH_done (by kernel_rfl) ?_ _
      refine NoPanic.normal ?_
      clear hHeld
      have HE3 := Lib.hid ((HEz.out.alloc _).fr HF3.out HEM.out)
      have HO3 := Lib.hid (own_fr (own_fr HTz.out.own (Fr.alloc (Fr.refl (fun _ => False) wz) (.cells #[.bool true, .int .i64 es.length, .bool false] 78)) (fun _ _ h => h)) HF3.out (fun g hg => HGM.out g hg))
      have HO4 := Lib.hid (own_fr HO3.out (Fr.alloc (Fr.refl (fun _ => False) w3) (.cells #[.int .i64 task, .int .i64 0, .string ⟨#[]⟩, .string ⟨#[]⟩, .string ⟨#[]⟩, .int .i64 0, .slice none 0 0, .int .i64 0, .int .i64 0, .int .i64 0, .slice none 0 0, .slice none 0 0, .int .i64 i, .int .i64 (-1), .int .i64 (-1)] 41)) (fun _ _ h => h))
      have HSL := Lib.hid (show w3.heap.size ≤ (w3.alloc (.cells #[.int .i64 task, .int .i64 0, .string ⟨#[]⟩, .string ⟨#[]⟩, .string ⟨#[]⟩, .int .i64 0, .slice none 0 0, .int .i64 0, .int .i64 0, .int .i64 0, .slice none 0 0, .slice none 0 0, .int .i64 i, .int .i64 (-1), .int .i64 (-1)] 41)).heap.size by simp)
      have HBL : Hid (B ≤ (w3.alloc (.cells #[.int .i64 task, .int .i64 0, .string ⟨#[]⟩, .string ⟨#[]⟩, .string ⟨#[]⟩, .int .i64 0, .slice none 0 0, .int .i64 0, .int .i64 0, .int .i64 0, .slice none 0 0, .slice none 0 0, .int .i64 i, .int .i64 (-1), .int .i64 (-1)] 41)).heap.size) := Lib.hid (by have h1 := HTz.out.bt; have h2 := HTz.out.blk.lt; have h3 := HF3.out.size; simp at h3 ⊢; omega)
      have t1 := HT3.out.got 1 _ rfl
      have e0 := HE3.out.got 0 _ rfl
      have e1 := HE3.out.got 1 _ rfl
      have e2 := HE3.out.got 2 _ rfl
      have e3 := HE3.out.got 3 _ rfl
      have e4 := HE3.out.got 4 _ rfl
      have e5 := HE3.out.got 5 _ rfl
      have e6 := HE3.out.got 6 _ rfl
      have e7 := HE3.out.got 7 _ rfl
      have e8 := HE3.out.got 8 _ rfl
      have e9 := HE3.out.got 9 _ rfl
      have e10 := HE3.out.got 10 _ rfl
      have e11 := HE3.out.got 11 _ rfl
      have e12 := HE3.out.got 12 _ rfl
      have e13 := HE3.out.got 13 _ rfl
      have e14 := HE3.out.got 14 _ rfl
      go_upto_region 9 with fail
      refine wp_region_noPanic ?_
      refine wp_region_held_drew (S := fun _ => True) (by kernel_rfl) (trivial) (fun hHeld => ?_)
      refine wpAnyH_take (i := 0) (oi := ⟨some 56, _, _, _, _, _⟩) (v := ?_) rfl (by kernel_rfl) (by kernel_rfl) (by kernel_rfl) (fun _ _ _ h => h) (Or.inl ⟨by rfl, ?_⟩) hHeld ?_
      rotate_left
      · (intro w hSw; go_simp; try with_reducible rfl)
      try simp only [Act.put, List.setIfInBounds_toArray, List.set_cons_zero, List.set_cons_succ]
      refine wpAnyH_take (i := 1) (oi := ⟨some 57, _, _, _, _, _⟩) (v := ?_) rfl (by kernel_rfl) (by kernel_rfl) (by kernel_rfl) (fun _ _ _ h => h) (Or.inl ⟨by rfl, ?_⟩) hHeld ?_
      rotate_left
      · (intro w hSw; go_simp; try with_reducible rfl)
      try simp only [Act.put, List.setIfInBounds_toArray, List.set_cons_zero, List.set_cons_succ]
      refine wpAnyH_take (i := 2) (oi := ⟨some 58, _, _, _, _, _⟩) (v := ?_) rfl (by kernel_rfl) (by kernel_rfl) (by kernel_rfl) (fun _ _ _ h => h) (Or.inl ⟨by rfl, ?_⟩) hHeld ?_
      rotate_left
      · (intro w hSw; go_simp; try with_reducible rfl)
      try simp only [Act.put, List.setIfInBounds_toArray, List.set_cons_zero, List.set_cons_succ]
      refine wpAnyH_take (i := 3) (oi := ⟨some 59, _, _, _, _, _⟩) (v := ?_) rfl (by kernel_rfl) (by kernel_rfl) (by kernel_rfl) (fun _ _ _ h => h) (Or.inl ⟨by rfl, ?_⟩) hHeld ?_
      rotate_left
      · (intro w hSw; go_simp; try with_reducible rfl)
      try simp only [Act.put, List.setIfInBounds_toArray, List.set_cons_zero, List.set_cons_succ]
      refine wpAnyH_ready (rs := [4, 5]) (by kernel_rfl) (by simp) ?_
      refine (AllReadyH.cons (o := ⟨some 60, _, _, _, _, _⟩) rfl (fun K hK => ?_) (AllReadyH.cons (o := ⟨some 61, _, _, _, _, _⟩) rfl (fun K hK => ?_) AllReadyH.nil))
      · go_simp
        refine hK.out _ _ (trivial) (fun hHeld => ?_)
        clear hK K
        try simp only [Act.put, List.setIfInBounds_toArray, List.set_cons_zero, List.set_cons_succ]
        refine wpAnyH_ready (rs := [5]) (by kernel_rfl) (by simp) ?_
        refine (AllReadyH.cons (o := ⟨some 61, _, _, _, _, _⟩) rfl (fun K hK => ?_) AllReadyH.nil)
        go_simp
        refine hK.out _ _ (trivial) (fun hHeld => ?_)
        clear hK K
        try simp only [Act.put, List.setIfInBounds_toArray, List.set_cons_zero, List.set_cons_succ]
        refine wpAnyH_ready (rs := [6]) (by kernel_rfl) (by simp) ?_
        refine (AllReadyH.cons (o := ⟨some 62, _, _, _, _, _⟩) rfl (fun K hK => ?_) AllReadyH.nil)
        go_simp
        have t2 := (HT3.out.alloc (.cells #[.int .i64 task, .int .i64 0, .string ⟨#[]⟩, .string ⟨#[]⟩, .string ⟨#[]⟩, .int .i64 0, .slice none 0 0, .int .i64 0, .int .i64 0, .int .i64 0, .slice none 0 0, .slice none 0 0, .int .i64 i, .int .i64 (-1), .int .i64 (-1)] 41)).got 1 _ rfl
        refine hK.out _ _ (trivial) (fun hHeld => ?_)
        clear hK K
        try simp only [Act.put, List.setIfInBounds_toArray, List.set_cons_zero, List.set_cons_succ]
        refine wpAnyH_ready (rs := [7]) (by kernel_rfl) (by simp) ?_
        refine (AllReadyH.cons (o := ⟨some 63, _, _, _, _, _⟩) rfl (fun K hK => ?_) AllReadyH.nil)
        (refine step_appS (by rfl) (.tmp 60) (.tmp 62) 25 (by rfl) B 41 _ 15 192 Try.underlying25 evt_info (by rfl) (by omega) (.slice p es.length c) es.length (evs es) (by rfl) (by exact HO4.out) w3.heap.size [.int .i64 task, .int .i64 0, .string ⟨#[]⟩, .string ⟨#[]⟩, .string ⟨#[]⟩, .int .i64 0, .slice none 0 0, .int .i64 0, .int .i64 0, .int .i64 0, .slice none 0 0, .slice none 0 0, .int .i64 i, .int .i64 (-1), .int .i64 (-1)] rfl (by exact Blk.new w3 41 [.int .i64 task, .int .i64 0, .string ⟨#[]⟩, .string ⟨#[]⟩, .string ⟨#[]⟩, .int .i64 0, .slice none 0 0, .int .i64 0, .int .i64 0, .int .i64 0, .slice none 0 0, .slice none 0 0, .int .i64 i, .int .i64 (-1), .int .i64 (-1)]) (by intro u hu; exact evs_one1 ⟨task, i, -1, -1, 0, ⟨#[]⟩, ⟨#[]⟩, ⟨#[]⟩, 0, none, 0, 0, 0, 0, 0, none, 0, 0, none, 0, 0⟩ u hu) (by rfl) (by omega) (by omega) (by exact HBL.out) ?_; intro v5 w5 hown5 hb5 hat5 hg5)
        obtain ⟨p5, c5, rfl, -, -⟩ := own_shape hown5
        have HO5 := Lib.hid hown5
        have HA5 : Hid ((Value.slice p5 (es.length + 1) c5).ownBlock = (Value.slice p es.length c).ownBlock ∨ ∀ k, (Value.slice p5 (es.length + 1) c5).ownBlock = some k → w3.heap.size ≤ k) := Lib.hid (hat5.imp id (fun h k hk => Nat.le_trans HSL.out (h k hk)))
        have HF5 := Lib.hid (show Fr (fun x => (Value.slice p es.length c).ownBlock = some x) w3 w5 from (Fr.alloc (Fr.refl _ w3) (.cells #[.int .i64 task, .int .i64 0, .string ⟨#[]⟩, .string ⟨#[]⟩, .string ⟨#[]⟩, .int .i64 0, .slice none 0 0, .int .i64 0, .int .i64 0, .int .i64 0, .slice none 0 0, .slice none 0 0, .int .i64 i, .int .i64 (-1), .int .i64 (-1)] 41)).gb (w2 := w5) ⟨hg5.os, hg5.tape, hg5.output, hg5.size, hg5.block⟩ (fun c hc => .inl hc))
        have HT5 := Lib.hid (HT3.out.fr HF5.out (fun hx => HGT.out t hx rfl))
        have k5 := HT5.out.got 1 _ rfl
        have f5 := HT5.out.free 1
        clear hown5 hb5 hat5 hg5
        refine hK.out _ _ (trivial) (fun hHeld => ?_)
        clear hK K
        try simp only [Act.put, List.setIfInBounds_toArray, List.set_cons_zero, List.set_cons_succ]
        refine wpAnyH_take (i := 8) (oi := ⟨some 64, _, _, _, _, _⟩) (v := ?_) rfl (by kernel_rfl) (by kernel_rfl) (by kernel_rfl) (fun _ _ _ h => h) (Or.inl ⟨by rfl, ?_⟩) hHeld ?_
        rotate_left
        · (intro w hSw; go_simp; try with_reducible rfl)
        try simp only [Act.put, List.setIfInBounds_toArray, List.set_cons_zero, List.set_cons_succ]
        refine wpAnyH_take (i := 9) (oi := ⟨some 65, _, _, _, _, _⟩) (v := ?_) rfl (by kernel_rfl) (by kernel_rfl) (by kernel_rfl) (fun _ _ _ h => h) (Or.inl ⟨by rfl, ?_⟩) hHeld ?_
        rotate_left
        · (intro w hSw; go_simp; try with_reducible rfl)
        try simp only [Act.put, List.setIfInBounds_toArray, List.set_cons_zero, List.set_cons_succ]
        refine wpAnyH_ready (rs := [10]) (by kernel_rfl) (by simp) ?_
        refine (AllReadyH.cons (o := ⟨none, _, _, _, _, _⟩) rfl (fun K hK => ?_) AllReadyH.nil)
        go_simp
        refine hK.out _ _ (trivial) (fun hHeld => ?_)
        clear hK K
        try simp only [Act.put, List.setIfInBounds_toArray, List.set_cons_zero, List.set_cons_succ]
        refine wpAnyH_done (by kernel_rfl) ?_ _
        refine NoPanic.normal ?_
        clear hHeld
        go_wp2_with fail
        go_ret
        as_aux_lemma =>
          have hF := HTz.out.add (a := wz.heap.size) (task := task) (s := ⟨true, es.length, false⟩) (e := ⟨task, i, -1, -1, 0, ⟨#[]⟩, ⟨#[]⟩, ⟨#[]⟩, 0, none, 0, 0, 0, 0, 0, none, 0, 0, none, 0, 0⟩) rfl (Fr.alloc (Fr.refl (fun _ => False) wz) (.cells #[.bool true, .int .i64 es.length, .bool false] 78)) (Blk.new wz 78 [.bool true, .int .i64 es.length, .bool false]) rfl HM3.out HF3.out HF5.out HO5.out HA5.out HEV.out
          refine ⟨by rw [HR.out]; rfl, HBB.out.trans hF.2.1, (K51.of HBz.out).trans hF.2.2, fun S' hS' => ?_⟩
          rw [HR.out] at hS'
          injection hS' with hS'
          have e1 : padd i ⟨task, 7, mk, pc, pa⟩ S true = ⟨upd S.T task ⟨true, es.length, false⟩, S.es ++ [pnew i ⟨task, 7, mk, pc, pa⟩ true]⟩ := by rw [HTz.out.len]; rfl
          rw [← hS', e1]
          exact ⟨p5, c5, _, _, hF.1⟩
      · go_simp
        refine hK.out _ _ (trivial) (fun hHeld => ?_)
        clear hK K
        try simp only [Act.put, List.setIfInBounds_toArray, List.set_cons_zero, List.set_cons_succ]
        refine wpAnyH_ready (rs := [4, 6]) (by kernel_rfl) (by simp) ?_
        refine (AllReadyH.cons (o := ⟨some 60, _, _, _, _, _⟩) rfl (fun K hK => ?_) (AllReadyH.cons (o := ⟨some 62, _, _, _, _, _⟩) rfl (fun K hK => ?_) AllReadyH.nil))
        · go_simp
          refine hK.out _ _ (trivial) (fun hHeld => ?_)
          clear hK K
          try simp only [Act.put, List.setIfInBounds_toArray, List.set_cons_zero, List.set_cons_succ]
          refine wpAnyH_ready (rs := [6]) (by kernel_rfl) (by simp) ?_
          refine (AllReadyH.cons (o := ⟨some 62, _, _, _, _, _⟩) rfl (fun K hK => ?_) AllReadyH.nil)
          go_simp
          have t2 := (HT3.out.alloc (.cells #[.int .i64 task, .int .i64 0, .string ⟨#[]⟩, .string ⟨#[]⟩, .string ⟨#[]⟩, .int .i64 0, .slice none 0 0, .int .i64 0, .int .i64 0, .int .i64 0, .slice none 0 0, .slice none 0 0, .int .i64 i, .int .i64 (-1), .int .i64 (-1)] 41)).got 1 _ rfl
          refine hK.out _ _ (trivial) (fun hHeld => ?_)
          clear hK K
          try simp only [Act.put, List.setIfInBounds_toArray, List.set_cons_zero, List.set_cons_succ]
          refine wpAnyH_ready (rs := [7]) (by kernel_rfl) (by simp) ?_
          refine (AllReadyH.cons (o := ⟨some 63, _, _, _, _, _⟩) rfl (fun K hK => ?_) AllReadyH.nil)
          (refine step_appS (by rfl) (.tmp 60) (.tmp 62) 25 (by rfl) B 41 _ 15 192 Try.underlying25 evt_info (by rfl) (by omega) (.slice p es.length c) es.length (evs es) (by rfl) (by exact HO4.out) w3.heap.size [.int .i64 task, .int .i64 0, .string ⟨#[]⟩, .string ⟨#[]⟩, .string ⟨#[]⟩, .int .i64 0, .slice none 0 0, .int .i64 0, .int .i64 0, .int .i64 0, .slice none 0 0, .slice none 0 0, .int .i64 i, .int .i64 (-1), .int .i64 (-1)] rfl (by exact Blk.new w3 41 [.int .i64 task, .int .i64 0, .string ⟨#[]⟩, .string ⟨#[]⟩, .string ⟨#[]⟩, .int .i64 0, .slice none 0 0, .int .i64 0, .int .i64 0, .int .i64 0, .slice none 0 0, .slice none 0 0, .int .i64 i, .int .i64 (-1), .int .i64 (-1)]) (by intro u hu; exact evs_one1 ⟨task, i, -1, -1, 0, ⟨#[]⟩, ⟨#[]⟩, ⟨#[]⟩, 0, none, 0, 0, 0, 0, 0, none, 0, 0, none, 0, 0⟩ u hu) (by rfl) (by omega) (by omega) (by exact HBL.out) ?_; intro v5 w5 hown5 hb5 hat5 hg5)
          obtain ⟨p5, c5, rfl, -, -⟩ := own_shape hown5
          have HO5 := Lib.hid hown5
          have HA5 : Hid ((Value.slice p5 (es.length + 1) c5).ownBlock = (Value.slice p es.length c).ownBlock ∨ ∀ k, (Value.slice p5 (es.length + 1) c5).ownBlock = some k → w3.heap.size ≤ k) := Lib.hid (hat5.imp id (fun h k hk => Nat.le_trans HSL.out (h k hk)))
          have HF5 := Lib.hid (show Fr (fun x => (Value.slice p es.length c).ownBlock = some x) w3 w5 from (Fr.alloc (Fr.refl _ w3) (.cells #[.int .i64 task, .int .i64 0, .string ⟨#[]⟩, .string ⟨#[]⟩, .string ⟨#[]⟩, .int .i64 0, .slice none 0 0, .int .i64 0, .int .i64 0, .int .i64 0, .slice none 0 0, .slice none 0 0, .int .i64 i, .int .i64 (-1), .int .i64 (-1)] 41)).gb (w2 := w5) ⟨hg5.os, hg5.tape, hg5.output, hg5.size, hg5.block⟩ (fun c hc => .inl hc))
          have HT5 := Lib.hid (HT3.out.fr HF5.out (fun hx => HGT.out t hx rfl))
          have k5 := HT5.out.got 1 _ rfl
          have f5 := HT5.out.free 1
          clear hown5 hb5 hat5 hg5
          refine hK.out _ _ (trivial) (fun hHeld => ?_)
          clear hK K
          try simp only [Act.put, List.setIfInBounds_toArray, List.set_cons_zero, List.set_cons_succ]
          refine wpAnyH_take (i := 8) (oi := ⟨some 64, _, _, _, _, _⟩) (v := ?_) rfl (by kernel_rfl) (by kernel_rfl) (by kernel_rfl) (fun _ _ _ h => h) (Or.inl ⟨by rfl, ?_⟩) hHeld ?_
          rotate_left
          · (intro w hSw; go_simp; try with_reducible rfl)
          try simp only [Act.put, List.setIfInBounds_toArray, List.set_cons_zero, List.set_cons_succ]
          refine wpAnyH_take (i := 9) (oi := ⟨some 65, _, _, _, _, _⟩) (v := ?_) rfl (by kernel_rfl) (by kernel_rfl) (by kernel_rfl) (fun _ _ _ h => h) (Or.inl ⟨by rfl, ?_⟩) hHeld ?_
          rotate_left
          · (intro w hSw; go_simp; try with_reducible rfl)
          try simp only [Act.put, List.setIfInBounds_toArray, List.set_cons_zero, List.set_cons_succ]
          refine wpAnyH_ready (rs := [10]) (by kernel_rfl) (by simp) ?_
          refine (AllReadyH.cons (o := ⟨none, _, _, _, _, _⟩) rfl (fun K hK => ?_) AllReadyH.nil)
          go_simp
          refine hK.out _ _ (trivial) (fun hHeld => ?_)
          clear hK K
          try simp only [Act.put, List.setIfInBounds_toArray, List.set_cons_zero, List.set_cons_succ]
          refine wpAnyH_done (by kernel_rfl) ?_ _
          refine NoPanic.normal ?_
          clear hHeld
          go_wp2_with fail
          go_ret
          as_aux_lemma =>
            have hF := HTz.out.add (a := wz.heap.size) (task := task) (s := ⟨true, es.length, false⟩) (e := ⟨task, i, -1, -1, 0, ⟨#[]⟩, ⟨#[]⟩, ⟨#[]⟩, 0, none, 0, 0, 0, 0, 0, none, 0, 0, none, 0, 0⟩) rfl (Fr.alloc (Fr.refl (fun _ => False) wz) (.cells #[.bool true, .int .i64 es.length, .bool false] 78)) (Blk.new wz 78 [.bool true, .int .i64 es.length, .bool false]) rfl HM3.out HF3.out HF5.out HO5.out HA5.out HEV.out
            refine ⟨by rw [HR.out]; rfl, HBB.out.trans hF.2.1, (K51.of HBz.out).trans hF.2.2, fun S' hS' => ?_⟩
            rw [HR.out] at hS'
            injection hS' with hS'
            have e1 : padd i ⟨task, 7, mk, pc, pa⟩ S true = ⟨upd S.T task ⟨true, es.length, false⟩, S.es ++ [pnew i ⟨task, 7, mk, pc, pa⟩ true]⟩ := by rw [HTz.out.len]; rfl
            rw [← hS', e1]
            exact ⟨p5, c5, _, _, hF.1⟩
        · go_simp
          have t2 := (HT3.out.alloc (.cells #[.int .i64 task, .int .i64 0, .string ⟨#[]⟩, .string ⟨#[]⟩, .string ⟨#[]⟩, .int .i64 0, .slice none 0 0, .int .i64 0, .int .i64 0, .int .i64 0, .slice none 0 0, .slice none 0 0, .int .i64 i, .int .i64 (-1), .int .i64 (-1)] 41)).got 1 _ rfl
          refine hK.out _ _ (trivial) (fun hHeld => ?_)
          clear hK K
          try simp only [Act.put, List.setIfInBounds_toArray, List.set_cons_zero, List.set_cons_succ]
          refine wpAnyH_ready (rs := [4]) (by kernel_rfl) (by simp) ?_
          refine (AllReadyH.cons (o := ⟨some 60, _, _, _, _, _⟩) rfl (fun K hK => ?_) AllReadyH.nil)
          go_simp
          refine hK.out _ _ (trivial) (fun hHeld => ?_)
          clear hK K
          try simp only [Act.put, List.setIfInBounds_toArray, List.set_cons_zero, List.set_cons_succ]
          refine wpAnyH_ready (rs := [7]) (by kernel_rfl) (by simp) ?_
          refine (AllReadyH.cons (o := ⟨some 63, _, _, _, _, _⟩) rfl (fun K hK => ?_) AllReadyH.nil)
          (refine step_appS (by rfl) (.tmp 60) (.tmp 62) 25 (by rfl) B 41 _ 15 192 Try.underlying25 evt_info (by rfl) (by omega) (.slice p es.length c) es.length (evs es) (by rfl) (by exact HO4.out) w3.heap.size [.int .i64 task, .int .i64 0, .string ⟨#[]⟩, .string ⟨#[]⟩, .string ⟨#[]⟩, .int .i64 0, .slice none 0 0, .int .i64 0, .int .i64 0, .int .i64 0, .slice none 0 0, .slice none 0 0, .int .i64 i, .int .i64 (-1), .int .i64 (-1)] rfl (by exact Blk.new w3 41 [.int .i64 task, .int .i64 0, .string ⟨#[]⟩, .string ⟨#[]⟩, .string ⟨#[]⟩, .int .i64 0, .slice none 0 0, .int .i64 0, .int .i64 0, .int .i64 0, .slice none 0 0, .slice none 0 0, .int .i64 i, .int .i64 (-1), .int .i64 (-1)]) (by intro u hu; exact evs_one1 ⟨task, i, -1, -1, 0, ⟨#[]⟩, ⟨#[]⟩, ⟨#[]⟩, 0, none, 0, 0, 0, 0, 0, none, 0, 0, none, 0, 0⟩ u hu) (by rfl) (by omega) (by omega) (by exact HBL.out) ?_; intro v5 w5 hown5 hb5 hat5 hg5)
          obtain ⟨p5, c5, rfl, -, -⟩ := own_shape hown5
          have HO5 := Lib.hid hown5
          have HA5 : Hid ((Value.slice p5 (es.length + 1) c5).ownBlock = (Value.slice p es.length c).ownBlock ∨ ∀ k, (Value.slice p5 (es.length + 1) c5).ownBlock = some k → w3.heap.size ≤ k) := Lib.hid (hat5.imp id (fun h k hk => Nat.le_trans HSL.out (h k hk)))
          have HF5 := Lib.hid (show Fr (fun x => (Value.slice p es.length c).ownBlock = some x) w3 w5 from (Fr.alloc (Fr.refl _ w3) (.cells #[.int .i64 task, .int .i64 0, .string ⟨#[]⟩, .string ⟨#[]⟩, .string ⟨#[]⟩, .int .i64 0, .slice none 0 0, .int .i64 0, .int .i64 0, .int .i64 0, .slice none 0 0, .slice none 0 0, .int .i64 i, .int .i64 (-1), .int .i64 (-1)] 41)).gb (w2 := w5) ⟨hg5.os, hg5.tape, hg5.output, hg5.size, hg5.block⟩ (fun c hc => .inl hc))
          have HT5 := Lib.hid (HT3.out.fr HF5.out (fun hx => HGT.out t hx rfl))
          have k5 := HT5.out.got 1 _ rfl
          have f5 := HT5.out.free 1
          clear hown5 hb5 hat5 hg5
          refine hK.out _ _ (trivial) (fun hHeld => ?_)
          clear hK K
          try simp only [Act.put, List.setIfInBounds_toArray, List.set_cons_zero, List.set_cons_succ]
          refine wpAnyH_take (i := 8) (oi := ⟨some 64, _, _, _, _, _⟩) (v := ?_) rfl (by kernel_rfl) (by kernel_rfl) (by kernel_rfl) (fun _ _ _ h => h) (Or.inl ⟨by rfl, ?_⟩) hHeld ?_
          rotate_left
          · (intro w hSw; go_simp; try with_reducible rfl)
          try simp only [Act.put, List.setIfInBounds_toArray, List.set_cons_zero, List.set_cons_succ]
          refine wpAnyH_take (i := 9) (oi := ⟨some 65, _, _, _, _, _⟩) (v := ?_) rfl (by kernel_rfl) (by kernel_rfl) (by kernel_rfl) (fun _ _ _ h => h) (Or.inl ⟨by rfl, ?_⟩) hHeld ?_
          rotate_left
          · (intro w hSw; go_simp; try with_reducible rfl)
          try simp only [Act.put, List.setIfInBounds_toArray, List.set_cons_zero, List.set_cons_succ]
          refine wpAnyH_ready (rs := [10]) (by kernel_rfl) (by simp) ?_
          refine (AllReadyH.cons (o := ⟨none, _, _, _, _, _⟩) rfl (fun K hK => ?_) AllReadyH.nil)
          go_simp
          refine hK.out _ _ (trivial) (fun hHeld => ?_)
          clear hK K
          try simp only [Act.put, List.setIfInBounds_toArray, List.set_cons_zero, List.set_cons_succ]
          refine wpAnyH_done (by kernel_rfl) ?_ _
          refine NoPanic.normal ?_
          clear hHeld
          go_wp2_with fail
          go_ret
          as_aux_lemma =>
            have hF := HTz.out.add (a := wz.heap.size) (task := task) (s := ⟨true, es.length, false⟩) (e := ⟨task, i, -1, -1, 0, ⟨#[]⟩, ⟨#[]⟩, ⟨#[]⟩, 0, none, 0, 0, 0, 0, 0, none, 0, 0, none, 0, 0⟩) rfl (Fr.alloc (Fr.refl (fun _ => False) wz) (.cells #[.bool true, .int .i64 es.length, .bool false] 78)) (Blk.new wz 78 [.bool true, .int .i64 es.length, .bool false]) rfl HM3.out HF3.out HF5.out HO5.out HA5.out HEV.out
            refine ⟨by rw [HR.out]; rfl, HBB.out.trans hF.2.1, (K51.of HBz.out).trans hF.2.2, fun S' hS' => ?_⟩
            rw [HR.out] at hS'
            injection hS' with hS'
            have e1 : padd i ⟨task, 7, mk, pc, pa⟩ S true = ⟨upd S.T task ⟨true, es.length, false⟩, S.es ++ [pnew i ⟨task, 7, mk, pc, pa⟩ true]⟩ := by rw [HTz.out.len]; rfl
            rw [← hS', e1]
            exact ⟨p5, c5, _, _, hF.1⟩
    · have h7' : (step == 7) = false := by simpa using h7
      have HR : Hid (pbegin i ⟨task, step, mk, pc, pa⟩ S = some (padd i ⟨task, step, mk, pc, pa⟩ S false)) := Lib.hid (by simp [pbegin, hS, pfit, h7])
      clear hA hS h7
      go_quiet (fail)
      have HT2 := Lib.hid (HT1.out.kept (below_drewN (Below.refl _ _) nq))
      have HBX2 := Lib.hid (HBX.out.kept (below_drewN (Below.refl _ _) nq))
      have HB2 := Lib.hid (below_drewN HB1.out nq)
      generalize w1.drewN nq = w2 at *
      clear hlk hN c0 b0 b1
      have b0 := HBX2.out.got 0 _ rfl
      have b1 := HBX2.out.got 1 _ rfl
      have b7 := HBX2.out.got 7 _ rfl
      have b8 := HBX2.out.got 8 _ rfl
      have b9 := HBX2.out.got 9 _ rfl
      have b10 := HBX2.out.got 10 _ rfl
      have b11 := HBX2.out.got 11 _ rfl
      have b12 := HBX2.out.got 12 _ rfl
      go_upto_region 7 with fail
      have HBa := Lib.hid (below_al (Below.refl w2.heap.size w2) (.cells #[.int .i64 task, .int .i64 0, .string ⟨#[]⟩, .string ⟨#[]⟩, .string ⟨#[]⟩, .int .i64 0, .slice none 0 0, .int .i64 0, .int .i64 0, .int .i64 0, .slice none 0 0, .slice none 0 0, .int .i64 i, .int .i64 (-1), .int .i64 (-1)] 41))
      have HBXa := Lib.hid (HBX2.out.alloc (.cells #[.int .i64 task, .int .i64 0, .string ⟨#[]⟩, .string ⟨#[]⟩, .string ⟨#[]⟩, .int .i64 0, .slice none 0 0, .int .i64 0, .int .i64 0, .int .i64 0, .slice none 0 0, .slice none 0 0, .int .i64 i, .int .i64 (-1), .int .i64 (-1)] 41))
      have HEa := Lib.hid (Blk.new w2 41 [.int .i64 task, .int .i64 0, .string ⟨#[]⟩, .string ⟨#[]⟩, .string ⟨#[]⟩, .int .i64 0, .slice none 0 0, .int .i64 0, .int .i64 0, .int .i64 0, .slice none 0 0, .slice none 0 0, .int .i64 i, .int .i64 (-1), .int .i64 (-1)])
      generalize w2.alloc (.cells #[.int .i64 task, .int .i64 0, .string ⟨#[]⟩, .string ⟨#[]⟩, .string ⟨#[]⟩, .int .i64 0, .slice none 0 0, .int .i64 0, .int .i64 0, .int .i64 0, .slice none 0 0, .slice none 0 0, .int .i64 i, .int .i64 (-1), .int .i64 (-1)] 41) = wa at *
      have HE9 := Lib.hid (Nat.le_refl w2.heap.size)
      obtain ⟨e9, he9⟩ : ∃ e9, w2.heap.size = e9 := ⟨_, rfl⟩
      rw [he9] at HEa ⊢
      replace HE9 := Lib.hid (show w2.heap.size ≤ e9 by omega)
      clear he9 b7 b8 b9 b10 b11 b12
      have b7 := HBXa.out.got 7 _ rfl
      have b8 := HBXa.out.got 8 _ rfl
      have b9 := HBXa.out.got 9 _ rfl
      have b10 := HBXa.out.got 10 _ rfl
      have b11 := HBXa.out.got 11 _ rfl
      have b12 := HBXa.out.got 12 _ rfl
      go_wp2_with fail
      refine (HCG.out _ (HB2.out.trans (HBa.out.mono HB2.out.size))).mono ?_
      rintro e w3 ⟨dq', dc', rfl, hcr, hb3⟩
      have HCR := Lib.hid hcr
      have HB3 := Lib.hid hb3
      have HE3 := Lib.hid (HEa.out.kept hb3)
      have HBX3 := Lib.hid (HBXa.out.kept hb3)
      clear hcr hb3 b7 b8 b9 b10 b11 b12
      have e1 := HE3.out.got 1 _ rfl
      have e2 := HE3.out.got 2 _ rfl
      have e3 := HE3.out.got 3 _ rfl
      have e4 := HE3.out.got 4 _ rfl
      have e5 := HE3.out.got 5 _ rfl
      have e6 := HE3.out.got 6 _ rfl
      have f1 := HE3.out.free 1
      have f2 := HE3.out.free 2
      have f3 := HE3.out.free 3
      have f4 := HE3.out.free 4
      have f5 := HE3.out.free 5
      have f6 := HE3.out.free 6
      go_upto_region 8 with fail
      have HFe := Lib.hid (show Fr (fun x => x = e9) w3 ((((((w3.setCell ⟨e9, 1, none⟩ (.int .i64 op)).setCell ⟨e9, 2, none⟩ (.string key)).setCell ⟨e9, 3, none⟩ (.string oth)).setCell ⟨e9, 4, none⟩ (.string item)).setCell ⟨e9, 5, none⟩ (.int .i64 qty)).setCell ⟨e9, 6, none⟩ (.slice dq' dn dc')) from (((((((Fr.refl (fun x => x = e9) w3).set ⟨e9, 1, none⟩ (.int .i64 op) (.inl rfl)).set ⟨e9, 2, none⟩ (.string key) (.inl rfl)).set ⟨e9, 3, none⟩ (.string oth) (.inl rfl)).set ⟨e9, 4, none⟩ (.string item) (.inl rfl)).set ⟨e9, 5, none⟩ (.int .i64 qty) (.inl rfl)).set ⟨e9, 6, none⟩ (.slice dq' dn dc') (.inl rfl)))
      have HEz := Lib.hid (show Blk ((((((w3.setCell ⟨e9, 1, none⟩ (.int .i64 op)).setCell ⟨e9, 2, none⟩ (.string key)).setCell ⟨e9, 3, none⟩ (.string oth)).setCell ⟨e9, 4, none⟩ (.string item)).setCell ⟨e9, 5, none⟩ (.int .i64 qty)).setCell ⟨e9, 6, none⟩ (.slice dq' dn dc')) e9 41 [.int .i64 task, .int .i64 op, .string key, .string oth, .string item, .int .i64 qty, .slice dq' dn dc', .int .i64 0, .int .i64 0, .int .i64 0, .slice none 0 0, .slice none 0 0, .int .i64 i, .int .i64 (-1), .int .i64 (-1)] from ((((((HE3.out.set_ 1 (.int .i64 op)).set_ 2 (.string key)).set_ 3 (.string oth)).set_ 4 (.string item)).set_ 5 (.int .i64 qty)).set_ 6 (.slice dq' dn dc')))
      generalize ((((((w3.setCell ⟨e9, 1, none⟩ (.int .i64 op)).setCell ⟨e9, 2, none⟩ (.string key)).setCell ⟨e9, 3, none⟩ (.string oth)).setCell ⟨e9, 4, none⟩ (.string item)).setCell ⟨e9, 5, none⟩ (.int .i64 qty)).setCell ⟨e9, 6, none⟩ (.slice dq' dn dc')) = wz at *
      have HBy := Lib.hid (Fr.below (HBa.out.trans (HB3.out.mono HBa.out.size)) HFe.out (fun x hx => by have := HE9.out; have hx : x = e9 := hx; omega))
      have HTz := Lib.hid (HT2.out.kept HBy.out)
      have HBXz := Lib.hid (HBX2.out.kept HBy.out)
      have HBz := Lib.hid (HB2.out.trans (HBy.out.mono HB2.out.size))
      have HEV := Lib.hid (show EvR (RdD wz B) ⟨task, i, -1, -1, op, key, oth, item, qty, dq', dn, dc', 0, 0, 0, none, 0, 0, none, 0, 0⟩ (pnew i ⟨task, step, mk, pc, pa⟩ false) from ⟨rfl, rfl, rfl, rfl, HCR.out.imp (fun p xs h => (h.low HWB.out).fr HE3.out (by decide) HFe.out), AR.zero _ (fun _ => .inl rfl)⟩)
      clear e1 f1 e2 f2 e3 f3 e4 f4 e5 f5 e6 f6
      have HBB : Hid (Below B w wz) := Lib.hid (HBz.out.mono HBw.out)
      obtain ⟨N, hN⟩ := HTz.out.mp
      have HMP := Lib.hid (show Mp (wz.alloc (.cells #[.bool false, .int .i64 es.length, .bool false] 78)) mb N (ptrs A) from hN.kept (below_al (Below.refl _ _) _))
      have HTM := Lib.hid HTz.out.dist.1
      have HGM := Lib.hid (fun g hg => (HTz.out.dist.2 g hg).2)
      have HGT := Lib.hid (fun g hg => (HTz.out.dist.2 g hg).1)
      have HZM : Hid (z ≠ mb) := Lib.hid (fun e => hN.noblk (e ▸ HBXz.out))
      have HEM : Hid (e9 ≠ mb) := Lib.hid (fun e => hN.noblk (e ▸ HEz.out))
      have hesl : es.length ≤ 4096 := HL.out
      clear hN
      refine wp_region_noPanic ?_
      refine wp_region_held_drew (S := fun w' => w'.cell? ⟨t, 0, none⟩ = some (.map (some mb)) ∧ w'.cell? ⟨t, 1, none⟩ = some (.slice p es.length c) ∧ w'.cell? ⟨z, 0, none⟩ = some (.int .i64 task)) (by kernel_rfl) (⟨HTz.out.blk.got 0 _ rfl, HTz.out.blk.got 1 _ rfl, HBXz.out.got 0 _ rfl⟩) (fun hHeld => ?_)
      refine wpAnyH_take (i := 0) (oi := ⟨some 42, _, _, _, _, _⟩) (v := ?_) rfl (by kernel_rfl) (by kernel_rfl) (by kernel_rfl) (fun _ _ _ h => h) (Or.inl ⟨by rfl, ?_⟩) hHeld ?_
      rotate_left
      · (intro w hSw; obtain ⟨hq1, hq2, hq3⟩ := hSw; go_simp; try with_reducible rfl)
      try simp only [Act.put, List.setIfInBounds_toArray, List.set_cons_zero, List.set_cons_succ]
      refine wpAnyH_take (i := 1) (oi := ⟨some 43, _, _, _, _, _⟩) (v := ?_) rfl (by kernel_rfl) (by kernel_rfl) (by kernel_rfl) (fun _ _ _ h => h) (Or.inl ⟨by rfl, ?_⟩) hHeld ?_
      rotate_left
      · (intro w hSw; obtain ⟨hq1, hq2, hq3⟩ := hSw; go_simp; try with_reducible rfl)
      try simp only [Act.put, List.setIfInBounds_toArray, List.set_cons_zero, List.set_cons_succ]
      refine wpAnyH_take (i := 2) (oi := ⟨some 44, _, _, _, _, _⟩) (v := ?_) rfl (by kernel_rfl) (by kernel_rfl) (by kernel_rfl) (fun _ _ _ h => h) (Or.inl ⟨by rfl, ?_⟩) hHeld ?_
      rotate_left
      · (intro w hSw; obtain ⟨hq1, hq2, hq3⟩ := hSw; go_simp; try with_reducible rfl)
      try simp only [Act.put, List.setIfInBounds_toArray, List.set_cons_zero, List.set_cons_succ]
      refine wpAnyH_take (i := 3) (oi := ⟨some 45, _, _, _, _, _⟩) (v := ?_) rfl (by kernel_rfl) (by kernel_rfl) (by kernel_rfl) (fun _ _ _ h => h) (Or.inl ⟨by rfl, ?_⟩) hHeld ?_
      rotate_left
      · (intro w hSw; obtain ⟨hq1, hq2, hq3⟩ := hSw; go_simp; try with_reducible rfl)
      try simp only [Act.put, List.setIfInBounds_toArray, List.set_cons_zero, List.set_cons_succ]
      refine wpAnyH_take (i := 4) (oi := ⟨some 46, _, _, _, _, _⟩) (v := ?_) rfl (by kernel_rfl) (by kernel_rfl) (by kernel_rfl) (fun _ _ _ h => h) (Or.inl ⟨by rfl, ?_⟩) hHeld ?_
      rotate_left
      · (intro w hSw; obtain ⟨hq1, hq2, hq3⟩ := hSw; go_simp; try with_reducible rfl)
      try simp only [Act.put, List.setIfInBounds_toArray, List.set_cons_zero, List.set_cons_succ]
      refine wpAnyH_take (i := 5) (oi := ⟨some 47, _, _, _, _, _⟩) (v := ?_) rfl (by kernel_rfl) (by kernel_rfl) (by kernel_rfl) (fun _ _ _ h => h) (Or.inl ⟨by rfl, ?_⟩) hHeld ?_
      rotate_left
      · (intro w hSw; obtain ⟨hq1, hq2, hq3⟩ := hSw; go_simp; try with_reducible rfl)
      try simp only [Act.put, List.setIfInBounds_toArray, List.set_cons_zero, List.set_cons_succ]
      refine wpAnyH_take (i := 6) (oi := ⟨some 48, _, _, _, _, _⟩) (v := ?_) rfl (by kernel_rfl) (by kernel_rfl) (by kernel_rfl) (fun _ _ _ h => h) (Or.inl ⟨by rfl, ?_⟩) hHeld ?_
      rotate_left
      · (intro w hSw; obtain ⟨hq1, hq2, hq3⟩ := hSw; go_simp; try with_reducible rfl)
      try simp only [Act.put, List.setIfInBounds_toArray, List.set_cons_zero, List.set_cons_succ]
      refine wpAnyH_take (i := 7) (oi := ⟨some 49, _, _, _, _, _⟩) (v := ?_) rfl (by kernel_rfl) (by kernel_rfl) (by kernel_rfl) (fun _ _ _ h => h) (Or.inl ⟨by rfl, ?_⟩) hHeld ?_
      rotate_left
      · (intro w hSw; obtain ⟨hq1, hq2, hq3⟩ := hSw; go_simp; try with_reducible rfl)
      try simp only [Act.put, List.setIfInBounds_toArray, List.set_cons_zero, List.set_cons_succ]
      refine wpAnyH_take (i := 8) (oi := ⟨some 50, _, _, _, _, _⟩) (v := ?_) rfl (by kernel_rfl) (by kernel_rfl) (by kernel_rfl) (fun _ _ _ h => h) (Or.inl ⟨by rfl, ?_⟩) hHeld ?_
      rotate_left
      · (intro w hSw; obtain ⟨hq1, hq2, hq3⟩ := hSw; go_simp; try with_reducible rfl)
      try simp only [Act.put, List.setIfInBounds_toArray, List.set_cons_zero, List.set_cons_succ]
      refine wpAnyH_take (i := 9) (oi := ⟨some 51, _, _, _, _, _⟩) (v := ?_) rfl (by kernel_rfl) (by kernel_rfl) (by kernel_rfl) (fun _ _ _ h => h) (Or.inl ⟨by rfl, ?_⟩) hHeld ?_
      rotate_left
      · (intro w hSw; obtain ⟨hq1, hq2, hq3⟩ := hSw; go_simp; try with_reducible rfl)
      try simp only [Act.put, List.setIfInBounds_toArray, List.set_cons_zero, List.set_cons_succ]
      refine wpAnyH_take (i := 10) (oi := ⟨some 52, _, _, _, _, _⟩) (v := ?_) rfl (by kernel_rfl) (by kernel_rfl) (by kernel_rfl) (fun _ _ _ h => h) (Or.inl ⟨by rfl, ?_⟩) hHeld ?_
      rotate_left
      · (intro w hSw; obtain ⟨hq1, hq2, hq3⟩ := hSw; go_simp; try with_reducible rfl)
      try simp only [Act.put, List.setIfInBounds_toArray, List.set_cons_zero, List.set_cons_succ]
      refine wpAnyH_take (i := 11) (oi := ⟨some 53, _, _, _, _, _⟩) (v := ?_) rfl (by kernel_rfl) (by kernel_rfl) (by kernel_rfl) (fun _ _ _ h => h) (Or.inl ⟨by rfl, ?_⟩) hHeld ?_
      rotate_left
      · (intro w hSw; obtain ⟨hq1, hq2, hq3⟩ := hSw; go_simp; try with_reducible rfl)
      try simp only [Act.put, List.setIfInBounds_toArray, List.set_cons_zero, List.set_cons_succ]
      refine wpAnyH_take (i := 12) (oi := ⟨some 54, _, _, _, _, _⟩) (v := ?_) rfl (by kernel_rfl) (by kernel_rfl) (by kernel_rfl) (fun _ _ _ h => h) (Or.inl ⟨by rfl, ?_⟩) hHeld ?_
      rotate_left
      · (intro w hSw; obtain ⟨hq1, hq2, hq3⟩ := hSw; go_simp; try with_reducible rfl)
      try simp only [Act.put, List.setIfInBounds_toArray, List.set_cons_zero, List.set_cons_succ]
      refine wpAnyH_ready (rs := [13]) (by kernel_rfl) (by simp) ?_
      refine (AllReadyH.cons (o := ⟨some 55, _, _, _, _, _⟩) rfl (fun K hK => ?_) AllReadyH.nil)
      go_simp
      refine hK.out _ _ (⟨(HTz.out.blk.alloc _).got 0 _ rfl, (HTz.out.blk.alloc _).got 1 _ rfl, (HBXz.out.alloc _).got 0 _ rfl⟩) (fun hHeld => ?_)
      clear hK K
      try simp only [Act.put, List.setIfInBounds_toArray, List.set_cons_zero, List.set_cons_succ]
      refine wpAnyH_ready (rs := [14]) (by kernel_rfl) (by simp) ?_
      refine (AllReadyH.cons (o := ⟨none, _, _, _, _, _⟩) rfl (fun K hK => ?_) AllReadyH.nil)
      (refine step_mput (by rfl) (.tmp 45) (.tmp 47) (.tmp 55) (by rfl) (by rfl) task (by rfl) (.pointer (some ⟨wz.heap.size, 0, none⟩)) (by rfl) (n := N) (f := ptrs A) (by exact HMP.out) under3 under60 (wf_of (by omega) (by omega)) ?_; intro w3 hm3 hf3)
      have HM3 := Lib.hid hm3
      have HF3 := Lib.hid (show Fr (fun x => x = mb) (wz.alloc (.cells #[.bool false, .int .i64 es.length, .bool false] 78)) w3 from ⟨hf3.os, hf3.tape, hf3.output, hf3.size, hf3.block⟩)
      have HT3 := Lib.hid ((HTz.out.blk.alloc _).fr HF3.out HTM.out)
      have HBX3 := Lib.hid ((HBXz.out.alloc _).fr HF3.out HZM.out)
      clear hm3 hf3
      refine hK.out _ _ (⟨HT3.out.got 0 _ rfl, HT3.out.got 1 _ rfl, HBX3.out.got 0 _ rfl⟩) (fun hHeld => ?_)
      clear hK K
      try simp only [Act.put]
      refine wpAnyH_done (by kernel_rfl) ?_ _
      refine NoPanic.normal ?_
      clear hHeld
      have HE3 := Lib.hid ((HEz.out.alloc _).fr HF3.out HEM.out)
      have HO3 := Lib.hid (own_fr (own_fr HTz.out.own (Fr.alloc (Fr.refl (fun _ => False) wz) (.cells #[.bool false, .int .i64 es.length, .bool false] 78)) (fun _ _ h => h)) HF3.out (fun g hg => HGM.out g hg))
      have HO4 := Lib.hid (own_fr HO3.out (Fr.alloc (Fr.refl (fun _ => False) w3) (.cells #[.int .i64 task, .int .i64 op, .string key, .string oth, .string item, .int .i64 qty, .slice dq' dn dc', .int .i64 0, .int .i64 0, .int .i64 0, .slice none 0 0, .slice none 0 0, .int .i64 i, .int .i64 (-1), .int .i64 (-1)] 41)) (fun _ _ h => h))
      have HSL := Lib.hid (show w3.heap.size ≤ (w3.alloc (.cells #[.int .i64 task, .int .i64 op, .string key, .string oth, .string item, .int .i64 qty, .slice dq' dn dc', .int .i64 0, .int .i64 0, .int .i64 0, .slice none 0 0, .slice none 0 0, .int .i64 i, .int .i64 (-1), .int .i64 (-1)] 41)).heap.size by simp)
      have HBL : Hid (B ≤ (w3.alloc (.cells #[.int .i64 task, .int .i64 op, .string key, .string oth, .string item, .int .i64 qty, .slice dq' dn dc', .int .i64 0, .int .i64 0, .int .i64 0, .slice none 0 0, .slice none 0 0, .int .i64 i, .int .i64 (-1), .int .i64 (-1)] 41)).heap.size) := Lib.hid (by have h1 := HTz.out.bt; have h2 := HTz.out.blk.lt; have h3 := HF3.out.size; simp at h3 ⊢; omega)
      have t1 := HT3.out.got 1 _ rfl
      have e0 := HE3.out.got 0 _ rfl
      have e1 := HE3.out.got 1 _ rfl
      have e2 := HE3.out.got 2 _ rfl
      have e3 := HE3.out.got 3 _ rfl
      have e4 := HE3.out.got 4 _ rfl
      have e5 := HE3.out.got 5 _ rfl
      have e6 := HE3.out.got 6 _ rfl
      have e7 := HE3.out.got 7 _ rfl
      have e8 := HE3.out.got 8 _ rfl
      have e9 := HE3.out.got 9 _ rfl
      have e10 := HE3.out.got 10 _ rfl
      have e11 := HE3.out.got 11 _ rfl
      have e12 := HE3.out.got 12 _ rfl
      have e13 := HE3.out.got 13 _ rfl
      have e14 := HE3.out.got 14 _ rfl
      go_upto_region 9 with fail
      refine wp_region_noPanic ?_
      refine wp_region_held_drew (S := fun _ => True) (by kernel_rfl) (trivial) (fun hHeld => ?_)
      refine wpAnyH_take (i := 0) (oi := ⟨some 56, _, _, _, _, _⟩) (v := ?_) rfl (by kernel_rfl) (by kernel_rfl) (by kernel_rfl) (fun _ _ _ h => h) (Or.inl ⟨by rfl, ?_⟩) hHeld ?_
      rotate_left
      · (intro w hSw; go_simp; try with_reducible rfl)
      try simp only [Act.put, List.setIfInBounds_toArray, List.set_cons_zero, List.set_cons_succ]
      refine wpAnyH_take (i := 1) (oi := ⟨some 57, _, _, _, _, _⟩) (v := ?_) rfl (by kernel_rfl) (by kernel_rfl) (by kernel_rfl) (fun _ _ _ h => h) (Or.inl ⟨by rfl, ?_⟩) hHeld ?_
      rotate_left
      · (intro w hSw; go_simp; try with_reducible rfl)
      try simp only [Act.put, List.setIfInBounds_toArray, List.set_cons_zero, List.set_cons_succ]
      refine wpAnyH_take (i := 2) (oi := ⟨some 58, _, _, _, _, _⟩) (v := ?_) rfl (by kernel_rfl) (by kernel_rfl) (by kernel_rfl) (fun _ _ _ h => h) (Or.inl ⟨by rfl, ?_⟩) hHeld ?_
      rotate_left
      · (intro w hSw; go_simp; try with_reducible rfl)
      try simp only [Act.put, List.setIfInBounds_toArray, List.set_cons_zero, List.set_cons_succ]
      refine wpAnyH_take (i := 3) (oi := ⟨some 59, _, _, _, _, _⟩) (v := ?_) rfl (by kernel_rfl) (by kernel_rfl) (by kernel_rfl) (fun _ _ _ h => h) (Or.inl ⟨by rfl, ?_⟩) hHeld ?_
      rotate_left
      · (intro w hSw; go_simp; try with_reducible rfl)
      try simp only [Act.put, List.setIfInBounds_toArray, List.set_cons_zero, List.set_cons_succ]
      refine wpAnyH_ready (rs := [4, 5]) (by kernel_rfl) (by simp) ?_
      refine (AllReadyH.cons (o := ⟨some 60, _, _, _, _, _⟩) rfl (fun K hK => ?_) (AllReadyH.cons (o := ⟨some 61, _, _, _, _, _⟩) rfl (fun K hK => ?_) AllReadyH.nil))
      · go_simp
        refine hK.out _ _ (trivial) (fun hHeld => ?_)
        clear hK K
        try simp only [Act.put, List.setIfInBounds_toArray, List.set_cons_zero, List.set_cons_succ]
        refine wpAnyH_ready (rs := [5]) (by kernel_rfl) (by simp) ?_
        refine (AllReadyH.cons (o := ⟨some 61, _, _, _, _, _⟩) rfl (fun K hK => ?_) AllReadyH.nil)
        go_simp
        refine hK.out _ _ (trivial) (fun hHeld => ?_)
        clear hK K
        try simp only [Act.put, List.setIfInBounds_toArray, List.set_cons_zero, List.set_cons_succ]
        refine wpAnyH_ready (rs := [6]) (by kernel_rfl) (by simp) ?_
        refine (AllReadyH.cons (o := ⟨some 62, _, _, _, _, _⟩) rfl (fun K hK => ?_) AllReadyH.nil)
        go_simp
        have t2 := (HT3.out.alloc (.cells #[.int .i64 task, .int .i64 op, .string key, .string oth, .string item, .int .i64 qty, .slice dq' dn dc', .int .i64 0, .int .i64 0, .int .i64 0, .slice none 0 0, .slice none 0 0, .int .i64 i, .int .i64 (-1), .int .i64 (-1)] 41)).got 1 _ rfl
        refine hK.out _ _ (trivial) (fun hHeld => ?_)
        clear hK K
        try simp only [Act.put, List.setIfInBounds_toArray, List.set_cons_zero, List.set_cons_succ]
        refine wpAnyH_ready (rs := [7]) (by kernel_rfl) (by simp) ?_
        refine (AllReadyH.cons (o := ⟨some 63, _, _, _, _, _⟩) rfl (fun K hK => ?_) AllReadyH.nil)
        (refine step_appS (by rfl) (.tmp 60) (.tmp 62) 25 (by rfl) B 41 _ 15 192 Try.underlying25 evt_info (by rfl) (by omega) (.slice p es.length c) es.length (evs es) (by rfl) (by exact HO4.out) w3.heap.size [.int .i64 task, .int .i64 op, .string key, .string oth, .string item, .int .i64 qty, .slice dq' dn dc', .int .i64 0, .int .i64 0, .int .i64 0, .slice none 0 0, .slice none 0 0, .int .i64 i, .int .i64 (-1), .int .i64 (-1)] rfl (by exact Blk.new w3 41 [.int .i64 task, .int .i64 op, .string key, .string oth, .string item, .int .i64 qty, .slice dq' dn dc', .int .i64 0, .int .i64 0, .int .i64 0, .slice none 0 0, .slice none 0 0, .int .i64 i, .int .i64 (-1), .int .i64 (-1)]) (by intro u hu; exact evs_one1 ⟨task, i, -1, -1, op, key, oth, item, qty, dq', dn, dc', 0, 0, 0, none, 0, 0, none, 0, 0⟩ u hu) (by rfl) (by omega) (by omega) (by exact HBL.out) ?_; intro v5 w5 hown5 hb5 hat5 hg5)
        obtain ⟨p5, c5, rfl, -, -⟩ := own_shape hown5
        have HO5 := Lib.hid hown5
        have HA5 : Hid ((Value.slice p5 (es.length + 1) c5).ownBlock = (Value.slice p es.length c).ownBlock ∨ ∀ k, (Value.slice p5 (es.length + 1) c5).ownBlock = some k → w3.heap.size ≤ k) := Lib.hid (hat5.imp id (fun h k hk => Nat.le_trans HSL.out (h k hk)))
        have HF5 := Lib.hid (show Fr (fun x => (Value.slice p es.length c).ownBlock = some x) w3 w5 from (Fr.alloc (Fr.refl _ w3) (.cells #[.int .i64 task, .int .i64 op, .string key, .string oth, .string item, .int .i64 qty, .slice dq' dn dc', .int .i64 0, .int .i64 0, .int .i64 0, .slice none 0 0, .slice none 0 0, .int .i64 i, .int .i64 (-1), .int .i64 (-1)] 41)).gb (w2 := w5) ⟨hg5.os, hg5.tape, hg5.output, hg5.size, hg5.block⟩ (fun c hc => .inl hc))
        have HT5 := Lib.hid (HT3.out.fr HF5.out (fun hx => HGT.out t hx rfl))
        have k5 := HT5.out.got 1 _ rfl
        have f5 := HT5.out.free 1
        clear hown5 hb5 hat5 hg5
        refine hK.out _ _ (trivial) (fun hHeld => ?_)
        clear hK K
        try simp only [Act.put, List.setIfInBounds_toArray, List.set_cons_zero, List.set_cons_succ]
        refine wpAnyH_take (i := 8) (oi := ⟨some 64, _, _, _, _, _⟩) (v := ?_) rfl (by kernel_rfl) (by kernel_rfl) (by kernel_rfl) (fun _ _ _ h => h) (Or.inl ⟨by rfl, ?_⟩) hHeld ?_
        rotate_left
        · (intro w hSw; go_simp; try with_reducible rfl)
        try simp only [Act.put, List.setIfInBounds_toArray, List.set_cons_zero, List.set_cons_succ]
        refine wpAnyH_take (i := 9) (oi := ⟨some 65, _, _, _, _, _⟩) (v := ?_) rfl (by kernel_rfl) (by kernel_rfl) (by kernel_rfl) (fun _ _ _ h => h) (Or.inl ⟨by rfl, ?_⟩) hHeld ?_
        rotate_left
        · (intro w hSw; go_simp; try with_reducible rfl)
        try simp only [Act.put, List.setIfInBounds_toArray, List.set_cons_zero, List.set_cons_succ]
        refine wpAnyH_ready (rs := [10]) (by kernel_rfl) (by simp) ?_
        refine (AllReadyH.cons (o := ⟨none, _, _, _, _, _⟩) rfl (fun K hK => ?_) AllReadyH.nil)
        go_simp
        refine hK.out _ _ (trivial) (fun hHeld => ?_)
        clear hK K
        try simp only [Act.put, List.setIfInBounds_toArray, List.set_cons_zero, List.set_cons_succ]
        refine wpAnyH_done (by kernel_rfl) ?_ _
        refine NoPanic.normal ?_
        clear hHeld
        go_wp2_with fail
        go_ret
        as_aux_lemma =>
          have hF := HTz.out.add (a := wz.heap.size) (task := task) (s := ⟨false, es.length, false⟩) (e := ⟨task, i, -1, -1, op, key, oth, item, qty, dq', dn, dc', 0, 0, 0, none, 0, 0, none, 0, 0⟩) rfl (Fr.alloc (Fr.refl (fun _ => False) wz) (.cells #[.bool false, .int .i64 es.length, .bool false] 78)) (Blk.new wz 78 [.bool false, .int .i64 es.length, .bool false]) rfl HM3.out HF3.out HF5.out HO5.out HA5.out HEV.out
          refine ⟨by rw [HR.out]; rfl, HBB.out.trans hF.2.1, (K51.of HBz.out).trans hF.2.2, fun S' hS' => ?_⟩
          rw [HR.out] at hS'
          injection hS' with hS'
          have e1 : padd i ⟨task, step, mk, pc, pa⟩ S false = ⟨upd S.T task ⟨false, es.length, false⟩, S.es ++ [pnew i ⟨task, step, mk, pc, pa⟩ false]⟩ := by rw [HTz.out.len]; rfl
          rw [← hS', e1]
          exact ⟨p5, c5, _, _, hF.1⟩
      · go_simp
        refine hK.out _ _ (trivial) (fun hHeld => ?_)
        clear hK K
        try simp only [Act.put, List.setIfInBounds_toArray, List.set_cons_zero, List.set_cons_succ]
        refine wpAnyH_ready (rs := [4, 6]) (by kernel_rfl) (by simp) ?_
        refine (AllReadyH.cons (o := ⟨some 60, _, _, _, _, _⟩) rfl (fun K hK => ?_) (AllReadyH.cons (o := ⟨some 62, _, _, _, _, _⟩) rfl (fun K hK => ?_) AllReadyH.nil))
        · go_simp
          refine hK.out _ _ (trivial) (fun hHeld => ?_)
          clear hK K
          try simp only [Act.put, List.setIfInBounds_toArray, List.set_cons_zero, List.set_cons_succ]
          refine wpAnyH_ready (rs := [6]) (by kernel_rfl) (by simp) ?_
          refine (AllReadyH.cons (o := ⟨some 62, _, _, _, _, _⟩) rfl (fun K hK => ?_) AllReadyH.nil)
          go_simp
          have t2 := (HT3.out.alloc (.cells #[.int .i64 task, .int .i64 op, .string key, .string oth, .string item, .int .i64 qty, .slice dq' dn dc', .int .i64 0, .int .i64 0, .int .i64 0, .slice none 0 0, .slice none 0 0, .int .i64 i, .int .i64 (-1), .int .i64 (-1)] 41)).got 1 _ rfl
          refine hK.out _ _ (trivial) (fun hHeld => ?_)
          clear hK K
          try simp only [Act.put, List.setIfInBounds_toArray, List.set_cons_zero, List.set_cons_succ]
          refine wpAnyH_ready (rs := [7]) (by kernel_rfl) (by simp) ?_
          refine (AllReadyH.cons (o := ⟨some 63, _, _, _, _, _⟩) rfl (fun K hK => ?_) AllReadyH.nil)
          (refine step_appS (by rfl) (.tmp 60) (.tmp 62) 25 (by rfl) B 41 _ 15 192 Try.underlying25 evt_info (by rfl) (by omega) (.slice p es.length c) es.length (evs es) (by rfl) (by exact HO4.out) w3.heap.size [.int .i64 task, .int .i64 op, .string key, .string oth, .string item, .int .i64 qty, .slice dq' dn dc', .int .i64 0, .int .i64 0, .int .i64 0, .slice none 0 0, .slice none 0 0, .int .i64 i, .int .i64 (-1), .int .i64 (-1)] rfl (by exact Blk.new w3 41 [.int .i64 task, .int .i64 op, .string key, .string oth, .string item, .int .i64 qty, .slice dq' dn dc', .int .i64 0, .int .i64 0, .int .i64 0, .slice none 0 0, .slice none 0 0, .int .i64 i, .int .i64 (-1), .int .i64 (-1)]) (by intro u hu; exact evs_one1 ⟨task, i, -1, -1, op, key, oth, item, qty, dq', dn, dc', 0, 0, 0, none, 0, 0, none, 0, 0⟩ u hu) (by rfl) (by omega) (by omega) (by exact HBL.out) ?_; intro v5 w5 hown5 hb5 hat5 hg5)
          obtain ⟨p5, c5, rfl, -, -⟩ := own_shape hown5
          have HO5 := Lib.hid hown5
          have HA5 : Hid ((Value.slice p5 (es.length + 1) c5).ownBlock = (Value.slice p es.length c).ownBlock ∨ ∀ k, (Value.slice p5 (es.length + 1) c5).ownBlock = some k → w3.heap.size ≤ k) := Lib.hid (hat5.imp id (fun h k hk => Nat.le_trans HSL.out (h k hk)))
          have HF5 := Lib.hid (show Fr (fun x => (Value.slice p es.length c).ownBlock = some x) w3 w5 from (Fr.alloc (Fr.refl _ w3) (.cells #[.int .i64 task, .int .i64 op, .string key, .string oth, .string item, .int .i64 qty, .slice dq' dn dc', .int .i64 0, .int .i64 0, .int .i64 0, .slice none 0 0, .slice none 0 0, .int .i64 i, .int .i64 (-1), .int .i64 (-1)] 41)).gb (w2 := w5) ⟨hg5.os, hg5.tape, hg5.output, hg5.size, hg5.block⟩ (fun c hc => .inl hc))
          have HT5 := Lib.hid (HT3.out.fr HF5.out (fun hx => HGT.out t hx rfl))
          have k5 := HT5.out.got 1 _ rfl
          have f5 := HT5.out.free 1
          clear hown5 hb5 hat5 hg5
          refine hK.out _ _ (trivial) (fun hHeld => ?_)
          clear hK K
          try simp only [Act.put, List.setIfInBounds_toArray, List.set_cons_zero, List.set_cons_succ]
          refine wpAnyH_take (i := 8) (oi := ⟨some 64, _, _, _, _, _⟩) (v := ?_) rfl (by kernel_rfl) (by kernel_rfl) (by kernel_rfl) (fun _ _ _ h => h) (Or.inl ⟨by rfl, ?_⟩) hHeld ?_
          rotate_left
          · (intro w hSw; go_simp; try with_reducible rfl)
          try simp only [Act.put, List.setIfInBounds_toArray, List.set_cons_zero, List.set_cons_succ]
          refine wpAnyH_take (i := 9) (oi := ⟨some 65, _, _, _, _, _⟩) (v := ?_) rfl (by kernel_rfl) (by kernel_rfl) (by kernel_rfl) (fun _ _ _ h => h) (Or.inl ⟨by rfl, ?_⟩) hHeld ?_
          rotate_left
          · (intro w hSw; go_simp; try with_reducible rfl)
          try simp only [Act.put, List.setIfInBounds_toArray, List.set_cons_zero, List.set_cons_succ]
          refine wpAnyH_ready (rs := [10]) (by kernel_rfl) (by simp) ?_
          refine (AllReadyH.cons (o := ⟨none, _, _, _, _, _⟩) rfl (fun K hK => ?_) AllReadyH.nil)
          go_simp
          refine hK.out _ _ (trivial) (fun hHeld => ?_)
          clear hK K
          try simp only [Act.put, List.setIfInBounds_toArray, List.set_cons_zero, List.set_cons_succ]
          refine wpAnyH_done (by kernel_rfl) ?_ _
          refine NoPanic.normal ?_
          clear hHeld
          go_wp2_with fail
          go_ret
          as_aux_lemma =>
            have hF := HTz.out.add (a := wz.heap.size) (task := task) (s := ⟨false, es.length, false⟩) (e := ⟨task, i, -1, -1, op, key, oth, item, qty, dq', dn, dc', 0, 0, 0, none, 0, 0, none, 0, 0⟩) rfl (Fr.alloc (Fr.refl (fun _ => False) wz) (.cells #[.bool false, .int .i64 es.length, .bool false] 78)) (Blk.new wz 78 [.bool false, .int .i64 es.length, .bool false]) rfl HM3.out HF3.out HF5.out HO5.out HA5.out HEV.out
            refine ⟨by rw [HR.out]; rfl, HBB.out.trans hF.2.1, (K51.of HBz.out).trans hF.2.2, fun S' hS' => ?_⟩
            rw [HR.out] at hS'
            injection hS' with hS'
            have e1 : padd i ⟨task, step, mk, pc, pa⟩ S false = ⟨upd S.T task ⟨false, es.length, false⟩, S.es ++ [pnew i ⟨task, step, mk, pc, pa⟩ false]⟩ := by rw [HTz.out.len]; rfl
            rw [← hS', e1]
            exact ⟨p5, c5, _, _, hF.1⟩
        · go_simp
          have t2 := (HT3.out.alloc (.cells #[.int .i64 task, .int .i64 op, .string key, .string oth, .string item, .int .i64 qty, .slice dq' dn dc', .int .i64 0, .int .i64 0, .int .i64 0, .slice none 0 0, .slice none 0 0, .int .i64 i, .int .i64 (-1), .int .i64 (-1)] 41)).got 1 _ rfl
          refine hK.out _ _ (trivial) (fun hHeld => ?_)
          clear hK K
          try simp only [Act.put, List.setIfInBounds_toArray, List.set_cons_zero, List.set_cons_succ]
          refine wpAnyH_ready (rs := [4]) (by kernel_rfl) (by simp) ?_
          refine (AllReadyH.cons (o := ⟨some 60, _, _, _, _, _⟩) rfl (fun K hK => ?_) AllReadyH.nil)
          go_simp
          refine hK.out _ _ (trivial) (fun hHeld => ?_)
          clear hK K
          try simp only [Act.put, List.setIfInBounds_toArray, List.set_cons_zero, List.set_cons_succ]
          refine wpAnyH_ready (rs := [7]) (by kernel_rfl) (by simp) ?_
          refine (AllReadyH.cons (o := ⟨some 63, _, _, _, _, _⟩) rfl (fun K hK => ?_) AllReadyH.nil)
          (refine step_appS (by rfl) (.tmp 60) (.tmp 62) 25 (by rfl) B 41 _ 15 192 Try.underlying25 evt_info (by rfl) (by omega) (.slice p es.length c) es.length (evs es) (by rfl) (by exact HO4.out) w3.heap.size [.int .i64 task, .int .i64 op, .string key, .string oth, .string item, .int .i64 qty, .slice dq' dn dc', .int .i64 0, .int .i64 0, .int .i64 0, .slice none 0 0, .slice none 0 0, .int .i64 i, .int .i64 (-1), .int .i64 (-1)] rfl (by exact Blk.new w3 41 [.int .i64 task, .int .i64 op, .string key, .string oth, .string item, .int .i64 qty, .slice dq' dn dc', .int .i64 0, .int .i64 0, .int .i64 0, .slice none 0 0, .slice none 0 0, .int .i64 i, .int .i64 (-1), .int .i64 (-1)]) (by intro u hu; exact evs_one1 ⟨task, i, -1, -1, op, key, oth, item, qty, dq', dn, dc', 0, 0, 0, none, 0, 0, none, 0, 0⟩ u hu) (by rfl) (by omega) (by omega) (by exact HBL.out) ?_; intro v5 w5 hown5 hb5 hat5 hg5)
          obtain ⟨p5, c5, rfl, -, -⟩ := own_shape hown5
          have HO5 := Lib.hid hown5
          have HA5 : Hid ((Value.slice p5 (es.length + 1) c5).ownBlock = (Value.slice p es.length c).ownBlock ∨ ∀ k, (Value.slice p5 (es.length + 1) c5).ownBlock = some k → w3.heap.size ≤ k) := Lib.hid (hat5.imp id (fun h k hk => Nat.le_trans HSL.out (h k hk)))
          have HF5 := Lib.hid (show Fr (fun x => (Value.slice p es.length c).ownBlock = some x) w3 w5 from (Fr.alloc (Fr.refl _ w3) (.cells #[.int .i64 task, .int .i64 op, .string key, .string oth, .string item, .int .i64 qty, .slice dq' dn dc', .int .i64 0, .int .i64 0, .int .i64 0, .slice none 0 0, .slice none 0 0, .int .i64 i, .int .i64 (-1), .int .i64 (-1)] 41)).gb (w2 := w5) ⟨hg5.os, hg5.tape, hg5.output, hg5.size, hg5.block⟩ (fun c hc => .inl hc))
          have HT5 := Lib.hid (HT3.out.fr HF5.out (fun hx => HGT.out t hx rfl))
          have k5 := HT5.out.got 1 _ rfl
          have f5 := HT5.out.free 1
          clear hown5 hb5 hat5 hg5
          refine hK.out _ _ (trivial) (fun hHeld => ?_)
          clear hK K
          try simp only [Act.put, List.setIfInBounds_toArray, List.set_cons_zero, List.set_cons_succ]
          refine wpAnyH_take (i := 8) (oi := ⟨some 64, _, _, _, _, _⟩) (v := ?_) rfl (by kernel_rfl) (by kernel_rfl) (by kernel_rfl) (fun _ _ _ h => h) (Or.inl ⟨by rfl, ?_⟩) hHeld ?_
          rotate_left
          · (intro w hSw; go_simp; try with_reducible rfl)
          try simp only [Act.put, List.setIfInBounds_toArray, List.set_cons_zero, List.set_cons_succ]
          refine wpAnyH_take (i := 9) (oi := ⟨some 65, _, _, _, _, _⟩) (v := ?_) rfl (by kernel_rfl) (by kernel_rfl) (by kernel_rfl) (fun _ _ _ h => h) (Or.inl ⟨by rfl, ?_⟩) hHeld ?_
          rotate_left
          · (intro w hSw; go_simp; try with_reducible rfl)
          try simp only [Act.put, List.setIfInBounds_toArray, List.set_cons_zero, List.set_cons_succ]
          refine wpAnyH_ready (rs := [10]) (by kernel_rfl) (by simp) ?_
          refine (AllReadyH.cons (o := ⟨none, _, _, _, _, _⟩) rfl (fun K hK => ?_) AllReadyH.nil)
          go_simp
          refine hK.out _ _ (trivial) (fun hHeld => ?_)
          clear hK K
          try simp only [Act.put, List.setIfInBounds_toArray, List.set_cons_zero, List.set_cons_succ]
          refine wpAnyH_done (by kernel_rfl) ?_ _
          refine NoPanic.normal ?_
          clear hHeld
          go_wp2_with fail
          go_ret
          as_aux_lemma =>
            have hF := HTz.out.add (a := wz.heap.size) (task := task) (s := ⟨false, es.length, false⟩) (e := ⟨task, i, -1, -1, op, key, oth, item, qty, dq', dn, dc', 0, 0, 0, none, 0, 0, none, 0, 0⟩) rfl (Fr.alloc (Fr.refl (fun _ => False) wz) (.cells #[.bool false, .int .i64 es.length, .bool false] 78)) (Blk.new wz 78 [.bool false, .int .i64 es.length, .bool false]) rfl HM3.out HF3.out HF5.out HO5.out HA5.out HEV.out
            refine ⟨by rw [HR.out]; rfl, HBB.out.trans hF.2.1, (K51.of HBz.out).trans hF.2.2, fun S' hS' => ?_⟩
            rw [HR.out] at hS'
            injection hS' with hS'
            have e1 : padd i ⟨task, step, mk, pc, pa⟩ S false = ⟨upd S.T task ⟨false, es.length, false⟩, S.es ++ [pnew i ⟨task, step, mk, pc, pa⟩ false]⟩ := by rw [HTz.out.len]; rfl
            rw [← hS', e1]
            exact ⟨p5, c5, _, _, hF.1⟩
  | some a =>
    obtain ⟨⟨looks, ev, ended⟩, hS, hba, hBa, hev⟩ := HT1.out.st task a hA
    have HBA := Lib.hid hba
    rw [hA] at hlk
    simp only [ptrO] at hlk
    cases looks with
    | true =>
      by_cases h7 : step = 7
      · subst h7
        have HR : Hid (pbegin i ⟨task, 7, mk, pc, pa⟩ S = some (padd i ⟨task, 7, mk, pc, pa⟩ S true)) := Lib.hid (by simp [pbegin, hS, pfit])
        have HBA2 := Lib.hid (fun n => HBA.out.kept (below_drewN (Below.refl _ _) n))
        clear hA hS hba hBa hev
        have a0' := fun n => (HBA2.out n).got 0 _ rfl
        go_quiet (fail)
        have a0 := a0' nq
        have HT2 := Lib.hid (HT1.out.kept (below_drewN (Below.refl _ _) nq))
        have HBX2 := Lib.hid (HBX.out.kept (below_drewN (Below.refl _ _) nq))
        have HB2 := Lib.hid (below_drewN HB1.out nq)
        generalize w1.drewN nq = w2 at *
        clear hlk hN c0 b0 b1
        clear HBA2 a0'
        have b0 := HBX2.out.got 0 _ rfl
        have b1 := HBX2.out.got 1 _ rfl
        go_upto_region 8 with fail
        have HBz := Lib.hid (HB2.out.trans ((below_al (Below.refl w2.heap.size w2) (.cells #[.int .i64 task, .int .i64 0, .string ⟨#[]⟩, .string ⟨#[]⟩, .string ⟨#[]⟩, .int .i64 0, .slice none 0 0, .int .i64 0, .int .i64 0, .int .i64 0, .slice none 0 0, .slice none 0 0, .int .i64 i, .int .i64 (-1), .int .i64 (-1)] 41)).mono HB2.out.size))
        have HTz := Lib.hid (HT2.out.kept (below_al (Below.refl w2.heap.size w2) (.cells #[.int .i64 task, .int .i64 0, .string ⟨#[]⟩, .string ⟨#[]⟩, .string ⟨#[]⟩, .int .i64 0, .slice none 0 0, .int .i64 0, .int .i64 0, .int .i64 0, .slice none 0 0, .slice none 0 0, .int .i64 i, .int .i64 (-1), .int .i64 (-1)] 41)))
        have HBXz := Lib.hid (HBX2.out.alloc (.cells #[.int .i64 task, .int .i64 0, .string ⟨#[]⟩, .string ⟨#[]⟩, .string ⟨#[]⟩, .int .i64 0, .slice none 0 0, .int .i64 0, .int .i64 0, .int .i64 0, .slice none 0 0, .slice none 0 0, .int .i64 i, .int .i64 (-1), .int .i64 (-1)] 41))
        have HEz := Lib.hid (Blk.new w2 41 [.int .i64 task, .int .i64 0, .string ⟨#[]⟩, .string ⟨#[]⟩, .string ⟨#[]⟩, .int .i64 0, .slice none 0 0, .int .i64 0, .int .i64 0, .int .i64 0, .slice none 0 0, .slice none 0 0, .int .i64 i, .int .i64 (-1), .int .i64 (-1)])
        generalize w2.alloc (.cells #[.int .i64 task, .int .i64 0, .string ⟨#[]⟩, .string ⟨#[]⟩, .string ⟨#[]⟩, .int .i64 0, .slice none 0 0, .int .i64 0, .int .i64 0, .int .i64 0, .slice none 0 0, .slice none 0 0, .int .i64 i, .int .i64 (-1), .int .i64 (-1)] 41) = wz at *
        generalize w2.heap.size = e9 at *
        have HEV := Lib.hid (show EvR (RdD wz B) ⟨task, i, -1, -1, 0, ⟨#[]⟩, ⟨#[]⟩, ⟨#[]⟩, 0, none, 0, 0, 0, 0, 0, none, 0, 0, none, 0, 0⟩ (pnew i ⟨task, 7, mk, pc, pa⟩ true) from ⟨rfl, rfl, rfl, rfl, CR.zero _ (fun _ => .inl rfl), AR.zero _ (fun _ => .inl rfl)⟩)
        have HBB : Hid (Below B w wz) := Lib.hid (HBz.out.mono HBw.out)
        obtain ⟨N, hN⟩ := HTz.out.mp
        have HMP := Lib.hid (show Mp (wz.alloc (.cells #[.bool true, .int .i64 es.length, .bool false] 78)) mb N (ptrs A) from hN.kept (below_al (Below.refl _ _) _))
        have HTM := Lib.hid HTz.out.dist.1
        have HGM := Lib.hid (fun g hg => (HTz.out.dist.2 g hg).2)
        have HGT := Lib.hid (fun g hg => (HTz.out.dist.2 g hg).1)
        have HZM : Hid (z ≠ mb) := Lib.hid (fun e => hN.noblk (e ▸ HBXz.out))
        have HEM : Hid (e9 ≠ mb) := Lib.hid (fun e => hN.noblk (e ▸ HEz.out))
        have hesl : es.length ≤ 4096 := HL.out
        clear hN
        refine wp_region_noPanic ?_
        refine wp_region_held_drew (S := fun w' => w'.cell? ⟨t, 0, none⟩ = some (.map (some mb)) ∧ w'.cell? ⟨t, 1, none⟩ = some (.slice p es.length c) ∧ w'.cell? ⟨z, 0, none⟩ = some (.int .i64 task)) (by kernel_rfl) (⟨HTz.out.blk.got 0 _ rfl, HTz.out.blk.got 1 _ rfl, HBXz.out.got 0 _ rfl⟩) (fun hHeld => ?_)
        refine wpAnyH_take (i := 0) (oi := ⟨some 42, _, _, _, _, _⟩) (v := ?_) rfl (by kernel_rfl) (by kernel_rfl) (by kernel_rfl) (fun _ _ _ h => h) (Or.inl ⟨by rfl, ?_⟩) hHeld ?_
        rotate_left
        · (intro w hSw; obtain ⟨hq1, hq2, hq3⟩ := hSw; go_simp; try with_reducible rfl)
        try simp only [Act.put, List.setIfInBounds_toArray, List.set_cons_zero, List.set_cons_succ]
        refine wpAnyH_take (i := 1) (oi := ⟨some 43, _, _, _, _, _⟩) (v := ?_) rfl (by kernel_rfl) (by kernel_rfl) (by kernel_rfl) (fun _ _ _ h => h) (Or.inl ⟨by rfl, ?_⟩) hHeld ?_
        rotate_left
        · (intro w hSw; obtain ⟨hq1, hq2, hq3⟩ := hSw; go_simp; try with_reducible rfl)
        try simp only [Act.put, List.setIfInBounds_toArray, List.set_cons_zero, List.set_cons_succ]
        refine wpAnyH_take (i := 2) (oi := ⟨some 44, _, _, _, _, _⟩) (v := ?_) rfl (by kernel_rfl) (by kernel_rfl) (by kernel_rfl) (fun _ _ _ h => h) (Or.inl ⟨by rfl, ?_⟩) hHeld ?_
        rotate_left
        · (intro w hSw; obtain ⟨hq1, hq2, hq3⟩ := hSw; go_simp; try with_reducible rfl)
        try simp only [Act.put, List.setIfInBounds_toArray, List.set_cons_zero, List.set_cons_succ]
        refine wpAnyH_take (i := 3) (oi := ⟨some 45, _, _, _, _, _⟩) (v := ?_) rfl (by kernel_rfl) (by kernel_rfl) (by kernel_rfl) (fun _ _ _ h => h) (Or.inl ⟨by rfl, ?_⟩) hHeld ?_
        rotate_left
        · (intro w hSw; obtain ⟨hq1, hq2, hq3⟩ := hSw; go_simp; try with_reducible rfl)
        try simp only [Act.put, List.setIfInBounds_toArray, List.set_cons_zero, List.set_cons_succ]
        refine wpAnyH_take (i := 4) (oi := ⟨some 46, _, _, _, _, _⟩) (v := ?_) rfl (by kernel_rfl) (by kernel_rfl) (by kernel_rfl) (fun _ _ _ h => h) (Or.inl ⟨by rfl, ?_⟩) hHeld ?_
        rotate_left
        · (intro w hSw; obtain ⟨hq1, hq2, hq3⟩ := hSw; go_simp; try with_reducible rfl)
        try simp only [Act.put, List.setIfInBounds_toArray, List.set_cons_zero, List.set_cons_succ]
        refine wpAnyH_take (i := 5) (oi := ⟨some 47, _, _, _, _, _⟩) (v := ?_) rfl (by kernel_rfl) (by kernel_rfl) (by kernel_rfl) (fun _ _ _ h => h) (Or.inl ⟨by rfl, ?_⟩) hHeld ?_
        rotate_left
        · (intro w hSw; obtain ⟨hq1, hq2, hq3⟩ := hSw; go_simp; try with_reducible rfl)
        try simp only [Act.put, List.setIfInBounds_toArray, List.set_cons_zero, List.set_cons_succ]
        refine wpAnyH_take (i := 6) (oi := ⟨some 48, _, _, _, _, _⟩) (v := ?_) rfl (by kernel_rfl) (by kernel_rfl) (by kernel_rfl) (fun _ _ _ h => h) (Or.inl ⟨by rfl, ?_⟩) hHeld ?_
        rotate_left
        · (intro w hSw; obtain ⟨hq1, hq2, hq3⟩ := hSw; go_simp; try with_reducible rfl)
        try simp only [Act.put, List.setIfInBounds_toArray, List.set_cons_zero, List.set_cons_succ]
        refine wpAnyH_take (i := 7) (oi := ⟨some 49, _, _, _, _, _⟩) (v := ?_) rfl (by kernel_rfl) (by kernel_rfl) (by kernel_rfl) (fun _ _ _ h => h) (Or.inl ⟨by rfl, ?_⟩) hHeld ?_
        rotate_left
        · (intro w hSw; obtain ⟨hq1, hq2, hq3⟩ := hSw; go_simp; try with_reducible rfl)
        try simp only [Act.put, List.setIfInBounds_toArray, List.set_cons_zero, List.set_cons_succ]
        refine wpAnyH_take (i := 8) (oi := ⟨some 50, _, _, _, _, _⟩) (v := ?_) rfl (by kernel_rfl) (by kernel_rfl) (by kernel_rfl) (fun _ _ _ h => h) (Or.inl ⟨by rfl, ?_⟩) hHeld ?_
        rotate_left
        · (intro w hSw; obtain ⟨hq1, hq2, hq3⟩ := hSw; go_simp; try with_reducible rfl)
        try simp only [Act.put, List.setIfInBounds_toArray, List.set_cons_zero, List.set_cons_succ]
        refine wpAnyH_take (i := 9) (oi := ⟨some 51, _, _, _, _, _⟩) (v := ?_) rfl (by kernel_rfl) (by kernel_rfl) (by kernel_rfl) (fun _ _ _ h => h) (Or.inl ⟨by rfl, ?_⟩) hHeld ?_
        rotate_left
        · (intro w hSw; obtain ⟨hq1, hq2, hq3⟩ := hSw; go_simp; try with_reducible rfl)
        try simp only [Act.put, List.setIfInBounds_toArray, List.set_cons_zero, List.set_cons_succ]
        refine wpAnyH_take (i := 10) (oi := ⟨some 52, _, _, _, _, _⟩) (v := ?_) rfl (by kernel_rfl) (by kernel_rfl) (by kernel_rfl) (fun _ _ _ h => h) (Or.inl ⟨by rfl, ?_⟩) hHeld ?_
        rotate_left
        · (intro w hSw; obtain ⟨hq1, hq2, hq3⟩ := hSw; go_simp; try with_reducible rfl)
        try simp only [Act.put, List.setIfInBounds_toArray, List.set_cons_zero, List.set_cons_succ]
        refine wpAnyH_take (i := 11) (oi := ⟨some 53, _, _, _, _, _⟩) (v := ?_) rfl (by kernel_rfl) (by kernel_rfl) (by kernel_rfl) (fun _ _ _ h => h) (Or.inl ⟨by rfl, ?_⟩) hHeld ?_
        rotate_left
        · (intro w hSw; obtain ⟨hq1, hq2, hq3⟩ := hSw; go_simp; try with_reducible rfl)
        try simp only [Act.put, List.setIfInBounds_toArray, List.set_cons_zero, List.set_cons_succ]
        refine wpAnyH_take (i := 12) (oi := ⟨some 54, _, _, _, _, _⟩) (v := ?_) rfl (by kernel_rfl) (by kernel_rfl) (by kernel_rfl) (fun _ _ _ h => h) (Or.inl ⟨by rfl, ?_⟩) hHeld ?_
        rotate_left
        · (intro w hSw; obtain ⟨hq1, hq2, hq3⟩ := hSw; go_simp; try with_reducible rfl)
        try simp only [Act.put, List.setIfInBounds_toArray, List.set_cons_zero, List.set_cons_succ]
        refine wpAnyH_ready (rs := [13]) (by kernel_rfl) (by simp) ?_
        refine (AllReadyH.cons (o := ⟨some 55, _, _, _, _, _⟩) rfl (fun K hK => ?_) AllReadyH.nil)
        go_simp
        refine hK.out _ _ (⟨(HTz.out.blk.alloc _).got 0 _ rfl, (HTz.out.blk.alloc _).got 1 _ rfl, (HBXz.out.alloc _).got 0 _ rfl⟩) (fun hHeld => ?_)
        clear hK K
        try simp only [Act.put, List.setIfInBounds_toArray, List.set_cons_zero, List.set_cons_succ]
        refine wpAnyH_ready (rs := [14]) (by kernel_rfl) (by simp) ?_
        refine (AllReadyH.cons (o := ⟨none, _, _, _, _, _⟩) rfl (fun K hK => ?_) AllReadyH.nil)
        (refine step_mput (by rfl) (.tmp 45) (.tmp 47) (.tmp 55) (by rfl) (by rfl) task (by rfl) (.pointer (some ⟨wz.heap.size, 0, none⟩)) (by rfl) (n := N) (f := ptrs A) (by exact HMP.out) under3 under60 (wf_of (by omega) (by omega)) ?_; intro w3 hm3 hf3)
        have HM3 := Lib.hid hm3
        have HF3 := Lib.hid (show Fr (fun x => x = mb) (wz.alloc (.cells #[.bool true, .int .i64 es.length, .bool false] 78)) w3 from ⟨hf3.os, hf3.tape, hf3.output, hf3.size, hf3.block⟩)
        have HT3 := Lib.hid ((HTz.out.blk.alloc _).fr HF3.out HTM.out)
        have HBX3 := Lib.hid ((HBXz.out.alloc _).fr HF3.out HZM.out)
        clear hm3 hf3
        refine hK.out _ _ (⟨HT3.out.got 0 _ rfl, HT3.out.got 1 _ rfl, HBX3.out.got 0 _ rfl⟩) (fun hHeld => ?_)
        clear hK K
        try simp only [Act.put]
        refine wpAnyH_done (by kernel_rfl) ?_ _
        refine NoPanic.normal ?_
        clear hHeld
        have HE3 := Lib.hid ((HEz.out.alloc _).fr HF3.out HEM.out)
        have HO3 := Lib.hid (own_fr (own_fr HTz.out.own (Fr.alloc (Fr.refl (fun _ => False) wz) (.cells #[.bool true, .int .i64 es.length, .bool false] 78)) (fun _ _ h => h)) HF3.out (fun g hg => HGM.out g hg))
        have HO4 := Lib.hid (own_fr HO3.out (Fr.alloc (Fr.refl (fun _ => False) w3) (.cells #[.int .i64 task, .int .i64 0, .string ⟨#[]⟩, .string ⟨#[]⟩, .string ⟨#[]⟩, .int .i64 0, .slice none 0 0, .int .i64 0, .int .i64 0, .int .i64 0, .slice none 0 0, .slice none 0 0, .int .i64 i, .int .i64 (-1), .int .i64 (-1)] 41)) (fun _ _ h => h))
        have HSL := Lib.hid (show w3.heap.size ≤ (w3.alloc (.cells #[.int .i64 task, .int .i64 0, .string ⟨#[]⟩, .string ⟨#[]⟩, .string ⟨#[]⟩, .int .i64 0, .slice none 0 0, .int .i64 0, .int .i64 0, .int .i64 0, .slice none 0 0, .slice none 0 0, .int .i64 i, .int .i64 (-1), .int .i64 (-1)] 41)).heap.size by simp)
        have HBL : Hid (B ≤ (w3.alloc (.cells #[.int .i64 task, .int .i64 0, .string ⟨#[]⟩, .string ⟨#[]⟩, .string ⟨#[]⟩, .int .i64 0, .slice none 0 0, .int .i64 0, .int .i64 0, .int .i64 0, .slice none 0 0, .slice none 0 0, .int .i64 i, .int .i64 (-1), .int .i64 (-1)] 41)).heap.size) := Lib.hid (by have h1 := HTz.out.bt; have h2 := HTz.out.blk.lt; have h3 := HF3.out.size; simp at h3 ⊢; omega)
        have t1 := HT3.out.got 1 _ rfl
        have e0 := HE3.out.got 0 _ rfl
        have e1 := HE3.out.got 1 _ rfl
        have e2 := HE3.out.got 2 _ rfl
        have e3 := HE3.out.got 3 _ rfl
        have e4 := HE3.out.got 4 _ rfl
        have e5 := HE3.out.got 5 _ rfl
        have e6 := HE3.out.got 6 _ rfl
        have e7 := HE3.out.got 7 _ rfl
        have e8 := HE3.out.got 8 _ rfl
        have e9 := HE3.out.got 9 _ rfl
        have e10 := HE3.out.got 10 _ rfl
        have e11 := HE3.out.got 11 _ rfl
        have e12 := HE3.out.got 12 _ rfl
        have e13 := HE3.out.got 13 _ rfl
        have e14 := HE3.out.got 14 _ rfl
        go_upto_region 9 with fail
        refine wp_region_noPanic ?_
        refine wp_region_held_drew (S := fun _ => True) (by kernel_rfl) (trivial) (fun hHeld => ?_)
        refine wpAnyH_take (i := 0) (oi := ⟨some 56, _, _, _, _, _⟩) (v := ?_) rfl (by kernel_rfl) (by kernel_rfl) (by kernel_rfl) (fun _ _ _ h => h) (Or.inl ⟨by rfl, ?_⟩) hHeld ?_
        rotate_left
        · (intro w hSw; go_simp; try with_reducible rfl)
        try simp only [Act.put, List.setIfInBounds_toArray, List.set_cons_zero, List.set_cons_succ]
        refine wpAnyH_take (i := 1) (oi := ⟨some 57, _, _, _, _, _⟩) (v := ?_) rfl (by kernel_rfl) (by kernel_rfl) (by kernel_rfl) (fun _ _ _ h => h) (Or.inl ⟨by rfl, ?_⟩) hHeld ?_
        rotate_left
        · (intro w hSw; go_simp; try with_reducible rfl)
        try simp only [Act.put, List.setIfInBounds_toArray, List.set_cons_zero, List.set_cons_succ]
        refine wpAnyH_take (i := 2) (oi := ⟨some 58, _, _, _, _, _⟩) (v := ?_) rfl (by kernel_rfl) (by kernel_rfl) (by kernel_rfl) (fun _ _ _ h => h) (Or.inl ⟨by rfl, ?_⟩) hHeld ?_
        rotate_left
        · (intro w hSw; go_simp; try with_reducible rfl)
        try simp only [Act.put, List.setIfInBounds_toArray, List.set_cons_zero, List.set_cons_succ]
        refine wpAnyH_take (i := 3) (oi := ⟨some 59, _, _, _, _, _⟩) (v := ?_) rfl (by kernel_rfl) (by kernel_rfl) (by kernel_rfl) (fun _ _ _ h => h) (Or.inl ⟨by rfl, ?_⟩) hHeld ?_
        rotate_left
        · (intro w hSw; go_simp; try with_reducible rfl)
        try simp only [Act.put, List.setIfInBounds_toArray, List.set_cons_zero, List.set_cons_succ]
        refine wpAnyH_ready (rs := [4, 5]) (by kernel_rfl) (by simp) ?_
        refine (AllReadyH.cons (o := ⟨some 60, _, _, _, _, _⟩) rfl (fun K hK => ?_) (AllReadyH.cons (o := ⟨some 61, _, _, _, _, _⟩) rfl (fun K hK => ?_) AllReadyH.nil))
        · go_simp
          refine hK.out _ _ (trivial) (fun hHeld => ?_)
          clear hK K
          try simp only [Act.put, List.setIfInBounds_toArray, List.set_cons_zero, List.set_cons_succ]
          refine wpAnyH_ready (rs := [5]) (by kernel_rfl) (by simp) ?_
          refine (AllReadyH.cons (o := ⟨some 61, _, _, _, _, _⟩) rfl (fun K hK => ?_) AllReadyH.nil)
          go_simp
          refine hK.out _ _ (trivial) (fun hHeld => ?_)
          clear hK K
          try simp only [Act.put, List.setIfInBounds_toArray, List.set_cons_zero, List.set_cons_succ]
          refine wpAnyH_ready (rs := [6]) (by kernel_rfl) (by simp) ?_
          refine (AllReadyH.cons (o := ⟨some 62, _, _, _, _, _⟩) rfl (fun K hK => ?_) AllReadyH.nil)
          go_simp
          have t2 := (HT3.out.alloc (.cells #[.int .i64 task, .int .i64 0, .string ⟨#[]⟩, .string ⟨#[]⟩, .string ⟨#[]⟩, .int .i64 0, .slice none 0 0, .int .i64 0, .int .i64 0, .int .i64 0, .slice none 0 0, .slice none 0 0, .int .i64 i, .int .i64 (-1), .int .i64 (-1)] 41)).got 1 _ rfl
          refine hK.out _ _ (trivial) (fun hHeld => ?_)
          clear hK K
          try simp only [Act.put, List.setIfInBounds_toArray, List.set_cons_zero, List.set_cons_succ]
          refine wpAnyH_ready (rs := [7]) (by kernel_rfl) (by simp) ?_
          refine (AllReadyH.cons (o := ⟨some 63, _, _, _, _, _⟩) rfl (fun K hK => ?_) AllReadyH.nil)
          (refine step_appS (by rfl) (.tmp 60) (.tmp 62) 25 (by rfl) B 41 _ 15 192 Try.underlying25 evt_info (by rfl) (by omega) (.slice p es.length c) es.length (evs es) (by rfl) (by exact HO4.out) w3.heap.size [.int .i64 task, .int .i64 0, .string ⟨#[]⟩, .string ⟨#[]⟩, .string ⟨#[]⟩, .int .i64 0, .slice none 0 0, .int .i64 0, .int .i64 0, .int .i64 0, .slice none 0 0, .slice none 0 0, .int .i64 i, .int .i64 (-1), .int .i64 (-1)] rfl (by exact Blk.new w3 41 [.int .i64 task, .int .i64 0, .string ⟨#[]⟩, .string ⟨#[]⟩, .string ⟨#[]⟩, .int .i64 0, .slice none 0 0, .int .i64 0, .int .i64 0, .int .i64 0, .slice none 0 0, .slice none 0 0, .int .i64 i, .int .i64 (-1), .int .i64 (-1)]) (by intro u hu; exact evs_one1 ⟨task, i, -1, -1, 0, ⟨#[]⟩, ⟨#[]⟩, ⟨#[]⟩, 0, none, 0, 0, 0, 0, 0, none, 0, 0, none, 0, 0⟩ u hu) (by rfl) (by omega) (by omega) (by exact HBL.out) ?_; intro v5 w5 hown5 hb5 hat5 hg5)
          obtain ⟨p5, c5, rfl, -, -⟩ := own_shape hown5
          have HO5 := Lib.hid hown5
          have HA5 : Hid ((Value.slice p5 (es.length + 1) c5).ownBlock = (Value.slice p es.length c).ownBlock ∨ ∀ k, (Value.slice p5 (es.length + 1) c5).ownBlock = some k → w3.heap.size ≤ k) := Lib.hid (hat5.imp id (fun h k hk => Nat.le_trans HSL.out (h k hk)))
          have HF5 := Lib.hid (show Fr (fun x => (Value.slice p es.length c).ownBlock = some x) w3 w5 from (Fr.alloc (Fr.refl _ w3) (.cells #[.int .i64 task, .int .i64 0, .string ⟨#[]⟩, .string ⟨#[]⟩, .string ⟨#[]⟩, .int .i64 0, .slice none 0 0, .int .i64 0, .int .i64 0, .int .i64 0, .slice none 0 0, .slice none 0 0, .int .i64 i, .int .i64 (-1), .int .i64 (-1)] 41)).gb (w2 := w5) ⟨hg5.os, hg5.tape, hg5.output, hg5.size, hg5.block⟩ (fun c hc => .inl hc))
          have HT5 := Lib.hid (HT3.out.fr HF5.out (fun hx => HGT.out t hx rfl))
          have k5 := HT5.out.got 1 _ rfl
          have f5 := HT5.out.free 1
          clear hown5 hb5 hat5 hg5
          refine hK.out _ _ (trivial) (fun hHeld => ?_)
          clear hK K
          try simp only [Act.put, List.setIfInBounds_toArray, List.set_cons_zero, List.set_cons_succ]
          refine wpAnyH_take (i := 8) (oi := ⟨some 64, _, _, _, _, _⟩) (v := ?_) rfl (by kernel_rfl) (by kernel_rfl) (by kernel_rfl) (fun _ _ _ h => h) (Or.inl ⟨by rfl, ?_⟩) hHeld ?_
          rotate_left
          · (intro w hSw; go_simp; try with_reducible rfl)
          try simp only [Act.put, List.setIfInBounds_toArray, List.set_cons_zero, List.set_cons_succ]
          refine wpAnyH_take (i := 9) (oi := ⟨some 65, _, _, _, _, _⟩) (v := ?_) rfl (by kernel_rfl) (by kernel_rfl) (by kernel_rfl) (fun _ _ _ h => h) (Or.inl ⟨by rfl, ?_⟩) hHeld ?_
          rotate_left
          · (intro w hSw; go_simp; try with_reducible rfl)
          try simp only [Act.put, List.setIfInBounds_toArray, List.set_cons_zero, List.set_cons_succ]
          refine wpAnyH_ready (rs := [10]) (by kernel_rfl) (by simp) ?_
          refine (AllReadyH.cons (o := ⟨none, _, _, _, _, _⟩) rfl (fun K hK => ?_) AllReadyH.nil)
          go_simp
          refine hK.out _ _ (trivial) (fun hHeld => ?_)
          clear hK K
          try simp only [Act.put, List.setIfInBounds_toArray, List.set_cons_zero, List.set_cons_succ]
          refine wpAnyH_done (by kernel_rfl) ?_ _
          refine NoPanic.normal ?_
          clear hHeld
          go_wp2_with fail
          go_ret
          as_aux_lemma =>
            have hF := HTz.out.add (a := wz.heap.size) (task := task) (s := ⟨true, es.length, false⟩) (e := ⟨task, i, -1, -1, 0, ⟨#[]⟩, ⟨#[]⟩, ⟨#[]⟩, 0, none, 0, 0, 0, 0, 0, none, 0, 0, none, 0, 0⟩) rfl (Fr.alloc (Fr.refl (fun _ => False) wz) (.cells #[.bool true, .int .i64 es.length, .bool false] 78)) (Blk.new wz 78 [.bool true, .int .i64 es.length, .bool false]) rfl HM3.out HF3.out HF5.out HO5.out HA5.out HEV.out
            refine ⟨by rw [HR.out]; rfl, HBB.out.trans hF.2.1, (K51.of HBz.out).trans hF.2.2, fun S' hS' => ?_⟩
            rw [HR.out] at hS'
            injection hS' with hS'
            have e1 : padd i ⟨task, 7, mk, pc, pa⟩ S true = ⟨upd S.T task ⟨true, es.length, false⟩, S.es ++ [pnew i ⟨task, 7, mk, pc, pa⟩ true]⟩ := by rw [HTz.out.len]; rfl
            rw [← hS', e1]
            exact ⟨p5, c5, _, _, hF.1⟩
        · go_simp
          refine hK.out _ _ (trivial) (fun hHeld => ?_)
          clear hK K
          try simp only [Act.put, List.setIfInBounds_toArray, List.set_cons_zero, List.set_cons_succ]
          refine wpAnyH_ready (rs := [4, 6]) (by kernel_rfl) (by simp) ?_
          refine (AllReadyH.cons (o := ⟨some 60, _, _, _, _, _⟩) rfl (fun K hK => ?_) (AllReadyH.cons (o := ⟨some 62, _, _, _, _, _⟩) rfl (fun K hK => ?_) AllReadyH.nil))
          · go_simp
            refine hK.out _ _ (trivial) (fun hHeld => ?_)
            clear hK K
            try simp only [Act.put, List.setIfInBounds_toArray, List.set_cons_zero, List.set_cons_succ]
            refine wpAnyH_ready (rs := [6]) (by kernel_rfl) (by simp) ?_
            refine (AllReadyH.cons (o := ⟨some 62, _, _, _, _, _⟩) rfl (fun K hK => ?_) AllReadyH.nil)
            go_simp
            have t2 := (HT3.out.alloc (.cells #[.int .i64 task, .int .i64 0, .string ⟨#[]⟩, .string ⟨#[]⟩, .string ⟨#[]⟩, .int .i64 0, .slice none 0 0, .int .i64 0, .int .i64 0, .int .i64 0, .slice none 0 0, .slice none 0 0, .int .i64 i, .int .i64 (-1), .int .i64 (-1)] 41)).got 1 _ rfl
            refine hK.out _ _ (trivial) (fun hHeld => ?_)
            clear hK K
            try simp only [Act.put, List.setIfInBounds_toArray, List.set_cons_zero, List.set_cons_succ]
            refine wpAnyH_ready (rs := [7]) (by kernel_rfl) (by simp) ?_
            refine (AllReadyH.cons (o := ⟨some 63, _, _, _, _, _⟩) rfl (fun K hK => ?_) AllReadyH.nil)
            (refine step_appS (by rfl) (.tmp 60) (.tmp 62) 25 (by rfl) B 41 _ 15 192 Try.underlying25 evt_info (by rfl) (by omega) (.slice p es.length c) es.length (evs es) (by rfl) (by exact HO4.out) w3.heap.size [.int .i64 task, .int .i64 0, .string ⟨#[]⟩, .string ⟨#[]⟩, .string ⟨#[]⟩, .int .i64 0, .slice none 0 0, .int .i64 0, .int .i64 0, .int .i64 0, .slice none 0 0, .slice none 0 0, .int .i64 i, .int .i64 (-1), .int .i64 (-1)] rfl (by exact Blk.new w3 41 [.int .i64 task, .int .i64 0, .string ⟨#[]⟩, .string ⟨#[]⟩, .string ⟨#[]⟩, .int .i64 0, .slice none 0 0, .int .i64 0, .int .i64 0, .int .i64 0, .slice none 0 0, .slice none 0 0, .int .i64 i, .int .i64 (-1), .int .i64 (-1)]) (by intro u hu; exact evs_one1 ⟨task, i, -1, -1, 0, ⟨#[]⟩, ⟨#[]⟩, ⟨#[]⟩, 0, none, 0, 0, 0, 0, 0, none, 0, 0, none, 0, 0⟩ u hu) (by rfl) (by omega) (by omega) (by exact HBL.out) ?_; intro v5 w5 hown5 hb5 hat5 hg5)
            obtain ⟨p5, c5, rfl, -, -⟩ := own_shape hown5
            have HO5 := Lib.hid hown5
            have HA5 : Hid ((Value.slice p5 (es.length + 1) c5).ownBlock = (Value.slice p es.length c).ownBlock ∨ ∀ k, (Value.slice p5 (es.length + 1) c5).ownBlock = some k → w3.heap.size ≤ k) := Lib.hid (hat5.imp id (fun h k hk => Nat.le_trans HSL.out (h k hk)))
            have HF5 := Lib.hid (show Fr (fun x => (Value.slice p es.length c).ownBlock = some x) w3 w5 from (Fr.alloc (Fr.refl _ w3) (.cells #[.int .i64 task, .int .i64 0, .string ⟨#[]⟩, .string ⟨#[]⟩, .string ⟨#[]⟩, .int .i64 0, .slice none 0 0, .int .i64 0, .int .i64 0, .int .i64 0, .slice none 0 0, .slice none 0 0, .int .i64 i, .int .i64 (-1), .int .i64 (-1)] 41)).gb (w2 := w5) ⟨hg5.os, hg5.tape, hg5.output, hg5.size, hg5.block⟩ (fun c hc => .inl hc))
            have HT5 := Lib.hid (HT3.out.fr HF5.out (fun hx => HGT.out t hx rfl))
            have k5 := HT5.out.got 1 _ rfl
            have f5 := HT5.out.free 1
            clear hown5 hb5 hat5 hg5
            refine hK.out _ _ (trivial) (fun hHeld => ?_)
            clear hK K
            try simp only [Act.put, List.setIfInBounds_toArray, List.set_cons_zero, List.set_cons_succ]
            refine wpAnyH_take (i := 8) (oi := ⟨some 64, _, _, _, _, _⟩) (v := ?_) rfl (by kernel_rfl) (by kernel_rfl) (by kernel_rfl) (fun _ _ _ h => h) (Or.inl ⟨by rfl, ?_⟩) hHeld ?_
            rotate_left
            · (intro w hSw; go_simp; try with_reducible rfl)
            try simp only [Act.put, List.setIfInBounds_toArray, List.set_cons_zero, List.set_cons_succ]
            refine wpAnyH_take (i := 9) (oi := ⟨some 65, _, _, _, _, _⟩) (v := ?_) rfl (by kernel_rfl) (by kernel_rfl) (by kernel_rfl) (fun _ _ _ h => h) (Or.inl ⟨by rfl, ?_⟩) hHeld ?_
            rotate_left
            · (intro w hSw; go_simp; try with_reducible rfl)
            try simp only [Act.put, List.setIfInBounds_toArray, List.set_cons_zero, List.set_cons_succ]
            refine wpAnyH_ready (rs := [10]) (by kernel_rfl) (by simp) ?_
            refine (AllReadyH.cons (o := ⟨none, _, _, _, _, _⟩) rfl (fun K hK => ?_) AllReadyH.nil)
            go_simp
            refine hK.out _ _ (trivial) (fun hHeld => ?_)
            clear hK K
            try simp only [Act.put, List.setIfInBounds_toArray, List.set_cons_zero, List.set_cons_succ]
            refine wpAnyH_done (by kernel_rfl) ?_ _
            refine NoPanic.normal ?_
            clear hHeld
            go_wp2_with fail
            go_ret
            as_aux_lemma =>
              have hF := HTz.out.add (a := wz.heap.size) (task := task) (s := ⟨true, es.length, false⟩) (e := ⟨task, i, -1, -1, 0, ⟨#[]⟩, ⟨#[]⟩, ⟨#[]⟩, 0, none, 0, 0, 0, 0, 0, none, 0, 0, none, 0, 0⟩) rfl (Fr.alloc (Fr.refl (fun _ => False) wz) (.cells #[.bool true, .int .i64 es.length, .bool false] 78)) (Blk.new wz 78 [.bool true, .int .i64 es.length, .bool false]) rfl HM3.out HF3.out HF5.out HO5.out HA5.out HEV.out
              refine ⟨by rw [HR.out]; rfl, HBB.out.trans hF.2.1, (K51.of HBz.out).trans hF.2.2, fun S' hS' => ?_⟩
              rw [HR.out] at hS'
              injection hS' with hS'
              have e1 : padd i ⟨task, 7, mk, pc, pa⟩ S true = ⟨upd S.T task ⟨true, es.length, false⟩, S.es ++ [pnew i ⟨task, 7, mk, pc, pa⟩ true]⟩ := by rw [HTz.out.len]; rfl
              rw [← hS', e1]
              exact ⟨p5, c5, _, _, hF.1⟩
          · go_simp
            have t2 := (HT3.out.alloc (.cells #[.int .i64 task, .int .i64 0, .string ⟨#[]⟩, .string ⟨#[]⟩, .string ⟨#[]⟩, .int .i64 0, .slice none 0 0, .int .i64 0, .int .i64 0, .int .i64 0, .slice none 0 0, .slice none 0 0, .int .i64 i, .int .i64 (-1), .int .i64 (-1)] 41)).got 1 _ rfl
            refine hK.out _ _ (trivial) (fun hHeld => ?_)
            clear hK K
            try simp only [Act.put, List.setIfInBounds_toArray, List.set_cons_zero, List.set_cons_succ]
            refine wpAnyH_ready (rs := [4]) (by kernel_rfl) (by simp) ?_
            refine (AllReadyH.cons (o := ⟨some 60, _, _, _, _, _⟩) rfl (fun K hK => ?_) AllReadyH.nil)
            go_simp
            refine hK.out _ _ (trivial) (fun hHeld => ?_)
            clear hK K
            try simp only [Act.put, List.setIfInBounds_toArray, List.set_cons_zero, List.set_cons_succ]
            refine wpAnyH_ready (rs := [7]) (by kernel_rfl) (by simp) ?_
            refine (AllReadyH.cons (o := ⟨some 63, _, _, _, _, _⟩) rfl (fun K hK => ?_) AllReadyH.nil)
            (refine step_appS (by rfl) (.tmp 60) (.tmp 62) 25 (by rfl) B 41 _ 15 192 Try.underlying25 evt_info (by rfl) (by omega) (.slice p es.length c) es.length (evs es) (by rfl) (by exact HO4.out) w3.heap.size [.int .i64 task, .int .i64 0, .string ⟨#[]⟩, .string ⟨#[]⟩, .string ⟨#[]⟩, .int .i64 0, .slice none 0 0, .int .i64 0, .int .i64 0, .int .i64 0, .slice none 0 0, .slice none 0 0, .int .i64 i, .int .i64 (-1), .int .i64 (-1)] rfl (by exact Blk.new w3 41 [.int .i64 task, .int .i64 0, .string ⟨#[]⟩, .string ⟨#[]⟩, .string ⟨#[]⟩, .int .i64 0, .slice none 0 0, .int .i64 0, .int .i64 0, .int .i64 0, .slice none 0 0, .slice none 0 0, .int .i64 i, .int .i64 (-1), .int .i64 (-1)]) (by intro u hu; exact evs_one1 ⟨task, i, -1, -1, 0, ⟨#[]⟩, ⟨#[]⟩, ⟨#[]⟩, 0, none, 0, 0, 0, 0, 0, none, 0, 0, none, 0, 0⟩ u hu) (by rfl) (by omega) (by omega) (by exact HBL.out) ?_; intro v5 w5 hown5 hb5 hat5 hg5)
            obtain ⟨p5, c5, rfl, -, -⟩ := own_shape hown5
            have HO5 := Lib.hid hown5
            have HA5 : Hid ((Value.slice p5 (es.length + 1) c5).ownBlock = (Value.slice p es.length c).ownBlock ∨ ∀ k, (Value.slice p5 (es.length + 1) c5).ownBlock = some k → w3.heap.size ≤ k) := Lib.hid (hat5.imp id (fun h k hk => Nat.le_trans HSL.out (h k hk)))
            have HF5 := Lib.hid (show Fr (fun x => (Value.slice p es.length c).ownBlock = some x) w3 w5 from (Fr.alloc (Fr.refl _ w3) (.cells #[.int .i64 task, .int .i64 0, .string ⟨#[]⟩, .string ⟨#[]⟩, .string ⟨#[]⟩, .int .i64 0, .slice none 0 0, .int .i64 0, .int .i64 0, .int .i64 0, .slice none 0 0, .slice none 0 0, .int .i64 i, .int .i64 (-1), .int .i64 (-1)] 41)).gb (w2 := w5) ⟨hg5.os, hg5.tape, hg5.output, hg5.size, hg5.block⟩ (fun c hc => .inl hc))
            have HT5 := Lib.hid (HT3.out.fr HF5.out (fun hx => HGT.out t hx rfl))
            have k5 := HT5.out.got 1 _ rfl
            have f5 := HT5.out.free 1
            clear hown5 hb5 hat5 hg5
            refine hK.out _ _ (trivial) (fun hHeld => ?_)
            clear hK K
            try simp only [Act.put, List.setIfInBounds_toArray, List.set_cons_zero, List.set_cons_succ]
            refine wpAnyH_take (i := 8) (oi := ⟨some 64, _, _, _, _, _⟩) (v := ?_) rfl (by kernel_rfl) (by kernel_rfl) (by kernel_rfl) (fun _ _ _ h => h) (Or.inl ⟨by rfl, ?_⟩) hHeld ?_
            rotate_left
            · (intro w hSw; go_simp; try with_reducible rfl)
            try simp only [Act.put, List.setIfInBounds_toArray, List.set_cons_zero, List.set_cons_succ]
            refine wpAnyH_take (i := 9) (oi := ⟨some 65, _, _, _, _, _⟩) (v := ?_) rfl (by kernel_rfl) (by kernel_rfl) (by kernel_rfl) (fun _ _ _ h => h) (Or.inl ⟨by rfl, ?_⟩) hHeld ?_
            rotate_left
            · (intro w hSw; go_simp; try with_reducible rfl)
            try simp only [Act.put, List.setIfInBounds_toArray, List.set_cons_zero, List.set_cons_succ]
            refine wpAnyH_ready (rs := [10]) (by kernel_rfl) (by simp) ?_
            refine (AllReadyH.cons (o := ⟨none, _, _, _, _, _⟩) rfl (fun K hK => ?_) AllReadyH.nil)
            go_simp
            refine hK.out _ _ (trivial) (fun hHeld => ?_)
            clear hK K
            try simp only [Act.put, List.setIfInBounds_toArray, List.set_cons_zero, List.set_cons_succ]
            refine wpAnyH_done (by kernel_rfl) ?_ _
            refine NoPanic.normal ?_
            clear hHeld
            go_wp2_with fail
            go_ret
            as_aux_lemma =>
              have hF := HTz.out.add (a := wz.heap.size) (task := task) (s := ⟨true, es.length, false⟩) (e := ⟨task, i, -1, -1, 0, ⟨#[]⟩, ⟨#[]⟩, ⟨#[]⟩, 0, none, 0, 0, 0, 0, 0, none, 0, 0, none, 0, 0⟩) rfl (Fr.alloc (Fr.refl (fun _ => False) wz) (.cells #[.bool true, .int .i64 es.length, .bool false] 78)) (Blk.new wz 78 [.bool true, .int .i64 es.length, .bool false]) rfl HM3.out HF3.out HF5.out HO5.out HA5.out HEV.out
              refine ⟨by rw [HR.out]; rfl, HBB.out.trans hF.2.1, (K51.of HBz.out).trans hF.2.2, fun S' hS' => ?_⟩
              rw [HR.out] at hS'
              injection hS' with hS'
              have e1 : padd i ⟨task, 7, mk, pc, pa⟩ S true = ⟨upd S.T task ⟨true, es.length, false⟩, S.es ++ [pnew i ⟨task, 7, mk, pc, pa⟩ true]⟩ := by rw [HTz.out.len]; rfl
              rw [← hS', e1]
              exact ⟨p5, c5, _, _, hF.1⟩
      · have h7' : (step == 7) = false := by simpa using h7
        have HR : Hid (pbegin i ⟨task, step, mk, pc, pa⟩ S = none) := Lib.hid (by simp [pbegin, hS, pfit, h7])
        have HBA2 := Lib.hid (fun n => HBA.out.kept (below_drewN (Below.refl _ _) n))
        clear hA hS hba hBa hev h7
        have a0' := fun n => (HBA2.out n).got 0 _ rfl
        go_quiet (fail)
        have a0 := a0' nq
        have HT2 := Lib.hid (HT1.out.kept (below_drewN (Below.refl _ _) nq))
        have HBX2 := Lib.hid (HBX.out.kept (below_drewN (Below.refl _ _) nq))
        have HB2 := Lib.hid (below_drewN HB1.out nq)
        generalize w1.drewN nq = w2 at *
        clear hlk hN c0 b0 b1
        clear HBA2 a0'
        have b0 := HBX2.out.got 0 _ rfl
        have b1 := HBX2.out.got 1 _ rfl
        go_wp2_with fail
        go_ret
        exact ⟨by rw [HR.out]; rfl, HB2.out.mono HBw.out, K51.of HB2.out, fun S' hS' => by rw [HR.out] at hS'; cases hS'⟩
    | false =>
      have HR : Hid (pbegin i ⟨task, step, mk, pc, pa⟩ S = none) := Lib.hid (by simp [pbegin, hS, pfit])
      have HBA2 := Lib.hid (fun n => HBA.out.kept (below_drewN (Below.refl _ _) n))
      obtain ⟨e7, he7⟩ : ∃ e7, (step == 7) = e7 := ⟨_, rfl⟩
      clear hA hS hba hBa hev
      have a0' := fun n => (HBA2.out n).got 0 _ rfl
      go_quiet (fail)
      have a0 := a0' nq
      have HT2 := Lib.hid (HT1.out.kept (below_drewN (Below.refl _ _) nq))
      have HBX2 := Lib.hid (HBX.out.kept (below_drewN (Below.refl _ _) nq))
      have HB2 := Lib.hid (below_drewN HB1.out nq)
      generalize w1.drewN nq = w2 at *
      clear hlk hN c0 b0 b1
      clear HBA2 a0'
      have b0 := HBX2.out.got 0 _ rfl
      have b1 := HBX2.out.got 1 _ rfl
      go_wp2_with fail
      go_ret
      exact ⟨by rw [HR.out]; rfl, HB2.out.mono HBw.out, K51.of HB2.out, fun S' hS' => by rw [HR.out] at hS'; cases hS'⟩
end Go.Proofs.Ytbkkplednfdfdaa
