/- A step noted. Printed by hist_j.py. -/
import Derived.Test.YtbkkplednfdfdaaMade
import Derived.Test.YtbkkplednfdfdaaLd
namespace Go.Proofs.Ytbkkplednfdfdaa
open Go.RowKit Go.Maps
set_option linter.unusedVariables false

def pended : Option TS → Bool
  | none => false
  | some s => s.ended
def pstep (i : Nat) (d : PD) (S : PS) : Option PS :=
  if d.step < 1 ∨ 7 < d.step ∨ d.task < 0 ∨ 9999 < d.task then none
  else if pended (S.T d.task) then none
  else match (if d.step = 1 ∨ d.step = 7 then pbegin i d S else some S) with
    | none => none
    | some S1 => match S1.T d.task with
      | none => none
      | some s1 => match S1.es[s1.event]? with
        | none => none
        | some x1 => match (if d.made then pmade i d s1 x1 S1 else some S1) with
          | none => none
          | some S2 => match S2.es[s1.event]? with
            | none => none
            | some x2 => if d.step = 6 then pans i d s1 x2 S2 else some S2
theorem pbegin_some {i : Nat} {d : PD} {S S1 : PS} (h : pbegin i d S = some S1) : ∃ s1 x1, S1.T d.task = some s1 ∧ S1.es[s1.event]? = some x1 ∧ S1.es.length = S.es.length + 1 := by
  unfold pbegin at h
  split at h
  · injection h with h
    subst h
    exact ⟨_, pnew i d (decide (d.step = 7)), upd_same _ _ _, by simp [padd], by simp [padd]⟩
  · cases h
theorem pmade_some {i : Nat} {d : PD} {s1 : TS} {x1 : PE} {S1 S2 : PS} (h : pmade i d s1 x1 S1 = some S2) (hs : S1.T d.task = some s1) (hx : S1.es[s1.event]? = some x1) : ∃ x2, S2.T d.task = some s1 ∧ S2.es[s1.event]? = some x2 ∧ S2.es.length = S1.es.length := by
  unfold pmade at h
  split at h
  · injection h with h
    subst h
    exact ⟨pmadeE i d s1 x1, hs, by have h1 := (List.getElem?_eq_some_iff.1 hx).1; simp [h1], by simp⟩
  · cases h
theorem Tell.ptr {w : World} {B t mb c : Nat} {p : Option Addr} {A : Int → Option Nat} {es : List Ev} {S : PS} (h : Tell w B t mb p c A es S) {x : Int} {s : TS} (hs : S.T x = some s) : ∃ a, A x = some a := by
  cases ha : A x with
  | none => have := h.no x ha; rw [hs] at this; cases this
  | some a => exact ⟨a, rfl⟩
set_option maxRecDepth 100000 in
set_option maxHeartbeats 8000000 in
theorem step_out {w : World} {B t mb c : Nat} {p : Option Addr} {A : Int → Option Nat} {es : List Ev} {S : PS} (hT : Tell w B t mb p c A es S) (i : Nat) (d : Di) (pd : PD) (hd : DiR (RdW w B) d pd) (hok : pd.c.ok ∧ pd.a.ok) (hl : es.length ≤ i) (hi : i < 4096)
    (hev : ∀ x s, S.T x = some s → ∃ q, S.es[s.event]? = some q) (hout : pd.step < 1 ∨ 7 < pd.step ∨ pd.task < 0 ∨ 9999 < pd.task) :
    Calls Try.prog 26 #[.pointer (some ⟨t, 0, none⟩), .int .i64 i, d.agg] w fun e w' => e = .returned (.bool (pstep i pd S).isSome) ∧ Below B w w' ∧ ∀ S', pstep i pd S = some S' → ∃ p' c' A' es', Tell w' B t mb p' c' A' es' S' := by
  have HWB : Hid (B ≤ w.heap.size) := Lib.hid (by have := hT.bt; have := hT.blk.lt; omega)
  have HDR := Lib.hid (fun (w' : World) (hb : Below B w w') => hd.imp (fun t p xs h => (show Rd w' w'.heap.size p xs from (Rd.below h hb).more (Nat.le_trans HWB.out hb.size))))
  have HEVX := Lib.hid hev
  clear hd hev
  obtain ⟨task, step, stripe, waits, next, vq, vn, vc, mk, op, key, oth, item, qty, dq, dn, dc, aop, aerr, acnt, lq, ln, lc, bq, bn, bc⟩ := d
  obtain ⟨pt, ps, pm, pc, pa⟩ := pd
  obtain ⟨hq1, hq2, hq3, -, -⟩ := HDR.out w (Below.refl _ _)
  simp only at hq1 hq2 hq3 hok hout
  subst hq1 hq2 hq3
  have HOK := Lib.hid hok
  have HT0 := Lib.hid hT
  have HL := Lib.hid hl
  clear hok hT hl
  simp only [Di.agg]
  go_enter Try.func26, Try.ntmps26
  go_upto_region 1 with fail
  have HBX := Lib.hid (Blk.new w 51 [.int .i64 task, .int .i64 step, .int .i64 stripe, .bool waits, .int .i64 next, .slice vq vn vc, .bool mk, .int .i64 op, .string key, .string oth, .string item, .int .i64 qty, .slice dq dn dc, .int .i64 aop, .int .i64 aerr, .int .i64 acnt, .slice lq ln lc, .slice bq bn bc])
  have HB1 := Lib.hid (below_al (Below.refl w.heap.size w) (.cells #[.int .i64 task, .int .i64 step, .int .i64 stripe, .bool waits, .int .i64 next, .slice vq vn vc, .bool mk, .int .i64 op, .string key, .string oth, .string item, .int .i64 qty, .slice dq dn dc, .int .i64 aop, .int .i64 aerr, .int .i64 acnt, .slice lq ln lc, .slice bq bn bc] 51))
  have HT1 := Lib.hid (HT0.out.kept HB1.out)
  generalize w.alloc (.cells #[.int .i64 task, .int .i64 step, .int .i64 stripe, .bool waits, .int .i64 next, .slice vq vn vc, .bool mk, .int .i64 op, .string key, .string oth, .string item, .int .i64 qty, .slice dq dn dc, .int .i64 aop, .int .i64 aerr, .int .i64 acnt, .slice lq ln lc, .slice bq bn bc] 51) = w1 at *
  obtain ⟨z, hz⟩ : ∃ z, w.heap.size = z := ⟨_, rfl⟩
  rw [hz] at HBX ⊢
  clear hz
  replace HB1 := Lib.hid (HB1.out.mono HWB.out)
  have b0 := HBX.out.got 0 _ rfl
  have b1 := HBX.out.got 1 _ rfl
  have HR : Hid (pstep i ⟨task, step, mk, pc, pa⟩ S = none) := Lib.hid (by simp [pstep, hout])
  rcases hout with g | g | g | g
  · have g := g
    go_wp2_with fail
    go_ret
    exact ⟨by rw [HR.out]; rfl, HB1.out, fun S' hS' => by rw [HR.out] at hS'; cases hS'⟩
  · have g1 : 1 ≤ step := by omega
    go_wp2_with fail
    go_ret
    exact ⟨by rw [HR.out]; rfl, HB1.out, fun S' hS' => by rw [HR.out] at hS'; cases hS'⟩
  · by_cases g1 : step < 1
    · have g1 := g1
      go_wp2_with fail
      go_ret
      exact ⟨by rw [HR.out]; rfl, HB1.out, fun S' hS' => by rw [HR.out] at hS'; cases hS'⟩
    · have g1 : 1 ≤ step := by omega
      by_cases g2 : 7 < step
      · have g2 := g2
        go_wp2_with fail
        go_ret
        exact ⟨by rw [HR.out]; rfl, HB1.out, fun S' hS' => by rw [HR.out] at hS'; cases hS'⟩
      · have g2 : step ≤ 7 := by omega
        go_wp2_with fail
        go_ret
        exact ⟨by rw [HR.out]; rfl, HB1.out, fun S' hS' => by rw [HR.out] at hS'; cases hS'⟩
  · by_cases g1 : step < 1
    · have g1 := g1
      go_wp2_with fail
      go_ret
      exact ⟨by rw [HR.out]; rfl, HB1.out, fun S' hS' => by rw [HR.out] at hS'; cases hS'⟩
    · have g1 : 1 ≤ step := by omega
      by_cases g2 : 7 < step
      · have g2 := g2
        go_wp2_with fail
        go_ret
        exact ⟨by rw [HR.out]; rfl, HB1.out, fun S' hS' => by rw [HR.out] at hS'; cases hS'⟩
      · have g2 : step ≤ 7 := by omega
        have g3 : 0 ≤ task := by omega
        go_wp2_with fail
        go_ret
        exact ⟨by rw [HR.out]; rfl, HB1.out, fun S' hS' => by rw [HR.out] at hS'; cases hS'⟩
end Go.Proofs.Ytbkkplednfdfdaa
