/- The history of a trace. Printed by hist_k.py. -/
import Derived.Test.YtbkkplednfdfdaaStepD
namespace Go.Proofs.Ytbkkplednfdfdaa
open Go.RowKit Go.Maps

def prun : Nat → List PD → PS → Option PS
  | _, [], S => some S
  | i, d :: l, S => match pstep i d S with
    | none => none
    | some S' => prun (i + 1) l S'
def PS.nil : PS := ⟨fun _ => none, []⟩
def pof (l : List PD) : List PE × Int :=
  if 4096 < l.length then ([], 5)
  else match prun 0 l PS.nil with
    | none => ([], 2)
    | some S => (S.es, 0)
theorem pans_len {i : Nat} {d : PD} {s1 : TS} {x1 : PE} {S1 S2 : PS} (h : pans i d s1 x1 S1 = some S2) : S2.es.length = S1.es.length := by
  unfold pans at h
  split at h
  · injection h with h
    subst h
    simp
  · cases h
theorem pmade_len {i : Nat} {d : PD} {s1 : TS} {x1 : PE} {S1 S2 : PS} (h : pmade i d s1 x1 S1 = some S2) : S2.es.length = S1.es.length := by
  unfold pmade at h
  split at h
  · injection h with h
    subst h
    simp
  · cases h
theorem pbegin_len {i : Nat} {d : PD} {S1 S2 : PS} (h : pbegin i d S1 = some S2) : S2.es.length = S1.es.length + 1 := by
  obtain ⟨_, _, _, _, h⟩ := pbegin_some h
  exact h
theorem pstep_len {i : Nat} {d : PD} {S S' : PS} (h : pstep i d S = some S') : S'.es.length ≤ S.es.length + 1 := by
  unfold pstep at h
  split at h
  · cases h
  split at h
  · cases h
  split at h
  · cases h
  rename_i S1 h1
  have l1 : S1.es.length ≤ S.es.length + 1 := by
    split at h1
    · rw [pbegin_len h1]; omega
    · injection h1 with h1; subst h1; omega
  split at h
  · cases h
  split at h
  · cases h
  split at h
  · cases h
  rename_i S2 h2
  have l2 : S2.es.length = S1.es.length := by
    split at h2
    · exact pmade_len h2
    · injection h2 with h2; subst h2; rfl
  split at h
  · cases h
  split at h
  · have := pans_len h; omega
  · injection h with h; subst h; omega
theorem Tell.hev {w : World} {B t mb c : Nat} {p : Option Addr} {A : Int → Option Nat} {es : List Ev} {S : PS} (h : Tell w B t mb p c A es S) : ∀ x s, S.T x = some s → ∃ q, S.es[s.event]? = some q := by
  intro x s hs
  obtain ⟨a, ha⟩ := h.ptr hs
  obtain ⟨s', h1, -, -, h2⟩ := h.st x a ha
  rw [hs] at h1
  injection h1 with h1
  subst h1
  exact ⟨_, List.getElem?_eq_getElem (by rw [← h.len]; exact h2)⟩
/-- What Of returns, in memory. -/
def RetOf (w : World) (l : List PD) (e : Ending) (w' : World) : Prop :=
  Below w.heap.size w w' ∧ ∃ q c' es, e = .returned (.tuple #[.slice q es.length c', .int .i64 (pof l).2]) ∧ w'.ownsRow w.heap.size 41 15 (.slice q es.length c') es.length (evs es) ∧ es.length = (pof l).1.length ∧
    ∀ (i : Nat) (x : Ev) (r : PE), es[i]? = some x → (pof l).1[i]? = some r → EvR (RdD w' w.heap.size) x r
theorem RetOf.bad {w w' : World} {l : List PD} {no : Int} (hb : Below w.heap.size w w') (h : pof l = ([], no)) : RetOf w l (.returned (.tuple #[.slice none 0 0, .int .i64 no])) w' :=
  ⟨hb, none, 0, [], by rw [h]; rfl, World.ownsRow_nil _ _ _ _, by rw [h]; rfl, fun i x r hx => by simp at hx⟩
theorem Tell.first {w : World} : Tell ((w.alloc (.map #[] 0)).alloc (.cells #[.map (some w.heap.size), .slice none 0 0] 62)) w.heap.size (w.heap.size + 1) w.heap.size none 0 (fun _ => none) [] PS.nil := by
  have hm : Mp ((w.alloc (.map #[] 0)).alloc (.cells #[.map (some w.heap.size), .slice none 0 0] 62)) w.heap.size 0 (ptrs (fun _ => none)) := (Mp.new w).kept (below_al (Below.refl _ _) (.cells #[.map (some w.heap.size), .slice none 0 0] 62))
  refine ⟨by omega, Nat.le_refl _, Blk.new' _ 62 _ (by simp), World.ownsRow_nil _ _ _ _, ⟨0, hm⟩, ?_, fun x _ => rfl, ?_, rfl, ?_⟩
  · intro x a h; cases h
  · intro x y a h; cases h
  · intro i x p hx; simp at hx
set_option maxRecDepth 100000 in
set_option maxHeartbeats 4000000 in
theorem of_any (w : World) (p : Option Addr) (c : Nat) (ds : List Di) (l : List PD) (h : Rd w w.heap.size p (dis ds)) (hn : ds.length = l.length) (hc : ds.length ≤ c) (hl : l.length ≤ 1000000)
    (hd : ∀ (j : Nat) (d : Di) (q : PD), ds[j]? = some d → l[j]? = some q → DiR (RdW w w.heap.size) d q ∧ q.c.ok ∧ q.a.ok) :
    Calls Try.prog 9 #[.slice p ds.length c] w (RetOf w l) := by
  have HR := Lib.hid h
  have HD := Lib.hid hd
  have HNL := Lib.hid hn
  by_cases hbig : 4096 < l.length
  · have HP : Hid (pof l = ([], 5)) := Lib.hid (by simp [pof, hbig])
    obtain ⟨n, hn9⟩ : ∃ n, ds.length = n := ⟨_, rfl⟩
    rw [hn9] at hn hc ⊢
    have hbi : (4096 : Int) < (n : Int) := by omega
    clear h hd hn hn9 hbig
    go_enter Try.func9, Try.ntmps9
    go_wp2_with fail
    go_ret2
    exact RetOf.bad (Below.refl _ _) HP.out
  · have HP : Hid (pof l = match prun 0 l PS.nil with | none => ([], 2) | some S => (S.es, 0)) := Lib.hid (by simp [pof, hbig])
    obtain ⟨n, hn9⟩ : ∃ n, ds.length = n := ⟨_, rfl⟩
    have HN := Lib.hid hn9
    rw [hn9] at hn hc ⊢
    have hbi : (n : Int) ≤ 4096 := by omega
    have hbn : n ≤ 4096 := by omega
    have HLN := Lib.hid (show l.length = n by omega)
    have hmk := fun w => run_makeMap (P := Try.prog) 60 w
    clear h hd hn hn9 hbig hl
    go_enter Try.func9, Try.ntmps9
    go_upto_region 4 with fail
    have HT0 := Lib.hid (Tell.first (w := w))
    have HB0 := Lib.hid (below_al (below_al (Below.refl w.heap.size w) (.map #[] 0)) (.cells #[.map (some w.heap.size), .slice none 0 0] 62))
    generalize (w.alloc (.map #[] 0)).alloc (.cells #[.map (some w.heap.size), .slice none 0 0] 62) = w1 at *
    obtain ⟨mb, hmb⟩ : ∃ mb, w.heap.size = mb := ⟨_, rfl⟩
    obtain ⟨t, ht⟩ : ∃ t, w.heap.size + 1 = t := ⟨_, rfl⟩
    have HMB := Lib.hid hmb
    have HTT : Hid (Tell w1 w.heap.size t mb none 0 (fun _ => none) [] PS.nil) := Lib.hid (by rw [← ht, ← hmb]; exact HT0.out)
    have ht2 : mb + 1 = t := by omega
    rw [hmb, ht2]
    clear HT0 hmb ht ht2
    go_wp2_with fail
    go_loopw [15] (fun i wr => ∃ (k : Nat) (p' : Option Addr) (c' : Nat) (A : Int → Option Nat) (es : List Ev) (S : PS), k ≤ n ∧ i = .int .i64 k ∧ Hid (Tell wr w.heap.size t mb p' c' A es S ∧ prun 0 l PS.nil = prun k (l.drop k) S ∧ es.length ≤ k ∧ Below w.heap.size w wr)) (fun i _ => n - (intOf i).toNat)
    case atStart => exact ⟨0, none, 0, fun _ => none, [], PS.nil, Nat.zero_le _, rfl, Lib.hid ⟨HTT.out, rfl, Nat.le_refl _, HB0.out⟩⟩
    case round =>
      obtain ⟨k, p', c', A, es, S, hk, rfl, HI⟩ := hrel
      by_cases hlt : k < n
      · have hki : (k : Int) < (n : Int) := by omega
        have hk2 : k < ds.length := by rw [HN.out]; exact hlt
        have hk3 : k < l.length := by rw [HLN.out]; exact hlt
        obtain ⟨b, o, rfl, hb, hc9⟩ := dis_rd HR.out hk2
        have hdd := HD.out k _ _ (List.getElem?_eq_getElem hk2) (List.getElem?_eq_getElem hk3)
        have HPR := Lib.hid (show prun 0 l PS.nil = match pstep k l[k] S with | none => none | some S' => prun (k + 1) (l.drop (k + 1)) S' by rw [HI.out.2.1, List.drop_eq_getElem_cons hk3]; rfl)
        obtain ⟨d, hd⟩ : ∃ d, ds[k] = d := ⟨_, rfl⟩
        obtain ⟨q, hq⟩ : ∃ q, l[k] = q := ⟨_, rfl⟩
        rw [hd] at hc9 hdd
        rw [hq] at hdd HPR
        have HX := Lib.hid (show ∀ i u, d.cells[i]? = some u → wr.cell? ⟨b, o + k * 18 + i, none⟩ = some u from fun i u hu => (HI.out.2.2.2.cell (p := ⟨b, o + k * 18 + i, none⟩) hb).trans (hc9 i u hu))
        have HDD := Lib.hid hdd
        obtain ⟨task, step, stripe, waits, next, vq, vn, vc, mk, op, key, oth, item, qty, dq, dn, dc, aop, aerr, acnt, lq, ln, lc, bq, bn, bc⟩ := d
        have HBA := Lib.hid (below_al (Below.refl wr.heap.size wr) (.cells #[.int .i64 task, .int .i64 step, .int .i64 stripe, .bool waits, .int .i64 next, .slice vq vn vc, .bool mk, .int .i64 op, .string key, .string oth, .string item, .int .i64 qty, .slice dq dn dc, .int .i64 aop, .int .i64 aerr, .int .i64 acnt, .slice lq ln lc, .slice bq bn bc] 51))
        have HBB := Lib.hid (HI.out.2.2.2.trans (HBA.out.mono HI.out.2.2.2.size))
        have HTA := Lib.hid (HI.out.1.kept HBA.out)
        have HC : Hid (Calls Try.prog 26 #[.pointer (some ⟨t, 0, none⟩), .int .i64 k, .agg #[.int .i64 task, .int .i64 step, .int .i64 stripe, .bool waits, .int .i64 next, .slice vq vn vc, .bool mk, .int .i64 op, .string key, .string oth, .string item, .int .i64 qty, .slice dq dn dc, .int .i64 aop, .int .i64 aerr, .int .i64 acnt, .slice lq ln lc, .slice bq bn bc]] (wr.alloc (.cells #[.int .i64 task, .int .i64 step, .int .i64 stripe, .bool waits, .int .i64 next, .slice vq vn vc, .bool mk, .int .i64 op, .string key, .string oth, .string item, .int .i64 qty, .slice dq dn dc, .int .i64 aop, .int .i64 aerr, .int .i64 acnt, .slice lq ln lc, .slice bq bn bc] 51)) fun e w' => e = .returned (.bool (pstep k q S).isSome) ∧ Below w.heap.size (wr.alloc (.cells #[.int .i64 task, .int .i64 step, .int .i64 stripe, .bool waits, .int .i64 next, .slice vq vn vc, .bool mk, .int .i64 op, .string key, .string oth, .string item, .int .i64 qty, .slice dq dn dc, .int .i64 aop, .int .i64 aerr, .int .i64 acnt, .slice lq ln lc, .slice bq bn bc] 51)) w' ∧ ∀ S', pstep k q S = some S' → ∃ p' c' A' es', Tell w' w.heap.size t mb p' c' A' es' S') :=
          Lib.hid (step_any HTA.out k ⟨task, step, stripe, waits, next, vq, vn, vc, mk, op, key, oth, item, qty, dq, dn, dc, aop, aerr, acnt, lq, ln, lc, bq, bn, bc⟩ q (HDD.out.1.imp (fun t p xs h => Rd.below h HBB.out)) HDD.out.2 HI.out.2.2.1 (by omega) HTA.out.hev)
        have HRG1 := Lib.hid (show wr.rangeAt b (o + k * 18) [.int .i64 task, .int .i64 step, .int .i64 stripe, .bool waits, .int .i64 next, .slice vq vn vc, .bool mk, .int .i64 op, .string key, .string oth, .string item, .int .i64 qty, .slice dq dn dc, .int .i64 aop, .int .i64 aerr, .int .i64 acnt, .slice lq ln lc, .slice bq bn bc] from fun j v hv => HX.out j v hv)
        have HRG2 := Lib.hid (Blk.new wr 51 [.int .i64 task, .int .i64 step, .int .i64 stripe, .bool waits, .int .i64 next, .slice vq vn vc, .bool mk, .int .i64 op, .string key, .string oth, .string item, .int .i64 qty, .slice dq dn dc, .int .i64 aop, .int .i64 aerr, .int .i64 acnt, .slice lq ln lc, .slice bq bn bc]).range
        clear hk2 hk3 hc9 hdd hd hq hb
        go_wp2_with (first | refine wpList_ld rfl 51 (.tmp 18) rfl b (o + k * 18) rfl #[.int .i64 task, .int .i64 step, .int .i64 stripe, .bool waits, .int .i64 next, .slice vq vn vc, .bool mk, .int .i64 op, .string key, .string oth, .string item, .int .i64 qty, .slice dq dn dc, .int .i64 aop, .int .i64 aerr, .int .i64 acnt, .slice lq ln lc, .slice bq bn bc] [.int .i64 task, .int .i64 step, .int .i64 stripe, .bool waits, .int .i64 next, .slice vq vn vc, .bool mk, .int .i64 op, .string key, .string oth, .string item, .int .i64 qty, .slice dq dn dc, .int .i64 aop, .int .i64 aerr, .int .i64 acnt, .slice lq ln lc, .slice bq bn bc] rfl _ HRG1.out Try.underlying51 rfl info51 ?_ | refine wpList_ld rfl 51 (.tmp 6) rfl wr.heap.size 0 rfl #[.int .i64 task, .int .i64 step, .int .i64 stripe, .bool waits, .int .i64 next, .slice vq vn vc, .bool mk, .int .i64 op, .string key, .string oth, .string item, .int .i64 qty, .slice dq dn dc, .int .i64 aop, .int .i64 aerr, .int .i64 acnt, .slice lq ln lc, .slice bq bn bc] [.int .i64 task, .int .i64 step, .int .i64 stripe, .bool waits, .int .i64 next, .slice vq vn vc, .bool mk, .int .i64 op, .string key, .string oth, .string item, .int .i64 qty, .slice dq dn dc, .int .i64 aop, .int .i64 aerr, .int .i64 acnt, .slice lq ln lc, .slice bq bn bc] rfl _ HRG2.out Try.underlying51 rfl info51 ?_)
        refine HC.out.mono ?_
        rintro e w3 ⟨rfl, hb3, ht3⟩
        cases hp : pstep k q S with
        | none =>
          have HPF := Lib.hid (show pof l = ([], 2) by rw [HP.out, HPR.out, hp])
          have HB3 := Lib.hid (HBB.out.trans hb3)
          simp only [Option.isSome]
          clear hp hb3 ht3 HRG1 HRG2
          go_wp2_with fail
          go_ret2
          exact RetOf.bad HB3.out HPF.out
        | some S3 =>
          have HB3 := Lib.hid (HBB.out.trans hb3)
          have HPF := Lib.hid (show prun 0 l PS.nil = prun (k + 1) (l.drop (k + 1)) S3 by rw [HPR.out, hp])
          have HL3 := Lib.hid (pstep_len hp)
          obtain ⟨p3, c3, A3, es3, hT3⟩ := ht3 S3 hp
          have HT3 := Lib.hid hT3
          simp only [Option.isSome]
          clear hp hb3 ht3 hT3 HRG1 HRG2
          go_wp2_with fail
          go_roundw
          case rel => exact ⟨k + 1, p3, c3, A3, es3, S3, by omega, by go_num, Lib.hid ⟨HT3.out, HPF.out, by have h1 := HL3.out; have h2 := HT3.out.len; have h3 := HTA.out.len; have h4 := HI.out.2.2.1; omega, HB3.out⟩⟩
          case measure => simp [intOf]; omega
      · have hkn : k = n := by omega
        subst hkn
        have HPF := Lib.hid (show pof l = (S.es, 0) by rw [HP.out, HI.out.2.1, ← HLN.out, List.drop_length]; rfl)
        have t1 := HI.out.1.blk.got 1 _ rfl
        go_wp2_with fail
        go_ret2
        exact ⟨HI.out.2.2.2, p', c', es, by rw [HPF.out]; rfl, HI.out.1.own, by rw [HPF.out]; exact HI.out.1.len, fun i x r hx hr => HI.out.1.ev i x r hx (by rw [HPF.out] at hr; exact hr)⟩
end Go.Proofs.Ytbkkplednfdfdaa
