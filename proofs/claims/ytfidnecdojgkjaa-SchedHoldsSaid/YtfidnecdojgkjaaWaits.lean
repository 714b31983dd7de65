/- Calls for each task that waits. -/
import Derived.Test.YtfidnecdojgkjaaTurns
import Derived.Test.YtfidnecdojgkjaaObj
namespace Go.Proofs.Ytfidnecdojgkjaa
open Go.RowKit

theorem Fr.belowB {S : Nat → Prop} {w w' : World} {B : Nat} (h : Fr S w w') (hB : B ≤ w.heap.size) (hS : ∀ b, S b → B ≤ b) : Below B w w' :=
  ⟨h.os, h.tape, h.output, h.size, fun i hi => h.block i (by omega) (fun hs => by have := hS i hs; omega)⟩
theorem wraps_i64 (n : Int) (h₀ : -9223372036854775808 ≤ n) (h₁ : n < 9223372036854775808) : IntKind.i64.wrap n = n := by
  rw [IntKind.wrap_i64]; omega
theorem nowF_get {g : Int → Nat} {t : Tn} {k : Nat} (hk : k < t.en.length) (h : t.en[k] ≠ t.pk) : (nowF g t (k + 1) t.en[k]).getD (.int .i64 0) = .int .i64 ((g t.en[k] : Int) + 1) := by
  rw [← nowF_step hk h]; simp
set_option maxRecDepth 100000 in
set_option maxHeartbeats 4000000 in
theorem waits_any {σ : Type} (f : σ → Nat → Int → Nat → σ × Bool) (s0 : σ) (Inv : σ → World → Prop) (S : Nat → Prop) (F : Nat) (x1 x2 : Value) (B : Nat) {w : World} (p : Option Addr) (c : Nat) (l : List Tp)
    (hr : TR w B p l) (hB : B ≤ w.heap.size) (hS : ∀ b, S b → B ≤ b ∧ b < w.heap.size) (hl : l.length ≤ 1000000) (hok : ∀ x ∈ l, ∀ y ∈ x.en, 0 ≤ y ∧ y ≤ 9999) (hs : Inv s0 w)
    (hin : ∀ args w, (callFunc F args).run Try.prog w = .ok (.enter F args) w)
    (hI : ∀ s (w1 w2 : World), Inv s w1 → (∀ b, S b → w2.heap[b]? = w1.heap[b]?) → Inv s w2)
    (hc : ∀ s (w1 : World) (k : Nat) (x : Int) (n : Nat), Inv s w1 → k ≤ 1000000 → n ≤ 1000001 → Calls Try.prog F #[.int .i64 k, .int .i64 x, .int .i64 n, x1, x2] w1 fun e w2 => e = .returned (.bool (f s k x n).2) ∧ Inv (f s k x n).1 w2 ∧ Fr S w1 w2) :
    Calls Try.prog 36 #[.slice p l.length c, .func (.func F) #[] #[x1, x2]] w fun e w' => e = .returned (.tuple #[]) ∧ Inv (waitF f s0 (l.map Tp.tn)).1 w' ∧ Fr S w w' := by
  have HR := Lib.hid hr
  have HS := Lib.hid hS
  have HOK := Lib.hid hok
  have HI := Lib.hid hI
  have HC := Lib.hid hc
  have HBB := Lib.hid hB
  obtain ⟨T, hT⟩ : ∃ T, l.map Tp.tn = T := ⟨_, rfl⟩
  have HTL := Lib.hid (show T.length = l.length by rw [← hT, tn_len])
  have HTA : Hid (∀ k (hk : k < l.length) (hk' : k < T.length), T[k] = ⟨(l[k]).en, (l[k]).pk⟩) := Lib.hid (fun k hk hk' => by subst hT; exact tn_at l hk)
  rw [hT]
  have HUA := Lib.hid (upTo_all (f := f) (s0 := s0) T)
  have HUS := Lib.hid (fun (k m : Nat) (hkm : k ≤ m) (h : (upTo f s0 T k).2 = false) => upTo_stop (f := f) (s0 := s0) (T := T) hkm h)
  have HU0 := Lib.hid (show Inv (upTo f s0 T 0).1 w from hs)
  obtain ⟨n, hn⟩ : ∃ n, l.length = n := ⟨_, rfl⟩
  rw [hn] at hl ⊢
  have HN := Lib.hid hn
  have hmk := fun w => run_makeMap (P := Try.prog) 64 w
  obtain ⟨wa, hwa⟩ : ∃ wa, w.alloc (.map #[] 0) = wa := ⟨_, rfl⟩
  have HM0 := Lib.hid (show Mp wa w.heap.size 0 (wtF (T.take 0)) by rw [← hwa, List.take_zero, wtF_nil]; exact Mp.new w)
  have HB0 := Lib.hid (show Below w.heap.size w wa by rw [← hwa]; exact (Below.refl _ _).alloc (Nat.le_refl _) _)
  have HWZ := Lib.hid (show wa.heap.size = w.heap.size + 1 by rw [← hwa]; simp)
  clear hr hS hok hI hc hs hn hT hB
  go_enter Try.func36, Try.ntmps36
  go_wp2_with fail
  go_loopw [4, 13] (fun v i wr => ∃ (k b N : Nat), k ≤ n ∧ i = .int .i64 k ∧ v = .map (some b) ∧ w.heap.size ≤ b ∧ Hid (Mp wr b N (wtF (T.take k))) ∧ Hid (Inv (upTo f s0 T k).1 wr) ∧ Hid ((upTo f s0 T k).2 = true) ∧ Hid (Fr S w wr)) (fun _ i _ => n - (intOf i).toNat)
  case atStart =>
    refine ⟨0, w.heap.size, 0, Nat.zero_le _, rfl, rfl, Nat.le_refl _, HM0, Lib.hid (HI.out _ _ _ HU0.out (fun b hb => HB0.out.block b (HS.out b hb).2)), Lib.hid rfl, Lib.hid (Fr.of_below HB0.out S)⟩
  case round =>
    obtain ⟨k, b, N, hk, rfl, rfl, hbw, HM, HIn, HG, HF⟩ := hrel
    by_cases hlt : k < n
    · have hki : (k : Int) < (n : Int) := by omega
      have hlt2 : k < l.length := by rw [HN.out]; exact hlt
      have hTB := HR.out.below (HF.out.belowB HBB.out (fun b hb => (HS.out b hb).1))
      obtain ⟨bt, ot, rfl, hbt, hc0, hc1, hrd, hel⟩ := hTB.at_ hlt2
      have hTk := HTA.out k hlt2 (by rw [HTL.out]; exact hlt2)
      have hokx := HOK.out _ (List.getElem_mem hlt2)
      have hUS := upTo_succ (f := f) (s0 := s0) T k
      rw [getD_tn (by rw [HTL.out]; exact hlt2), hTk] at hUS
      have hGS := gAt_snoc (T.take k) ⟨(l[k]).en, (l[k]).pk⟩
      have hWS : wtF (T.take (k + 1)) = nowF (gAt (T.take k)) ⟨(l[k]).en, (l[k]).pk⟩ (l[k]).en.length := by
        rw [List.take_succ_eq_append_getElem (by rw [HTL.out]; exact hlt2), hTk]
        exact (nowF_all _ _).symm
      have hrw := (HR.out.2 _ (List.getElem_mem hlt2)).1
      obtain ⟨x, hx⟩ : ∃ x, l[k] = x := ⟨_, rfl⟩
      rw [hx] at hrw
      rw [hx] at hc0 hc1 hrd hel hokx hUS hGS hWS
      obtain ⟨q, d, en, pk⟩ := x
      simp only at hc0 hc1 hrd hel hokx hUS hrw hGS hWS
      have hgle := gAt_le (T.take k)
      rw [List.length_take] at hgle
      have HQ : Hid (∀ x, (wtF (T.take k) x).getD (.int .i64 0) = .int .i64 (gAt (T.take k) x)) := Lib.hid (wtF_getD _)
      obtain ⟨g, hg⟩ : ∃ g, gAt (T.take k) = g := ⟨_, rfl⟩
      obtain ⟨W0, hW0⟩ : ∃ g, wtF (T.take k) = g := ⟨_, rfl⟩
      rw [hg] at hUS hWS hgle HQ
      rw [hW0] at HQ HM
      have HGL : Hid (∀ x, g x ≤ 1000000) := Lib.hid (fun x => by have := hgle x; omega)
      obtain ⟨st, hst⟩ : ∃ st, upTo f s0 T k = st := ⟨_, rfl⟩
      rw [hst] at hUS HIn HG
      have HUS1 := Lib.hid hUS
      have HWS := Lib.hid hWS
      have HOX := Lib.hid hokx
      have HEL := Lib.hid hel
      have HRD := Lib.hid hrw
      obtain ⟨m, hm⟩ : ∃ m, en.length = m := ⟨_, rfl⟩
      rw [hm] at hc0 hel HWS
      have HM' := Lib.hid hm
      have hmm : m ≤ 1000000 := hel
      obtain ⟨wb, hwb⟩ : ∃ wb, (wr.alloc (.cells #[.slice q m d, .int .i64 pk] 44)).alloc (.map #[] 0) = wb := ⟨_, rfl⟩
      have HBb := Lib.hid (show Below wr.heap.size wr wb by rw [← hwb]; exact ((Below.refl _ _).alloc (Nat.le_refl _) _).alloc (by simp) _)
      have HBk := Lib.hid (show Blk wb wr.heap.size 44 [.slice q m d, .int .i64 pk] by rw [← hwb]; exact (Blk.new wr 44 _).alloc _)
      have HMn := Lib.hid (show Mp wb (wr.heap.size + 1) 0 (nowF g ⟨en, pk⟩ 0) by
        rw [← hwb, nowF_zero]
        have := Mp.new (wr.alloc (.cells #[.slice q m d, .int .i64 pk] 44))
        rwa [show (wr.alloc (.cells #[.slice q m d, .int .i64 pk] 44)).heap.size = wr.heap.size + 1 by simp] at this)
      have HSZ := Lib.hid (show w.heap.size ≤ wr.heap.size from HF.out.size)
      have HMlt := Lib.hid HM.out.lt
      have f0 := HBk.out.cell 0
      have f1 := HBk.out.cell 1
      simp only [List.getElem?_cons_zero, List.getElem?_cons_succ] at f0 f1
      clear hrw hTB hrd hel hTk hokx hUS hGS hWS hx hgle hg hW0 hm hlt2 hst
      obtain ⟨z, hz⟩ : ∃ z, wr.heap.size = z := ⟨_, rfl⟩
      rw [hz] at HBk HMn f0 f1 HSZ HMlt HBb
      have HZ := Lib.hid hz
      go_wp2_with fail
      clear hz f0 f1
      go_loopw [22] (fun i wq => ∃ (j M : Nat), j ≤ m ∧ i = .int .i64 j ∧ Hid (Mp wq (z + 1) M (nowF g ⟨en, pk⟩ j)) ∧ Hid (Mp wq b N W0) ∧ Hid (Blk wq z 44 [.slice q m d, .int .i64 pk]) ∧ Hid (Inv ((en.take j).foldl (stF f k g ⟨en, pk⟩) st).1 wq) ∧ Hid (((en.take j).foldl (stF f k g ⟨en, pk⟩) st).2 = true) ∧ Hid (Fr S w wq)) (fun i _ => m - (intOf i).toNat)
      case atStart =>
        exact ⟨0, 0, Nat.zero_le _, rfl, HMn, Lib.hid (HM.out.kept (by rw [HZ.out]; exact HBb.out)), HBk, Lib.hid (HI.out _ _ _ HIn.out (fun b' hb' => HBb.out.block b' (by have := (HS.out b' hb').2; have := HSZ.out; omega))), HG, Lib.hid (HF.out.step (by rw [HZ.out]; exact HBb.out))⟩
      case round =>
        clear hwb HBb HMn HM HIn HF HBk
        obtain ⟨j, M, hj, rfl, HMn, HM, HBk, HI2, HG2, HF2⟩ := hrel
        have e0 := HBk.out.cell 0
        have e1 := HBk.out.cell 1
        simp only [List.getElem?_cons_zero, List.getElem?_cons_succ] at e0 e1
        by_cases hjt : j < m
        · have hji : (j : Int) < (m : Int) := by omega
          have hj2 : j < en.length := by rw [HM'.out]; exact hjt
          obtain ⟨bb, oo, rfl, hbb, hcj⟩ := (HRD.out.below (HF2.out.belowB HBB.out (fun b hb => (HS.out b hb).1))).int hj2
          have HT := Lib.hid (turn_take (f := f) (k := k) (g := g) (t := ⟨en, pk⟩) (s := st) hj2)
          have HNS := Lib.hid (fun h => nowF_skip (g := g) (t := ⟨en, pk⟩) hj2 h)
          have HNP := Lib.hid (fun h => nowF_step (g := g) (t := ⟨en, pk⟩) hj2 h)
          have HNG := Lib.hid (fun h => nowF_get (g := g) (t := ⟨en, pk⟩) hj2 h)
          have hxr := HOX.out en[j] (List.getElem_mem hj2)
          have HTR := Lib.hid (fun h => turn_rest (f := f) (k := k) (g := g) (t := ⟨en, pk⟩) (s := st) (j := j + 1) h)
          obtain ⟨x, hx⟩ : ∃ x, en[j] = x := ⟨_, rfl⟩
          simp only [hx] at hcj HT HNS HNP HNG hxr
          obtain ⟨s1, hs1⟩ : ∃ s1, (en.take j).foldl (stF f k g ⟨en, pk⟩) st = s1 := ⟨_, rfl⟩
          rw [hs1] at HI2 HG2 HT
          clear hs1 hx hj2
          by_cases hxp : x = pk
          · have hb : (x == pk) = true := by simpa using hxp
            have HT2 := Lib.hid (HT.out.trans (if_pos (.inr hxp)))
            have HNS2 := Lib.hid (HNS.out hxp)
            clear hxp hxr
            go_wp2_with fail
            go_roundw
            case rel => exact ⟨j + 1, M, by omega, by go_num, by rw [HNS2.out]; exact HMn, HM, HBk, by rw [HT2.out]; exact HI2, by rw [HT2.out]; exact HG2, HF2⟩
            case measure => simp [intOf]; omega
          · have hb : (x == pk) = false := by simpa using hxp
            have HT2 := Lib.hid (HT.out.trans (if_neg (fun h => h.elim (fun h => by rw [HG2.out] at h; cases h) hxp)))
            have HNP2 := Lib.hid (HNP.out hxp)
            have HNG2 := Lib.hid (HNG.out hxp)
            have hl1 := look64 HM.out x (by omega) (by omega)
            rw [HQ.out] at hl1
            have hgx := HGL.out x
            obtain ⟨v, hv⟩ : ∃ v, g x = v := ⟨_, rfl⟩
            rw [hv] at hl1 HT2 HNG2 HNP2 hgx
            obtain ⟨w3, hput, hm3, hf3⟩ := HMn.out.put (P := Try.prog) (t := 64) (e := 3) under3 under64 x (wf_of (by omega) (by omega)) (.int .i64 ((v : Int) + 1))
            have hm3' : Mp w3 (z + 1) (M + 1) (nowF g ⟨en, pk⟩ (j + 1)) := by rw [← HNP2.out]; exact hm3
            have hl2 := look64 hm3' x (by omega) (by omega)
            rw [HNG2.out] at hl2
            have HM3 := Lib.hid hm3'
            have HF3 := Lib.hid hf3
            have HM3b := Lib.hid (HM.out.fr hf3 (by have := HMlt.out; omega))
            have HBk3 := Lib.hid (HBk.out.fr hf3 (by omega))
            have HI3 := Lib.hid (HI.out _ _ w3 HI2.out (fun b' hb' => hf3.block b' (by have := (HS.out b' hb').2; have := HSZ.out; have := HF2.out.size; omega) (by have := (HS.out b' hb').2; have := HSZ.out; omega)))
            have HF3b := Lib.hid (HF2.out.trans hf3 (fun b' hb' => .inr (by have := HSZ.out; omega)))
            have HCC := Lib.hid (HC.out s1.1 w3 k x (v + 1) HI3.out (by omega) (by omega))
            obtain ⟨s2, hs2⟩ : ∃ s2, f s1.1 k x (v + 1) = s2 := ⟨_, rfl⟩
            rw [hs2] at HCC HT2
            rw [show ((v + 1 : Nat) : Int) = (v : Int) + 1 by omega] at HCC
            obtain ⟨s2a, s2b⟩ := s2
            clear hm3 hm3' hf3 hs2 hv hxp hxr
            cases s2b with
            | true =>
              go_wp2_with fail
              refine HCC.out.mono ?_
              rintro e w4 ⟨rfl, hi4, hf4⟩
              have HI4 := Lib.hid hi4
              have HF4 := Lib.hid hf4
              clear hi4 hf4
              go_wp2_with fail
              go_roundw
              case rel =>
                exact ⟨j + 1, M + 1, by omega, by go_num, Lib.hid (HM3.out.fr HF4.out (fun h => by have := (HS.out _ h).2; have := HSZ.out; omega)), Lib.hid (HM3b.out.fr HF4.out (fun h => by have := (HS.out _ h).2; omega)), Lib.hid (HBk3.out.fr HF4.out (fun h => by have := (HS.out _ h).2; have := HSZ.out; omega)), by rw [HT2.out]; exact HI4, by rw [HT2.out]; exact Lib.hid rfl, Lib.hid (HF3b.out.trans HF4.out (fun _ h => .inl h))⟩
              case measure => simp [intOf]; omega
            | false =>
              go_wp2_with fail
              refine HCC.out.mono ?_
              rintro e w4 ⟨rfl, hi4, hf4⟩
              have HI4 := Lib.hid hi4
              have HF4 := Lib.hid hf4
              clear hi4 hf4
              go_wp2_with fail
              try simp only [Exit.inBlock, Exit.then]
              refine bodyPost_ret (results_none rfl _ _ _) rfl ?_
              have e1 := HTR.out (by rw [HT2.out])
              rw [HT2.out] at e1
              have e2 := HUS.out (k + 1) T.length (by rw [HTL.out, HN.out]; omega) (by rw [HUS1.out, e1])
              rw [HUS1.out, e1] at e2
              refine ⟨rfl, ?_, HF3b.out.trans HF4.out (fun _ h => .inl h)⟩
              rw [← HUA.out, e2]
              exact HI4.out
        · have hjm : j = m := by omega
          subst hjm
          have HE := Lib.hid (show (en.take j).foldl (stF f k g ⟨en, pk⟩) st = upTo f s0 T (k + 1) by rw [HUS1.out, turnF, ← HM'.out, List.take_length])
          go_wp2_with fail
          go_roundw
          case rel => exact ⟨k + 1, z + 1, M, by omega, by go_num, rfl, by have := HSZ.out; omega, by rw [HWS.out]; exact HMn, by rw [← HE.out]; exact HI2, by rw [← HE.out]; exact HG2, HF2⟩
          case measure => simp [intOf]; omega
    · have hkn : k = n := by omega
      subst hkn
      go_wp2_with fail
      go_end0
      refine ⟨rfl, ?_, HF.out⟩
      rw [← HUA.out, HTL.out, HN.out]
      exact HIn.out
end Go.Proofs.Ytfidnecdojgkjaa
