/- Small lists of events and of steps. Printed by hist_l.py. -/
import Derived.Test.YtbkkplednfdfdaaSteps
namespace Go.Proofs.Ytbkkplednfdfdaa
open Go.RowKit Go.Maps

def RetOk (X : Prop) (w : World) (e : Ending) (w' : World) : Prop := ∃ r, e = .returned (.bool r) ∧ w' = w ∧ (r = true → X)
set_option maxRecDepth 100000 in
set_option maxHeartbeats 4000000 in
theorem small_any (w : World) (p : Option Addr) (c : Nat) (es : List Ev) (l : List PE) (h : Rd w w.heap.size p (evs es)) (hn : es.length = l.length) (hn2 : es.length ≤ 9223372036854775807)
    (hd : ∀ (j : Nat) (x : Ev) (q : PE), es[j]? = some x → l[j]? = some q → EvR (RdW w w.heap.size) x q) :
    Calls Try.prog 13 #[.slice p es.length c] w fun e w' => RetOk (l.length ≤ 120 ∧ ∀ q ∈ l, q.c.ok ∧ q.a.ok) w e w' := by
  have HR := Lib.hid h
  have HD := Lib.hid hd
  obtain ⟨n, hn9⟩ : ∃ n, es.length = n := ⟨_, rfl⟩
  have HN := Lib.hid hn9
  rw [hn9] at hn2 ⊢
  have HLN := Lib.hid (show l.length = n by omega)
  have hnn : (n : Int) ≤ 9223372036854775807 := by omega
  clear h hd hn hn9 hn2
  go_enter Try.func13, Try.ntmps13
  go_wp2_with fail
  go_loop [3] (fun i => ∃ k : Nat, k ≤ n ∧ k ≤ 121 ∧ i = .int .i64 k ∧ Hid (∀ (j : Nat) (q : PE), j < k → l[j]? = some q → q.c.ok ∧ q.a.ok)) (fun i => 121 - (intOf i).toNat)
  case atStart => exact ⟨0, Nat.zero_le _, Nat.zero_le _, rfl, Lib.hid (fun j q hj => absurd hj (by omega))⟩
  case round =>
    obtain ⟨k, hk, hk121, rfl, HI⟩ := hrel
    by_cases hlt : k < n
    · have hki : (k : Int) < (n : Int) := by omega
      by_cases h121 : k < 121
      · have hk12 : (k : Int) < 121 := by omega
        have hk2 : k < es.length := by rw [HN.out]; exact hlt
        have hk3 : k < l.length := by rw [HLN.out]; exact hlt
        obtain ⟨b, o, rfl, hb, hc9⟩ := evs_rd HR.out hk2
        have hdd := HD.out k _ _ (List.getElem?_eq_getElem hk2) (List.getElem?_eq_getElem hk3)
        have HK3 := Lib.hid (List.getElem?_eq_getElem hk3)
        obtain ⟨x, hx⟩ : ∃ x, es[k] = x := ⟨_, rfl⟩
        obtain ⟨q, hq⟩ : ∃ q, l[k] = q := ⟨_, rfl⟩
        rw [hx] at hc9 hdd
        rw [hq] at hdd HK3
        obtain ⟨xt, xa, xm, xn, xop, xkey, xoth, xitem, xqty, xdq, xdn, xdc, xaop, xaerr, xacnt, xlq, xln, xlc, xbq, xbn, xbc⟩ := x
        have HC := Lib.hid hdd.c.len
        have HA := Lib.hid hdd.a
        have q6 := hc9 6 _ rfl
        have q10 := hc9 10 _ rfl
        have q11 := hc9 11 _ rfl
        simp only at HC HA
        clear hk2 hk3 hc9 hdd hx hq hb
        have HNEXT := Lib.hid (show q.c.ok → q.a.ok → ∀ (j : Nat) (q : PE), j < k + 1 → l[j]? = some q → q.c.ok ∧ q.a.ok from fun h1 h2 j q' hj hq' => by
          by_cases e : j = k
          · subst e
            rw [HK3.out] at hq'
            injection hq' with hq'
            subst hq'
            exact ⟨h1, h2⟩
          · exact HI.out j q' (by omega) hq')
        by_cases t1 : 100 < xdn
        · have t1' : (100 : Int) < (xdn : Int) := by omega
          go_wp2_with fail
          go_ret
          exact ⟨false, rfl, rfl, fun h => by cases h⟩
        · have t1' : (xdn : Int) ≤ 100 := by omega
          by_cases t2 : 10 < xln
          · have t2' : (10 : Int) < (xln : Int) := by omega
            go_wp2_with fail
            go_ret
            exact ⟨false, rfl, rfl, fun h => by cases h⟩
          · have t2' : (xln : Int) ≤ 10 := by omega
            by_cases t3 : 10 < xbn
            · have t3' : (10 : Int) < (xbn : Int) := by omega
              go_wp2_with fail
              go_ret
              exact ⟨false, rfl, rfl, fun h => by cases h⟩
            · have t3' : (xbn : Int) ≤ 10 := by omega
              have HT1 := Lib.hid t1
              have HT2 := Lib.hid t2
              have HT3 := Lib.hid t3
              clear t1 t2 t3
              go_wp2_with fail
              go_loop [4] (fun i => ∃ m : Nat, m ≤ xbn ∧ i = .int .i64 m ∧ Hid (∀ (j : Nat) (b : List Int), j < m → q.a.bats[j]? = some b → b.length ≤ 100)) (fun i => xbn - (intOf i).toNat)
              case atStart => exact ⟨0, Nat.zero_le _, rfl, Lib.hid (fun j q hj => absurd hj (by omega))⟩
              case round =>
                obtain ⟨m, hm, rfl, HJ⟩ := hrel
                by_cases hmt : m < xbn
                · have hmi : (m : Int) < (xbn : Int) := by omega
                  obtain ⟨hs, h1, h2, h3⟩ := HA.out.bats
                  have hm2 : m < hs.length := by rw [h1, ← HA.out.blen]; exact hmt
                  have hm3 : m < q.a.bats.length := by rw [← HA.out.blen]; exact hmt
                  obtain ⟨b2, o2, rfl, hb2, hc2, -⟩ := Rd.at_ h2 (k := m) (by rw [hds_len]; exact hm2)
                  obtain ⟨h4, -, -⟩ := h3 m _ _ (List.getElem?_eq_getElem hm2) (List.getElem?_eq_getElem hm3)
                  have HM3 := Lib.hid (List.getElem?_eq_getElem hm3)
                  obtain ⟨x2, hx2⟩ : ∃ x2, hs[m] = x2 := ⟨_, rfl⟩
                  have hc2' : w.cell? ⟨b2, o2 + m, none⟩ = some x2.val := by rw [hc2]; simp [hds, hx2]
                  rw [hx2] at h4
                  obtain ⟨q2, n2, c2⟩ := x2
                  have H4 := Lib.hid h4
                  simp only [Hd.val] at hc2'
                  have HBC := Lib.hid (show xbn ≤ xbc from HA.out.bcap)
                  clear h1 h2 h3 hm2 hb2 hc2 hx2 h4
                  by_cases t4 : 100 < n2
                  · have t4' : (100 : Int) < (n2 : Int) := by omega
                    go_wp2_with fail
                    go_ret
                    exact ⟨false, rfl, rfl, fun h => by cases h⟩
                  · have t4' : (n2 : Int) ≤ 100 := by omega
                    have HT4 := Lib.hid t4
                    clear t4
                    go_wp2_with fail
                    go_round
                    case rel =>
                      refine ⟨m + 1, by omega, by go_num, Lib.hid (fun j b hj hb => ?_)⟩
                      by_cases e : j = m
                      · subst e
                        rw [HM3.out] at hb
                        injection hb with hb
                        have h4 : n2 = _ := H4.out
                        have := HT4.out
                        rw [← hb]; omega
                      · exact HJ.out j b (by omega) hb
                    case measure => simp [intOf]; omega
                · have hme : m = xbn := by omega
                  have HNX := Lib.hid (HNEXT.out (by have := HC.out; have := HT1.out; unfold PC.ok; omega) ⟨by have := HA.out.len; have := HT2.out; omega, by have := HA.out.blen; have := HT3.out; omega, fun b hb => by
                    obtain ⟨j, hj, rfl⟩ := List.getElem_of_mem hb
                    exact HJ.out j _ (by have := HA.out.blen; omega) (List.getElem?_eq_getElem hj)⟩)
                  subst hme
                  go_wp2_with fail
                  go_round
                  case rel => exact ⟨k + 1, by omega, by omega, by go_num, HNX⟩
                  case measure => simp [intOf]; omega
      · have hk12 : ¬ (k : Int) < 121 := by omega
        have hk12' : k = 121 := by omega
        have HN12 := Lib.hid (show ¬ ((n : Int) ≤ 120) by omega)
        subst hk12'
        go_wp2_with fail
        go_ret
        exact ⟨decide ((n : Int) ≤ 120), rfl, rfl, fun h => absurd (of_decide_eq_true h) (by have := HN12.out; omega)⟩
    · have hkn : k = n := by omega
      subst hkn
      have HALL := Lib.hid (show ∀ q ∈ l, q.c.ok ∧ q.a.ok from fun q hq => by
        obtain ⟨j, hj, rfl⟩ := List.getElem_of_mem hq
        exact HI.out j _ (by rw [← HLN.out]; exact hj) (List.getElem?_eq_getElem hj))
      go_wp2_with fail
      go_ret
      exact ⟨decide ((k : Int) ≤ 120), rfl, rfl, fun h => ⟨by have h1 := of_decide_eq_true h; have := HLN.out; omega, HALL.out⟩⟩
set_option maxRecDepth 100000 in
set_option maxHeartbeats 4000000 in
theorem light_any (w : World) (p : Option Addr) (c : Nat) (es : List Di) (l : List PD) (h : Rd w w.heap.size p (dis es)) (hn : es.length = l.length) (hn2 : es.length ≤ 9223372036854775807)
    (hd : ∀ (j : Nat) (x : Di) (q : PD), es[j]? = some x → l[j]? = some q → DiR (RdW w w.heap.size) x q) :
    Calls Try.prog 7 #[.slice p es.length c] w fun e w' => RetOk (l.length ≤ 120 ∧ ∀ q ∈ l, q.c.ok ∧ q.a.ok) w e w' := by
  have HR := Lib.hid h
  have HD := Lib.hid hd
  obtain ⟨n, hn9⟩ : ∃ n, es.length = n := ⟨_, rfl⟩
  have HN := Lib.hid hn9
  rw [hn9] at hn2 ⊢
  have HLN := Lib.hid (show l.length = n by omega)
  have hnn : (n : Int) ≤ 9223372036854775807 := by omega
  clear h hd hn hn9 hn2
  go_enter Try.func7, Try.ntmps7
  go_wp2_with fail
  go_loop [3] (fun i => ∃ k : Nat, k ≤ n ∧ k ≤ 121 ∧ i = .int .i64 k ∧ Hid (∀ (j : Nat) (q : PD), j < k → l[j]? = some q → q.c.ok ∧ q.a.ok)) (fun i => 121 - (intOf i).toNat)
  case atStart => exact ⟨0, Nat.zero_le _, Nat.zero_le _, rfl, Lib.hid (fun j q hj => absurd hj (by omega))⟩
  case round =>
    obtain ⟨k, hk, hk121, rfl, HI⟩ := hrel
    by_cases hlt : k < n
    · have hki : (k : Int) < (n : Int) := by omega
      by_cases h121 : k < 121
      · have hk12 : (k : Int) < 121 := by omega
        have hk2 : k < es.length := by rw [HN.out]; exact hlt
        have hk3 : k < l.length := by rw [HLN.out]; exact hlt
        obtain ⟨b, o, rfl, hb, hc9⟩ := dis_rd HR.out hk2
        have hdd := HD.out k _ _ (List.getElem?_eq_getElem hk2) (List.getElem?_eq_getElem hk3)
        have HK3 := Lib.hid (List.getElem?_eq_getElem hk3)
        obtain ⟨x, hx⟩ : ∃ x, es[k] = x := ⟨_, rfl⟩
        obtain ⟨q, hq⟩ : ∃ q, l[k] = q := ⟨_, rfl⟩
        rw [hx] at hc9 hdd
        rw [hq] at hdd HK3
        obtain ⟨task, step, stripe, waits, next, vq, vn, vc, mk, xop, xkey, xoth, xitem, xqty, xdq, xdn, xdc, xaop, xaerr, xacnt, xlq, xln, xlc, xbq, xbn, xbc⟩ := x
        have HC := Lib.hid hdd.c.len
        have HA := Lib.hid hdd.a
        have q6 := hc9 12 _ rfl
        have q10 := hc9 16 _ rfl
        have q11 := hc9 17 _ rfl
        simp only at HC HA
        clear hk2 hk3 hc9 hdd hx hq hb
        have HNEXT := Lib.hid (show q.c.ok → q.a.ok → ∀ (j : Nat) (q : PD), j < k + 1 → l[j]? = some q → q.c.ok ∧ q.a.ok from fun h1 h2 j q' hj hq' => by
          by_cases e : j = k
          · subst e
            rw [HK3.out] at hq'
            injection hq' with hq'
            subst hq'
            exact ⟨h1, h2⟩
          · exact HI.out j q' (by omega) hq')
        by_cases t1 : 100 < xdn
        · have t1' : (100 : Int) < (xdn : Int) := by omega
          go_wp2_with fail
          go_ret
          exact ⟨false, rfl, rfl, fun h => by cases h⟩
        · have t1' : (xdn : Int) ≤ 100 := by omega
          by_cases t2 : 10 < xln
          · have t2' : (10 : Int) < (xln : Int) := by omega
            go_wp2_with fail
            go_ret
            exact ⟨false, rfl, rfl, fun h => by cases h⟩
          · have t2' : (xln : Int) ≤ 10 := by omega
            by_cases t3 : 10 < xbn
            · have t3' : (10 : Int) < (xbn : Int) := by omega
              go_wp2_with fail
              go_ret
              exact ⟨false, rfl, rfl, fun h => by cases h⟩
            · have t3' : (xbn : Int) ≤ 10 := by omega
              have HT1 := Lib.hid t1
              have HT2 := Lib.hid t2
              have HT3 := Lib.hid t3
              clear t1 t2 t3
              go_wp2_with fail
              go_loop [4] (fun i => ∃ m : Nat, m ≤ xbn ∧ i = .int .i64 m ∧ Hid (∀ (j : Nat) (b : List Int), j < m → q.a.bats[j]? = some b → b.length ≤ 100)) (fun i => xbn - (intOf i).toNat)
              case atStart => exact ⟨0, Nat.zero_le _, rfl, Lib.hid (fun j q hj => absurd hj (by omega))⟩
              case round =>
                obtain ⟨m, hm, rfl, HJ⟩ := hrel
                by_cases hmt : m < xbn
                · have hmi : (m : Int) < (xbn : Int) := by omega
                  obtain ⟨hs, h1, h2, h3⟩ := HA.out.bats
                  have hm2 : m < hs.length := by rw [h1, ← HA.out.blen]; exact hmt
                  have hm3 : m < q.a.bats.length := by rw [← HA.out.blen]; exact hmt
                  obtain ⟨b2, o2, rfl, hb2, hc2, -⟩ := Rd.at_ h2 (k := m) (by rw [hds_len]; exact hm2)
                  obtain ⟨h4, -, -⟩ := h3 m _ _ (List.getElem?_eq_getElem hm2) (List.getElem?_eq_getElem hm3)
                  have HM3 := Lib.hid (List.getElem?_eq_getElem hm3)
                  obtain ⟨x2, hx2⟩ : ∃ x2, hs[m] = x2 := ⟨_, rfl⟩
                  have hc2' : w.cell? ⟨b2, o2 + m, none⟩ = some x2.val := by rw [hc2]; simp [hds, hx2]
                  rw [hx2] at h4
                  obtain ⟨q2, n2, c2⟩ := x2
                  have H4 := Lib.hid h4
                  simp only [Hd.val] at hc2'
                  have HBC := Lib.hid (show xbn ≤ xbc from HA.out.bcap)
                  clear h1 h2 h3 hm2 hb2 hc2 hx2 h4
                  by_cases t4 : 100 < n2
                  · have t4' : (100 : Int) < (n2 : Int) := by omega
                    go_wp2_with fail
                    go_ret
                    exact ⟨false, rfl, rfl, fun h => by cases h⟩
                  · have t4' : (n2 : Int) ≤ 100 := by omega
                    have HT4 := Lib.hid t4
                    clear t4
                    go_wp2_with fail
                    go_round
                    case rel =>
                      refine ⟨m + 1, by omega, by go_num, Lib.hid (fun j b hj hb => ?_)⟩
                      by_cases e : j = m
                      · subst e
                        rw [HM3.out] at hb
                        injection hb with hb
                        have h4 : n2 = _ := H4.out
                        have := HT4.out
                        rw [← hb]; omega
                      · exact HJ.out j b (by omega) hb
                    case measure => simp [intOf]; omega
                · have hme : m = xbn := by omega
                  have HNX := Lib.hid (HNEXT.out (by have := HC.out; have := HT1.out; unfold PC.ok; omega) ⟨by have := HA.out.len; have := HT2.out; omega, by have := HA.out.blen; have := HT3.out; omega, fun b hb => by
                    obtain ⟨j, hj, rfl⟩ := List.getElem_of_mem hb
                    exact HJ.out j _ (by have := HA.out.blen; omega) (List.getElem?_eq_getElem hj)⟩)
                  subst hme
                  go_wp2_with fail
                  go_round
                  case rel => exact ⟨k + 1, by omega, by omega, by go_num, HNX⟩
                  case measure => simp [intOf]; omega
      · have hk12 : ¬ (k : Int) < 121 := by omega
        have hk12' : k = 121 := by omega
        have HN12 := Lib.hid (show ¬ ((n : Int) ≤ 120) by omega)
        subst hk12'
        go_wp2_with fail
        go_ret
        exact ⟨decide ((n : Int) ≤ 120), rfl, rfl, fun h => absurd (of_decide_eq_true h) (by have := HN12.out; omega)⟩
    · have hkn : k = n := by omega
      subst hkn
      have HALL := Lib.hid (show ∀ q ∈ l, q.c.ok ∧ q.a.ok from fun q hq => by
        obtain ⟨j, hj, rfl⟩ := List.getElem_of_mem hq
        exact HI.out j _ (by rw [← HLN.out]; exact hj) (List.getElem?_eq_getElem hj))
      go_wp2_with fail
      go_ret
      exact ⟨decide ((k : Int) ≤ 120), rfl, rfl, fun h => ⟨by have h1 := of_decide_eq_true h; have := HLN.out; omega, HALL.out⟩⟩
end Go.Proofs.Ytbkkplednfdfdaa
