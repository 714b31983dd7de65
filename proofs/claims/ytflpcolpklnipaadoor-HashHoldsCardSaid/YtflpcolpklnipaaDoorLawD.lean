/- The walk of HashHolds: it returns true. -/
import Derived.Test.YtflpcolpklnipaaDoorLawB
import Derived.Test.YtflpcolpklnipaaDoorCnt
namespace Go.Proofs.YtflpcolpklnipaaDoor
open Go.RowKit

theorem spreadOf_sum (N : Nat) (ss : List ByteArray) (h : 1 ≤ N) : (spreadOf N ss).sum = ss.length := by
  rw [spreadOf, cntIs_sum N _ (by
    intro i hi
    simp only [List.mem_map] at hi
    obtain ⟨s, _, rfl⟩ := hi
    exact Nat.mod_lt _ (by omega))]
  simp
theorem spreadOf_pos (N : Nat) (ss : List ByteArray) (h : 1 ≤ N) (k : Nat) (hk : k < ss.length) (hl : stripeN N ss[k] < (spreadOf N ss).length) : 1 ≤ (spreadOf N ss)[stripeN N ss[k]] := by
  have := cntIs_pos N (ss.map (stripeN N)) (stripeN N ss[k]) (List.mem_map_of_mem (List.getElem_mem hk)) (Nat.mod_lt _ (by omega))
  rw [List.getD_eq_getElem?_getD] at this
  have h2 : (cntIs N (ss.map (stripeN N)))[stripeN N ss[k]]? = some (spreadOf N ss)[stripeN N ss[k]] := List.getElem?_eq_getElem hl
  rw [h2] at this
  exact this
theorem spreadOf_bd (N : Nat) (ss : List ByteArray) : ∀ x ∈ spreadOf N ss, 0 ≤ x ∧ x ≤ (ss.length : Int) := by
  intro x hx
  have := cntIs_bd N (ss.map (stripeN N)) x hx
  simpa using this

set_option maxHeartbeats 1000000 in
theorem hashHolds_core (p : Option Addr) (c : Nat) (ss : List ByteArray) (N : Nat) (w : World) (ht : Tabs w) (hr : Rd w w.heap.size p (strs ss)) (hL : lightB ss = true) (h1 : 1 ≤ N) (h2 : N ≤ 1024) :
    Calls Tryd.prog 7 #[.slice p ss.length c, .int .i64 N] w fun e w' => e = .returned (.bool true) ∧ Below w.heap.size w w' := by
  obtain ⟨hK, h60⟩ := light_keys hL
  have hLL := Lib.hid hL
  clear hL
  have hN1 : (1 : Int) ≤ (N : Int) := by omega
  have hN2 : (N : Int) ≤ 1024 := by omega
  have HO := Lib.hid (show okN N = true from by simp [okN]; omega)
  go_enter Tryd.func7, Tryd.ntmps7
  go_wp2_with fail
  refine (light_any p c ss _ hr).mono ?_
  rintro e w' ⟨rfl, rfl⟩
  rw [hLL.out]
  go_wp2_with fail
  refine (spread_yes p c ss N _ ht hr hK h1 h2).mono ?_
  rintro e w1 ⟨v, rfl, ⟨q, d, rfl, _, _, hrl, _⟩, hb1⟩
  have t1 := ht.below hb1
  have HS := Lib.hid (spreadOf_sum N ss h1)
  have HP := Lib.hid (spreadOf_pos N ss h1)
  have HB := Lib.hid (spreadOf_bd N ss)
  have HLEN := Lib.hid (spreadOf_len N ss)
  have HOR := Lib.hid (show (decide ((orderRes ss N).1 = pos (spreadOf N ss)) && ((orderRes ss N).2 == 0)) = true from by simp [orderRes, HO.out])
  generalize spreadOf N ss = l at *
  have hll : l.length ≤ 1024 := by rw [HLEN.out]; exact h2
  have hne : ((l.length : Int) != (N : Int)) = false := by have := HLEN.out; simp [this]
  go_wp2_with fail
  go_loopw [7, 8, 43] (fun s v i wr => ∃ k : Nat, k ≤ l.length ∧ i = .int .i64 k ∧ s = .int .i64 (sumTo l k) ∧ wr.ownsRow w1.heap.size 3 1 v (posTo l k).length (ints (posTo l k)) ∧ Below w1.heap.size w1 wr) (fun _ _ i _ => l.length - (intOf i).toNat)
  case atStart => exact ⟨0, Nat.zero_le _, rfl, rfl, World.ownsRow_nil _ _ _ _, Below.refl _ _⟩
  case round =>
    obtain ⟨k, hk, rfl, rfl, hown, hb⟩ := hrel
    by_cases hlt : k < l.length
    · obtain ⟨b, o, rfl, _, hc⟩ := (hrl.below hb).int hlt
      have hi : (k : Int) < (l.length : Int) := by omega
      have hbd := posTo_bd l k (by omega) (by omega)
      have hx := HB.out l[k] (List.getElem_mem hlt)
      have hx0 := hx.1
      have hx1 : l[k] ≤ 60 := by omega
      have hs := sumTo_bd l 60 (fun x hx => by have := HB.out x hx; omega) k hk
      have hs0 := hs.1
      have hs1 : sumTo l k ≤ 100000 := by have := hs.2; omega
      have HSS := Lib.hid (sumTo_step l k hlt)
      clear hx hs
      by_cases hpos : 0 < l[k]
      · have hS := Lib.hid (posTo_yes l k (by rw [List.getD_eq_getElem?_getD, List.getElem?_eq_getElem hlt]; exact hpos))
        have hsz := hb.size
        go_wp2_with (at_builtin; refine wpList_app1 rfl (.tmp 52) (.tmp 54) 36 rfl w1.heap.size 3 (.int .i64 0) 8 Tryd.underlying36 int_info rfl _ _ _ rfl hown (.int .i64 (k : Int)) rfl rfl hbd (by omega) hsz ?_; intro v' w2 hown2 hb2 _ _)
        go_roundw
        case rel =>
          refine ⟨k + 1, by omega, by go_num, by rw [HSS.out], ?_, hb.trans hb2⟩
          rw [hS.out]
          rw [ints_snoc] at hown2
          simpa using hown2
        case measure => simp [intOf]; omega
      · have hS := Lib.hid (posTo_no l k (by rw [List.getD_eq_getElem?_getD, List.getElem?_eq_getElem hlt]; exact hpos))
        go_wp2_with fail
        go_roundw
        case rel => exact ⟨k + 1, by omega, by go_num, by rw [HSS.out], by rw [hS.out]; exact hown, hb⟩
        case measure => simp [intOf]; omega
    · have HK := Lib.hid (show posTo l k = pos l from by rw [pos, show l.length = k from by omega])
      have HSUM := Lib.hid (show sumTo l k = ss.length from by rw [← HS.out, sumTo, List.take_of_length_le (by omega)])
      obtain ⟨q2, d2, rfl, hn2, hm2, hr2, hf2⟩ := own_form hown
      have t2 := t1.below (hb.mono (Nat.le_refl _))
      have hr1 := (hr.kept hb1).kept hb
      have hrl2 := hrl.kept hb
      have hb02 := below_step hb1 hb
      clear hb hb1 hown hrl
      go_wp2_with fail
      go_loopw [62] (fun i wx => ∃ j : Nat, j ≤ ss.length ∧ i = .int .i64 j ∧ Below wr.heap.size wr wx) (fun i _ => ss.length - (intOf i).toNat)
      case atStart => exact ⟨0, Nat.zero_le _, rfl, Below.refl _ _⟩
      case round =>
        obtain ⟨j, hj, rfl, hb⟩ := hrel
        by_cases hlt2 : j < ss.length
        · obtain ⟨b, o, rfl, _, hc⟩ := (hr1.below hb).str hlt2
          have hi : (j : Int) < (ss.length : Int) := by omega
          have hsz := hK.each j hlt2
          go_wp2_with fail
          refine (stripe_yes ss[j] _ _ (t2.below hb) hsz hN1 hN2).mono ?_
          rintro e w2 ⟨rfl, hb2⟩
          rw [stripeN_eq]
          have hst : stripeN N ss[j] < N := Nat.mod_lt _ (by omega)
          have hstl : stripeN N ss[j] < l.length := by rw [HLEN.out]; exact hst
          have hp := HP.out j hlt2 hstl
          obtain ⟨b2, o2, rfl, _, hc2⟩ := ((hrl2.below hb).below (hb2.mono hb.size)).int hstl
          have hi2 : (stripeN N ss[j] : Int) < (l.length : Int) := by omega
          have hi3 : (stripeN N ss[j] : Int) < (N : Int) := by omega
          have hz : (l[stripeN N ss[j]] == 0) = false := by simp; omega
          generalize hI : stripeN N ss[j] = I at *
          clear hI hp
          go_wp2_with fail
          go_roundw
          case rel => exact ⟨j + 1, by omega, by go_num, hb.trans (hb2.mono hb.size)⟩
          case measure => simp [intOf]; omega
        · have HJ := Lib.hid (show j = ss.length from by omega)
          rw [HSUM.out]
          have hee : ((ss.length : Int) == (ss.length : Int)) = true := by simp
          have t3 := t2.below hb
          go_wp2_with fail
          rw [HK.out] at hr2 ⊢
          have hpl : (pos l).length ≤ 100000 := by have := posTo_len l l.length; show (posTo l l.length).length ≤ _; omega
          refine (orderLaw_is ss (pos l) N 0 HOR.out hK hpl _ _ rfl rfl p q2 c d2 _ t3 (hr1.kept hb) (hr2.kept hb)).mono ?_
          rintro e w4 ⟨rfl, hb4⟩
          go_wp2_with fail
          refine (known_any _ (t3.below hb4)).mono ?_
          rintro e w5 ⟨rfl, hb5⟩
          go_wp2_with fail
          go_ret
          exact ⟨rfl, below_step (below_step (below_step hb02 hb) hb4) hb5⟩

set_option maxHeartbeats 400000 in
theorem hashHolds_walk (p : Option Addr) (c : Nat) (ss : List ByteArray) (n : Int) (w : World) (ht : Tabs w) (hr : Rd w w.heap.size p (strs ss)) :
    Calls Tryd.prog 7 #[.slice p ss.length c, .int .i64 n] w fun e w' => e = .returned (.bool true) ∧ Below w.heap.size w w' := by
  by_cases hL : lightB ss = true
  · by_cases h1 : n < 1
    · have hLL := Lib.hid hL
      clear hL
      go_enter Tryd.func7, Tryd.ntmps7
      go_wp2_with fail
      refine (light_any p c ss _ hr).mono ?_
      rintro e w' ⟨rfl, rfl⟩
      rw [hLL.out]
      go_wp2_with fail
      refine (known_any _ ht).mono ?_
      rintro e w3 ⟨rfl, hb3⟩
      go_wp2_with fail
      go_ret
      exact ⟨rfl, hb3⟩
    · by_cases h2 : 1024 < n
      · have hLL := Lib.hid hL
        clear hL
        go_enter Tryd.func7, Tryd.ntmps7
        go_wp2_with fail
        refine (light_any p c ss _ hr).mono ?_
        rintro e w' ⟨rfl, rfl⟩
        rw [hLL.out]
        go_wp2_with fail
        refine (known_any _ ht).mono ?_
        rintro e w3 ⟨rfl, hb3⟩
        go_wp2_with fail
        go_ret
        exact ⟨rfl, hb3⟩
      · obtain ⟨N, rfl⟩ := Int.eq_ofNat_of_zero_le (show 0 ≤ n by omega)
        exact hashHolds_core p c ss N w ht hr hL (by omega) (by omega)
  · have hLL := Lib.hid (show lightB ss = false by simpa using hL)
    clear hL
    go_enter Tryd.func7, Tryd.ntmps7
    go_wp2_with fail
    refine (light_any p c ss _ hr).mono ?_
    rintro e w' ⟨rfl, rfl⟩
    rw [hLL.out]
    go_wp2_with fail
    refine (known_any _ ht).mono ?_
    rintro e w3 ⟨rfl, hb3⟩
    go_wp2_with fail
    go_ret
    exact ⟨rfl, hb3⟩

end Go.Proofs.YtflpcolpklnipaaDoor
