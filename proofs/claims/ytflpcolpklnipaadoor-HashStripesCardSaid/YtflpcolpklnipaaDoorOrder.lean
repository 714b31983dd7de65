/- What Order and the reference's return, and the law's own helpers. -/
import Derived.Test.YtflpcolpklnipaaDoorSpread
namespace Go.Proofs.YtflpcolpklnipaaDoor
open Go.RowKit

theorem posTo_bd (l : List Int) (k : Nat) (h : l.length ≤ 2000) (hk : k ≤ l.length) : ((posTo l k).length + 1) * 8 ≤ 140737488355328 := by
  have := posTo_len l k; omega

set_option maxHeartbeats 400000 in
theorem order_no (p : Option Addr) (n c : Nat) (m : Int) (w : World) (h : okN m = false) :
    Calls Tryd.prog 23 #[.slice p n c, .int .i64 m] w fun e w' => e = .returned (.tuple #[.slice none 0 0, .int .i64 2]) ∧ w = w' := by
  go_enter Tryd.func23, Tryd.ntmps23
  go_wp2_with (go_at_call 21; refine (spread_no _ _ _ _ _ h).mono ?_; rintro e w' ⟨rfl, rfl⟩)
  go_ret2
  exact ⟨rfl, rfl⟩

set_option maxHeartbeats 400000 in
theorem order_yes (p : Option Addr) (c : Nat) (ss : List ByteArray) (N : Nat) (w : World) (ht : Tabs w) (hr : Rd w w.heap.size p (strs ss)) (hK : Keys ss) (h1 : 1 ≤ N) (h2 : N ≤ 1024) :
    Calls Tryd.prog 23 #[.slice p ss.length c, .int .i64 N] w (RetInts w (pos (spreadOf N ss)) 0) := by
  have hll := spreadOf_len N ss
  go_enter Tryd.func23, Tryd.ntmps23
  go_wp2_with fail
  refine (spread_yes p c ss N w ht hr hK h1 h2).mono ?_
  rintro e w1 ⟨v, rfl, hv, hb1⟩
  generalize hl : spreadOf N ss = l at *
  have hlen : l.length ≤ 1024 := by omega
  clear hll hl
  obtain ⟨q, d, rfl, hqd, hdm, hrl, _⟩ := hv
  go_wp2_with fail
  go_loopw [8, 22] (fun v i wr => ∃ k : Nat, k ≤ l.length ∧ i = .int .i64 k ∧ wr.ownsRow w1.heap.size 3 1 v (posTo l k).length (ints (posTo l k)) ∧ Below w1.heap.size w1 wr) (fun _ i _ => l.length - (intOf i).toNat)
  case atStart => exact ⟨0, Nat.zero_le _, rfl, World.ownsRow_nil _ _ _ _, Below.refl _ _⟩
  case round =>
    obtain ⟨k, hk, rfl, hown, hb⟩ := hrel
    by_cases hlt : k < l.length
    · obtain ⟨b, o, rfl, _, hc⟩ := (hrl.below hb).int hlt
      have hi : (k : Int) < (l.length : Int) := by omega
      have hbd := posTo_bd l k (by omega) (by omega)
      by_cases hpos : 0 < l[k]
      · have hS := Lib.hid (posTo_yes l k (by rw [List.getD_eq_getElem?_getD, List.getElem?_eq_getElem hlt]; exact hpos))
        have hsz := hb.size
        go_wp2_with (at_builtin; refine wpList_app1 rfl (.tmp 29) (.tmp 31) 36 rfl w1.heap.size 3 (.int .i64 0) 8 Tryd.underlying36 int_info rfl _ _ _ rfl hown (.int .i64 (k : Int)) rfl rfl hbd (by omega) hsz ?_; intro v' w2 hown2 hb2 _ _)
        go_roundw
        case rel =>
          refine ⟨k + 1, by omega, by go_num, ?_, hb.trans hb2⟩
          rw [hS.out]
          rw [ints_snoc] at hown2
          simpa using hown2
        case measure => simp [intOf]; omega
      · have hS := Lib.hid (posTo_no l k (by rw [List.getD_eq_getElem?_getD, List.getElem?_eq_getElem hlt]; exact hpos))
        go_wp2_with fail
        go_roundw
        case rel => exact ⟨k + 1, by omega, by go_num, by rw [hS.out]; exact hown, hb⟩
        case measure => simp [intOf]; omega
    · have HK := Lib.hid (show posTo l k = pos l from by rw [pos, show l.length = k from by omega])
      obtain ⟨q2, d2, rfl, hn2, hm2, hr2, hf2⟩ := own_form hown
      go_wp2_with fail
      refine (clip_any q2 _ d2 _ hn2 hm2).mono ?_
      rintro e w3 ⟨rfl, rfl⟩
      go_wp2_with fail
      go_ret2
      have hkl := HK.out
      rw [← hkl]
      have hbb := hb1.size
      refine ⟨_, rfl, ⟨q2, _, rfl, Nat.le_refl _, by omega, hr2, fun a ha => Nat.le_trans hbb (hf2 a ha)⟩, below_step hb1 hb⟩

set_option maxHeartbeats 400000 in
theorem refOrder_any (p : Option Addr) (c : Nat) (ss : List ByteArray) (N : Nat) (w : World) (hr : Rd w w.heap.size p (strs ss)) (hK : Keys ss) (h1 : 1 ≤ N) (h2 : N ≤ 1024) :
    Calls Tryd.prog 19 #[.slice p ss.length c, .int .i64 N] w (RetInts1 w (pos (spreadOf N ss))) := by
  have hll := spreadOf_len N ss
  go_enter Tryd.func19, Tryd.ntmps19
  go_wp2_with fail
  refine (refSpread_any p c ss N w hr hK h1 h2).mono ?_
  rintro e w1 ⟨v, rfl, hv, hb1⟩
  generalize hl : spreadOf N ss = l at *
  have hlen : l.length ≤ 1024 := by omega
  clear hll hl
  obtain ⟨q, d, rfl, hqd, hdm, hrl, _⟩ := hv
  go_wp2_with fail
  go_loopw [5, 7] (fun v i wr => ∃ k : Nat, k ≤ l.length ∧ i = .int .i64 k ∧ wr.ownsRow w1.heap.size 3 1 v (posTo l k).length (ints (posTo l k)) ∧ Below w1.heap.size w1 wr) (fun _ i _ => l.length - (intOf i).toNat)
  case atStart => exact ⟨0, Nat.zero_le _, rfl, World.ownsRow_nil _ _ _ _, Below.refl _ _⟩
  case round =>
    obtain ⟨k, hk, rfl, hown, hb⟩ := hrel
    by_cases hlt : k < l.length
    · obtain ⟨b, o, rfl, _, hc⟩ := (hrl.below hb).int hlt
      have hi : (k : Int) < (l.length : Int) := by omega
      have hbd := posTo_bd l k (by omega) (by omega)
      by_cases hpos : 0 < l[k]
      · have hS := Lib.hid (posTo_yes l k (by rw [List.getD_eq_getElem?_getD, List.getElem?_eq_getElem hlt]; exact hpos))
        have hsz := hb.size
        go_wp2_with (at_builtin; refine wpList_app1 rfl (.tmp 22) (.tmp 24) 36 rfl w1.heap.size 3 (.int .i64 0) 8 Tryd.underlying36 int_info rfl _ _ _ rfl hown (.int .i64 (k : Int)) rfl rfl hbd (by omega) hsz ?_; intro v' w2 hown2 hb2 _ _)
        go_roundw
        case rel =>
          refine ⟨k + 1, by omega, by go_num, ?_, hb.trans hb2⟩
          rw [hS.out]
          rw [ints_snoc] at hown2
          simpa using hown2
        case measure => simp [intOf]; omega
      · have hS := Lib.hid (posTo_no l k (by rw [List.getD_eq_getElem?_getD, List.getElem?_eq_getElem hlt]; exact hpos))
        go_wp2_with fail
        go_roundw
        case rel => exact ⟨k + 1, by omega, by go_num, by rw [hS.out]; exact hown, hb⟩
        case measure => simp [intOf]; omega
    · have HK := Lib.hid (show posTo l k = pos l from by rw [pos, show l.length = k from by omega])
      go_wp2_with fail
      go_ret
      have hkl := HK.out
      rw [← hkl]
      have hbb := hb1.size
      obtain ⟨q2, d2, hq, hn2, hm2, hr2, hf2⟩ := own_form hown
      exact ⟨_, rfl, ⟨q2, d2, hq, hn2, hm2, hr2, fun a ha => Nat.le_trans hbb (hf2 a ha)⟩, below_step hb1 hb⟩

end Go.Proofs.YtflpcolpklnipaaDoor
