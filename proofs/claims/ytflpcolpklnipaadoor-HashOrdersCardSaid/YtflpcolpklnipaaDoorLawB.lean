/- The walk of HashOrders: it returns true. -/
import Derived.Test.YtflpcolpklnipaaDoorKnown
namespace Go.Proofs.YtflpcolpklnipaaDoor
open Go.RowKit

theorem str_info : (Tryd.prog.info? 9).map (fun i => (i.zero, i.size, i.bytes)) = some (some (.string ByteArray.empty), 1, 16) := by kernel_rfl
theorem light_keys {ss : List ByteArray} (h : lightB ss = true) : Keys ss ∧ ss.length ≤ 60 := by
  simp only [lightB, decide_eq_true_eq] at h
  exact ⟨⟨by omega, fun k hk => by have := h.2 k hk; omega⟩, h.1⟩

set_option maxHeartbeats 800000 in
theorem hashOrders_walk (p : Option Addr) (c : Nat) (ss : List ByteArray) (n : Int) (w : World) (ht : Tabs w) (hr : Rd w w.heap.size p (strs ss)) :
    Calls Tryd.prog 5 #[.slice p ss.length c, .int .i64 n] w fun e w' => e = .returned (.bool true) ∧ Below w.heap.size w w' := by
  by_cases hL : lightB ss = true
  · obtain ⟨hK, h60⟩ := light_keys hL
    by_cases ho : okN n = true
    · obtain ⟨N, rfl, h1, h2⟩ := okN_nat ho
      have hO := Lib.hid ho
      have hLL := Lib.hid hL
      clear ho hL
      go_enter Tryd.func5, Tryd.ntmps5
      go_wp2_with fail
      refine (light_any p c ss _ hr).mono ?_
      rintro e w' ⟨rfl, rfl⟩
      rw [hLL.out]
      go_wp2_with fail
      refine (allowed_any _ _).mono ?_
      rintro e w' ⟨rfl, rfl⟩
      rw [hO.out]
      go_wp2_with (at_builtin; refine wpList_appN rfl (.const (.slice none 0 0)) (.tmp 25) 33 rfl w.heap.size 9 (.string ByteArray.empty) 16 Tryd.underlying33 str_info rfl (.slice none 0 0) 0 [] rfl (World.ownsRow_nil _ _ _ _) w.heap.size p ss.length c (strs ss) rfl (strs_len ss).symm hr (strs_one ss) (by omega) (by omega) (Nat.le_refl _) ?_; intro v1 w1 hown1 hb1 _ _)
      simp only [Nat.zero_add, List.nil_append] at hown1
      obtain ⟨q, d, rfl, _, _, hrq, _⟩ := own_form hown1
      clear hown1
      have t1 := ht.below hb1
      have hr1 := hr.kept hb1
      refine (refOrder_any p c ss N _ hr1 hK h1 h2).mono ?_
      rintro e w2 ⟨v2, rfl, ⟨p2, c2, rfl, _, _, hr2, _⟩, hb2⟩
      have t2 := t1.below hb2
      have hrq2 := hrq.kept hb2
      have hle := orderRes_len ss N
      have he1 : (orderRes ss N).1 = pos (spreadOf N ss) := by simp [orderRes, hO.out]
      have he2 : (orderRes ss N).2 = 0 := by simp [orderRes, hO.out]
      rw [he1] at hle
      have HE := Lib.hid (show (decide ((orderRes ss N).1 = pos (spreadOf N ss)) && ((orderRes ss N).2 == 0)) = true from by simp [he1, he2])
      clear he1 he2
      go_wp2_with fail
      refine (orderLaw_is ss _ N 0 HE.out hK (by omega) _ _ rfl rfl q p2 d c2 _ t2 hrq2 hr2).mono ?_
      rintro e w3 ⟨rfl, hb3⟩
      have t3 := t2.below hb3
      have hb13 := below_step hb2 hb3
      go_wp2_with fail
      refine (refSpread_any p c ss N _ (hr1.kept hb13) hK h1 h2).mono ?_
      rintro e w4 ⟨v4, rfl, ⟨p4, c4, rfl, _, _, hr4, _⟩, hb4⟩
      have t4 := t3.below hb4
      have hb14 := below_step hb13 hb4
      have HE2 := Lib.hid (show (decide ((spreadRes ss N).1 = spreadOf N ss) && ((spreadRes ss N).2 == 0)) = true from by simp [spreadRes, hO.out])
      have hls : (spreadOf N ss).length ≤ 1024 := by rw [spreadOf_len]; exact h2
      go_wp2_with fail
      refine (spreadLaw_is ss _ N 0 HE2.out hK (by omega) _ _ rfl rfl q p4 d c4 _ t4 (hrq.kept hb14) hr4).mono ?_
      rintro e w5 ⟨rfl, hb5⟩
      have t5 := t4.below hb5
      have hb15 := below_step hb14 hb5
      have hr5 := hr1.kept hb15
      have hrq5 := hrq.kept hb15
      have hb05 := below_step hb1 hb15
      clear hb1 hb2 hb3 hb4 hb5 hb13 hb14 hb15 t1 t2 t3 t4 hr2 hr4 hrq2 hrq hr1 HE HE2 hls hle
      go_wp2_with fail
      go_loopw [45] (fun i wr => ∃ k : Nat, k ≤ ss.length ∧ i = .int .i64 k ∧ Below w5.heap.size w5 wr) (fun i _ => ss.length - (intOf i).toNat)
      case atStart => exact ⟨0, Nat.zero_le _, rfl, Below.refl _ _⟩
      case round =>
        obtain ⟨k, hk, rfl, hb⟩ := hrel
        by_cases hlt : k < ss.length
        · obtain ⟨b, o, rfl, _, hc⟩ := (hr5.below hb).str hlt
          obtain ⟨b2, o2, rfl, _, hc2⟩ := (hrq5.below hb).str hlt
          have hi : (k : Int) < (ss.length : Int) := by omega
          go_wp2_with fail
          go_quiet (fail)
          go_wp2
          go_roundw
          case rel => exact ⟨k + 1, by omega, by go_num, below_drewN hb _⟩
          case measure => simp [intOf]; omega
        · go_wp2_with fail
          refine (known_any _ (t5.below hb)).mono ?_
          rintro e w6 ⟨rfl, hb6⟩
          go_wp2_with fail
          go_ret
          exact ⟨rfl, below_step hb05 (below_step hb hb6)⟩
    · have hO := Lib.hid (show okN n = false by simpa using ho)
      have hLL := Lib.hid hL
      clear ho hL
      go_enter Tryd.func5, Tryd.ntmps5
      go_wp2_with fail
      refine (light_any p c ss _ hr).mono ?_
      rintro e w' ⟨rfl, rfl⟩
      rw [hLL.out]
      go_wp2_with fail
      refine (allowed_any _ _).mono ?_
      rintro e w' ⟨rfl, rfl⟩
      rw [hO.out]
      go_wp2_with fail
      refine (orderLaw_is ss [] n 2 (by simp [orderRes, hO.out]) hK (by decide) _ 0 rfl rfl p none c 0 _ ht hr (Rd.nil _ _ _)).mono ?_
      rintro e w1 ⟨rfl, hb1⟩
      have t1 := ht.below hb1
      go_wp2_with fail
      refine (spreadLaw_is ss [] n 2 (by simp [spreadRes, hO.out]) hK (by decide) _ 0 rfl rfl p none c 0 _ t1 (hr.kept hb1) (Rd.nil _ _ _)).mono ?_
      rintro e w2 ⟨rfl, hb2⟩
      go_wp2_with fail
      refine (known_any _ (t1.below hb2)).mono ?_
      rintro e w3 ⟨rfl, hb3⟩
      go_wp2_with fail
      go_ret
      exact ⟨rfl, below_step (below_step hb1 hb2) hb3⟩
  · have hLL := Lib.hid (show lightB ss = false by simpa using hL)
    clear hL
    go_enter Tryd.func5, Tryd.ntmps5
    go_wp2_with fail
    refine (light_any p c ss _ hr).mono ?_
    rintro e w' ⟨rfl, rfl⟩
    rw [hLL.out]
    go_wp2_with fail
    refine (known_any _ ht).mono ?_
    rintro e w3 ⟨rfl, hb3⟩
    go_wp2_with fail
    go_ret
    exact ⟨rfl, hb3⟩

end Go.Proofs.YtflpcolpklnipaaDoor
