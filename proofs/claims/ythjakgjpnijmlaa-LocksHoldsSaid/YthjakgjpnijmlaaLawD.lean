/- The walk of LocksHolds, the theorem of the stage: it returns true. -/
import Derived.Test.YthjakgjpnijmlaaLawC
namespace Go.Proofs.Ythjakgjpnijmlaa
open Go.RowKit

section
variable {w0 w : World} {L : Nat} {Q : List (List Int)}
theorem newLock (o s : Int) (h : NewW w0 L Q w) (hs : ∀ q ∈ Q, q.length ≤ 100000) :
    Calls Try.prog 14 #[.pointer (some ⟨L, 0, none⟩), .int .i64 o, .int .i64 s] w fun e w' => e = .returned (.tuple #[.bool (lockB Q o s), .int .i64 (lockE Q o s)]) ∧ NewW w0 L (lockQ Q o s) w' := by
  obtain ⟨S, h1, h2, h3⟩ := h
  refine (lock_any o s h1 hs).mono ?_
  rintro e w1 ⟨he, S', k1, k2, k3, _⟩
  refine ⟨he, S', k1, Fr.below h2 k2 h3, fun b hb => ?_⟩
  rcases k3 b hb with h | h
  · exact h3 b h
  · have := h2.size; omega
theorem newUnlock (o s : Int) (h : NewW w0 L Q w) (hs : ∀ q ∈ Q, q.length ≤ 100000) :
    Calls Try.prog 15 #[.pointer (some ⟨L, 0, none⟩), .int .i64 o, .int .i64 s] w fun e w' => e = .returned (.tuple #[.int .i64 (unN Q o s), .int .i64 (unE Q o s)]) ∧ NewW w0 L (unQ Q o s) w' := by
  obtain ⟨S, h1, h2, h3⟩ := h
  refine (unlock_any o s h1 hs).mono ?_
  rintro e w1 ⟨he, S', k1, k2, k3, _⟩
  refine ⟨he, S', k1, Fr.below h2 k2 h3, fun b hb => ?_⟩
  rcases k3 b hb with h | h
  · exact h3 b h
  · have := h2.size; omega
theorem newHeld (o : Int) (h : NewW w0 L Q w) :
    Calls Try.prog 16 #[.pointer (some ⟨L, 0, none⟩), .int .i64 o] w fun e w' => ∃ p d, e = .returned (.slice p (held Q o).length d) ∧ Rd w' w'.heap.size p (ints (held Q o)) ∧ NewW w0 L Q w' := by
  obtain ⟨S, h1, h2, h3⟩ := id h
  refine (held_any o h1).mono ?_
  rintro e w1 ⟨v, rfl, hown, hb⟩
  obtain ⟨p, d, rfl, _, _⟩ := own_shape hown
  exact ⟨p, d, rfl, own_rd hown, h.kept hb⟩
theorem newFor (o : Int) (h : NewW w0 L Q w) (hs : ∀ q ∈ Q, q.length ≤ 100000) :
    Calls Try.prog 17 #[.pointer (some ⟨L, 0, none⟩), .int .i64 o] w fun e w' => e = .returned (.int .i64 (waitsFor Q o)) ∧ NewW w0 L Q w' ∧ Below w.heap.size w w' := by
  obtain ⟨S, h1, h2, h3⟩ := id h
  refine (for_any o h1 hs).mono ?_
  rintro e w1 ⟨rfl, hb⟩
  exact ⟨rfl, h.kept hb, hb⟩
theorem newHolder (s n e : Int) (h : NewW w0 L Q w) (hn : holdN Q s = n) (he : holdE Q s = e) :
    Calls Try.prog 18 #[.pointer (some ⟨L, 0, none⟩), .int .i64 s] w fun x w' => x = .returned (.tuple #[.int .i64 n, .int .i64 e]) ∧ w = w' := by
  obtain ⟨S, h1, h2, h3⟩ := h
  subst hn he
  exact holder_any s h1
theorem newEmpty (s : Int) (h : NewW w0 L Q w) (hs : ∀ q ∈ Q, q.length ≤ 100000) (hn : holdN Q s = 0) (he : holdE Q s = 0) (hw : waitL Q s = []) :
    Calls Try.prog 13 #[.pointer (some ⟨L, 0, none⟩), .int .i64 s, .int .i64 0, .slice none 0 0, .int .i64 0] w fun x w' => x = .returned (.bool true) ∧ NewW w0 L Q w' := by
  obtain ⟨S, h1, h2, h3⟩ := id h
  refine (holds_any s 0 none 0 0 [] 0 h1 hs hn he hw (Rd.nil _ _ _) rfl (by decide)).mono ?_
  rintro e w1 ⟨rfl, hb⟩
  exact ⟨rfl, h.kept hb⟩
end
/-- What is found of an owner. -/
structure Found (Q : List (List Int)) (o v : Int) (hl : List Int) : Prop where
  wait : 0 ≤ v → ∃ q ∈ Q, q ≠ []
  free : isFree Q o ↔ v < 0 ∧ 0 < hl.length
  at_ : ∀ k, ∀ h : k < hl.length, ∃ i : Nat, hl[k] = (i : Int) ∧ holdN Q i = o ∧ holdE Q i = 0 ∧ ((i : Int) == v) = false ∧ (0 ≤ v → ¬ v < (i : Int)) ∧ (okO o = true → unE Q o i = 0)
  len : hl.length ≤ Q.length
theorem found {Q : List (List Int)} (h : J Q) (o : Int) : Found Q o (waitsFor Q o) (held Q o) := by
  refine ⟨wait_some h.inv, ?_, ?_, heldFrom_len Q o 0⟩
  · rw [isFree, ← List.length_pos_iff]
  · intro k hk
    obtain ⟨i, e1, _, e2, e3, e4, e5, e6⟩ := held_at h hk
    exact ⟨i, e1, e2, e3, by rw [beq_eq_false_iff_ne]; exact e4, e5, e6⟩
/-- After owners of one turn. -/
structure Turned (Q Q2 : List (List Int)) (j : Nat) (sm : Bool) : Prop where
  inv : J Q2
  less : sm = true → total Q2 + 1 ≤ total Q
  le : total Q2 ≤ total Q
  len : Q2.length = Q.length
  same : sm = false → Q2 = Q ∧ ∀ o : Int, 1 ≤ o → o ≤ j → ¬ isFree Q o
theorem Turned.skip {Q Q2 : List (List Int)} {j : Nat} {sm : Bool} (h : Turned Q Q2 j sm) (hf : ¬ isFree Q2 ((j : Int) + 1)) : Turned Q Q2 (j + 1) sm := by
  refine ⟨h.inv, h.less, h.le, h.len, fun hs => ?_⟩
  obtain ⟨rfl, h2⟩ := h.same hs
  refine ⟨rfl, fun o h1 h3 => ?_⟩
  by_cases e : o = (j : Int) + 1
  · subst e; exact hf
  · exact h2 o h1 (by omega)
theorem Turned.free {Q Q2 : List (List Int)} {j : Nat} {sm : Bool} {o s : Int} (h : Turned Q Q2 j sm) (hf : unE Q2 o s = 0) : Turned Q (unQ Q2 o s) (j + 1) true := by
  have := total_un_lt hf
  have := h.le
  exact ⟨J_un h.inv o s, fun _ => by omega, by omega, (unQ_len Q2 o s).trans h.len, fun h => by cases h⟩
theorem empty_at {Q : List (List Int)} (h : ∀ q ∈ Q, q = []) {k : Nat} (hk : k < Q.length) : holdN Q k = 0 ∧ holdE Q k = 0 ∧ waitL Q k = [] := by
  have e := h _ (List.getElem_mem hk)
  rw [holdN, holdE, waitL, if_pos (okS_of hk), if_pos (okS_of hk), if_pos (okS_of hk), queue_nat hk, e]
  exact ⟨rfl, rfl, rfl⟩
theorem none_free {Q : List (List Int)} (h : J Q) (hf : ∀ o : Int, 1 ≤ o → o ≤ (12 : Nat) → ¬ isFree Q o) : ∀ q ∈ Q, q = [] := by
  intro q hq
  by_cases e : q = []
  · exact e
  · obtain ⟨o, h1, h2, h3⟩ := some_free h hq e
    exact absurd h3 (hf o h1 (by omega))

set_option maxRecDepth 100000 in
set_option maxHeartbeats 16000000 in
theorem locksHolds_core (n : Nat) (p : Option Addr) (cc : Nat) (l : List Ac) (w : World) (h1 : 1 ≤ n) (h2 : n ≤ 12) (hl : l.length ≤ 60) (h : Rd w w.heap.size p (acs l)) :
    Calls Try.prog 4 #[.int .i64 n, .slice p l.length cc] w fun e w' => e = .returned (.bool true) ∧ Below w.heap.size w w' := by
  have i1 : (1 : Int) ≤ (n : Int) := by omega
  have i2 : (n : Int) ≤ 12 := by omega
  have i3 : (l.length : Int) ≤ 60 := by omega
  go_enter Try.func4, Try.ntmps4
  go_wp2_with fail
  refine (new_yes n _ h1 (by omega)).mono ?_
  rintro e w1 ⟨L, rfl, hN0⟩
  go_wp2_with fail
  go_loopw [7] (fun i wr => ∃ (k : Nat) (Q : List (List Int)), k ≤ l.length ∧ i = .int .i64 k ∧ NewW w L Q wr ∧ J Q ∧ total Q ≤ k ∧ Q.length = n) (fun i _ => l.length - (intOf i).toNat)
  case atStart => exact ⟨0, _, Nat.zero_le _, rfl, hN0, J_new n, by rw [total_new]; omega, by simp⟩
  case round =>
    clear hN0
    obtain ⟨k, Q, hk, rfl, hN, hJ, htot, hlen⟩ := hrel
    have HJ := Lib.hid hJ
    have HLN := Lib.hid hlen
    clear hJ hlen
    by_cases hlt : k < l.length
    · obtain ⟨b0, o0, rfl, _, x0, x1, x2⟩ := (h.below hN.below).ac hlt
      have hki : (k : Int) < (l.length : Int) := by omega
      obtain ⟨⟨a, o, s⟩, hx⟩ : ∃ x, l[k] = x := ⟨_, rfl⟩
      rw [hx] at x0 x1 x2
      clear hx
      dsimp only at x0 x1 x2
      have HSM := Lib.hid (small_of (Q := Q) (k := k) htot (by omega))
      go_upto_region 10 with fail
      generalize hW : (World.alloc _ _) = W
      have hWb : Below wr.heap.size wr W := by rw [← hW]; exact (Below.refl _ _).alloc (Nat.le_refl _) _
      have hBk : Blk W wr.heap.size 35 (Ac.cells ⟨a, o, s⟩) := by rw [← hW]; exact Blk.new' _ 35 _ rfl
      have hN2 := hN.kept hWb
      obtain ⟨Nb, hNb⟩ : ∃ N, wr.heap.size = N := ⟨_, rfl⟩
      rw [hNb] at hBk ⊢
      clear hW hWb hNb x0 x1 x2 hN
      obtain ⟨x0, x1, x2⟩ := hBk.ac3
      clear hBk
      by_cases ho1 : o < 1
      · go_wp2_with fail
        go_roundw
        case rel => exact ⟨k + 1, Q, by omega, by go_num, hN2, HJ.out, by omega, HLN.out⟩
        case measure => simp [intOf]; omega
      · by_cases ho2 : 12 < o
        · have ho3 : 1 ≤ o := by omega
          clear ho1
          go_wp2_with fail
          go_roundw
          case rel => exact ⟨k + 1, Q, by omega, by go_num, hN2, HJ.out, by omega, HLN.out⟩
          case measure => simp [intOf]; omega
        · have ho3 : 1 ≤ o := by omega
          have ho4 : o ≤ 12 := by omega
          clear ho1 ho2
          by_cases ha0 : a = 0
          · subst ha0
            go_wp2_with fail
            refine (newLock o s hN2 HSM.out).mono ?_
            rintro e w3 ⟨rfl, hN3⟩
            obtain ⟨Q', hN3, hJ3, htot3, hlen3⟩ : ∃ Q', NewW w L Q' w3 ∧ J Q' ∧ total Q' ≤ k + 1 ∧ Q'.length = n := ⟨_, hN3, J_lock HJ.out o s ho4, Nat.le_trans (total_lock Q o s) (by omega), (lockQ_len Q o s).trans HLN.out⟩
            clear hN2 HJ HLN HSM htot x0 x1 x2
            have HJ := Lib.hid hJ3
            have HLN := Lib.hid hlen3
            have HSM := Lib.hid (small_of (Q := Q') (k := k + 1) htot3 (by omega))
            have htot := htot3
            clear hJ3 hlen3 htot3
            go_wp2_with fail
            go_loopw [9, 10, 11] (fun b1 b2 i wv => ∃ (j : Nat) (ws fr : Bool), j ≤ 12 ∧ i = .int .i64 ((j : Int) + 1) ∧ b1 = .bool ws ∧ b2 = .bool fr ∧ NewW w L Q' wv ∧ (ws = true → ∃ q ∈ Q', q ≠ []) ∧ (∀ o : Int, 1 ≤ o → o ≤ j → isFree Q' o → fr = true)) (fun _ _ i _ => (13 - intOf i).toNat)
            case atStart => exact ⟨0, false, false, by omega, rfl, rfl, rfl, hN3, fun h => (by cases h), fun o h1 h2 => by omega⟩
            case round =>
              clear hN3
              obtain ⟨j, ws, fr, hj, rfl, rfl, rfl, hN4, hw, hf⟩ := hrel
              have HW := Lib.hid hw
              have HF := Lib.hid hf
              clear hw hf
              by_cases hj2 : j < 12
              · have hji : (j : Int) + 1 ≤ 12 := by omega
                have hji2 : (1 : Int) ≤ (j : Int) + 1 := by omega
                have HFD := Lib.hid (found HJ.out ((j : Int) + 1))
                obtain ⟨v, hv⟩ : ∃ v, waitsFor Q' ((j : Int) + 1) = v := ⟨_, rfl⟩
                have HV := Lib.hid hv
                obtain ⟨hs, hhs⟩ : ∃ hs, held Q' ((j : Int) + 1) = hs := ⟨_, rfl⟩
                have HHS := Lib.hid hhs
                rw [hv, hhs] at HFD
                clear hv hhs
                go_wp2_with fail
                refine (newHeld ((j : Int) + 1) hN4).mono ?_
                rintro e w5 ⟨p1, d1, rfl, hr1, hN5⟩
                rw [HHS.out] at hr1 ⊢
                clear hN4
                go_wp2_with fail
                refine (newFor ((j : Int) + 1) hN5 HSM.out).mono ?_
                rintro e w6 ⟨rfl, hN6, hb6⟩
                rw [HV.out]
                have hr2 := hr1.kept hb6
                have hln : hs.length ≤ 1000 := by have := HFD.out.len; have := HLN.out; omega
                clear hr1 hN5 hb6
                go_upto_region 21 with fail
                go_cut [9] (fun s wx => s = .bool (ws || decide (0 ≤ v)) ∧ wx = w6)
                case first =>
                  cases ws
                  · go_wp2_with fail
                    go_meet
                    exact ⟨by simp, rfl⟩
                  · go_wp2_with fail
                    go_meet
                    exact ⟨by simp, rfl⟩
                case rest =>
                  obtain ⟨rfl, rfl⟩ := hcut
                  have HW2 := Lib.hid (show (ws || decide (0 ≤ v)) = true → ∃ q ∈ Q', q ≠ [] by
                    intro hh
                    rw [Bool.or_eq_true] at hh
                    rcases hh with hh | hh
                    · exact HW.out hh
                    · exact HFD.out.wait (of_decide_eq_true hh))
                  generalize (ws || decide (0 ≤ v)) = ws2 at HW2 ⊢
                  go_upto_region 22 with fail
                  go_cut [10] (fun s wx => s = .bool (fr || (decide (v < 0) && decide (0 < hs.length))) ∧ wx = wc)
                  case first =>
                    cases fr
                    · by_cases hv0 : v < 0
                      · go_wp2_with fail
                        go_meet
                        refine ⟨?_, rfl⟩
                        simp [hv0]
                      · have hv1 : decide (v < 0) = false := by simp; omega
                        go_wp2_with fail
                        go_meet
                        refine ⟨?_, rfl⟩
                        simp [hv1]
                    · go_wp2_with fail
                      go_meet
                      exact ⟨by simp, rfl⟩
                  case rest =>
                    obtain ⟨rfl, rfl⟩ := hcut
                    have HF2 := Lib.hid (show ∀ o : Int, 1 ≤ o → o ≤ ((j + 1 : Nat) : Int) → isFree Q' o → (fr || (decide (v < 0) && decide (0 < hs.length))) = true by
                      intro o h1 h2 h3
                      by_cases e : o = (j : Int) + 1
                      · subst e
                        obtain ⟨e1, e2⟩ := HFD.out.free.1 h3
                        simp [e1, e2]
                      · rw [HF.out o h1 (by omega) h3]; rfl)
                    generalize (fr || (decide (v < 0) && decide (0 < hs.length))) = fr2 at HF2 ⊢
                    clear HW HF
                    go_wp2_with fail
                    go_loopw [14] (fun i wx => ∃ q : Nat, q ≤ hs.length ∧ i = .int .i64 q ∧ NewW w L Q' wx ∧ Rd wx wx.heap.size p1 (ints hs)) (fun i _ => hs.length - (intOf i).toNat)
                    case atStart => exact ⟨0, Nat.zero_le _, rfl, hN6, hr2⟩
                    case round =>
                      clear hN6 hr2
                      obtain ⟨q, hq, rfl, hN6, hr2⟩ := hrel
                      by_cases hq2 : q < hs.length
                      · have hqi : (q : Int) < (hs.length : Int) := by omega
                        obtain ⟨i, e1, e2, e3, e4, e5, e6⟩ := HFD.out.at_ q hq2
                        obtain ⟨pb, po, rfl, _, hc⟩ := hr2.int (k := q) hq2
                        rw [e1] at hc
                        have hoo : (((j : Int) + 1) != ((j : Int) + 1)) = false := by simp
                        have HN := Lib.hid (⟨e2, e3⟩ : holdN Q' i = (j : Int) + 1 ∧ holdE Q' i = 0)
                        clear e1 e2 e3 e6
                        go_wp2_with fail
                        refine (newHolder i ((j : Int) + 1) 0 hN6 HN.out.1 HN.out.2).mono ?_
                        rintro e w7 ⟨rfl, rfl⟩
                        by_cases hv0 : 0 ≤ v
                        · have hv2 : ¬ v < (i : Int) := by have := e5 hv0; omega
                          have hv3 : decide (v < (i : Int)) = false := by simp; omega
                          clear e5
                          go_wp2_with fail
                          go_roundw
                          case rel => exact ⟨q + 1, by omega, by go_num, hN6, hr2⟩
                          case measure => simp [intOf]; omega
                        · have hv3 : decide (0 ≤ v) = false := by simp; omega
                          clear e5
                          go_wp2_with fail
                          go_roundw
                          case rel => exact ⟨q + 1, by omega, by go_num, hN6, hr2⟩
                          case measure => simp [intOf]; omega
                      · have hqi : ¬ (q : Int) < (hs.length : Int) := by omega
                        go_wp2_with fail
                        go_roundw
                        case rel => exact ⟨j + 1, ws2, fr2, by omega, by go_num, rfl, rfl, hN6, HW2.out, HF2.out⟩
                        case measure => simp [intOf]; omega
              · have hji : ¬ (j : Int) + 1 ≤ 12 := by omega
                have hj3 : j = 12 := by omega
                cases ws
                · go_wp2_with fail
                  go_roundw
                  case rel => exact ⟨k + 1, Q', by omega, by go_num, hN4, HJ.out, htot, HLN.out⟩
                  case measure => simp [intOf]; omega
                · have hfr : fr = true := by
                    obtain ⟨q, hq, hne⟩ := HW.out rfl
                    obtain ⟨o, h1, h2, h3⟩ := some_free HJ.out hq hne
                    exact HF.out o h1 (by omega) h3
                  subst hfr
                  go_wp2_with fail
                  go_roundw
                  case rel => exact ⟨k + 1, Q', by omega, by go_num, hN4, HJ.out, htot, HLN.out⟩
                  case measure => simp [intOf]; omega
          · have ha0b : (a == 0) = false := by rw [beq_eq_false_iff_ne]; exact ha0
            by_cases ha1 : a = 1
            · subst ha1
              clear ha0
              go_wp2_with fail
              refine (newUnlock o s hN2 HSM.out).mono ?_
              rintro e w3 ⟨rfl, hN3⟩
              obtain ⟨Q', hN3, hJ3, htot3, hlen3⟩ : ∃ Q', NewW w L Q' w3 ∧ J Q' ∧ total Q' ≤ k + 1 ∧ Q'.length = n := ⟨_, hN3, J_un HJ.out o s, Nat.le_trans (total_un Q o s) (by omega), (unQ_len Q o s).trans HLN.out⟩
              clear hN2 HJ HLN HSM htot x0 x1 x2
              have HJ := Lib.hid hJ3
              have HLN := Lib.hid hlen3
              have HSM := Lib.hid (small_of (Q := Q') (k := k + 1) htot3 (by omega))
              have htot := htot3
              clear hJ3 hlen3 htot3
              go_wp2_with fail
              go_loopw [9, 10, 11] (fun b1 b2 i wv => ∃ (j : Nat) (ws fr : Bool), j ≤ 12 ∧ i = .int .i64 ((j : Int) + 1) ∧ b1 = .bool ws ∧ b2 = .bool fr ∧ NewW w L Q' wv ∧ (ws = true → ∃ q ∈ Q', q ≠ []) ∧ (∀ o : Int, 1 ≤ o → o ≤ j → isFree Q' o → fr = true)) (fun _ _ i _ => (13 - intOf i).toNat)
              case atStart => exact ⟨0, false, false, by omega, rfl, rfl, rfl, hN3, fun h => (by cases h), fun o h1 h2 => by omega⟩
              case round =>
                clear hN3
                obtain ⟨j, ws, fr, hj, rfl, rfl, rfl, hN4, hw, hf⟩ := hrel
                have HW := Lib.hid hw
                have HF := Lib.hid hf
                clear hw hf
                by_cases hj2 : j < 12
                · have hji : (j : Int) + 1 ≤ 12 := by omega
                  have hji2 : (1 : Int) ≤ (j : Int) + 1 := by omega
                  have HFD := Lib.hid (found HJ.out ((j : Int) + 1))
                  obtain ⟨v, hv⟩ : ∃ v, waitsFor Q' ((j : Int) + 1) = v := ⟨_, rfl⟩
                  have HV := Lib.hid hv
                  obtain ⟨hs, hhs⟩ : ∃ hs, held Q' ((j : Int) + 1) = hs := ⟨_, rfl⟩
                  have HHS := Lib.hid hhs
                  rw [hv, hhs] at HFD
                  clear hv hhs
                  go_wp2_with fail
                  refine (newHeld ((j : Int) + 1) hN4).mono ?_
                  rintro e w5 ⟨p1, d1, rfl, hr1, hN5⟩
                  rw [HHS.out] at hr1 ⊢
                  clear hN4
                  go_wp2_with fail
                  refine (newFor ((j : Int) + 1) hN5 HSM.out).mono ?_
                  rintro e w6 ⟨rfl, hN6, hb6⟩
                  rw [HV.out]
                  have hr2 := hr1.kept hb6
                  have hln : hs.length ≤ 1000 := by have := HFD.out.len; have := HLN.out; omega
                  clear hr1 hN5 hb6
                  go_upto_region 21 with fail
                  go_cut [9] (fun s wx => s = .bool (ws || decide (0 ≤ v)) ∧ wx = w6)
                  case first =>
                    cases ws
                    · go_wp2_with fail
                      go_meet
                      exact ⟨by simp, rfl⟩
                    · go_wp2_with fail
                      go_meet
                      exact ⟨by simp, rfl⟩
                  case rest =>
                    obtain ⟨rfl, rfl⟩ := hcut
                    have HW2 := Lib.hid (show (ws || decide (0 ≤ v)) = true → ∃ q ∈ Q', q ≠ [] by
                      intro hh
                      rw [Bool.or_eq_true] at hh
                      rcases hh with hh | hh
                      · exact HW.out hh
                      · exact HFD.out.wait (of_decide_eq_true hh))
                    generalize (ws || decide (0 ≤ v)) = ws2 at HW2 ⊢
                    go_upto_region 22 with fail
                    go_cut [10] (fun s wx => s = .bool (fr || (decide (v < 0) && decide (0 < hs.length))) ∧ wx = wc)
                    case first =>
                      cases fr
                      · by_cases hv0 : v < 0
                        · go_wp2_with fail
                          go_meet
                          refine ⟨?_, rfl⟩
                          simp [hv0]
                        · have hv1 : decide (v < 0) = false := by simp; omega
                          go_wp2_with fail
                          go_meet
                          refine ⟨?_, rfl⟩
                          simp [hv1]
                      · go_wp2_with fail
                        go_meet
                        exact ⟨by simp, rfl⟩
                    case rest =>
                      obtain ⟨rfl, rfl⟩ := hcut
                      have HF2 := Lib.hid (show ∀ o : Int, 1 ≤ o → o ≤ ((j + 1 : Nat) : Int) → isFree Q' o → (fr || (decide (v < 0) && decide (0 < hs.length))) = true by
                        intro o h1 h2 h3
                        by_cases e : o = (j : Int) + 1
                        · subst e
                          obtain ⟨e1, e2⟩ := HFD.out.free.1 h3
                          simp [e1, e2]
                        · rw [HF.out o h1 (by omega) h3]; rfl)
                      generalize (fr || (decide (v < 0) && decide (0 < hs.length))) = fr2 at HF2 ⊢
                      clear HW HF
                      go_wp2_with fail
                      go_loopw [14] (fun i wx => ∃ q : Nat, q ≤ hs.length ∧ i = .int .i64 q ∧ NewW w L Q' wx ∧ Rd wx wx.heap.size p1 (ints hs)) (fun i _ => hs.length - (intOf i).toNat)
                      case atStart => exact ⟨0, Nat.zero_le _, rfl, hN6, hr2⟩
                      case round =>
                        clear hN6 hr2
                        obtain ⟨q, hq, rfl, hN6, hr2⟩ := hrel
                        by_cases hq2 : q < hs.length
                        · have hqi : (q : Int) < (hs.length : Int) := by omega
                          obtain ⟨i, e1, e2, e3, e4, e5, e6⟩ := HFD.out.at_ q hq2
                          obtain ⟨pb, po, rfl, _, hc⟩ := hr2.int (k := q) hq2
                          rw [e1] at hc
                          have hoo : (((j : Int) + 1) != ((j : Int) + 1)) = false := by simp
                          have HN := Lib.hid (⟨e2, e3⟩ : holdN Q' i = (j : Int) + 1 ∧ holdE Q' i = 0)
                          clear e1 e2 e3 e6
                          go_wp2_with fail
                          refine (newHolder i ((j : Int) + 1) 0 hN6 HN.out.1 HN.out.2).mono ?_
                          rintro e w7 ⟨rfl, rfl⟩
                          by_cases hv0 : 0 ≤ v
                          · have hv2 : ¬ v < (i : Int) := by have := e5 hv0; omega
                            have hv3 : decide (v < (i : Int)) = false := by simp; omega
                            clear e5
                            go_wp2_with fail
                            go_roundw
                            case rel => exact ⟨q + 1, by omega, by go_num, hN6, hr2⟩
                            case measure => simp [intOf]; omega
                          · have hv3 : decide (0 ≤ v) = false := by simp; omega
                            clear e5
                            go_wp2_with fail
                            go_roundw
                            case rel => exact ⟨q + 1, by omega, by go_num, hN6, hr2⟩
                            case measure => simp [intOf]; omega
                        · have hqi : ¬ (q : Int) < (hs.length : Int) := by omega
                          go_wp2_with fail
                          go_roundw
                          case rel => exact ⟨j + 1, ws2, fr2, by omega, by go_num, rfl, rfl, hN6, HW2.out, HF2.out⟩
                          case measure => simp [intOf]; omega
                · have hji : ¬ (j : Int) + 1 ≤ 12 := by omega
                  have hj3 : j = 12 := by omega
                  cases ws
                  · go_wp2_with fail
                    go_roundw
                    case rel => exact ⟨k + 1, Q', by omega, by go_num, hN4, HJ.out, htot, HLN.out⟩
                    case measure => simp [intOf]; omega
                  · have hfr : fr = true := by
                      obtain ⟨q, hq, hne⟩ := HW.out rfl
                      obtain ⟨o, h1, h2, h3⟩ := some_free HJ.out hq hne
                      exact HF.out o h1 (by omega) h3
                    subst hfr
                    go_wp2_with fail
                    go_roundw
                    case rel => exact ⟨k + 1, Q', by omega, by go_num, hN4, HJ.out, htot, HLN.out⟩
                    case measure => simp [intOf]; omega
            · have ha1b : (a == 1) = false := by rw [beq_eq_false_iff_ne]; exact ha1
              clear ha0 ha1
              go_upto_if 75 with fail
              obtain ⟨Q', hN3, hJ3, htot3, hlen3⟩ : ∃ Q', NewW w L Q' W ∧ J Q' ∧ total Q' ≤ k + 1 ∧ Q'.length = n := ⟨Q, hN2, HJ.out, by omega, HLN.out⟩
              clear hN2 HJ HLN HSM htot x0 x1 x2
              have HJ := Lib.hid hJ3
              have HLN := Lib.hid hlen3
              have HSM := Lib.hid (small_of (Q := Q') (k := k + 1) htot3 (by omega))
              have htot := htot3
              clear hJ3 hlen3 htot3
              go_wp2_with fail
              go_loopw [9, 10, 11] (fun b1 b2 i wv => ∃ (j : Nat) (ws fr : Bool), j ≤ 12 ∧ i = .int .i64 ((j : Int) + 1) ∧ b1 = .bool ws ∧ b2 = .bool fr ∧ NewW w L Q' wv ∧ (ws = true → ∃ q ∈ Q', q ≠ []) ∧ (∀ o : Int, 1 ≤ o → o ≤ j → isFree Q' o → fr = true)) (fun _ _ i _ => (13 - intOf i).toNat)
              case atStart => exact ⟨0, false, false, by omega, rfl, rfl, rfl, hN3, fun h => (by cases h), fun o h1 h2 => by omega⟩
              case round =>
                clear hN3
                obtain ⟨j, ws, fr, hj, rfl, rfl, rfl, hN4, hw, hf⟩ := hrel
                have HW := Lib.hid hw
                have HF := Lib.hid hf
                clear hw hf
                by_cases hj2 : j < 12
                · have hji : (j : Int) + 1 ≤ 12 := by omega
                  have hji2 : (1 : Int) ≤ (j : Int) + 1 := by omega
                  have HFD := Lib.hid (found HJ.out ((j : Int) + 1))
                  obtain ⟨v, hv⟩ : ∃ v, waitsFor Q' ((j : Int) + 1) = v := ⟨_, rfl⟩
                  have HV := Lib.hid hv
                  obtain ⟨hs, hhs⟩ : ∃ hs, held Q' ((j : Int) + 1) = hs := ⟨_, rfl⟩
                  have HHS := Lib.hid hhs
                  rw [hv, hhs] at HFD
                  clear hv hhs
                  go_wp2_with fail
                  refine (newHeld ((j : Int) + 1) hN4).mono ?_
                  rintro e w5 ⟨p1, d1, rfl, hr1, hN5⟩
                  rw [HHS.out] at hr1 ⊢
                  clear hN4
                  go_wp2_with fail
                  refine (newFor ((j : Int) + 1) hN5 HSM.out).mono ?_
                  rintro e w6 ⟨rfl, hN6, hb6⟩
                  rw [HV.out]
                  have hr2 := hr1.kept hb6
                  have hln : hs.length ≤ 1000 := by have := HFD.out.len; have := HLN.out; omega
                  clear hr1 hN5 hb6
                  go_upto_region 21 with fail
                  go_cut [9] (fun s wx => s = .bool (ws || decide (0 ≤ v)) ∧ wx = w6)
                  case first =>
                    cases ws
                    · go_wp2_with fail
                      go_meet
                      exact ⟨by simp, rfl⟩
                    · go_wp2_with fail
                      go_meet
                      exact ⟨by simp, rfl⟩
                  case rest =>
                    obtain ⟨rfl, rfl⟩ := hcut
                    have HW2 := Lib.hid (show (ws || decide (0 ≤ v)) = true → ∃ q ∈ Q', q ≠ [] by
                      intro hh
                      rw [Bool.or_eq_true] at hh
                      rcases hh with hh | hh
                      · exact HW.out hh
                      · exact HFD.out.wait (of_decide_eq_true hh))
                    generalize (ws || decide (0 ≤ v)) = ws2 at HW2 ⊢
                    go_upto_region 22 with fail
                    go_cut [10] (fun s wx => s = .bool (fr || (decide (v < 0) && decide (0 < hs.length))) ∧ wx = wc)
                    case first =>
                      cases fr
                      · by_cases hv0 : v < 0
                        · go_wp2_with fail
                          go_meet
                          refine ⟨?_, rfl⟩
                          simp [hv0]
                        · have hv1 : decide (v < 0) = false := by simp; omega
                          go_wp2_with fail
                          go_meet
                          refine ⟨?_, rfl⟩
                          simp [hv1]
                      · go_wp2_with fail
                        go_meet
                        exact ⟨by simp, rfl⟩
                    case rest =>
                      obtain ⟨rfl, rfl⟩ := hcut
                      have HF2 := Lib.hid (show ∀ o : Int, 1 ≤ o → o ≤ ((j + 1 : Nat) : Int) → isFree Q' o → (fr || (decide (v < 0) && decide (0 < hs.length))) = true by
                        intro o h1 h2 h3
                        by_cases e : o = (j : Int) + 1
                        · subst e
                          obtain ⟨e1, e2⟩ := HFD.out.free.1 h3
                          simp [e1, e2]
                        · rw [HF.out o h1 (by omega) h3]; rfl)
                      generalize (fr || (decide (v < 0) && decide (0 < hs.length))) = fr2 at HF2 ⊢
                      clear HW HF
                      go_wp2_with fail
                      go_loopw [14] (fun i wx => ∃ q : Nat, q ≤ hs.length ∧ i = .int .i64 q ∧ NewW w L Q' wx ∧ Rd wx wx.heap.size p1 (ints hs)) (fun i _ => hs.length - (intOf i).toNat)
                      case atStart => exact ⟨0, Nat.zero_le _, rfl, hN6, hr2⟩
                      case round =>
                        clear hN6 hr2
                        obtain ⟨q, hq, rfl, hN6, hr2⟩ := hrel
                        by_cases hq2 : q < hs.length
                        · have hqi : (q : Int) < (hs.length : Int) := by omega
                          obtain ⟨i, e1, e2, e3, e4, e5, e6⟩ := HFD.out.at_ q hq2
                          obtain ⟨pb, po, rfl, _, hc⟩ := hr2.int (k := q) hq2
                          rw [e1] at hc
                          have hoo : (((j : Int) + 1) != ((j : Int) + 1)) = false := by simp
                          have HN := Lib.hid (⟨e2, e3⟩ : holdN Q' i = (j : Int) + 1 ∧ holdE Q' i = 0)
                          clear e1 e2 e3 e6
                          go_wp2_with fail
                          refine (newHolder i ((j : Int) + 1) 0 hN6 HN.out.1 HN.out.2).mono ?_
                          rintro e w7 ⟨rfl, rfl⟩
                          by_cases hv0 : 0 ≤ v
                          · have hv2 : ¬ v < (i : Int) := by have := e5 hv0; omega
                            have hv3 : decide (v < (i : Int)) = false := by simp; omega
                            clear e5
                            go_wp2_with fail
                            go_roundw
                            case rel => exact ⟨q + 1, by omega, by go_num, hN6, hr2⟩
                            case measure => simp [intOf]; omega
                          · have hv3 : decide (0 ≤ v) = false := by simp; omega
                            clear e5
                            go_wp2_with fail
                            go_roundw
                            case rel => exact ⟨q + 1, by omega, by go_num, hN6, hr2⟩
                            case measure => simp [intOf]; omega
                        · have hqi : ¬ (q : Int) < (hs.length : Int) := by omega
                          go_wp2_with fail
                          go_roundw
                          case rel => exact ⟨j + 1, ws2, fr2, by omega, by go_num, rfl, rfl, hN6, HW2.out, HF2.out⟩
                          case measure => simp [intOf]; omega
                · have hji : ¬ (j : Int) + 1 ≤ 12 := by omega
                  have hj3 : j = 12 := by omega
                  cases ws
                  · go_wp2_with fail
                    go_roundw
                    case rel => exact ⟨k + 1, Q', by omega, by go_num, hN4, HJ.out, htot, HLN.out⟩
                    case measure => simp [intOf]; omega
                  · have hfr : fr = true := by
                      obtain ⟨q, hq, hne⟩ := HW.out rfl
                      obtain ⟨o, h1, h2, h3⟩ := some_free HJ.out hq hne
                      exact HF.out o h1 (by omega) h3
                    subst hfr
                    go_wp2_with fail
                    go_roundw
                    case rel => exact ⟨k + 1, Q', by omega, by go_num, hN4, HJ.out, htot, HLN.out⟩
                    case measure => simp [intOf]; omega
    · have hki : ¬ (k : Int) < (l.length : Int) := by omega
      have htt : total Q + 0 ≤ 60 := by omega
      clear htot
      go_wp2_with fail
      go_loopw [17] (fun t wx => ∃ (t0 : Nat) (Q' : List (List Int)), t = .int .i64 t0 ∧ NewW w L Q' wx ∧ J Q' ∧ total Q' + t0 ≤ 60 ∧ Q'.length = n) (fun t _ => (61 - intOf t).toNat)
      case atStart => exact ⟨0, Q, rfl, hN, HJ.out, htt, HLN.out⟩
      case round =>
        clear hN HJ HLN htt
        obtain ⟨t0, Q', rfl, hN, hJ, htt, hlen⟩ := hrel
        have HJ := Lib.hid hJ
        have HLN := Lib.hid hlen
        have ht1 : (t0 : Int) ≤ 12 * (n : Int) + 60 := by omega
        have ht2 : (t0 : Int) ≤ 60 := by omega
        clear hJ hlen
        go_wp2_with fail
        go_loopw [18, 19] (fun s i wx => ∃ (j : Nat) (sm : Bool) (Q2 : List (List Int)), j ≤ 12 ∧ s = .bool sm ∧ i = .int .i64 ((j : Int) + 1) ∧ NewW w L Q2 wx ∧ Turned Q' Q2 j sm) (fun _ i _ => (13 - intOf i).toNat)
        case atStart => exact ⟨0, false, Q', by omega, rfl, rfl, hN, HJ.out, fun h => (by cases h), Nat.le_refl _, rfl, fun _ => ⟨rfl, fun o h1 h2 => by omega⟩⟩
        case round =>
          clear hN
          obtain ⟨j, sm, Q2, hj, rfl, rfl, hN, hT⟩ := hrel
          have HT := Lib.hid hT
          have HSM := Lib.hid (small_of (Q := Q2) (k := 60) (by have := hT.le; omega) (by omega))
          clear hT
          by_cases hj2 : j < 12
          · have hji : (j : Int) + 1 ≤ 12 := by omega
            have hji2 : (1 : Int) ≤ (j : Int) + 1 := by omega
            have HFD := Lib.hid (found HT.out.inv ((j : Int) + 1))
            obtain ⟨v, hv⟩ : ∃ v, waitsFor Q2 ((j : Int) + 1) = v := ⟨_, rfl⟩
            have HV := Lib.hid hv
            obtain ⟨hs, hhs⟩ : ∃ hs, held Q2 ((j : Int) + 1) = hs := ⟨_, rfl⟩
            have HHS := Lib.hid hhs
            rw [hv, hhs] at HFD
            clear hv hhs
            go_wp2_with fail
            refine (newHeld ((j : Int) + 1) hN).mono ?_
            rintro e w5 ⟨p1, d1, rfl, hr1, hN5⟩
            rw [HHS.out] at hr1 ⊢
            clear hN
            go_wp2_with fail
            refine (newFor ((j : Int) + 1) hN5 HSM.out).mono ?_
            rintro e w6 ⟨rfl, hN6, hb6⟩
            rw [HV.out]
            have hr2 := hr1.kept hb6
            clear hr1 hN5 hb6
            by_cases hv0 : 0 ≤ v
            · have HNF := Lib.hid (show ¬ isFree Q2 ((j : Int) + 1) by rw [HFD.out.free]; omega)
              go_wp2_with fail
              go_roundw
              case rel => exact ⟨j + 1, sm, Q2, by omega, rfl, by go_num, hN6, HT.out.skip HNF.out⟩
              case measure => simp [intOf]; omega
            · have hv3 : decide (0 ≤ v) = false := by simp; omega
              by_cases hl0 : hs.length = 0
              · have HNF := Lib.hid (show ¬ isFree Q2 ((j : Int) + 1) by rw [HFD.out.free]; omega)
                have hl1 : ((hs.length : Int) == 0) = true := by rw [beq_iff_eq]; omega
                clear hl0
                go_wp2_with fail
                go_roundw
                case rel => exact ⟨j + 1, sm, Q2, by omega, rfl, by go_num, hN6, HT.out.skip HNF.out⟩
                case measure => simp [intOf]; omega
              · have hl1 : ((hs.length : Int) == 0) = false := by rw [beq_eq_false_iff_ne]; omega
                have hl2 : (0 : Int) < (hs.length : Int) := by omega
                obtain ⟨i, e1, _, _, _, _, e6⟩ := HFD.out.at_ 0 (by omega)
                obtain ⟨pb, po, rfl, _, hc⟩ := hr2.int (k := 0) (by omega)
                rw [e1, Nat.add_zero] at hc
                have HU := Lib.hid (e6 (okO_iff.2 ⟨by omega, by omega⟩))
                clear e1 e6 hl0 hr2
                go_wp2_with fail
                refine (newUnlock ((j : Int) + 1) i hN6 HSM.out).mono ?_
                rintro e w7 ⟨rfl, hN7⟩
                rw [HU.out]
                clear hN6
                go_wp2_with fail
                go_roundw
                case rel => exact ⟨j + 1, true, _, by omega, rfl, by go_num, hN7, HT.out.free HU.out⟩
                case measure => simp [intOf]; omega
          · have hji : ¬ (j : Int) + 1 ≤ 12 := by omega
            have hj3 : j = 12 := by omega
            subst hj3
            cases sm
            · have HE := Lib.hid (HT.out.same rfl)
              have HE2 := Lib.hid (none_free HT.out.inv (by rw [HE.out.1]; exact HE.out.2))
              have HL2 := Lib.hid (HT.out.len.trans HLN.out)
              go_wp2_with fail
              go_loopw [23] (fun i wx => ∃ k : Nat, k ≤ n ∧ i = .int .i64 k ∧ NewW w L Q2 wx) (fun i _ => n - (intOf i).toNat)
              case atStart => exact ⟨0, Nat.zero_le _, rfl, hN⟩
              case round =>
                clear hN
                obtain ⟨k2, hk2, rfl, hN⟩ := hrel
                by_cases hlt2 : k2 < n
                · have hki2 : (k2 : Int) < (n : Int) := by omega
                  have HA := Lib.hid (empty_at HE2.out (k := k2) (by rw [HL2.out]; exact hlt2))
                  go_wp2_with fail
                  refine (newEmpty k2 hN HSM.out HA.out.1 HA.out.2.1 HA.out.2.2).mono ?_
                  rintro e w7 ⟨rfl, hN7⟩
                  go_wp2_with fail
                  go_roundw
                  case rel => exact ⟨k2 + 1, by omega, by go_num, hN7⟩
                  case measure => simp [intOf]; omega
                · have hki2 : ¬ (k2 : Int) < (n : Int) := by omega
                  go_wp2_with fail
                  refine (known_any _).mono ?_
                  rintro e w7 ⟨rfl, hb7⟩
                  go_wp2_with fail
                  go_ret
                  exact ⟨rfl, below_step hN.below hb7⟩
            · have hT := HT.out
              have hls := hT.less rfl
              have hin := hT.inv
              have hle := hT.len.trans HLN.out
              clear hT
              go_wp2_with fail
              go_roundw
              case rel => exact ⟨t0 + 1, Q2, by go_num, hN, hin, by omega, hle⟩
              case measure => simp [intOf]; omega
set_option maxRecDepth 100000 in
set_option maxHeartbeats 1000000 in
theorem locksHolds_walk (n : Int) (p : Option Addr) (cc : Nat) (l : List Ac) (w : World) (h : Rd w w.heap.size p (acs l)) (hm : l.length ≤ maxLen) :
    Calls Try.prog 4 #[.int .i64 n, .slice p l.length cc] w fun e w' => e = .returned (.bool true) ∧ Below w.heap.size w w' := by
  unfold maxLen at hm
  by_cases hn1 : n < 1
  · go_enter Try.func4, Try.ntmps4
    go_wp2_with fail
    refine (known_any _).mono ?_
    rintro e w3 ⟨rfl, hb3⟩
    go_wp2_with fail
    go_ret
    exact ⟨rfl, hb3⟩
  · by_cases hn2 : 12 < n
    · have hn3 : 1 ≤ n := by omega
      clear hn1
      go_enter Try.func4, Try.ntmps4
      go_wp2_with fail
      refine (known_any _).mono ?_
      rintro e w3 ⟨rfl, hb3⟩
      go_wp2_with fail
      go_ret
      exact ⟨rfl, hb3⟩
    · have hn3 : 1 ≤ n := by omega
      have hn4 : n ≤ 12 := by omega
      by_cases hl : l.length ≤ 60
      · obtain ⟨n, rfl⟩ : ∃ k : Nat, n = (k : Int) := ⟨n.toNat, by omega⟩
        exact locksHolds_core n p cc l w (by omega) (by omega) hl h
      · have hl2 : (60 : Int) < (l.length : Int) := by omega
        clear hn1 hn2 hl
        go_enter Try.func4, Try.ntmps4
        go_wp2_with fail
        refine (known_any _).mono ?_
        rintro e w3 ⟨rfl, hb3⟩
        go_wp2_with fail
        go_ret
        exact ⟨rfl, hb3⟩
end Go.Proofs.Ythjakgjpnijmlaa
