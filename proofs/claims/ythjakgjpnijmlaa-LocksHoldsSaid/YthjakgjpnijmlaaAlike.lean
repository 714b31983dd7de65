/- alike: the locks are in the state of the document's. -/
import Derived.Test.YthjakgjpnijmlaaPlain
import Derived.Test.YthjakgjpnijmlaaLaw
namespace Go.Proofs.Ythjakgjpnijmlaa
open Go.RowKit

/-- A cell of a list of the call's own. -/
theorem own_at {w : World} {base n c : Nat} {e : TypeId} {p : Option Addr} {xs : List Value} (h : w.ownsRow base e 1 (.slice p n c) n xs) {k : Nat} (hk : k < n) : ∃ g v, p = some ⟨g, 0, none⟩ ∧ w.cell? ⟨g, k, none⟩ = some v ∧ w.frozen? ⟨g, k, none⟩ = false ∧ base ≤ g := by
  obtain ⟨g, cap, hv, hb, hlt⟩ := h.form (by omega)
  injection hv with hp
  subst hp
  have hl : k < xs.length := by have := h.1; omega
  have hcell := h.cells (g := g) rfl k xs[k] (List.getElem?_eq_getElem hl)
  have hadd : (⟨g, 0, none⟩ : Addr).add k = ⟨g, k, none⟩ := by unfold Addr.add; split <;> simp_all
  rw [hadd] at hcell
  obtain ⟨cur, hc⟩ := own_type h (k := g) rfl
  exact ⟨g, _, rfl, hcell, by simp [World.frozen?, hc], hb⟩

section
variable {w : World} {L X : Nat} {S U : Nat → Prop} {Q : List (List Int)}
set_option maxRecDepth 100000 in
set_option maxHeartbeats 8000000 in
theorem alike_any (m : Nat) (h : LK w L S Q) (hx : RX w X U (heads Q) (tails Q)) (hi : Inv Q) (hs : ∀ q ∈ Q, q.length ≤ 100000) (hm : m ≤ 100) :
    Calls Try.prog 19 #[.pointer (some ⟨L, 0, none⟩), .pointer (some ⟨X, 0, none⟩), .int .i64 m] w fun e w' => e = .returned (.bool true) ∧ Below w.heap.size w w' := by
  have HL := Lib.hid h
  have HX := Lib.hid hx
  have HI := Lib.hid hi
  have HS := Lib.hid hs
  have HT := Lib.hid (show ∀ t ∈ tails Q, t.length ≤ 100000 by
    intro t ht
    simp only [tails, List.mem_map] at ht
    obtain ⟨q, hq, rfl⟩ := ht
    have := hs q hq
    simp; omega)
  have HHL := Lib.hid (heads_len Q)
  have hm2 : (m : Int) ≤ 100 := by omega
  clear hi hs hm
  obtain ⟨h0, h1, _⟩ := h
  obtain ⟨n, hn⟩ : ∃ n, Q.length = n := ⟨_, rfl⟩
  rw [hn] at h0 h1 HHL
  have HN := Lib.hid hn
  obtain ⟨_, hg, qg, ps, hd⟩ := hx
  obtain ⟨hc0, hc1⟩ := hd.cells
  rw [HHL.out] at hc0 hc1
  have lX := hd.lt X hd.sX
  have g0 := fun g => Gr.at_ lX hc0 g
  have hnn : ((n : Int) != (n : Int)) = false := by simp
  have HST := Lib.hid (fun w (h : LK w L S Q) => stripes_any h)
  rw [hn] at HST
  have HH1 := Lib.hid (show holdN Q (-1) = 0 ∧ holdE Q (-1) = 2 ∧ waitL Q (-1) = [] from ⟨rfl, rfl, rfl⟩)
  have HH2 := Lib.hid (show holdN Q n = 0 ∧ holdE Q n = 2 ∧ waitL Q n = [] by
    have : okS Q n = false := by rw [← hn]; simp [okS]
    simp [holdN, holdE, waitL, this])
  clear hn
  go_enter Try.func19, Try.ntmps19
  go_wp2_with fail
  refine wp_region_grows (by kernel_rfl) (by kernel_rfl) ?_
  repeat (go_big_quiet_step ((first
    | (go_at_call 24; exact Calls.gr_same _ ((HST.out _ (HL.out.kept (Gr.h _))).mono fun e w' ⟨he, hw⟩ => ⟨he, hw.symm⟩))
    | (go_at_call 13; exact Calls.gr _ (holds_any _ 0 none 0 0 [] 2 (HL.out.kept (Gr.h _)) HS.out (by first | exact HH1.out.1 | exact HH2.out.1) (by first | exact HH1.out.2.1 | exact HH2.out.2.1) (by first | exact HH1.out.2.2 | exact HH2.out.2.2) (Rd.nil _ _ _) rfl (by decide))))))
  refine wpQuiet_nil ?_
  rintro _ ⟨g, rfl⟩
  have hb := g.h
  generalize g.w = w1 at hb ⊢
  clear g0 g hc0 hc1 lX hnn
  go_wp2_with fail
  go_loopw [7] (fun i wr => ∃ k : Nat, k ≤ n ∧ i = .int .i64 k ∧ Below w.heap.size w wr) (fun i _ => n - (intOf i).toNat)
  case atStart => exact ⟨0, Nat.zero_le _, rfl, hb⟩
  case round =>
    clear hb
    obtain ⟨k, hk, rfl, hb⟩ := hrel
    have hdk := hd.kept hb
    obtain ⟨hc0, hc1⟩ := hdk.cells
    rw [HHL.out] at hc0 hc1
    by_cases hlt : k < n
    · have hki : (k : Int) < (n : Int) := by omega
      have hkH : k < (heads Q).length := by rw [HHL.out]; exact hlt
      have hkQ : k < Q.length := by rw [HN.out]; exact hlt
      have hkT : k < (tails Q).length := by rw [tails_len]; exact hkQ
      obtain ⟨hh, _⟩ := hdk.atH hkH
      obtain ⟨p, d, _, hq, _, hr, hd1, hd2, _⟩ := hdk.atT hkH hkT
      have HW := Lib.hid (show holdN Q k = (heads Q)[k] ∧ holdE Q k = 0 ∧ waitL Q k = (tails Q)[k] by
        have := okS_of hkQ
        rw [holdN, holdE, waitL, if_pos this, if_pos this, if_pos this, queue_nat hkQ]
        simp [heads, tails])
      have hlt2 := HT.out (tails Q)[k] (List.getElem_mem hkT)
      obtain ⟨y, hy⟩ : ∃ y, (heads Q)[k] = y := ⟨_, rfl⟩
      obtain ⟨t, ht⟩ : ∃ t, (tails Q)[k] = t := ⟨_, rfl⟩
      rw [hy] at hh HW
      rw [ht] at hq hr hd1 hlt2 HW
      clear hy ht
      have lX := hdk.lt X hdk.sX
      have lH := hdk.lt hg hdk.sH
      have lQ := hdk.lt qg hdk.sQ
      have g0 := fun g => Gr.at_ lX hc0 g
      have g1 := fun g => Gr.at_ lX hc1 g
      have g2 := fun g => Gr.at_ lH hh g
      have g3 := fun g => Gr.at_ lQ hq g
      have hLk := Lib.hid (HL.out.kept hb)
      go_wp2_with fail
      refine wp_region_grows (by kernel_rfl) (by kernel_rfl) ?_
      repeat (go_big_quiet_step ((go_at_call 13; exact Calls.gr _ (holds_any k y p _ d t 0 (hLk.out.kept (Gr.h _)) HS.out HW.out.1 HW.out.2.1 HW.out.2.2 (Gr.rd hr _) rfl hlt2))))
      refine wpQuiet_nil ?_
      rintro _ ⟨g, rfl⟩
      have hb2 := below_step hb g.h
      generalize g.w = w2 at hb2 ⊢
      clear g0 g1 g2 g3 g hLk hdk hh hq hr hc0 hc1 hd1 hd2 lX lH lQ
      go_wp2_with fail
      refine (waiting_any k (HL.out.kept hb2) HS.out).mono ?_
      rintro e w3 ⟨v, rfl, hown, hb3⟩
      have hown1 := own_mono hown hb2.size
      have hb4 := below_step hb2 hb3
      obtain ⟨p1, d1, rfl, _, _⟩ := own_shape hown1
      have hln : (waitL Q k).length ≤ 100000 := by rw [HW.out.2.2]; exact hlt2
      generalize (waitL Q k).length = ln at hown1 hln ⊢
      clear hown hb3 hb hb2
      go_wp2_with fail
      go_loopw [10] (fun i wr => ∃ (j : Nat) (xs : List Value), j ≤ ln ∧ i = .int .i64 j ∧ wr.ownsRow w.heap.size 3 1 (.slice p1 ln d1) ln xs ∧ Below w.heap.size w wr) (fun i _ => ln - (intOf i).toNat)
      case atStart => exact ⟨0, _, Nat.zero_le _, rfl, hown1, hb4⟩
      case round =>
        clear hown1 hb4
        obtain ⟨j, xs, hj, rfl, hown1, hb4⟩ := hrel
        by_cases hjl : j < ln
        · obtain ⟨gg, vv, rfl, hcc, hff, hgg⟩ := own_at hown1 hjl
          have hji : (j : Int) < (ln : Int) := by omega
          have hown2 := own_store hown1 j (.int .i64 0)
          have hb5 := hb4.setCell (p := ⟨gg, j, none⟩) hgg (.int .i64 0)
          clear hown1 hb4
          go_wp2_with fail
          go_roundw
          case rel => exact ⟨j + 1, _, by omega, by go_num, hown2, hb5⟩
          case measure => simp [intOf]; omega
        · have hji : ¬ (j : Int) < (ln : Int) := by omega
          go_wp2_with fail
          go_roundw
          case rel => exact ⟨k + 1, by omega, by go_num, hb4⟩
          case measure => simp [intOf]; omega
    · have hki : ¬ (k : Int) < (n : Int) := by omega
      clear hdk
      go_wp2_with fail
      clear hc0 hc1
      go_loopw [11] (fun i wr => ∃ k : Nat, k ≤ m + 2 ∧ i = .int .i64 ((k : Int) - 1) ∧ Below w.heap.size w wr) (fun i _ => ((m : Int) + 1 - intOf i).toNat)
      case atStart => exact ⟨0, Nat.zero_le _, rfl, hb⟩
      case round =>
        clear hb
        obtain ⟨o, ho, rfl, hb⟩ := hrel
        by_cases hlt : o < m + 2
        · have hoi : (o : Int) - 1 ≤ (m : Int) := by omega
          have hoi2 : (-1 : Int) ≤ (o : Int) - 1 := by omega
          have HR := Lib.hid (show refHeld (heads Q) ((o : Int) - 1) = held Q ((o : Int) - 1) from held_ref HI.out _)
          have HF := Lib.hid (show refFor (tails Q) ((o : Int) - 1) = waitsFor Q ((o : Int) - 1) from for_ref HI.out _)
          have HLn := Lib.hid (show (held Q ((o : Int) - 1)).length ≤ 1024 by
            have := heldFrom_len Q ((o : Int) - 1) 0
            have h2 : (held Q ((o : Int) - 1)).length ≤ Q.length := this
            rw [HN.out] at h2
            omega)
          have hff : (waitsFor Q ((o : Int) - 1) != waitsFor Q ((o : Int) - 1)) = false := by simp
          go_wp2_with fail
          refine (held_any ((o : Int) - 1) (HL.out.kept hb)).mono ?_
          rintro e w3 ⟨v, rfl, hown, hb3⟩
          have hown1 := own_mono hown hb.size
          have hb4 := below_step hb hb3
          obtain ⟨p1, d1, rfl, _, _⟩ := own_shape hown1
          have hr1 := own_rd hown
          clear hown hb3 hb
          go_wp2_with fail
          refine (refHeld_any ((o : Int) - 1) (HX.out.kept hb4)).mono ?_
          rintro e w4 ⟨v, rfl, hown2, hb5⟩
          rw [HR.out] at hown2
          obtain ⟨p2, d2, rfl, _, _⟩ := own_shape hown2
          have hr2 := own_rd hown2
          have hr3 := hr1.kept hb5
          have hown3 := own_fr hown1 (Fr.of_below hb5 (fun _ => False)) (fun _ _ h => h)
          have hb6 := below_step hb4 hb5
          have HI2 := Lib.hid (ints_any p1 p2 d1 d2 (held Q ((o : Int) - 1)) (held Q ((o : Int) - 1)) w4 hr3 hr2 (by have := HLn.out; omega) (by have := HLn.out; omega))
          rw [show decide (held Q ((o : Int) - 1) = held Q ((o : Int) - 1)) = true by simp] at HI2
          clear hown1 hown2 hr1 hr2 hr3 hb4 hb5
          go_wp2_with fail
          refine HI2.out.mono ?_
          rintro e w5 ⟨rfl, hb7⟩
          have hown4 := own_fr hown3 (Fr.of_below hb7 (fun _ => False)) (fun _ _ h => h)
          have hb8 := below_step hb6 hb7
          clear hown3 hb6 hb7 HI2
          go_wp2_with fail
          refine (for_any ((o : Int) - 1) (HL.out.kept hb8) HS.out).mono ?_
          rintro e w6 ⟨rfl, hb9⟩
          have hown5 := own_fr hown4 (Fr.of_below hb9 (fun _ => False)) (fun _ _ h => h)
          have hb10 := below_step hb8 hb9
          clear hown4 hb8 hb9
          go_wp2_with fail
          refine (refFor_any ((o : Int) - 1) (HX.out.kept hb10) HT.out).mono ?_
          rintro e w' ⟨rfl, rfl⟩
          rw [HF.out]
          have hln := HLn.out
          generalize (held Q ((o : Int) - 1)).length = ln at hown5 hln ⊢
          go_wp2_with fail
          go_loopw [13] (fun i wr => ∃ (j : Nat) (xs : List Value), j ≤ ln ∧ i = .int .i64 j ∧ wr.ownsRow w.heap.size 3 1 (.slice p1 ln d1) ln xs ∧ Below w.heap.size w wr) (fun i _ => ln - (intOf i).toNat)
          case atStart => exact ⟨0, _, Nat.zero_le _, rfl, hown5, hb10⟩
          case round =>
            clear hown5 hb10
            obtain ⟨j, xs, hj, rfl, hown1, hb4⟩ := hrel
            by_cases hjl : j < ln
            · obtain ⟨gg, vv, rfl, hcc, hff2, hgg⟩ := own_at hown1 hjl
              have hji : (j : Int) < (ln : Int) := by omega
              have hown2 := own_store hown1 j (.int .i64 99)
              have hb5 := hb4.setCell (p := ⟨gg, j, none⟩) hgg (.int .i64 99)
              clear hown1 hb4
              go_wp2_with fail
              go_roundw
              case rel => exact ⟨j + 1, _, by omega, by go_num, hown2, hb5⟩
              case measure => simp [intOf]; omega
            · have hji : ¬ (j : Int) < (ln : Int) := by omega
              go_wp2_with fail
              go_roundw
              case rel => exact ⟨o + 1, by omega, by go_num, hb4⟩
              case measure => simp [intOf]; omega
        · have hoi : ¬ (o : Int) - 1 ≤ (m : Int) := by omega
          go_wp2_with fail
          go_ret
          exact ⟨rfl, hb⟩
end
end Go.Proofs.Ythjakgjpnijmlaa
