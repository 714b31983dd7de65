/- The walk of LocksQueues: it returns true. -/
import Derived.Test.YthjakgjpnijmlaaKnown
namespace Go.Proofs.Ythjakgjpnijmlaa
open Go.RowKit

/-- The number of an owner. -/
def ow (f : Int) (i : Nat) : Int := 1 + (f + (i : Int)) % 65535
theorem ow_okO (f : Int) (i : Nat) : okO (ow f i) = true := by rw [okO_iff]; unfold ow; omega
theorem ow_inj {f : Int} {i j : Nat} (hi : i ≤ 300) (hj : j ≤ 300) (h : ow f i = ow f j) : i = j := by unfold ow at h; omega
def ows (f : Int) : Nat → Nat → List Int
  | _, 0 => []
  | i, n + 1 => ow f i :: ows f (i + 1) n
theorem ows_snoc (f : Int) : ∀ (n i : Nat), ows f i n ++ [ow f (i + n)] = ows f i (n + 1)
  | 0, i => by simp [ows]
  | n + 1, i => by
    have e := ows_snoc f n (i + 1)
    rw [show i + 1 + n = i + (n + 1) from by omega] at e
    show ow f i :: (ows f (i + 1) n ++ [ow f (i + (n + 1))]) = ow f i :: ows f (i + 1) (n + 1)
    rw [e]
theorem ows_len (f : Int) : ∀ (n i : Nat), (ows f i n).length = n
  | 0, _ => rfl
  | n + 1, i => by simp [ows, ows_len f n (i + 1)]
theorem ows_mem (f : Int) : ∀ (n i : Nat) (x : Int), x ∈ ows f i n → ∃ j, i ≤ j ∧ j < i + n ∧ x = ow f j
  | 0, _, _, h => by simp [ows] at h
  | n + 1, i, x, h => by
    simp only [ows, List.mem_cons] at h
    rcases h with h | h
    · exact ⟨i, Nat.le_refl _, by omega, h⟩
    · obtain ⟨j, h1, h2, h3⟩ := ows_mem f n (i + 1) x h
      exact ⟨j, by omega, by omega, h3⟩
theorem ows_new (f : Int) (n : Nat) (h : n ≤ 250) : ow f n ∉ ows f 0 n := by
  intro hm
  obtain ⟨j, _, h2, h3⟩ := ows_mem f n 0 _ hm
  have := ow_inj (by omega) (by omega) h3
  omega
theorem ows_head (f : Int) (i n : Nat) : (ows f i n).head? ≠ some (ow f (i + 250)) ∨ 0 < n := by
  cases n with
  | zero => left; simp [ows]
  | succ n => right; omega

theorem stops_one (q : List Int) (o : Int) : stops q o 1 1 = decide (o ∈ q) := by
  unfold stops
  rw [Bool.eq_iff_iff]
  simp only [Bool.or_eq_true, Bool.and_eq_true, decide_eq_true_eq]
  have h := ix_neg q o
  constructor
  · rintro (h1 | ⟨h1, _⟩)
    · rcases Classical.em (o ∈ q) with m | m
      · exact m
      · have := h.2 m; omega
    · rcases Classical.em (o ∈ q) with m | m
      · exact m
      · have := h.2 m; omega
  · intro m
    have h1 : ¬ ix q o < 0 := fun h' => h.1 h' m
    by_cases h0 : ix q o = 0
    · exact .inr ⟨h0, by omega⟩
    · exact .inl (by omega)
theorem blocked_two (q : List Int) (o : Int) : blocked [[], q] o 1 = decide (o ∈ q) := by
  rw [← stops_one]
  show (stops [] o 0 1 || (stops q o 1 1 || false)) = _
  rw [show stops [] o 0 1 = false from rfl, Bool.false_or, Bool.or_false]
theorem two_ok (q : List Int) {o : Int} (h : okO o = true) : okS [[], q] 1 = true ∧ okO o = true := ⟨rfl, h⟩
theorem lockE_new {q : List Int} {o : Int} (h : okO o = true) (hn : o ∉ q) : lockE [[], q] o 1 = 0 := by
  rw [lockE, if_pos (two_ok q h), blocked_two]; simp [hn]
theorem lockE_old {q : List Int} {o : Int} (h : okO o = true) (hn : o ∈ q) : lockE [[], q] o 1 = 8 := by
  rw [lockE, if_pos (two_ok q h), blocked_two]; simp [hn]
theorem unE_head {q : List Int} {o : Int} (h : okO o = true) (hn : q.head? = some o) : unE [[], q] o 1 = 0 := by
  rw [unE, if_pos (two_ok q h)]; exact if_pos hn
theorem unE_other {q : List Int} {o : Int} (h : okO o = true) (hn : q.head? ≠ some o) : unE [[], q] o 1 = 8 := by
  rw [unE, if_pos (two_ok q h)]; exact if_neg hn

theorem owner_any (f i : Int) (w : World) (h0 : 0 ≤ f) (h1 : f ≤ 65535) (h2 : 0 ≤ i) (h3 : i ≤ 1000) : Calls Try.prog 11 #[.int .u16 f, .int .i64 i] w fun e w' => e = .returned (.int .i64 (1 + (f + i) % 65535)) ∧ w = w' := by
  have h4 : 0 ≤ (f + i) % 65535 := by omega
  have h5 : (f + i) % 65535 ≤ 65535 := by omega
  go_enter Try.func11, Try.ntmps11
  go_wp2_with fail
  go_ret
  exact ⟨rfl, rfl⟩
theorem small_two {q : List Int} (h : q.length ≤ 100000) : ∀ x ∈ [[], q], x.length ≤ 100000 := by
  intro x hx
  simp at hx
  rcases hx with rfl | rfl
  · simp
  · exact h

set_option maxRecDepth 100000 in
set_option maxHeartbeats 4000000 in
theorem locksQueues_core (m : Nat) (f : Int) (w : World) (hm : m ≤ 200) (hf0 : 0 ≤ f) (hf1 : f ≤ 65535) :
    Calls Try.prog 3 #[.int .u8 m, .int .u16 f] w fun e w' => e = .returned (.bool true) ∧ Below w.heap.size w w' := by
  have hm2 : (m : Int) ≤ 200 := by omega
  go_enter Try.func3, Try.ntmps3
  go_wp2_with fail
  refine (new_yes 2 _ (by decide) (by decide)).mono ?_
  rintro e w1 ⟨c, rfl, hN⟩
  replace hN : NewW w c [[], ows f 0 0] w1 := hN
  go_wp2_with fail
  go_loopw [7] (fun i wr => ∃ k : Nat, k ≤ m ∧ i = .int .i64 k ∧ NewW w c [[], ows f 0 k] wr) (fun i _ => m - (intOf i).toNat)
  case atStart => exact ⟨0, Nat.zero_le _, rfl, hN⟩
  case round =>
    clear hN
    obtain ⟨k, hk, rfl, hN⟩ := hrel
    by_cases hlt : k < m
    · have hi : (k : Int) < (m : Int) := by omega
      have hlen := ows_len f k 0
      have hlen2 := ows_len f (k + 1) 0
      have HE1 := Lib.hid (lockE_new (ow_okO f k) (ows_new f k (by omega)))
      have HQ1 := Lib.hid (show lockQ [[], ows f 0 k] (ow f k) 1 = [[], ows f 0 (k + 1)] by
        rw [lockQ, if_pos HE1.out, ← ows_snoc f k 0, Nat.zero_add]; rfl)
      have HB1 := Lib.hid (show lockB [[], ows f 0 k] (ow f k) 1 = decide (k = 0) by
        rw [lockB, HE1.out]
        cases k with
        | zero => rfl
        | succ k => rfl)
      have HM := Lib.hid (show ow f k ∈ ows f 0 (k + 1) by rw [← ows_snoc f k 0, Nat.zero_add]; simp)
      have HE2 := Lib.hid (lockE_old (ow_okO f k) HM.out)
      have HB2 := Lib.hid (show lockB [[], ows f 0 (k + 1)] (ow f k) 1 = false by rw [lockB, HE2.out]; rfl)
      have HQ2 := Lib.hid (show lockQ [[], ows f 0 (k + 1)] (ow f k) 1 = [[], ows f 0 (k + 1)] by rw [lockQ, if_neg (by rw [HE2.out]; omega)])
      have HS1 := Lib.hid (small_two (q := ows f 0 k) (by omega))
      have HS2 := Lib.hid (small_two (q := ows f 0 (k + 1)) (by omega))
      have HO := Lib.hid (show 1 + (f + (k : Int)) % 65535 = ow f k from rfl)
      clear hlen hlen2
      by_cases h0 : k = 0
      · have hb : ((k : Int) == 0) = true := by rw [beq_iff_eq]; omega
        have HB := Lib.hid (HB1.out.trans (by rw [h0]; rfl) : lockB [[], ows f 0 k] (ow f k) 1 = true)
        clear h0
        go_wp2_with fail
        refine (owner_any f k _ hf0 hf1 (by omega) (by omega)).mono ?_
        rintro e w' ⟨rfl, rfl⟩
        rw [HO.out]
        go_wp2_with fail
        refine (asksN (ow f k) 1 true 0 hN HS1.out HB.out HE1.out HQ1.out).mono ?_
        rintro e w2 ⟨rfl, hN2⟩
        go_wp2_with fail
        refine (owner_any f k _ hf0 hf1 (by omega) (by omega)).mono ?_
        rintro e w' ⟨rfl, rfl⟩
        rw [HO.out]
        go_wp2_with fail
        refine (asksN (ow f k) 1 false 8 hN2 HS2.out HB2.out HE2.out HQ2.out).mono ?_
        rintro e w3 ⟨rfl, hN3⟩
        clear hN hN2
        go_wp2_with fail
        go_roundw
        case rel => exact ⟨k + 1, by omega, by go_num, hN3⟩
        case measure => simp [intOf]; omega
      · have hb : ((k : Int) == 0) = false := by rw [beq_eq_false_iff_ne]; omega
        have HB := Lib.hid (HB1.out.trans (by simp [h0]) : lockB [[], ows f 0 k] (ow f k) 1 = false)
        clear h0
        go_wp2_with fail
        refine (owner_any f k _ hf0 hf1 (by omega) (by omega)).mono ?_
        rintro e w' ⟨rfl, rfl⟩
        rw [HO.out]
        go_wp2_with fail
        refine (asksN (ow f k) 1 false 0 hN HS1.out HB.out HE1.out HQ1.out).mono ?_
        rintro e w2 ⟨rfl, hN2⟩
        go_wp2_with fail
        refine (owner_any f k _ hf0 hf1 (by omega) (by omega)).mono ?_
        rintro e w' ⟨rfl, rfl⟩
        rw [HO.out]
        go_wp2_with fail
        refine (asksN (ow f k) 1 false 8 hN2 HS2.out HB2.out HE2.out HQ2.out).mono ?_
        rintro e w3 ⟨rfl, hN3⟩
        clear hN hN2
        go_wp2_with fail
        go_roundw
        case rel => exact ⟨k + 1, by omega, by go_num, hN3⟩
        case measure => simp [intOf]; omega
    · have hkm : k = m := by omega
      subst hkm
      go_wp2_with fail
      go_loopw [8] (fun i wr => ∃ j : Nat, j ≤ k ∧ i = .int .i64 j ∧ NewW w c [[], ows f j (k - j)] wr) (fun i _ => k - (intOf i).toNat)
      case atStart => exact ⟨0, Nat.zero_le _, rfl, hN⟩
      case round =>
        clear hN
        obtain ⟨j, hj, rfl, hN⟩ := hrel
        by_cases hlt2 : j < k
        · have hi : (j : Int) < (k : Int) := by omega
          have hcons : ows f j (k - j) = ow f j :: ows f (j + 1) (k - (j + 1)) := by
            rw [show k - j = (k - (j + 1)) + 1 from by omega]; rfl
          have HE1 := Lib.hid (unE_head (q := ows f j (k - j)) (ow_okO f j) (by rw [hcons]; rfl))
          have HQ1 := Lib.hid (show unQ [[], ows f j (k - j)] (ow f j) 1 = [[], ows f (j + 1) (k - (j + 1))] by rw [unQ, if_pos HE1.out, hcons]; rfl)
          have HN1 := Lib.hid (show unN [[], ows f j (k - j)] (ow f j) 1 = (ows f (j + 1) (k - (j + 1))).headD 0 by rw [unN, if_pos HE1.out, hcons]; rfl)
          have HE2 := Lib.hid (unE_other (q := ows f (j + 1) (k - (j + 1))) (ow_okO f j) (by
            intro e
            have hm := List.mem_of_head? e
            obtain ⟨a, h1, h2, h3⟩ := ows_mem f _ _ _ hm
            have := ow_inj (by omega) (by omega) h3
            omega))
          have HN2 := Lib.hid (show unN [[], ows f (j + 1) (k - (j + 1))] (ow f j) 1 = 0 by rw [unN, if_neg (by rw [HE2.out]; omega)])
          have HQ2 := Lib.hid (show unQ [[], ows f (j + 1) (k - (j + 1))] (ow f j) 1 = [[], ows f (j + 1) (k - (j + 1))] by rw [unQ, if_neg (by rw [HE2.out]; omega)])
          have HS1 := Lib.hid (small_two (q := ows f j (k - j)) (by rw [ows_len]; omega))
          have HS2 := Lib.hid (small_two (q := ows f (j + 1) (k - (j + 1))) (by rw [ows_len]; omega))
          have HO := Lib.hid (show 1 + (f + (j : Int)) % 65535 = ow f j from rfl)
          have HO1 := Lib.hid (show 1 + (f + ((j : Int) + 1)) % 65535 = ow f (j + 1) by simp [ow])
          clear hcons
          by_cases hnx : j + 1 < k
          · have hnx1 : (j : Int) + 1 < (k : Int) := by omega
            have HN3 := Lib.hid (HN1.out.trans (by rw [show k - (j + 1) = (k - (j + 2)) + 1 from by omega]; rfl) : unN [[], ows f j (k - j)] (ow f j) 1 = ow f (j + 1))
            go_wp2_with fail
            refine (owner_any f ((j : Int) + 1) _ hf0 hf1 (by omega) (by omega)).mono ?_
            rintro e w' ⟨rfl, rfl⟩
            rw [HO1.out]
            go_wp2_with fail
            refine (owner_any f j _ hf0 hf1 (by omega) (by omega)).mono ?_
            rintro e w' ⟨rfl, rfl⟩
            rw [HO.out]
            go_wp2_with fail
            refine (freesN (ow f j) 1 (ow f (j + 1)) 0 hN HS1.out HN3.out HE1.out HQ1.out).mono ?_
            rintro e w2 ⟨rfl, hN2⟩
            go_wp2_with fail
            refine (owner_any f j _ hf0 hf1 (by omega) (by omega)).mono ?_
            rintro e w' ⟨rfl, rfl⟩
            rw [HO.out]
            go_wp2_with fail
            refine (freesN (ow f j) 1 0 8 hN2 HS2.out HN2.out HE2.out HQ2.out).mono ?_
            rintro e w3 ⟨rfl, hN3⟩
            clear hN hN2
            go_wp2_with fail
            go_roundw
            case rel => exact ⟨j + 1, by omega, by go_num, hN3⟩
            case measure => simp [intOf]; omega
          · have hnx1 : ¬ (j : Int) + 1 < (k : Int) := by omega
            have HN3 := Lib.hid (HN1.out.trans (by rw [show k - (j + 1) = 0 from by omega]; rfl) : unN [[], ows f j (k - j)] (ow f j) 1 = 0)
            go_wp2_with fail
            refine (owner_any f j _ hf0 hf1 (by omega) (by omega)).mono ?_
            rintro e w' ⟨rfl, rfl⟩
            rw [HO.out]
            go_wp2_with fail
            refine (freesN (ow f j) 1 0 0 hN HS1.out HN3.out HE1.out HQ1.out).mono ?_
            rintro e w2 ⟨rfl, hN2⟩
            go_wp2_with fail
            refine (owner_any f j _ hf0 hf1 (by omega) (by omega)).mono ?_
            rintro e w' ⟨rfl, rfl⟩
            rw [HO.out]
            go_wp2_with fail
            refine (freesN (ow f j) 1 0 8 hN2 HS2.out HN2.out HE2.out HQ2.out).mono ?_
            rintro e w3 ⟨rfl, hN3⟩
            clear hN hN2
            go_wp2_with fail
            go_roundw
            case rel => exact ⟨j + 1, by omega, by go_num, hN3⟩
            case measure => simp [intOf]; omega
        · have hjk : j = k := by omega
          subst hjk
          rw [Nat.sub_self] at hN
          replace hN : NewW w c [[], []] wr := hN
          go_wp2_with fail
          refine (holdsN 1 0 none 0 0 [] 0 hN (by decide) (by decide) (by decide) (by decide) (Rd.nil _ _ _) rfl (by decide)).mono ?_
          rintro e w2 ⟨rfl, hN2⟩
          go_wp2_with fail
          refine (known_any _).mono ?_
          rintro e w3 ⟨rfl, hb3⟩
          go_wp2_with fail
          go_ret
          exact ⟨rfl, below_step hN2.below hb3⟩
theorem locksQueues_walk (m f : Int) (w : World) (hm : (Lit.int .u8 m).wf = true) (hf : (Lit.int .u16 f).wf = true) :
    Calls Try.prog 3 #[.int .u8 m, .int .u16 f] w fun e w' => e = .returned (.bool true) ∧ Below w.heap.size w w' := by
  have h1 := bounds_u8 hm
  have h2 : 0 ≤ f ∧ f ≤ 65535 := by
    simp [Lit.wf, IntKind.min, IntKind.max, IntKind.signed, IntKind.bits] at hf
    omega
  obtain ⟨m, rfl⟩ : ∃ k : Nat, m = (k : Int) := ⟨m.toNat, by omega⟩
  by_cases hm2 : m ≤ 200
  · exact locksQueues_core m f w hm2 h2.1 h2.2
  · have hm3 : (200 : Int) < (m : Int) := by omega
    clear hm hf
    go_enter Try.func3, Try.ntmps3
    go_wp2_with fail
    refine (known_any _).mono ?_
    rintro e w3 ⟨rfl, hb3⟩
    go_wp2_with fail
    go_ret
    exact ⟨rfl, hb3⟩
end Go.Proofs.Ythjakgjpnijmlaa
