/- String and Take of a reader. -/
import Derived.Test.YtmhkbchbglnbpaaRead
namespace Go.Proofs.Ytmhkbchbglnbpaa
open Go.RowKit

theorem strOfNums_nil : strOfNums [] = ByteArray.empty := rfl
theorem conv_any {w : World} {B : Nat} {p : Option Addr} {l : List Int} (h : Rd w B p (bys l)) (c : Nat) : (convert 23 9 (.slice p l.length c)).run Try.prog w = .ok (.string (strOfNums l)) w := by
  rcases h with hx | ⟨b, o, rfl, hb, hc⟩
  · have : l = [] := by simpa [bys] using hx
    subst this
    rcases p with _ | a
    · exact run_convert_bytes_nil w 23 5 Try.underlying23 (by kernel_rfl) _ _ 9 (by kernel_rfl)
    · have := run_convert_bytes_string (P := Try.prog) w 23 9 5 (some a) 0 c Try.underlying23 (by kernel_rfl) (by kernel_rfl)
      simp only [List.length_nil]
      rw [this, run_bytesToString w a 0 c [] (by simpa using run_loadCells_list (P := Try.prog) w a [] (by simp))]
      rfl
  · refine run_convert_bytes_arg w 23 5 Try.underlying23 (by kernel_rfl) b o l.length c l rfl ?_ 9 (by kernel_rfl)
    intro i hi
    rw [hc i (.int .u8 (l.getD i 0))]
    simp [bys, List.getD, List.getElem?_eq_getElem hi]

/-- What String gives. -/
def sE (l : List Int) (most : Int) : Int := if readE l = 0 then (if most < 0 ∨ most < readV l then 5 else if l.length - readS l < readV l then 4 else 0) else readE l
def sV (l : List Int) (most : Int) : List Int := if sE l most = 0 then (l.drop (readS l)).take (readV l) else []
def sS (l : List Int) (most : Int) : Nat := if sE l most = 0 then readS l + readV l else 0
section
variable {w : World} {R c k : Nat} {p : Option Addr} {l : List Int}
set_option maxRecDepth 100000 in
/-- The world after String's function, before the place is put back. -/
theorem str1_any (most : Int) (M : Nat) (hM : Blk w M 3 [.int .i64 most]) (hne : M ≠ R) (hm0 : -9223372036854775808 ≤ most) (hm1 : most < 9223372036854775808) (h : RS w R p c l k) :
    Calls Try.prog 45 #[.pointer (some ⟨R, 0, none⟩), .pointer (some ⟨M, 0, none⟩)] w fun e w' => e = .returned (.tuple #[.string (strOfNums (sV (l.drop k) most)), .int .i64 (sE (l.drop k) most)]) ∧ ∃ k', RStep w w' R p c l k' ∧ (sE (l.drop k) most = 0 → k' = k + sS (l.drop k) most) := by
  have HN := Lib.hid (Num_any 18446744073709551615 h)
  have hfit := readV_fit (h.bs.drop k)
  have e0 : nE (l.drop k) 18446744073709551615 = readE (l.drop k) := by
    unfold nE
    split
    · rename_i h0
      rw [if_neg (by omega), h0]
    · rfl
  have e1 : nV (l.drop k) 18446744073709551615 = readV (l.drop k) := by
    rw [nV, e0]; split
    · rfl
    · rename_i h0; rw [readV, if_neg h0]
  have e2 : nS (l.drop k) 18446744073709551615 = readS (l.drop k) := by
    rw [nS, e0]; split
    · rfl
    · rename_i h0; rw [readS, if_neg h0]
  rw [e0, e1, e2] at HN
  clear e0 e1 e2
  have HM := Lib.hid hM
  have hmk : ∀ w', RStep w w' R p c l (k + readS (l.drop k)) → w'.cell? ⟨M, 0, none⟩ = some (.int .i64 most) := fun w' hr => (hM.fr hr.2 hne).cell 0
  by_cases hE : readE (l.drop k) = 0
  · by_cases hl1 : most < 0
    · have s0 : sE (l.drop k) most = 5 := by rw [sE, if_pos hE, if_pos (.inl hl1)]
      have s1 : sV (l.drop k) most = [] := by rw [sV, s0]; rfl
      rw [s1, s0, strOfNums_nil]
      rw [hE] at HN
      clear s0 s1 hE h hM
      have HMK := Lib.hid hmk
      clear hmk
      go_enter Try.func45, Try.ntmps45
      go_wp2_with fail
      refine HN.out.mono ?_
      rintro e w1 ⟨rfl, hr⟩
      have hc3 := HMK.out _ hr
      go_wp2_with fail
      go_ret2
      exact ⟨rfl, _, hr, fun hh => by cases hh⟩
    · obtain ⟨mo, rfl⟩ : ∃ mo : Nat, most = (mo : Int) := ⟨most.toNat, by omega⟩
      by_cases hl2 : mo < readV (l.drop k)
      · have s0 : sE (l.drop k) mo = 5 := by rw [sE, if_pos hE, if_pos (.inr (by omega))]
        have s1 : sV (l.drop k) mo = [] := by rw [sV, s0]; rfl
        rw [s1, s0, strOfNums_nil]
        rw [hE] at HN
        have HMK := Lib.hid hmk
        clear s0 s1 hE h hM hmk
        obtain ⟨x, hx⟩ : ∃ x, readV (l.drop k) = x := ⟨_, rfl⟩
        rw [hx] at HN hl2
        have hl3 : (mo : Int) < (x : Int) := by omega
        have hl4 : (0 : Int) ≤ (mo : Int) := by omega
        clear hx hl1
        go_enter Try.func45, Try.ntmps45
        go_wp2_with fail
        refine HN.out.mono ?_
        rintro e w1 ⟨rfl, hr⟩
        have hc3 := HMK.out _ hr
        go_wp2_with fail
        go_ret2
        exact ⟨rfl, _, hr, fun hh => by cases hh⟩
      · have HMK := Lib.hid hmk
        have hdl : (l.drop (k + readS (l.drop k))).length = (l.drop k).length - readS (l.drop k) := by simp; omega
        have hdd : l.drop (k + readS (l.drop k)) = (l.drop k).drop (readS (l.drop k)) := by rw [List.drop_drop]
        have hlen : l.length - (k + readS (l.drop k)) = (l.drop k).length - readS (l.drop k) := by simp; omega
        by_cases hl5 : l.length - (k + readS (l.drop k)) < readV (l.drop k)
        · have s0 : sE (l.drop k) mo = 4 := by rw [sE, if_pos hE, if_neg (by omega), if_pos (by omega)]
          have s1 : sV (l.drop k) mo = [] := by rw [sV, s0]; rfl
          have HT := Lib.hid fun (w : World) (h : RS w R p c l (k + readS (l.drop k))) => take_long (readV (l.drop k)) h hl5 hfit
          rw [s1, s0]
          rw [hE] at HN
          clear s0 s1 hE h hM hmk hdl hdd hlen hl5 hfit
          obtain ⟨x, hx⟩ : ∃ x, readV (l.drop k) = x := ⟨_, rfl⟩
          rw [hx] at HN hl2 HT
          have hl3 : decide (mo < x) = false := by simpa using hl2
          have hl4 : (0 : Int) ≤ (mo : Int) := by omega
          have hwr : IntKind.u64.wrap (mo : Int) = mo := wraps_u64 _ (by omega) (by omega)
          clear hm0 hm1
          have hcv := fun w => conv_any (w := w) (l := []) (p := none) (Rd.nil w 0 none) 0
          simp only [List.length_nil] at hcv
          clear hx hl1 hl2
          go_enter Try.func45, Try.ntmps45
          go_wp2_with fail
          refine HN.out.mono ?_
          rintro e w1 ⟨rfl, hr⟩
          have hc3 := HMK.out _ hr
          go_wp2_with fail
          refine (HT.out _ hr.1).mono ?_
          rintro e w2 ⟨rfl, hr2⟩
          go_wp2_with fail
          go_ret2
          exact ⟨rfl, _, hr.trans hr2, fun hh => by cases hh⟩
        · have s0 : sE (l.drop k) mo = 0 := by rw [sE, if_pos hE, if_neg (by omega), if_neg (by omega)]
          have s1 : sV (l.drop k) mo = ((l.drop (k + readS (l.drop k))).take (readV (l.drop k))) := by rw [sV, s0, hdd]; rfl
          have s2 : sS (l.drop k) mo = readS (l.drop k) + readV (l.drop k) := by rw [sS, s0]; rfl
          have HT := Lib.hid fun (w : World) (h : RS w R p c l (k + readS (l.drop k))) => take_ok (readV (l.drop k)) h (by omega)
          rw [s1, s0, s2]
          have HS := Lib.hid (show ((l.drop (k + readS (l.drop k))).take (readV (l.drop k))).length = readV (l.drop k) by simp; omega)
          rw [hE] at HN
          have HRV : ∀ x y, k + (x + y) = k + x + y := fun x y => (Nat.add_assoc _ _ _).symm
          rw [HRV]
          have HRV := True.intro
          clear s0 s1 s2 hE h hM hmk hdl hdd hlen hl5 hfit
          obtain ⟨x, hx⟩ : ∃ x, readV (l.drop k) = x := ⟨_, rfl⟩
          rw [hx] at HN hl2 HT HS ⊢
          obtain ⟨sp, hsp⟩ : ∃ x, k + readS (l.drop k) = x := ⟨_, rfl⟩
          rw [hsp] at HN HT HMK HS ⊢
          have hl3 : decide (mo < x) = false := by simpa using hl2
          have hl4 : (0 : Int) ≤ (mo : Int) := by omega
          have hwr : IntKind.u64.wrap (mo : Int) = mo := wraps_u64 _ (by omega) (by omega)
          clear hm0 hm1
          obtain ⟨ys, hys⟩ : ∃ ys, (l.drop sp).take x = ys := ⟨_, rfl⟩
          rw [hys] at HT HS ⊢
          clear hx hl1 hl2 hsp hys
          go_enter Try.func45, Try.ntmps45
          go_wp2_with fail
          refine HN.out.mono ?_
          rintro e w1 ⟨rfl, hr⟩
          have hc3 := HMK.out _ hr
          go_wp2_with fail
          refine (HT.out _ hr.1).mono ?_
          rintro e w2 ⟨v, rfl, hown, hr2⟩
          obtain ⟨q, d, rfl, _⟩ := own_form hown
          have hcv := conv_any (own_rd hown) d
          rw [HS.out] at hcv
          clear hown
          go_wp2_with fail
          go_ret2
          exact ⟨rfl, _, hr.trans hr2, fun _ => rfl⟩
  · have s0 : sE (l.drop k) most = readE (l.drop k) := by rw [sE, if_neg hE]
    have s1 : sV (l.drop k) most = [] := by rw [sV, s0, if_neg hE]
    rw [s1, s0, strOfNums_nil]
    obtain ⟨x, hx⟩ : ∃ x, readE (l.drop k) = x := ⟨_, rfl⟩
    rw [hx] at HN hE ⊢
    have HE := Lib.hid hE
    have hx0 : (x == 0) = false := by rw [beq_eq_false_iff_ne]; exact hE
    have hx1 : (x != 0) = true := by rw [bne_iff_ne]; exact hE
    clear s0 s1 hE h hM hmk hx
    go_enter Try.func45, Try.ntmps45
    go_wp2_with fail
    refine HN.out.mono ?_
    rintro e w1 ⟨rfl, hr⟩
    go_wp2_with fail
    go_ret2
    exact ⟨rfl, _, hr, fun hh => absurd hh HE.out⟩
end
end Go.Proofs.Ytmhkbchbglnbpaa
