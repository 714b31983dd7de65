/- String and Take of a reader; what the law calls of a reader. -/
import Derived.Test.YtmhkbchbglnbpaaReadS
namespace Go.Proofs.Ytmhkbchbglnbpaa
open Go.RowKit

/-- What Take gives. -/
def tE (l : List Int) (n : Int) : Int := if n < 0 then 2 else if (l.length : Int) < n then 4 else 0
def tV (l : List Int) (n : Int) : List Int := if tE l n = 0 then l.take n.toNat else []
def tS (l : List Int) (n : Int) : Nat := if tE l n = 0 then n.toNat else 0
section
variable {w : World} {R c k : Nat} {p : Option Addr} {l : List Int}
theorem sS_le (h : k ≤ l.length) (most : Int) : k + sS (l.drop k) most ≤ l.length := by
  unfold sS
  split
  · rename_i h0
    unfold sE at h0
    split at h0
    · split at h0
      · cases h0
      · split at h0
        · cases h0
        · have := readS_le (l.drop k)
          simp at this
          simp at *
          omega
    · exact absurd h0 (by assumption)
  · omega
theorem wholeS_any (most : Int) (M : Nat) (hM : Blk w M 3 [.int .i64 most]) (hne : M ≠ R) (hm0 : -9223372036854775808 ≤ most) (hm1 : most < 9223372036854775808) (h : RS w R p c l k) :
    Calls Try.prog 44 #[.pointer (some ⟨R, 0, none⟩), .func (.func 45) #[] #[.pointer (some ⟨M, 0, none⟩)]] w fun e w' => e = .returned (.tuple #[.string (strOfNums (sV (l.drop k) most)), .int .i64 (sE (l.drop k) most)]) ∧ RStep w w' R p c l (k + sS (l.drop k) most) := by
  have h2 : w.cell? ⟨R, 2, none⟩ = some (.int .i64 k) := h.blk.cell 2
  have HZ := Lib.hid (zero_any h)
  have HL := Lib.hid h.le
  have HN := Lib.hid (str1_any most M hM hne hm0 hm1 h)
  clear hM hne hm0 hm1
  by_cases hE : sE (l.drop k) most = 0
  · rw [hE] at HN ⊢
    clear h
    go_enter Try.func44, Try.ntmps44
    go_wp2_with fail
    refine HZ.out.mono ?_
    rintro e w1 ⟨rfl, rfl⟩
    go_wp2_with fail
    refine HN.out.mono ?_
    rintro e w1 ⟨rfl, k', hr, hk⟩
    have hk := hk trivial
    subst hk
    clear hE
    go_wp2_with fail
    go_ret2
    exact ⟨rfl, hr⟩
  · have e1 : sV (l.drop k) most = [] := by rw [sV, if_neg hE]
    have e2 : sS (l.drop k) most = 0 := by rw [sS, if_neg hE]
    rw [e1, e2, strOfNums_nil]
    rw [e1, e2, strOfNums_nil] at HN
    obtain ⟨x, hx⟩ : ∃ x, sE (l.drop k) most = x := ⟨_, rfl⟩
    rw [hx] at HN hE ⊢
    have hx0 : (x == 0) = false := by rw [beq_eq_false_iff_ne]; exact hE
    have hx1 : (x != 0) = true := by rw [bne_iff_ne]; exact hE
    have hf2 : ∀ (k' : Nat) (w : World), RS w R p c l k' → w.frozen? ⟨R, 2, none⟩ = false := fun _ w h => h.blk.free 2
    have hs2 : ∀ (k' : Nat) (w : World), RS w R p c l k' → w.cell? ⟨R, 2, none⟩ = some (.int .i64 k') := fun _ w h => h.blk.cell 2
    clear hE h e1 e2 hx
    go_enter Try.func44, Try.ntmps44
    go_wp2_with fail
    refine HZ.out.mono ?_
    rintro e w1 ⟨rfl, rfl⟩
    go_wp2_with fail
    refine HN.out.mono ?_
    rintro e w1 ⟨rfl, k', hr, _⟩
    have hc3 := hs2 _ _ hr.1
    have hf3 := hf2 _ _ hr.1
    clear hs2 hf2
    go_wp2_with fail
    go_ret2
    exact ⟨rfl, hr.set_ HL.out⟩
theorem String_any (most : Int) (hm0 : -9223372036854775808 ≤ most) (hm1 : most < 9223372036854775808) (h : RS w R p c l k) :
    Calls Try.prog 38 #[.pointer (some ⟨R, 0, none⟩), .int .i64 most] w fun e w' => e = .returned (.tuple #[.string (strOfNums (sV (l.drop k) most)), .int .i64 (sE (l.drop k) most)]) ∧ RStep w w' R p c l (k + sS (l.drop k) most) := by
  have hb := (Below.refl w.heap.size w).alloc (Nat.le_refl _) (.cells #[.int .i64 most] 3)
  have HW := Lib.hid (wholeS_any most w.heap.size (Blk.new w 3 [.int .i64 most]) (by have := h.blk.lt; omega) hm0 hm1 (h.kept hb))
  have HB := Lib.hid hb
  clear h hb hm0 hm1
  go_enter Try.func38, Try.ntmps38
  go_wp2_with fail
  refine HW.out.mono ?_
  rintro e w1 ⟨rfl, hr⟩
  go_wp2_with fail
  go_ret2
  exact ⟨rfl, RStep.first HB.out hr⟩
theorem Take_any (n : Int) (hm0 : -9223372036854775808 ≤ n) (hm1 : n < 9223372036854775808) (h : RS w R p c l k) :
    Calls Try.prog 31 #[.pointer (some ⟨R, 0, none⟩), .int .i64 n] w fun e w' => ∃ v, e = .returned (.tuple #[v, .int .i64 (tE (l.drop k) n)]) ∧ w'.ownsRow w.heap.size 5 1 v (tV (l.drop k) n).length (bys (tV (l.drop k) n)) ∧ RStep w w' R p c l (k + tS (l.drop k) n) := by
  have HZ := Lib.hid (zero_any h)
  have HH := Lib.hid h
  have hle := h.le
  by_cases hn : n < 0
  · have s0 : tE (l.drop k) n = 2 := by rw [tE, if_pos hn]
    have s1 : tV (l.drop k) n = [] := by rw [tV, s0]; rfl
    have s2 : tS (l.drop k) n = 0 := by rw [tS, s0]; rfl
    rw [s0, s1, s2]
    clear s0 s1 s2 h hle
    go_enter Try.func31, Try.ntmps31
    go_wp2_with fail
    refine HZ.out.mono ?_
    rintro e w1 ⟨rfl, rfl⟩
    go_wp2_with fail
    go_ret2
    exact ⟨_, rfl, World.ownsRow_nil _ _ _ _, RStep.of_below HH.out (Below.refl _ _)⟩
  · obtain ⟨m, rfl⟩ : ∃ m : Nat, n = (m : Int) := ⟨n.toNat, by omega⟩
    have hwr : IntKind.u64.wrap (m : Int) = m := wraps_u64 _ (by omega) (by omega)
    have hm18 : m < 18446744073709551616 := by omega
    by_cases hl : l.length - k < m
    · have s0 : tE (l.drop k) m = 4 := by rw [tE, if_neg hn, if_pos (by simp; omega)]
      have s1 : tV (l.drop k) m = [] := by rw [tV, s0]; rfl
      have s2 : tS (l.drop k) m = 0 := by rw [tS, s0]; rfl
      have HT := Lib.hid (take_long m h hl hm18)
      rw [s0, s1, s2]
      clear s0 s1 s2 h hle hl hm0 hm1 hm18
      go_enter Try.func31, Try.ntmps31
      go_wp2_with fail
      refine HZ.out.mono ?_
      rintro e w1 ⟨rfl, rfl⟩
      go_wp2_with fail
      refine HT.out.mono ?_
      rintro e w1 ⟨rfl, hr⟩
      go_wp2_with fail
      go_ret2
      exact ⟨_, rfl, World.ownsRow_nil _ _ _ _, hr⟩
    · have s0 : tE (l.drop k) m = 0 := by rw [tE, if_neg hn, if_neg (by simp; omega)]
      have s1 : tV (l.drop k) m = (l.drop k).take m := by rw [tV, s0, if_pos rfl, Int.toNat_natCast]
      have s2 : tS (l.drop k) m = m := by rw [tS, s0, if_pos rfl, Int.toNat_natCast]
      have HT := Lib.hid (take_ok m h (by omega))
      have HS := Lib.hid (show ((l.drop k).take m).length = m by simp; omega)
      rw [s0, s1, s2]
      clear s0 s1 s2 h hle hl hm0 hm1 hm18
      go_enter Try.func31, Try.ntmps31
      go_wp2_with fail
      refine HZ.out.mono ?_
      rintro e w1 ⟨rfl, rfl⟩
      go_wp2_with fail
      refine HT.out.mono ?_
      rintro e w1 ⟨v, rfl, hown, hr⟩
      go_wp2_with fail
      go_ret2
      exact ⟨v, rfl, by rw [HS.out]; exact hown, hr⟩

/-! ### what the law calls -/
theorem reads_any (most want : Nat) (no : Int) (h : RS w R p c l k) : Calls Try.prog 12 #[.pointer (some ⟨R, 0, none⟩), .int .u64 most, .int .u64 want, .int .i64 no] w fun e w' => e = .returned (.bool (decide (nV (l.drop k) most = want ∧ nE (l.drop k) most = no))) ∧ RStep w w' R p c l (k + nS (l.drop k) most) := by
  have HN := Lib.hid (Num_any most h)
  obtain ⟨v, hv⟩ : ∃ v, nV (l.drop k) most = v := ⟨_, rfl⟩
  obtain ⟨e, he⟩ : ∃ v, nE (l.drop k) most = v := ⟨_, rfl⟩
  rw [hv, he] at HN ⊢
  clear hv he h
  go_enter Try.func12, Try.ntmps12
  go_wp2_with fail
  refine HN.out.mono ?_
  rintro ee w1 ⟨rfl, hr⟩
  by_cases h1 : v = want
  · subst h1
    go_wp2_with fail
    go_ret
    refine ⟨?_, hr⟩
    apply ret_bool
    rw [Bool.eq_iff_iff]
    simp
  · have h2 : decide (v = want) = false := by simpa using h1
    go_wp2_with fail
    go_ret
    refine ⟨?_, hr⟩
    apply ret_bool
    simp [h1]
theorem str_inj {a b : ByteArray} (h : a.toList = b.toList) : a = b := by
  rw [ByteArray.toList_eq, ByteArray.toList_eq] at h
  rcases a with ⟨⟨a⟩⟩
  rcases b with ⟨⟨b⟩⟩
  simpa using h
theorem hears_any (most : Int) (hm0 : -9223372036854775808 ≤ most) (hm1 : most < 9223372036854775808) (s : ByteArray) (no : Int) (h : RS w R p c l k) : Calls Try.prog 23 #[.pointer (some ⟨R, 0, none⟩), .int .i64 most, .string s, .int .i64 no] w fun e w' => e = .returned (.bool (decide (strOfNums (sV (l.drop k) most) = s ∧ sE (l.drop k) most = no))) ∧ RStep w w' R p c l (k + sS (l.drop k) most) := by
  have HN := Lib.hid (String_any most hm0 hm1 h)
  obtain ⟨v, hv⟩ : ∃ v, strOfNums (sV (l.drop k) most) = v := ⟨_, rfl⟩
  obtain ⟨e, he⟩ : ∃ v, sE (l.drop k) most = v := ⟨_, rfl⟩
  rw [hv, he] at HN ⊢
  clear hv he h hm0 hm1
  go_enter Try.func23, Try.ntmps23
  go_wp2_with fail
  refine HN.out.mono ?_
  rintro ee w1 ⟨rfl, hr⟩
  by_cases h1 : v = s
  · subst h1
    go_wp2_with fail
    go_ret
    refine ⟨?_, hr⟩
    apply ret_bool
    rw [Bool.eq_iff_iff]
    simp
  · have h2 : decide (v = s) = false := by simpa using h1
    have h3 : (v.toList == s.toList) = false := by rw [beq_eq_false_iff_ne]; exact fun e => h1 (str_inj e)
    go_wp2_with fail
    go_ret
    refine ⟨?_, hr⟩
    apply ret_bool
    simp [h1]
theorem takes_any (n : Int) (hm0 : -9223372036854775808 ≤ n) (hm1 : n < 9223372036854775808) (s : ByteArray) (no : Int) (h : RS w R p c l k) : Calls Try.prog 24 #[.pointer (some ⟨R, 0, none⟩), .int .i64 n, .string s, .int .i64 no] w fun e w' => e = .returned (.bool (decide (strOfNums (tV (l.drop k) n) = s ∧ tE (l.drop k) n = no))) ∧ RStep w w' R p c l (k + tS (l.drop k) n) := by
  have HN := Lib.hid (Take_any n hm0 hm1 h)
  obtain ⟨ys, hys⟩ : ∃ v, tV (l.drop k) n = v := ⟨_, rfl⟩
  obtain ⟨e, he⟩ : ∃ v, tE (l.drop k) n = v := ⟨_, rfl⟩
  rw [hys, he] at HN ⊢
  obtain ⟨t, ht⟩ : ∃ t, strOfNums ys = t := ⟨_, rfl⟩
  rw [ht]
  have HT := Lib.hid ht
  clear hys he h hm0 hm1 ht
  go_enter Try.func24, Try.ntmps24
  go_wp2_with fail
  refine HN.out.mono ?_
  rintro ee w1 ⟨v, rfl, hown, hr⟩
  obtain ⟨q, d, rfl, _⟩ := own_form hown
  have hcv := conv_any (own_rd hown) d
  rw [HT.out] at hcv
  clear hown
  by_cases h1 : t = s
  · subst h1
    go_wp2_with fail
    go_ret
    refine ⟨?_, hr⟩
    apply ret_bool
    rw [Bool.eq_iff_iff]
    simp
  · have h2 : decide (t = s) = false := by simpa using h1
    have h3 : (t.toList == s.toList) = false := by rw [beq_eq_false_iff_ne]; exact fun e => h1 (str_inj e)
    go_wp2_with fail
    go_ret
    refine ⟨?_, hr⟩
    apply ret_bool
    simp [h1]
end
end Go.Proofs.Ytmhkbchbglnbpaa
