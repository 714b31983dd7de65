/- known. -/
import Derived.Test.YtmhkbchbglnbpaaHelp
namespace Go.Proofs.Ytmhkbchbglnbpaa
open Go.RowKit

theorem numB_max : numB 18446744073709551615 = [255, 255, 255, 255, 255, 255, 255, 255, 255, 1] := by
  rw [numB_hi (by decide), numB_hi (by decide), numB_hi (by decide), numB_hi (by decide), numB_hi (by decide), numB_hi (by decide), numB_hi (by decide), numB_hi (by decide), numB_hi (by decide), numB_lo (by decide)]
  rfl
theorem numB_300 : numB 300 = [172, 2] := by rw [numB_hi (by decide), numB_lo (by decide)]; rfl
theorem numB_128 : numB 128 = [128, 1] := by rw [numB_hi (by decide), numB_lo (by decide)]; rfl
theorem numB_127 : numB 127 = [127] := by rw [numB_lo (by decide)]; rfl
theorem numB_0 : numB 0 = [0] := by rw [numB_lo (by decide)]; rfl
theorem numB_2 : numB 2 = [2] := by rw [numB_lo (by decide)]; rfl
theorem num_is (n : Nat) (l : List Int) (t : ByteArray) (h : numB n = l) (ht : strOfNums l = t) (w : World) (hn : n < 18446744073709551616) : Calls Try.prog 9 #[.int .u64 n] w fun e w' => e = .returned (.string t) ∧ Below w.heap.size w w' := by
  rw [← ht, ← h]; exact lawNumber_any n w hn
/-- New, of a new block. -/
theorem new_blk {w : World} {g : Nat} {l : List Int} (n : Nat) (h : Blk w g 5 (bys l)) (hn : l.length = n) (hl : n ≤ 1000000) (hs : Bs l) :
    Calls Try.prog 11 #[.slice (some ⟨g, 0, none⟩) n n] w fun e w' => ∃ R q d, e = .returned (.pointer (some ⟨R, 0, none⟩)) ∧ RS w' R q d l 0 ∧ w.heap.size ≤ R ∧ (∀ a, q = some a → w.heap.size ≤ a.block) ∧ Below w.heap.size w w' := by
  subst hn
  exact new_any _ _ l w (Rd.of_blk h (List.prefix_refl _)) hl hs
theorem first_blk {w : World} {g : Nat} {l : List Int} (n : Nat) (no : Int) (h : Blk w g 5 (bys l)) (hn : l.length = n) (hl : n ≤ 1000000) (hs : Bs l) (hE : readE l = no) (h0 : no ≠ 0) :
    Calls Try.prog 14 #[.int .i64 no, .slice (some ⟨g, 0, none⟩) n n] w fun e w' => e = .returned (.bool true) ∧ Below w.heap.size w w' := by
  subst hn
  exact first_ok _ l no (Rd.of_blk h (List.prefix_refl _)) hs hl hE h0
theorem hears_is {w : World} {R c k : Nat} {p : Option Addr} {l : List Int} (most : Int) (hm0 : -9223372036854775808 ≤ most) (hm1 : most < 9223372036854775808) (s : ByteArray) (no : Int) (h : RS w R p c l k) (hv : strOfNums (sV (l.drop k) most) = s) (he : sE (l.drop k) most = no) :
    Calls Try.prog 23 #[.pointer (some ⟨R, 0, none⟩), .int .i64 most, .string s, .int .i64 no] w fun e w' => e = .returned (.bool true) ∧ RStep w w' R p c l (k + sS (l.drop k) most) := by
  refine (hears_any most hm0 hm1 s no h).mono ?_
  rintro e w' ⟨rfl, hr⟩
  exact ⟨ret_bool (by simp [hv, he]), hr⟩
theorem takes_is {w : World} {R c k : Nat} {p : Option Addr} {l : List Int} (n : Int) (hm0 : -9223372036854775808 ≤ n) (hm1 : n < 9223372036854775808) (s : ByteArray) (no : Int) (h : RS w R p c l k) (hv : strOfNums (tV (l.drop k) n) = s) (he : tE (l.drop k) n = no) :
    Calls Try.prog 24 #[.pointer (some ⟨R, 0, none⟩), .int .i64 n, .string s, .int .i64 no] w fun e w' => e = .returned (.bool true) ∧ RStep w w' R p c l (k + tS (l.drop k) n) := by
  refine (takes_any n hm0 hm1 s no h).mono ?_
  rintro e w' ⟨rfl, hr⟩
  exact ⟨ret_bool (by simp [hv, he]), hr⟩
instance (l : List Int) : Decidable (Bs l) := inferInstanceAs (Decidable (∀ x ∈ l, 0 ≤ x ∧ x < 256))
theorem end_is {w : World} {R c k : Nat} {p : Option Addr} {l : List Int} (z : Int) (h : RS w R p c l k) (hz : (if l.length - k = 0 then (0 : Int) else 12) = z) : Calls Try.prog 13 #[.pointer (some ⟨R, 0, none⟩)] w fun e w' => e = .returned (.int .i64 z) ∧ Below w.heap.size w w' := by
  rw [← hz]; exact end_any h
example : readE [128] = 4 := by decide
example : readE [255, 255, 255, 255, 255, 255, 255, 255, 255, 2] = 12 := by decide
example : strOfNums [2, 97, 98] = ⟨#[2, 97, 98]⟩ := by rfl
example : nV [172, 2, 5] 1000 = 300 := by decide
example : sV [2, 97, 98] 5 = [97, 98] := by decide
end Go.Proofs.Ytmhkbchbglnbpaa
