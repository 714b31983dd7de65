/- Sets of dots: Less, IsSet, Same. -/
import Derived.Test.YtffclmogabceiaaOrder
namespace Go.Proofs.Ytffclmogabceiaa
open Go.RowKit

def lessB (a b : Int × Int) : Bool := if a.2 = b.2 then decide (a.1 < b.1) else decide (a.2 < b.2)
theorem lessB_iff (a b : Int × Int) : lessB a b = true ↔ (a.2 < b.2 ∨ (a.2 = b.2 ∧ a.1 < b.1)) := by
  unfold lessB
  split <;> simp <;> omega
theorem cmpD_neg (a b : Int × Int) : firstNZ [cmpI a.2 b.2, cmpI a.1 b.1] < 0 ↔ lessB a b = true := by
  rw [lessB_iff]
  simp only [firstNZ]
  rcases cmpI_in a.2 b.2 with h | h | h
  · rw [h]; have := cmpI_neg.1 h; simp; omega
  · rw [h]; have := cmpI_zero.1 h
    rcases cmpI_in a.1 b.1 with h1 | h1 | h1
    · rw [h1]; have := cmpI_neg.1 h1; simp; omega
    · rw [h1]; have := cmpI_zero.1 h1; simp; omega
    · rw [h1]; have := cmpI_one.1 h1; simp; omega
  · rw [h]; have := cmpI_one.1 h; simp; omega

theorem less_any (a b : Int × Int) (w : World) : Calls Try.prog 46 #[.agg #[.int .i64 a.1, .int .i64 a.2], .agg #[.int .i64 b.1, .int .i64 b.2]] w
    fun e w' => e = .returned (.bool (lessB a b)) ∧ Below w.heap.size w w' := by
  have hB : Below w.heap.size w ((w.alloc (.cells #[.int .i64 a.1, .int .i64 a.2] 23)).alloc (.cells #[.int .i64 b.1, .int .i64 b.2] 23)) := ((Below.refl _ _).alloc (Nat.le_refl _) _).alloc (by simp) _
  by_cases h1 : a.2 = b.2
  · have n1 : (a.2 != b.2) = false := by simpa using h1
    have H1 := Lib.hid h1
    clear h1
    go_enter Try.func46, Try.ntmps46
    go_wp2_with fail
    go_ret
    exact ⟨ret_bool (by rw [lessB, if_pos H1.out]), hB⟩
  · have n1 : (a.2 != b.2) = true := by simpa using h1
    have H1 := Lib.hid h1
    clear h1
    go_enter Try.func46, Try.ntmps46
    go_wp2_with fail
    go_ret
    exact ⟨ret_bool (by rw [lessB, if_neg H1.out]), hB⟩

/-- Each one before the next one. -/
def isSetB (l : List (Int × Int)) : Bool := (List.range (l.length - 1)).all fun i => lessB (l.getD i (0, 0)) (l.getD (i + 1) (0, 0))
def setTo (l : List (Int × Int)) (k : Nat) : Prop := ∀ i, i < k → lessB (l.getD i (0, 0)) (l.getD (i + 1) (0, 0)) = true
theorem isSetB_yes {l : List (Int × Int)} {k : Nat} (h : setTo l k) (hk : l.length ≤ k + 1) : isSetB l = true := by
  unfold isSetB
  rw [List.all_eq_true]
  intro i hi
  simp at hi
  exact h i (by omega)
theorem isSetB_no {l : List (Int × Int)} {k : Nat} (hk : k + 1 < l.length) (h : lessB l[k] l[k + 1] = false) : isSetB l = false := by
  unfold isSetB
  rw [List.all_eq_false]
  refine ⟨k, by simp; omega, ?_⟩
  simp [List.getElem?_eq_getElem hk, List.getElem?_eq_getElem (show k < l.length by omega), h]
theorem setTo_step {l : List (Int × Int)} {k : Nat} (h : setTo l k) (hk : k + 1 < l.length) (hl : lessB l[k] l[k + 1] = true) : setTo l (k + 1) := by
  intro i hi
  by_cases e : i = k
  · subst e; simpa [List.getElem?_eq_getElem hk, List.getElem?_eq_getElem (show i < l.length by omega)] using hl
  · exact h i (by omega)

set_option maxHeartbeats 1000000 in
theorem isSet_any (p : Option Addr) (c : Nat) (l : List (Int × Int)) (w : World) (h : Rd w w.heap.size p (dotCells l)) (hl : l.length ≤ 100000) :
    Calls Try.prog 38 #[.slice p l.length c] w fun e w' => e = .returned (.bool (isSetB l)) ∧ Below w.heap.size w w' := by
  go_enter Try.func38, Try.ntmps38
  go_wp2
  go_loopw [3] (fun i wr => ∃ k : Nat, k ≤ l.length ∧ i = .int .i64 ((k : Int) + 1) ∧ setTo l k ∧ Below w.heap.size w wr) (fun i _ => l.length + 1 - (intOf i).toNat)
  case atStart => exact ⟨0, Nat.zero_le _, rfl, fun i hi => by omega, Below.refl _ _⟩
  case round =>
    obtain ⟨k, hk, rfl, hs, hb⟩ := hrel
    by_cases hlt : k + 1 < l.length
    · obtain ⟨b1, o1, rfl, hl1, hc1, hd1⟩ := (h.kept hb).dot (show k < l.length by omega)
      obtain ⟨b2, o2, heq, hl2, hc2, hd2⟩ := (h.kept hb).dot hlt
      injection heq with heq
      injection heq with e1 e2
      subst e1 e2
      have hi1 : (k : Int) + 1 < (l.length : Int) := by omega
      have hi0 : (k : Int) < (l.length : Int) := by omega
      have hsub : (k : Int) + 1 - 1 = k := by omega
      have c1 := fun g => Gr.at_ hl1 hc1 g
      have c2 := fun g => Gr.at_ hl1 hd1 g
      have c3 := fun g => Gr.at_ hl1 hc2 g
      have c4 := fun g => Gr.at_ hl1 hd2 g
      by_cases hless : lessB l[k] l[k + 1] = true
      · have hneg := (cmpD_neg _ _).2 hless
        have HL := Lib.hid hless
        clear hless
        go_wp2_with fail
        refine wp_region_grows (by kernel_rfl) (by kernel_rfl) ?_
        repeat (go_big_quiet_step ((go_at_call 45; exact Calls.gr _ (dotCompare_any _ _ _ _ _))))
        refine wpQuiet_nil ?_
        rintro _ ⟨g, rfl⟩
        have hb' := hb.trans (g.h.mono hb.size)
        go_wp2_with fail
        go_roundw
        case rel => exact ⟨k + 1, by omega, by go_num, setTo_step hs hlt HL.out, hb'⟩
        case measure => simp [intOf]; omega
      · have hneg : ¬ firstNZ [cmpI (l[k]).2 (l[k + 1]).2, cmpI (l[k]).1 (l[k + 1]).1] < 0 := fun h => hless ((cmpD_neg _ _).1 h)
        have HL := Lib.hid (show lessB l[k] l[k + 1] = false by simpa using hless)
        clear hless
        go_wp2_with fail
        refine wp_region_grows (by kernel_rfl) (by kernel_rfl) ?_
        repeat (go_big_quiet_step ((go_at_call 45; exact Calls.gr _ (dotCompare_any _ _ _ _ _))))
        refine wpQuiet_nil ?_
        rintro _ ⟨g, rfl⟩
        have hb' := hb.trans (g.h.mono hb.size)
        go_wp2_with fail
        go_ret
        exact ⟨ret_bool (isSetB_no hlt HL.out).symm, hb'⟩
    · have hge : ¬ (k : Int) + 1 < (l.length : Int) := by omega
      go_wp2
      go_ret
      exact ⟨ret_bool (isSetB_yes hs (by omega)).symm, hb⟩

set_option maxHeartbeats 1000000 in
theorem refIsSet_any (p : Option Addr) (c : Nat) (l : List (Int × Int)) (w : World) (h : Rd w w.heap.size p (dotCells l)) (hl : l.length ≤ 100000) :
    Calls Try.prog 39 #[.slice p l.length c] w fun e w' => e = .returned (.bool (isSetB l)) ∧ Below w.heap.size w w' := by
  go_enter Try.func39, Try.ntmps39
  go_wp2
  go_loopw [3] (fun i wr => ∃ k : Nat, k ≤ l.length ∧ i = .int .i64 ((k : Int) + 1) ∧ setTo l k ∧ Below w.heap.size w wr) (fun i _ => l.length + 1 - (intOf i).toNat)
  case atStart => exact ⟨0, Nat.zero_le _, rfl, fun i hi => by omega, Below.refl _ _⟩
  case round =>
    obtain ⟨k, hk, rfl, hs, hb⟩ := hrel
    by_cases hlt : k + 1 < l.length
    · obtain ⟨b1, o1, rfl, hl1, hc1, hd1⟩ := (h.kept hb).dot (show k < l.length by omega)
      obtain ⟨b2, o2, heq, hl2, hc2, hd2⟩ := (h.kept hb).dot hlt
      injection heq with heq
      injection heq with e1 e2
      subst e1 e2
      have hi1 : (k : Int) + 1 < (l.length : Int) := by omega
      have hi0 : (k : Int) < (l.length : Int) := by omega
      have c1 := fun g => Gr.at_ hl1 hc1 g
      have c2 := fun g => Gr.at_ hl1 hd1 g
      have c3 := fun g => Gr.at_ hl1 hc2 g
      have c4 := fun g => Gr.at_ hl1 hd2 g
      by_cases hless : lessB l[k] l[k + 1] = true
      · have hn : (!lessB l[k] l[k + 1]) = false := by simp [hless]
        have HL := Lib.hid hless
        clear hless
        go_wp2_with fail
        refine wp_region_grows (by kernel_rfl) (by kernel_rfl) ?_
        repeat (go_big_quiet_step ((go_at_call 46; exact Calls.gr _ (less_any _ _ _))))
        refine wpQuiet_nil ?_
        rintro _ ⟨g, rfl⟩
        have hb' := hb.trans (g.h.mono hb.size)
        go_wp2_with fail
        go_roundw
        case rel => exact ⟨k + 1, by omega, by go_num, setTo_step hs hlt HL.out, hb'⟩
        case measure => simp [intOf]; omega
      · have hn : (!lessB l[k] l[k + 1]) = true := by simpa using hless
        have HL := Lib.hid (show lessB l[k] l[k + 1] = false by simpa using hless)
        clear hless
        go_wp2_with fail
        refine wp_region_grows (by kernel_rfl) (by kernel_rfl) ?_
        repeat (go_big_quiet_step ((go_at_call 46; exact Calls.gr _ (less_any _ _ _))))
        refine wpQuiet_nil ?_
        rintro _ ⟨g, rfl⟩
        have hb' := hb.trans (g.h.mono hb.size)
        go_wp2_with fail
        go_ret
        exact ⟨ret_bool (isSetB_no hlt HL.out).symm, hb'⟩
    · have hge : ¬ (k : Int) + 1 < (l.length : Int) := by omega
      go_wp2
      go_ret
      exact ⟨ret_bool (isSetB_yes hs (by omega)).symm, hb⟩
end Go.Proofs.Ytffclmogabceiaa
