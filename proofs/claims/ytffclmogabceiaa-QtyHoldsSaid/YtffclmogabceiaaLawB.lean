/- The walk of QtyNewest: it returns true. -/
import Derived.Test.YtffclmogabceiaaLawA
import Derived.Test.YtffclmogabceiaaTurn
namespace Go.Proofs.Ytffclmogabceiaa
open Go.RowKit

theorem allV_mem {l : List Mk} (h : allV l = true) {m : Mk} (hm : m ∈ l) : 0 < m.t := by
  unfold allV at h
  rw [List.all_eq_true] at h
  have := h m hm
  simp only [validM, Bool.and_eq_true, decide_eq_true_eq] at this
  exact this.2
theorem lastT_newest {l : List Mk} (hv : allV l = true) : lastT l = (newestOf l).t := by
  cases hl : l with
  | nil => rfl
  | cons m r =>
    obtain ⟨h1, h2⟩ := newestOf_max m r
    rw [← hl] at h1 h2 ⊢
    obtain ⟨_, k2⟩ := gmax_ge l Mk.zero
    rcases gmax_mem l Mk.zero with e | e
    · have := k2 _ h1
      rw [e] at this
      have hp := allV_mem hv h1
      exact absurd (Or.inl (by show (newestOf l).t > 0; exact hp)) this
    · show (gmax l Mk.zero).t = _
      rw [max_unique e h1 k2 h2]
theorem nextN_ref {l : List Mk} (hv : allV l = true) : nextN l = refNextN l := by
  rw [nextN, if_pos hv, lastT_newest hv]; rfl
theorem nextE_ref {l : List Mk} (hv : allV l = true) : nextE l = refNextE l := by
  rw [nextE, if_pos hv, lastT_newest hv]; rfl
theorem newestM_ref {l : List Mk} (hv : allV l = true) : newestM l = newestOf l := by rw [newestM, if_pos hv]
theorem newestE_ref {l : List Mk} (hv : allV l = true) : newestE l = noneE l := by rw [newestE, if_pos hv]; rfl
theorem no_newestM {l : List Mk} (hv : allV l = false) : newestM l = Mk.zero := by rw [newestM, if_neg (by rw [hv]; simp)]
theorem no_newestE {l : List Mk} (hv : allV l = false) : newestE l = 2 := by rw [newestE, if_neg (by rw [hv]; simp)]
theorem no_nextN {l : List Mk} (hv : allV l = false) : nextN l = 0 := by rw [nextN, if_neg (by rw [hv]; simp)]
theorem no_nextE {l : List Mk} (hv : allV l = false) : nextE l = 2 := by rw [nextE, if_neg (by rw [hv]; simp)]
theorem sameMarks_same (p q : Option Addr) (c d n : Nat) (xs : List Mk) (w : World) (hx : Rd w w.heap.size p (mks xs)) (hy : Rd w w.heap.size q (mks xs)) (hl : xs.length ≤ 100000) (hn : n = xs.length) :
    Calls Try.prog 22 #[.slice p n c, .slice q n d] w fun e w' => e = .returned (.bool true) ∧ Below w.heap.size w w' := by
  subst hn
  exact (sameMarks_any p q c d xs xs w hx hy hl hl).mono fun _ _ ⟨he, hb⟩ => ⟨by simpa using he, hb⟩

set_option maxHeartbeats 2000000 in
theorem qtyNewest_walk (p : Option Addr) (cc : Nat) (l : List Mk) (w : World) (h : Rd w w.heap.size p (mks l)) (ho : ∀ x ∈ l, x.Ok) (hm : l.length ≤ maxLen) :
    Calls Try.prog 5 #[.slice p l.length cc] w fun e w' => e = .returned (.bool true) ∧ Below w.heap.size w w' := by
  unfold maxLen at hm
  by_cases hl : l.length ≤ 40
  · have HO := Lib.hid ho
    clear ho
    by_cases hv : allV l = true
    · have HV := Lib.hid hv
      clear hv
      go_enter Try.func5, Try.ntmps5
      go_wp2_with (at_builtin; refine wpList_appM rfl (.const (.slice none 0 0)) (.tmp 12) 38 rfl w.heap.size 26 _ 4 32 Try.underlying38 mk_info rfl (by omega) _ 0 [] rfl (World.ownsRow_nil _ _ _ _) w.heap.size p l.length cc (mks l) rfl (mks_len l) h (mks_one l) (by omega) (by omega) (Nat.le_refl _) ?_; intro v' w1 hown hb1 _ _)
      have h1 := h.kept hb1
      rw [Nat.zero_add, List.nil_append] at hown
      obtain ⟨q, d, rfl, _, _, hq1, _⟩ := own_form hown
      clear hown
      go_wp2_with fail
      refine (marks_any p cc l w1 h1 (by omega) HO.out).mono ?_
      rintro e w2 ⟨rfl, hb2⟩
      rw [HV.out]
      have h2 := h1.kept hb2
      have hq2 := hq1.kept hb2
      have hb := below_step hb1 hb2
      clear h1 hq1 hb1 hb2
      go_wp2_with fail
      refine (refNewest_any p cc l w2 h2 (by omega)).mono ?_
      rintro e w3 ⟨rfl, hb3⟩
      have h3 := h2.kept hb3
      have hq3 := hq2.kept hb3
      have hb' := below_step hb hb3
      clear h2 hq2 hb hb3
      obtain ⟨m, hm0⟩ : ∃ m, newestOf l = m := ⟨_, rfl⟩
      rw [hm0]
      have HM := Lib.hid hm0
      clear hm0
      go_wp2_with fail
      generalize hW : (World.alloc _ _) = W4
      have hW4 : Below w3.heap.size w3 W4 := by rw [← hW]; exact (Below.refl _ _).alloc (Nat.le_refl _) _
      have hM : Blk W4 w3.heap.size 26 m.cells := by rw [← hW]; exact Blk.new' _ 26 m.cells rfl
      clear hW
      have h4 := h3.kept hW4
      have hq4 := hq3.kept hW4
      have hb4 := below_step hb' hW4
      clear h3 hq3 hb' hW4
      refine (refNext_any p cc l W4 h4 (by omega) HO.out).mono ?_
      rintro e w5 ⟨rfl, hb5⟩
      have h5 := h4.kept hb5
      have hq5 := hq4.kept hb5
      have hb6 := below_step hb4 hb5
      have hM5 := hM.kept hb5
      clear h4 hq4 hb4 hb5 hM
      obtain ⟨a0, a1, a2, a3⟩ := cells4 hM5
      go_wp2_with fail
      refine (isNewest_any q d l m (noneE l) w5 hq5 (by omega) ((newestM_ref HV.out).trans HM.out) (newestE_ref HV.out) _ rfl).mono ?_
      rintro e w6 ⟨rfl, hb7⟩
      have h6 := h5.kept hb7
      have hq6 := hq5.kept hb7
      have hb8 := below_step hb6 hb7
      clear h5 hq5 hb6 hb7 hM5 a0 a1 a2 a3
      go_wp2_with fail
      refine (isNext_any q d l (refNextN l) (refNextE l) w6 hq6 (by omega) HO.out (nextN_ref HV.out) (nextE_ref HV.out) _ rfl).mono ?_
      rintro e w7 ⟨rfl, hb9⟩
      have h7 := h6.kept hb9
      have hq7 := hq6.kept hb9
      have hb10 := below_step hb8 hb9
      clear h6 hq6 hb8 hb9
      go_wp2_with fail
      refine (sameMarks_same q p d cc _ l w7 hq7 h7 (by omega) rfl).mono ?_
      rintro e w8 ⟨rfl, hb11⟩
      have hb12 := below_step hb10 hb11
      clear h7 hq7 hb10 hb11
      go_wp2_with fail
      refine (known_any _).mono ?_
      rintro e w9 ⟨rfl, hb13⟩
      go_wp2_with fail
      go_ret
      exact ⟨rfl, below_step hb12 hb13⟩
    · have HV := Lib.hid (show allV l = false by simpa using hv)
      clear hv
      go_enter Try.func5, Try.ntmps5
      go_wp2_with (at_builtin; refine wpList_appM rfl (.const (.slice none 0 0)) (.tmp 12) 38 rfl w.heap.size 26 _ 4 32 Try.underlying38 mk_info rfl (by omega) _ 0 [] rfl (World.ownsRow_nil _ _ _ _) w.heap.size p l.length cc (mks l) rfl (mks_len l) h (mks_one l) (by omega) (by omega) (Nat.le_refl _) ?_; intro v' w1 hown hb1 _ _)
      have h1 := h.kept hb1
      rw [Nat.zero_add, List.nil_append] at hown
      obtain ⟨q, d, rfl, _, _, hq1, _⟩ := own_form hown
      clear hown
      go_wp2_with fail
      refine (marks_any p cc l w1 h1 (by omega) HO.out).mono ?_
      rintro e w2 ⟨rfl, hb2⟩
      rw [HV.out]
      have hq2 := hq1.kept hb2
      have hb := below_step hb1 hb2
      clear h1 hq1 hb1 hb2
      go_wp2_with fail
      refine (isNewest_any q d l Mk.zero 2 w2 hq2 (by omega) (no_newestM HV.out) (no_newestE HV.out) _ rfl).mono ?_
      rintro e w6 ⟨rfl, hb7⟩
      have hq6 := hq2.kept hb7
      have hb8 := below_step hb hb7
      clear hq2 hb hb7
      go_wp2_with fail
      refine (isNext_any q d l 0 2 w6 hq6 (by omega) HO.out (no_nextN HV.out) (no_nextE HV.out) _ rfl).mono ?_
      rintro e w7 ⟨rfl, hb9⟩
      have hb10 := below_step hb8 hb9
      clear hq6 hb8 hb9
      go_wp2_with fail
      refine (known_any _).mono ?_
      rintro e w9 ⟨rfl, hb13⟩
      go_wp2_with fail
      go_ret
      exact ⟨rfl, below_step hb10 hb13⟩
  · go_enter Try.func5, Try.ntmps5
    go_wp2_with fail
    refine (known_any _).mono ?_
    rintro e w3 ⟨rfl, hb3⟩
    go_wp2_with fail
    go_ret
    exact ⟨rfl, hb3⟩
end Go.Proofs.Ytffclmogabceiaa
