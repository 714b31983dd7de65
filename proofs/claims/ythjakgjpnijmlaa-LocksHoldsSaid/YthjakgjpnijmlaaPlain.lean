/- The locks and the document's locks answer alike. Plain lists. -/
import Derived.Test.YthjakgjpnijmlaaRefUn
namespace Go.Proofs.Ythjakgjpnijmlaa
open Go.RowKit

def Inv (Q : List (List Int)) : Prop := ∀ q ∈ Q, (∀ x ∈ q, 1 ≤ x) ∧ q.Nodup
def heads (Q : List (List Int)) : List Int := Q.map fun q => q.headD 0
def tails (Q : List (List Int)) : List (List Int) := Q.map fun q => q.tail
theorem heads_len (Q : List (List Int)) : (heads Q).length = Q.length := by simp [heads]
theorem tails_len (Q : List (List Int)) : (tails Q).length = Q.length := by simp [tails]
theorem ix_tail {q : List Int} (h : q.Nodup) (o : Int) : 0 < ix q o ↔ o ∈ q.tail := by
  rw [ix_pos]
  constructor
  · exact fun h => h.2
  · intro hm
    refine ⟨fun e => ?_, hm⟩
    cases q with
    | nil => simp at hm
    | cons y l =>
      simp at e hm
      subst e
      exact (List.nodup_cons.1 h).1 hm
theorem head_pos {q : List Int} (h : ∀ x ∈ q, 1 ≤ x) (o : Int) : (0 < o ∧ q.headD 0 = o) ↔ q.head? = some o := by
  cases q with
  | nil => simp; omega
  | cons y l =>
    have := h y (by simp)
    simp
    omega
theorem held_refFrom : ∀ (Q : List (List Int)) (o : Int) (k : Nat), Inv Q → refHeldFrom (heads Q) o k = heldFrom Q o k
  | [], _, _, _ => rfl
  | q :: Q, o, k, h => by
    have hq := (h q (by simp)).1
    have ih := held_refFrom Q o (k + 1) (fun r hr => h r (by simp [hr]))
    show (if 0 < o ∧ q.headD 0 = o then (k : Int) :: refHeldFrom (heads Q) o (k + 1) else refHeldFrom (heads Q) o (k + 1)) = if q.head? = some o then (k : Int) :: heldFrom Q o (k + 1) else heldFrom Q o (k + 1)
    rw [ih]
    by_cases hh : q.head? = some o
    · rw [if_pos hh, if_pos ((head_pos hq o).2 hh)]
    · rw [if_neg hh, if_neg (fun e => hh ((head_pos hq o).1 e))]
theorem held_ref {Q : List (List Int)} (h : Inv Q) (o : Int) : refHeld (heads Q) o = held Q o := held_refFrom Q o 0 h
theorem for_refFrom : ∀ (Q : List (List Int)) (o : Int) (k : Nat), Inv Q → refForFrom (tails Q) o k = forFrom Q o k
  | [], _, _, _ => rfl
  | q :: Q, o, k, h => by
    have hq := (h q (by simp)).2
    have ih := for_refFrom Q o (k + 1) (fun r hr => h r (by simp [hr]))
    show (if o ∈ q.tail then (k : Int) else refForFrom (tails Q) o (k + 1)) = if 0 < ix q o then (k : Int) else forFrom Q o (k + 1)
    rw [ih]
    by_cases hh : 0 < ix q o
    · rw [if_pos hh, if_pos ((ix_tail hq o).1 hh)]
    · rw [if_neg hh, if_neg (fun e => hh ((ix_tail hq o).2 e))]
theorem for_ref {Q : List (List Int)} (h : Inv Q) (o : Int) : refFor (tails Q) o = waitsFor Q o := for_refFrom Q o 0 h
theorem forFrom_neg : ∀ (Q : List (List Int)) (o : Int) (k : Nat), forFrom Q o k < 0 ↔ ∀ q ∈ Q, ¬ 0 < ix q o
  | [], _, _ => by simp [forFrom]
  | q :: Q, o, k => by
    rw [forFrom]
    split
    · rename_i h
      constructor
      · intro h'; omega
      · intro h'; exact absurd h (h' q (by simp))
    · rename_i h
      rw [forFrom_neg Q o (k + 1)]
      simp only [List.mem_cons, forall_eq_or_imp]
      exact ⟨fun h' => ⟨h, h'⟩, fun h' => h'.2⟩
theorem mem_heldFrom : ∀ (Q : List (List Int)) (o : Int) (k : Nat) (x : Int), x ∈ heldFrom Q o k ↔ ∃ i, ∃ h : i < Q.length, (Q[i]).head? = some o ∧ x = ((k + i : Nat) : Int)
  | [], _, _, _ => by simp [heldFrom]
  | q :: Q, o, k, x => by
    have ih := mem_heldFrom Q o (k + 1) x
    rw [heldFrom]
    constructor
    · intro h
      split at h
      · rename_i hq
        rw [List.mem_cons] at h
        rcases h with h | h
        · exact ⟨0, by simp, by simpa using hq, by simpa using h⟩
        · obtain ⟨i, hi, h1, h2⟩ := ih.1 h
          exact ⟨i + 1, by simpa using hi, by simpa using h1, by rw [h2]; congr 1; omega⟩
      · obtain ⟨i, hi, h1, h2⟩ := ih.1 h
        exact ⟨i + 1, by simpa using hi, by simpa using h1, by rw [h2]; congr 1; omega⟩
    · rintro ⟨i, hi, h1, h2⟩
      cases i with
      | zero =>
        rw [if_pos (by simpa using h1)]
        simp [h2]
      | succ i =>
        have : x ∈ heldFrom Q o (k + 1) := ih.2 ⟨i, by simpa using hi, by simpa using h1, by rw [h2]; congr 1; omega⟩
        split
        · exact List.mem_cons_of_mem _ this
        · exact this
/-- The last of a list that goes up is its greatest. -/
theorem heldFrom_up : ∀ (Q : List (List Int)) (o : Int) (k : Nat), (heldFrom Q o k).Pairwise (· < ·)
  | [], _, _ => List.Pairwise.nil
  | q :: Q, o, k => by
    have ih := heldFrom_up Q o (k + 1)
    rw [heldFrom]
    split
    · refine List.pairwise_cons.2 ⟨fun x hx => ?_, ih⟩
      obtain ⟨i, _, _, h2⟩ := (mem_heldFrom Q o (k + 1) x).1 hx
      rw [h2]; omega
    · exact ih
theorem last_ge {l : List Int} (h : l.Pairwise (· < ·)) {x : Int} (hx : x ∈ l) : x ≤ lastOf l := by
  obtain ⟨i, hi, rfl⟩ := List.mem_iff_getElem.1 hx
  have hl : lastOf l = l[l.length - 1] := by simp [lastOf, List.getElem?_eq_getElem (show l.length - 1 < l.length by omega)]
  rw [hl]
  by_cases e : i = l.length - 1
  · subst e; exact Int.le_refl _
  · have := List.pairwise_iff_getElem.1 h i (l.length - 1) hi (by omega) (by omega)
    omega
theorem last_mem {l : List Int} (h : l ≠ []) : lastOf l ∈ l := by
  have hp := List.length_pos_iff.2 h
  have hl : lastOf l = l[l.length - 1] := by simp [lastOf, List.getElem?_eq_getElem (show l.length - 1 < l.length by omega)]
  rw [hl]
  exact List.getElem_mem _
theorem blocked_iff (Q : List (List Int)) (o s : Int) : blocked Q o s = true ↔ (∃ q ∈ Q, 0 < ix q o) ∨ ∃ i, ∃ h : i < Q.length, (Q[i]).head? = some o ∧ s ≤ (i : Int) := by
  rw [blocked, blockedFrom_iff]
  constructor
  · rintro ⟨i, hi, h⟩
    simp only [stops, Bool.or_eq_true, Bool.and_eq_true, decide_eq_true_eq, Nat.zero_add] at h
    rcases h with h | ⟨h1, h2⟩
    · exact .inl ⟨_, List.getElem_mem hi, h⟩
    · exact .inr ⟨i, hi, (ix_zero _ _).1 h1, h2⟩
  · rintro (⟨q, hq, h⟩ | ⟨i, hi, h1, h2⟩)
    · obtain ⟨i, hi, rfl⟩ := List.mem_iff_getElem.1 hq
      exact ⟨i, hi, by simp [stops, h]⟩
    · exact ⟨i, hi, by simp [stops, (ix_zero _ _).2 h1, h2]⟩
theorem blocked_ref {Q : List (List Int)} (h : Inv Q) (o s : Int) : refBlocked (heads Q) (tails Q) o s ↔ blocked Q o s = true := by
  rw [blocked_iff, refBlocked, held_ref h, for_ref h]
  have h1 : 0 ≤ waitsFor Q o ↔ ∃ q ∈ Q, 0 < ix q o := by
    have := forFrom_neg Q o 0
    constructor
    · intro hx
      rcases Classical.em (∃ q ∈ Q, 0 < ix q o) with e | e
      · exact e
      · have h2 := this.2 (fun q hq hp => e ⟨q, hq, hp⟩)
        have h3 : waitsFor Q o < 0 := h2
        omega
    · rintro ⟨q, hq, hp⟩
      rcases Int.lt_or_le (waitsFor Q o) 0 with e | e
      · exact absurd hp (this.1 e q hq)
      · exact e
  rw [h1]
  constructor
  · rintro (hx | ⟨hne, hle⟩)
    · exact .inl hx
    · obtain ⟨i, hi, h2, h3⟩ := (mem_heldFrom Q o 0 _).1 (last_mem hne)
      exact .inr ⟨i, hi, h2, by rw [show lastOf (held Q o) = ((0 + i : Nat) : Int) from h3] at hle; simpa using hle⟩
  · rintro (hx | ⟨i, hi, h2, h3⟩)
    · exact .inl hx
    · have hm : (i : Int) ∈ held Q o := (mem_heldFrom Q o 0 _).2 ⟨i, hi, h2, by simp⟩
      refine .inr ⟨fun e => by rw [e] at hm; simp at hm, ?_⟩
      have := last_ge (heldFrom_up Q o 0) hm
      exact Int.le_trans h3 this

theorem okX_heads (Q : List (List Int)) (o s : Int) : okX (heads Q).length o s = true ↔ okS Q s = true ∧ okO o = true := by
  rw [okX_iff, okS_iff, okO_iff, heads_len]
  omega
theorem lockE_ref {Q : List (List Int)} (h : Inv Q) (o s : Int) : refLE (heads Q) (tails Q) o s = lockE Q o s := by
  unfold refLE lockE
  by_cases ho : okS Q s = true ∧ okO o = true
  · rw [if_pos ho, if_pos ((okX_heads Q o s).2 ho)]
    by_cases hb : blocked Q o s = true
    · rw [if_pos hb, if_pos ((blocked_ref h o s).2 hb)]
    · rw [if_neg hb, if_neg (fun e => hb ((blocked_ref h o s).1 e))]
  · rw [if_neg ho, if_neg (fun e => ho ((okX_heads Q o s).1 e))]
theorem lockE_okS {Q : List (List Int)} {o s : Int} (h : lockE Q o s = 0) : okS Q s = true ∧ okO o = true := by
  unfold lockE at h
  split at h
  · assumption
  · omega
theorem hAt_heads {Q : List (List Int)} {s : Int} (h : okS Q s = true) : hAt (heads Q) s = (queue Q s).headD 0 := by
  obtain ⟨i, rfl, hi⟩ := okS_nat h
  rw [queue_nat hi]
  simp [hAt, heads, hi]
theorem tAt_tails {Q : List (List Int)} {s : Int} (h : okS Q s = true) : tAt (tails Q) s = (queue Q s).tail := by
  obtain ⟨i, rfl, hi⟩ := okS_nat h
  rw [queue_nat hi]
  simp [tAt, tails, hi]
theorem queue_mem {Q : List (List Int)} {s : Int} (h : okS Q s = true) : queue Q s ∈ Q := by
  obtain ⟨i, rfl, hi⟩ := okS_nat h
  rw [queue_nat hi]
  exact List.getElem_mem hi
theorem head_zero {Q : List (List Int)} (h : Inv Q) {s : Int} (hs : okS Q s = true) : (queue Q s).headD 0 = 0 ↔ queue Q s = [] := by
  have := (h _ (queue_mem hs)).1
  cases hq : queue Q s with
  | nil => simp
  | cons y l =>
    rw [hq] at this
    have := this y (by simp)
    simp; omega
theorem lockB_ref {Q : List (List Int)} (h : Inv Q) (o s : Int) : refLB (heads Q) (tails Q) o s = lockB Q o s := by
  unfold refLB lockB
  rw [lockE_ref h]
  by_cases he : lockE Q o s = 0
  · have hs := (lockE_okS he).1
    rw [hAt_heads hs]
    congr 1
    rw [Bool.eq_iff_iff, decide_eq_true_eq, head_zero h hs, List.isEmpty_iff]
  · simp [he]
theorem map_set_same {α β : Type} (f : α → β) (l : List α) (i : Nat) (x : α) (h : ∀ hi : i < l.length, f l[i] = f x) : (l.set i x).map f = l.map f := by
  apply List.ext_getElem
  · simp
  · intro j h1 h2
    simp at h1
    rw [List.getElem_map, List.getElem_map, List.getElem_set]
    split
    · rename_i e; subst e; exact (h h1).symm
    · rfl
theorem lockH_ref {Q : List (List Int)} (h : Inv Q) (o s : Int) : refLH (heads Q) (tails Q) o s = heads (lockQ Q o s) := by
  unfold refLH
  rw [lockB_ref h]
  by_cases he : lockE Q o s = 0
  · have hs := (lockE_okS he).1
    rw [lockQ, if_pos he]
    by_cases hq : queue Q s = []
    · have hb : lockB Q o s = true := by rw [lockB, he, hq]; rfl
      rw [if_pos hb, hq]
      simp [heads, List.map_set]
    · have hb : lockB Q o s = false := by
        rw [lockB, he]
        cases hqq : queue Q s with
        | nil => exact absurd hqq hq
        | cons y l => rfl
      rw [hb, if_neg (by simp)]
      obtain ⟨i, rfl, hi⟩ := okS_nat hs
      unfold heads
      rw [map_set_same]
      intro hi2
      rw [queue_nat hi] at hq ⊢
      simp only [Int.toNat_natCast] at hi2 ⊢
      cases hqq : Q[i] with
      | nil => exact absurd hqq hq
      | cons y l => rfl
  · have hb : lockB Q o s = false := by rw [lockB, decide_eq_false he]; rfl
    rw [hb, if_neg (by simp), lockQ, if_neg he]
theorem lockT_ref {Q : List (List Int)} (h : Inv Q) (o s : Int) : refLT (heads Q) (tails Q) o s = tails (lockQ Q o s) := by
  unfold refLT
  rw [lockE_ref h]
  by_cases he : lockE Q o s = 0
  · have hs := (lockE_okS he).1
    rw [lockQ, if_pos he, hAt_heads hs, tAt_tails hs]
    by_cases hq : queue Q s = []
    · rw [if_neg (fun e => e.2 ((head_zero h hs).2 hq)), hq]
      obtain ⟨i, rfl, hi⟩ := okS_nat hs
      unfold tails
      rw [map_set_same]
      intro hi2
      rw [queue_nat hi] at hq
      simp only [Int.toNat_natCast] at hi2 ⊢
      rw [hq]; rfl
    · rw [if_pos ⟨he, fun e => hq ((head_zero h hs).1 e)⟩]
      unfold tails
      rw [List.map_set]
      congr 1
      cases hqq : queue Q s with
      | nil => exact absurd hqq hq
      | cons y l => rfl
  · rw [if_neg (fun e => he e.1), lockQ, if_neg he]
theorem inv_set {Q : List (List Int)} (h : Inv Q) (i : Nat) {q : List Int} (h1 : ∀ x ∈ q, 1 ≤ x) (h2 : q.Nodup) : Inv (Q.set i q) := by
  intro r hr
  rcases List.mem_or_eq_of_mem_set hr with hr | hr
  · exact h r hr
  · subst hr; exact ⟨h1, h2⟩
theorem inv_lock {Q : List (List Int)} (h : Inv Q) (o s : Int) : Inv (lockQ Q o s) := by
  unfold lockQ
  split
  · rename_i he
    obtain ⟨hs, ho⟩ := lockE_okS he
    obtain ⟨k1, k2⟩ := h _ (queue_mem hs)
    refine inv_set h _ ?_ ?_
    · intro x hx
      simp at hx
      rcases hx with hx | hx
      · exact k1 x hx
      · subst hx; exact (okO_iff.1 ho).1
    · rw [List.nodup_append]
      refine ⟨k2, by simp, ?_⟩
      intro a ha b hb
      simp at hb
      subst hb
      rintro rfl
      have hb : ¬ blocked Q a s = true := by
        intro hb
        unfold lockE at he
        rw [if_pos ⟨hs, ho⟩, if_pos hb] at he
        omega
      apply hb
      rw [blocked_iff]
      rcases Int.lt_or_le 0 (ix (queue Q s) a) with e | e
      · exact .inl ⟨_, queue_mem hs, e⟩
      · have h3 : ¬ ix (queue Q s) a < 0 := fun h' => (ix_neg _ _).1 h' ha
        have h4 : ix (queue Q s) a = 0 := by omega
        obtain ⟨i, rfl, hi⟩ := okS_nat hs
        rw [queue_nat hi] at h4
        exact .inr ⟨i, hi, (ix_zero _ _).1 h4, Int.le_refl _⟩
  · exact h
theorem unE_okS {Q : List (List Int)} {o s : Int} (h : unE Q o s = 0) : (okS Q s = true ∧ okO o = true) ∧ (queue Q s).head? = some o := by
  unfold unE at h
  split at h
  · split at h
    · exact ⟨by assumption, by assumption⟩
    · omega
  · omega
theorem inv_un {Q : List (List Int)} (h : Inv Q) (o s : Int) : Inv (unQ Q o s) := by
  unfold unQ
  split
  · rename_i he
    obtain ⟨k1, k2⟩ := h _ (queue_mem (unE_okS he).1.1)
    exact inv_set h _ (fun x hx => k1 x (List.mem_of_mem_tail hx)) (by
      cases hq : queue Q s with
      | nil => simp
      | cons y l => rw [hq] at k2; exact (List.nodup_cons.1 k2).2)
  · exact h
theorem unE_ref {Q : List (List Int)} (h : Inv Q) (o s : Int) : refUE (heads Q) o s = unE Q o s := by
  unfold refUE unE
  by_cases ho : okS Q s = true ∧ okO o = true
  · rw [if_pos ho, if_pos ((okX_heads Q o s).2 ho), hAt_heads ho.1]
    have h1 := (okO_iff.1 ho.2).1
    have h2 := head_pos (h _ (queue_mem ho.1)).1 o
    by_cases hh : (queue Q s).head? = some o
    · rw [if_pos hh, if_pos (h2.2 hh).2]
    · rw [if_neg hh, if_neg (fun e => hh (h2.1 ⟨by omega, e⟩))]
  · rw [if_neg ho, if_neg (fun e => ho ((okX_heads Q o s).1 e))]
theorem unN_ref {Q : List (List Int)} (h : Inv Q) (o s : Int) : refUN (heads Q) (tails Q) o s = unN Q o s := by
  unfold refUN unN
  rw [unE_ref h]
  by_cases he : unE Q o s = 0
  · rw [if_pos he, if_pos he, tAt_tails (unE_okS he).1.1]
  · rw [if_neg he, if_neg he]
theorem unH_ref {Q : List (List Int)} (h : Inv Q) (o s : Int) : refUH (heads Q) (tails Q) o s = heads (unQ Q o s) := by
  unfold refUH unQ
  rw [unE_ref h]
  by_cases he : unE Q o s = 0
  · rw [if_pos he, if_pos he, tAt_tails (unE_okS he).1.1]
    simp [heads, List.map_set]
  · rw [if_neg he, if_neg he]
theorem unT_ref {Q : List (List Int)} (h : Inv Q) (o s : Int) : refUT (heads Q) (tails Q) o s = tails (unQ Q o s) := by
  unfold refUT unQ
  rw [unE_ref h]
  by_cases he : unE Q o s = 0
  · rw [if_pos he, if_pos he, tAt_tails (unE_okS he).1.1]
    simp [tails, List.map_set]
  · rw [if_neg he, if_neg he]
end Go.Proofs.Ythjakgjpnijmlaa
