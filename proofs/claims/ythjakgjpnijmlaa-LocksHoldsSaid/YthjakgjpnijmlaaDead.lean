/- No deadlock: the invariant of all locks whose owners ask in the order of the stripes. Plain lists. -/
import Derived.Test.YthjakgjpnijmlaaPlain
namespace Go.Proofs.Ythjakgjpnijmlaa
open Go.RowKit

/-- An owner waits in queue i; holds lock i. -/
def waitsAt (Q : List (List Int)) (o : Int) (i : Nat) : Prop := ∃ h : i < Q.length, o ∈ (Q[i]).tail
def holdsAt (Q : List (List Int)) (o : Int) (i : Nat) : Prop := ∃ h : i < Q.length, (Q[i]).head? = some o
structure J (Q : List (List Int)) : Prop where
  inv : Inv Q
  top : ∀ q ∈ Q, ∀ x ∈ q, x ≤ 12
  up : ∀ o i w, holdsAt Q o i → waitsAt Q o w → i < w
  one : ∀ o i w, waitsAt Q o i → waitsAt Q o w → i = w
def total (Q : List (List Int)) : Nat := (Q.map List.length).sum
theorem total_set : ∀ (Q : List (List Int)) (i : Nat) (q : List Int) (h : i < Q.length), total (Q.set i q) + (Q[i]).length = total Q + q.length
  | r :: Q, 0, q, _ => by simp [total]; omega
  | r :: Q, i + 1, q, h => by
    have := total_set Q i q (by simpa using h)
    simp only [total, List.set_cons_succ, List.map_cons, List.sum_cons, List.getElem_cons_succ] at *
    omega
theorem len_le_total : ∀ (Q : List (List Int)) (q : List Int), q ∈ Q → q.length ≤ total Q
  | r :: Q, q, h => by
    simp only [total, List.map_cons, List.sum_cons]
    rcases List.mem_cons.1 h with rfl | h
    · omega
    · have h2 := len_le_total Q q h
      simp only [total] at h2
      omega
theorem total_new (n : Nat) : total (List.replicate n []) = 0 := by
  induction n with
  | zero => rfl
  | succ n ih => simp [total, List.replicate_succ] at *
theorem lockQ_len (Q : List (List Int)) (o s : Int) : (lockQ Q o s).length = Q.length := by unfold lockQ; split <;> simp
theorem unQ_len (Q : List (List Int)) (o s : Int) : (unQ Q o s).length = Q.length := by unfold unQ; split <;> simp
theorem total_lock (Q : List (List Int)) (o s : Int) : total (lockQ Q o s) ≤ total Q + 1 := by
  unfold lockQ
  split
  · rename_i h
    obtain ⟨i, rfl, hi⟩ := okS_nat (lockE_okS h).1
    have := total_set Q i (queue Q i ++ [o]) hi
    rw [queue_nat hi] at *
    simp at *
    omega
  · omega
theorem total_un (Q : List (List Int)) (o s : Int) : total (unQ Q o s) ≤ total Q := by
  unfold unQ
  split
  · rename_i h
    obtain ⟨i, rfl, hi⟩ := okS_nat (unE_okS h).1.1
    have := total_set Q i (queue Q i).tail hi
    rw [queue_nat hi] at *
    simp at *
    omega
  · omega
theorem total_un_lt {Q : List (List Int)} {o s : Int} (h : unE Q o s = 0) : total (unQ Q o s) + 1 ≤ total Q := by
  unfold unQ
  rw [if_pos h]
  obtain ⟨⟨h1, _⟩, h2⟩ := unE_okS h
  obtain ⟨i, rfl, hi⟩ := okS_nat h1
  have := total_set Q i (queue Q i).tail hi
  rw [queue_nat hi] at *
  have hl : 0 < (Q[i]).length := by
    cases hq : Q[i] with
    | nil => rw [hq] at h2; simp at h2
    | cons y l => simp
  simp at *
  omega
theorem at_set {Q : List (List Int)} {i j : Nat} {q : List Int} (h : j < (Q.set i q).length) : (Q.set i q)[j] = if i = j then q else Q[j]'(by simpa using h) := List.getElem_set ..

theorem J_new (n : Nat) : J (List.replicate n []) := by
  have e : ∀ (i : Nat) (h : i < (List.replicate n ([] : List Int)).length), (List.replicate n ([] : List Int))[i] = [] := by intro i h; simp
  refine ⟨?_, ?_, ?_, ?_⟩
  · intro q hq; rw [(List.mem_replicate.1 hq).2]; simp
  · intro q hq; rw [(List.mem_replicate.1 hq).2]; simp
  · rintro o i w ⟨h1, h2⟩ _; rw [e] at h2; simp at h2
  · rintro o i w ⟨h1, h2⟩ _; rw [e] at h2; simp at h2
theorem J_lock {Q : List (List Int)} (h : J Q) (o s : Int) (ho : o ≤ 12) : J (lockQ Q o s) := by
  have hinv := inv_lock h.inv o s
  unfold lockQ at hinv ⊢
  split
  · rename_i he
    rw [if_pos he] at hinv
    obtain ⟨hs, hok⟩ := lockE_okS he
    obtain ⟨i, rfl, hi⟩ := okS_nat hs
    have hb : ¬ blocked Q o i = true := by
      intro hb
      unfold lockE at he
      rw [if_pos ⟨hs, hok⟩, if_pos hb] at he
      omega
    rw [blocked_iff] at hb
    have nw : ∀ j, ¬ waitsAt Q o j := by
      rintro j ⟨hj, hm⟩
      exact hb (.inl ⟨_, List.getElem_mem hj, (ix_tail (h.inv _ (List.getElem_mem hj)).2 o).2 hm⟩)
    have nh : ∀ j, holdsAt Q o j → j < i := by
      rintro j ⟨hj, hm⟩
      rcases Nat.lt_or_ge j i with e | e
      · exact e
      · exact absurd (.inr ⟨j, hj, hm, by omega⟩) hb
    rw [queue_nat hi] at hinv ⊢
    rw [Int.toNat_natCast] at hinv ⊢
    -- who waits, who holds
    have W : ∀ x j, waitsAt (Q.set i (Q[i] ++ [o])) x j → waitsAt Q x j ∨ (x = o ∧ j = i ∧ Q[i] ≠ []) := by
      rintro x j ⟨hj, hm⟩
      rw [at_set] at hm
      split at hm
      · rename_i e
        subst e
        cases hq : Q[i] with
        | nil => rw [hq] at hm; simp at hm
        | cons y l =>
          rw [hq] at hm
          simp at hm
          rcases hm with hm | hm
          · exact .inl ⟨hi, by rw [hq]; exact hm⟩
          · exact .inr ⟨hm, rfl, by simp⟩
      · exact .inl ⟨by simpa using hj, hm⟩
    have HH : ∀ x j, holdsAt (Q.set i (Q[i] ++ [o])) x j → holdsAt Q x j ∨ (x = o ∧ j = i ∧ Q[i] = []) := by
      rintro x j ⟨hj, hm⟩
      rw [at_set] at hm
      split at hm
      · rename_i e
        subst e
        cases hq : Q[i] with
        | nil => rw [hq] at hm; simp at hm; exact .inr ⟨hm.symm, rfl, rfl⟩
        | cons y l => rw [hq] at hm; exact .inl ⟨hi, by rw [hq]; simpa using hm⟩
      · exact .inl ⟨by simpa using hj, hm⟩
    refine ⟨hinv, ?_, ?_, ?_⟩
    · intro q hq x hx
      rcases List.mem_or_eq_of_mem_set hq with hq | hq
      · exact h.top q hq x hx
      · subst hq
        rw [List.mem_append] at hx
        rcases hx with hx | hx
        · exact h.top _ (List.getElem_mem hi) x hx
        · simp at hx; omega
    · intro x a b hxa hxb
      rcases W x b hxb with hw | ⟨rfl, rfl, hne⟩
      · rcases HH x a hxa with hh | ⟨rfl, _, _⟩
        · exact h.up x a b hh hw
        · exact absurd hw (nw b)
      · rcases HH x a hxa with hh | ⟨_, _, hn⟩
        · exact nh a hh
        · exact absurd hn hne
    · intro x a b hxa hxb
      rcases W x a hxa with hw | ⟨rfl, rfl, _⟩
      · rcases W x b hxb with hw2 | ⟨rfl, rfl, _⟩
        · exact h.one x a b hw hw2
        · exact absurd hw (nw a)
      · rcases W x b hxb with hw2 | ⟨_, rfl, _⟩
        · exact absurd hw2 (nw b)
        · rfl
  · exact h
theorem J_un {Q : List (List Int)} (h : J Q) (o s : Int) : J (unQ Q o s) := by
  have hinv := inv_un h.inv o s
  unfold unQ at hinv ⊢
  split
  · rename_i he
    rw [if_pos he] at hinv
    obtain ⟨⟨hs, _⟩, hhd⟩ := unE_okS he
    obtain ⟨i, rfl, hi⟩ := okS_nat hs
    rw [queue_nat hi] at hinv hhd ⊢
    rw [Int.toNat_natCast] at hinv ⊢
    have nd := (h.inv _ (List.getElem_mem hi)).2
    have W : ∀ x j, waitsAt (Q.set i (Q[i]).tail) x j → waitsAt Q x j := by
      rintro x j ⟨hj, hm⟩
      rw [at_set] at hm
      split at hm
      · rename_i e; subst e; exact ⟨hi, List.mem_of_mem_tail hm⟩
      · exact ⟨by simpa using hj, hm⟩
    have HH : ∀ x j, holdsAt (Q.set i (Q[i]).tail) x j → holdsAt Q x j ∨ (j = i ∧ waitsAt Q x i ∧ ∀ b, ¬ waitsAt (Q.set i (Q[i]).tail) x b) := by
      rintro x j ⟨hj, hm⟩
      rw [at_set] at hm
      split at hm
      · rename_i e
        subst e
        have hxw : waitsAt Q x i := ⟨hi, List.mem_of_head? hm⟩
        refine .inr ⟨rfl, hxw, fun b hb => ?_⟩
        have hbi := h.one x b i (W x b hb) hxw
        subst hbi
        obtain ⟨hb1, hb2⟩ := hb
        rw [at_set, if_pos rfl] at hb2
        cases hq : (Q[b]).tail with
        | nil => rw [hq] at hb2; simp at hb2
        | cons y l =>
          rw [hq] at hb2 hm
          simp at hm hb2
          subst hm
          cases hqq : Q[b] with
          | nil => rw [hqq] at hq; simp at hq
          | cons z l2 =>
            rw [hqq] at hq nd
            simp at hq
            subst hq
            exact (List.nodup_cons.1 (List.nodup_cons.1 nd).2).1 hb2
      · exact .inl ⟨by simpa using hj, hm⟩
    refine ⟨hinv, ?_, ?_, ?_⟩
    · intro q hq x hx
      rcases List.mem_or_eq_of_mem_set hq with hq | hq
      · exact h.top q hq x hx
      · subst hq
        exact h.top _ (List.getElem_mem hi) x (List.mem_of_mem_tail hx)
    · intro x a b hxa hxb
      rcases HH x a hxa with hh | ⟨_, _, hn⟩
      · exact h.up x a b hh (W x b hxb)
      · exact absurd hxb (hn b)
    · intro x a b hxa hxb
      exact h.one x a b (W x a hxa) (W x b hxb)
  · exact h

/-- An owner holds a lock and waits for none. -/
def isFree (Q : List (List Int)) (o : Int) : Prop := waitsFor Q o < 0 ∧ held Q o ≠ []
theorem waits_spec {Q : List (List Int)} (h : Inv Q) {o : Int} (hw : 0 ≤ waitsFor Q o) : ∃ i : Nat, waitsFor Q o = (i : Int) ∧ waitsAt Q o i := by
  have key : ∀ (l : List (List Int)) (k : Nat), (∀ q ∈ l, q.Nodup) → 0 ≤ forFrom l o k → ∃ i, ∃ hi : i < l.length, forFrom l o k = ((k + i : Nat) : Int) ∧ o ∈ (l[i]).tail := by
    intro l
    induction l with
    | nil => intro k _ h; simp [forFrom] at h
    | cons q l ih =>
      intro k hn h
      rw [forFrom] at h ⊢
      split
      · rename_i hp
        exact ⟨0, by simp, by simp, (ix_tail (hn q (by simp)) o).1 hp⟩
      · rename_i hp
        rw [if_neg hp] at h
        obtain ⟨i, hi, h1, h2⟩ := ih (k + 1) (fun q hq => hn q (by simp [hq])) h
        exact ⟨i + 1, by simpa using hi, by rw [h1]; congr 1; omega, by simpa using h2⟩
  obtain ⟨i, hi, h1, h2⟩ := key Q 0 (fun q hq => (h q hq).2) hw
  exact ⟨i, h1.trans (by simp), hi, h2⟩
theorem waits_neg {Q : List (List Int)} (h : Inv Q) {o : Int} (hw : waitsFor Q o < 0) (i : Nat) : ¬ waitsAt Q o i := by
  rintro ⟨hi, hm⟩
  exact (forFrom_neg Q o 0).1 hw _ (List.getElem_mem hi) ((ix_tail (h _ (List.getElem_mem hi)).2 o).2 hm)
theorem held_spec {Q : List (List Int)} {o x : Int} : x ∈ held Q o ↔ ∃ i : Nat, x = (i : Int) ∧ holdsAt Q o i := by
  rw [held, mem_heldFrom]
  constructor
  · rintro ⟨i, hi, h1, h2⟩; exact ⟨i, by simpa using h2, hi, h1⟩
  · rintro ⟨i, h2, hi, h1⟩; exact ⟨i, hi, h1, by simpa using h2⟩
/-- If a queue is not empty, somebody is free. -/
theorem some_free {Q : List (List Int)} (h : J Q) {q : List Int} (hq : q ∈ Q) (hne : q ≠ []) : ∃ o, 1 ≤ o ∧ o ≤ 12 ∧ isFree Q o := by
  have key : ∀ (d i : Nat) (hi : i < Q.length), Q.length - i ≤ d → Q[i] ≠ [] → ∃ o, 1 ≤ o ∧ o ≤ 12 ∧ isFree Q o := by
    intro d
    induction d with
    | zero => intro i hi hd; omega
    | succ d ih =>
      intro i hi hd hn
      obtain ⟨y, l, hy⟩ : ∃ y l, Q[i] = y :: l := by
        cases hc : Q[i] with
        | nil => exact absurd hc hn
        | cons y l => exact ⟨y, l, rfl⟩
      have hh : holdsAt Q y i := ⟨hi, by rw [hy]; rfl⟩
      have hym : y ∈ Q[i] := by rw [hy]; simp
      rcases Int.lt_or_le (waitsFor Q y) 0 with e | e
      · exact ⟨y, (h.inv _ (List.getElem_mem hi)).1 y hym, h.top _ (List.getElem_mem hi) y hym, e, fun e2 => by
          have := held_spec.2 ⟨i, rfl, hh⟩
          rw [e2] at this
          simp at this⟩
      · obtain ⟨w, _, hw⟩ := waits_spec h.inv e
        have hlt := h.up y i w hh hw
        obtain ⟨hw1, hw2⟩ := hw
        exact ih w hw1 (by omega) (fun e2 => by rw [e2] at hw2; simp at hw2)
  obtain ⟨i, hi, rfl⟩ := List.mem_iff_getElem.1 hq
  exact key _ i hi (Nat.le_refl _) hne
theorem wait_some {Q : List (List Int)} (h : Inv Q) {o : Int} (hw : 0 ≤ waitsFor Q o) : ∃ q ∈ Q, q ≠ [] := by
  obtain ⟨i, _, hi, hm⟩ := waits_spec h hw
  exact ⟨_, List.getElem_mem hi, fun e => by rw [e] at hm; simp at hm⟩
/-- What an owner holds. -/
theorem held_at {Q : List (List Int)} (h : J Q) {o : Int} {k : Nat} (hk : k < (held Q o).length) : ∃ i : Nat, (held Q o)[k] = (i : Int) ∧ i < Q.length ∧ holdN Q i = o ∧ holdE Q i = 0 ∧ (i : Int) ≠ waitsFor Q o ∧ (0 ≤ waitsFor Q o → ¬ waitsFor Q o < (i : Int)) ∧ (okO o = true → unE Q o i = 0) := by
  obtain ⟨i, h1, hi, h2⟩ := held_spec.1 (List.getElem_mem hk)
  have ho := okS_of hi
  have hlt : 0 ≤ waitsFor Q o → (i : Int) < waitsFor Q o := by
    intro hw
    obtain ⟨w, hw1, hw2⟩ := waits_spec h.inv hw
    have := h.up o i w ⟨hi, h2⟩ hw2
    omega
  refine ⟨i, h1, hi, ?_, by rw [holdE, if_pos ho], ?_, ?_, ?_⟩
  · rw [holdN, if_pos ho, queue_nat hi]
    cases hq : Q[i] with
    | nil => rw [hq] at h2; simp at h2
    | cons y l => rw [hq] at h2; simpa using h2
  · intro e
    have := hlt (by omega)
    omega
  · intro hw e
    have := hlt hw
    omega
  · intro hok
    rw [unE, if_pos ⟨ho, hok⟩, queue_nat hi]
    exact if_pos h2
end Go.Proofs.Ythjakgjpnijmlaa
