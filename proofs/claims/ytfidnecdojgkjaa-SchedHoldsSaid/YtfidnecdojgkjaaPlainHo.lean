/- Sched: the theorem of the stage, plainly. Nothing of the program stands here. -/
import Derived.Test.YtfidnecdojgkjaaPlainW
import Derived.Test.YtfidnecdojgkjaaMaps
namespace Go.Proofs.Ytfidnecdojgkjaa
open Go.RowKit

/-! ### the longest wait is attained, and is the greatest -/
theorem wS_ge_s (g : Int → Nat) : ∀ (e : List Int) (s : Int × Nat), s.2 ≤ (e.foldl (wS g) s).2
  | [], s => Nat.le_refl _
  | x :: e, s => by
    rw [List.foldl_cons]
    refine Nat.le_trans ?_ (wS_ge_s g e _)
    unfold wS
    split
    · simp only; omega
    · exact Nat.le_refl _
theorem wS_ge (g : Int → Nat) : ∀ (e : List Int) (s : Int × Nat) (x : Int), x ∈ e → g x ≤ (e.foldl (wS g) s).2
  | y :: e, s, x, h => by
    rw [List.foldl_cons]
    rcases List.mem_cons.1 h with rfl | h
    · refine Nat.le_trans ?_ (wS_ge_s g e _)
      unfold wS
      split
      · exact Nat.le_refl _
      · omega
    · exact wS_ge g e _ x h
theorem wS_is (g : Int → Nat) : ∀ (e : List Int) (s : Int × Nat), (e.foldl (wS g) s).2 = s.2 ∨ ∃ x ∈ e, g x = (e.foldl (wS g) s).2
  | [], s => .inl rfl
  | y :: e, s => by
    rw [List.foldl_cons]
    rcases wS_is g e (wS g s y) with h | ⟨x, hx, h⟩
    · rw [h]
      unfold wS
      split
      · exact .inr ⟨y, by simp, rfl⟩
      · exact .inl rfl
    · exact .inr ⟨x, by simp [hx], h⟩
theorem wUp_ge {T : List Tn} : ∀ (k i : Nat), i < k → ∀ x ∈ (T.getD i ⟨[], 0⟩).en, gAt (T.take (i + 1)) x ≤ (wUp T k).2
  | k + 1, i, hi, x, hx => by
    rw [wUp_succ]
    rcases Nat.lt_or_ge i k with h | h
    · exact Nat.le_trans (wUp_ge k i h x hx) (wS_ge_s _ _ _)
    · have : i = k := by omega
      subst this
      exact wS_ge _ _ _ _ hx
theorem wUp_is {T : List Tn} : ∀ (k : Nat), (wUp T k).2 = 0 ∨ ∃ i, i < k ∧ ∃ x ∈ (T.getD i ⟨[], 0⟩).en, gAt (T.take (i + 1)) x = (wUp T k).2
  | 0 => .inl rfl
  | k + 1 => by
    rw [wUp_succ]
    rcases wS_is (gAt (T.take (k + 1))) (T.getD k ⟨[], 0⟩).en (wUp T k) with h | ⟨x, hx, h⟩
    · rw [h]
      rcases wUp_is (T := T) k with h0 | ⟨i, hi, x, hx, h1⟩
      · exact .inl h0
      · exact .inr ⟨i, by omega, x, hx, h1⟩
    · exact .inr ⟨k, by omega, x, hx, h⟩
theorem fUp_some {T : List Tn} {b : Int} {n k : Nat} (h : fUp T b n = some k) : k < n ∧ hit T b k = true := by
  unfold fUp at h
  have h1 := List.mem_of_find?_eq_some h
  have h2 := List.find?_some h
  exact ⟨List.mem_range.1 h1, h2⟩
theorem fUp_no {T : List Tn} {b : Int} {n : Nat} (h : fUp T b n = none) : ∀ k, k < n → hit T b k = false := by
  unfold fUp at h
  rw [List.find?_eq_none] at h
  intro k hk
  simpa using h k (List.mem_range.2 hk)
/-- A run is fair for a bound just if nobody has waited that long. -/
theorem fair_worst {T : List Tn} {b : Int} (hb : 1 ≤ b) : (((worstF T).2 : Int) < b ∧ fairF T b = -1) ∨ (b ≤ ((worstF T).2 : Int) ∧ ∃ k : Nat, k < T.length ∧ fairF T b = k) := by
  cases hf : fUp T b T.length with
  | none =>
    refine .inl ⟨?_, by rw [fairF, hf]⟩
    rcases wUp_is (T := T) T.length with h | ⟨i, hi, x, hx, h⟩
    · rw [worstF, h]; omega
    · have := fUp_no hf i hi
      unfold hit at this
      rw [List.any_eq_false] at this
      have := this x hx
      rw [h] at this
      simp at this
      rw [worstF]
      omega
  | some k =>
    obtain ⟨hk, hh⟩ := fUp_some hf
    refine .inr ⟨?_, k, hk, by rw [fairF, hf]⟩
    unfold hit at hh
    rw [List.any_eq_true] at hh
    obtain ⟨x, hx, h⟩ := hh
    simp at h
    have := wUp_ge T.length k hk x hx
    rw [worstF]
    omega

/-! ### who waits is passed over by others, each once -/
/-- A run that a scheduler has made. -/
structure Ran (kind : Int) (nums L : List Int) (T : List Tn) : Prop where
  pk : T.map Tn.pk = L
  at_ : ∀ i (h : i < T.length), enB (T[i]).en = true ∧ (T[i]).pk ∈ (T[i]).en ∧ (T[i]).pk = pickF kind nums (L.take i) (T[i]).en
theorem Ran.nil (kind : Int) (nums : List Int) : Ran kind nums [] [] := ⟨rfl, fun i h => by simp at h⟩
theorem Ran.snoc {kind : Int} {nums L E : List Int} {T : List Tn} (h : Ran kind nums L T) (he : enB E = true) (h0 : 0 < E.length) : Ran kind nums (L ++ [pickF kind nums L E]) (T ++ [⟨E, pickF kind nums L E⟩]) := by
  have hl : T.length = L.length := by rw [← h.pk, List.length_map]
  refine ⟨by rw [List.map_append, h.pk]; rfl, fun i hi => ?_⟩
  rcases Nat.lt_or_ge i T.length with h1 | h1
  · rw [List.getElem_append_left h1, List.take_append_of_le_length (l₁ := L) (i := i) (by omega)]
    exact h.at_ i h1
  · have : i = T.length := by simp at hi; omega
    subst this
    have e1 : (L ++ [pickF kind nums L E]).take T.length = L := by rw [hl, List.take_left']; rfl
    simp only [List.getElem_append_right (Nat.le_refl _), Nat.sub_self, List.getElem_cons_zero, e1]
    exact ⟨he, pickF_mem h0, trivial⟩
theorem Ran.len {kind : Int} {nums L : List Int} {T : List Tn} (h : Ran kind nums L T) : L.length = T.length := by rw [← h.pk, List.length_map]
theorem Ran.get {kind : Int} {nums L : List Int} {T : List Tn} (h : Ran kind nums L T) {i : Nat} (hi : i < T.length) : L[i]'(by rw [h.len]; exact hi) = (T[i]).pk := by
  have := h.pk
  subst this
  simp
/-- Who has waited n turns was enabled and not picked in the last n ones. -/
theorem window {T : List Tn} {x : Int} : ∀ (j : Nat), j ≤ T.length → gAt (T.take j) x ≤ j ∧ ∀ i (hi : i < T.length), i < j → j ≤ i + gAt (T.take j) x → x ∈ (T[i]).en ∧ x ≠ (T[i]).pk
  | 0, _ => ⟨by simp [gAt], fun i hi h => by omega⟩
  | j + 1, hj => by
    obtain ⟨h1, h2⟩ := window (T := T) (x := x) j (by omega)
    have e : gAt (T.take (j + 1)) x = gN (gAt (T.take j)) T[j] x := by rw [gAt_take (T := T) (k := j) (by omega)]
    rw [e]
    unfold gN
    by_cases h : x ∈ (T[j]).en ∧ x ≠ (T[j]).pk
    · rw [if_pos h]
      refine ⟨by omega, fun i hi hij hw => ?_⟩
      by_cases e2 : i = j
      · subst e2; exact h
      · exact h2 i hi (by omega) (by omega)
    · rw [if_neg h]
      exact ⟨by omega, fun i hi hij hw => by omega⟩
theorem oldF_min {g : Int → Nat} {l : List Int} : ∀ y ∈ l, g (oldF g l) ≤ g y := by
  have key : ∀ (l : List Int) (m : Int), g (l.foldl (oldS g) m) ≤ g m ∧ ∀ y ∈ l, g (l.foldl (oldS g) m) ≤ g y := by
    intro l
    induction l with
    | nil => intro m; exact ⟨Nat.le_refl _, by simp⟩
    | cons x l ih =>
      intro m
      rw [List.foldl_cons]
      obtain ⟨h1, h2⟩ := ih (oldS g m x)
      have h3 : g (oldS g m x) ≤ g m ∧ g (oldS g m x) ≤ g x := by
        unfold oldS
        split <;> omega
      refine ⟨by omega, fun y hy => ?_⟩
      rcases List.mem_cons.1 hy with rfl | hy
      · omega
      · exact h2 y hy
  exact (key l _).2
theorem lastT_ge {L : List Int} {i : Nat} (hi : i < L.length) : ∀ k, i < k → k ≤ L.length → i + 1 ≤ lastT (L.take k) L[i]
  | k + 1, hk, hl => by
    rw [lastT_take (by omega)]
    by_cases e : i = k
    · subst e; rw [if_pos rfl]; omega
    · split
      · omega
      · exact lastT_ge hi k (by omega) (by omega)
theorem lastT_not {L : List Int} {x : Int} {s : Nat} : ∀ k, s ≤ k → k ≤ L.length → (∀ i (h : i < L.length), s ≤ i → i < k → L[i] ≠ x) → lastT (L.take k) x ≤ s
  | 0, hs, _, _ => by simp [lastT]
  | k + 1, hs, hl, h => by
    by_cases e : s = k + 1
    · have := lastT_le (L.take (k + 1)) x
      rw [List.length_take] at this
      omega
    · rw [lastT_take (by omega), if_neg (h k (by omega) (by omega) (by omega))]
      exact lastT_not k (by omega) (by omega) (fun i hi h1 h2 => h i hi h1 (by omega))
theorem roundF_above {b : Int} {l : List Int} (he : enB l = true) {x : Int} (hx : x ∈ l) (hb : b < x) : b < roundF b l ∧ roundF b l ≤ x := by
  unfold roundF
  cases hf : l.find? (fun t => decide (b < t)) with
  | none =>
    rw [List.find?_eq_none] at hf
    have := hf x hx
    simp at this
    omega
  | some y =>
    refine ⟨by simpa using List.find?_some hf, ?_⟩
    rw [List.find?_eq_some_iff_getElem] at hf
    obtain ⟨_, i, hi, e, hbefore⟩ := hf
    obtain ⟨j, hj, rfl⟩ := List.getElem_of_mem hx
    simp only [Option.getD_some]
    rw [← e]
    rcases Nat.lt_or_ge j i with h | h
    · have := hbefore j h
      simp at this
      omega
    · rcases Nat.lt_or_ge i j with h2 | h2
      · exact Int.le_of_lt (enB_lt he i j h2 hj)
      · have : i = j := by omega
        subst this
        exact Int.le_refl _
theorem roundF_below {b : Int} {l : List Int} (he : enB l = true) {x : Int} (hx : x ∈ l) : b < roundF b l ∨ roundF b l ≤ x := by
  unfold roundF
  cases hf : l.find? (fun t => decide (b < t)) with
  | none =>
    refine .inr ?_
    obtain ⟨j, hj, rfl⟩ := List.getElem_of_mem hx
    simp only [Option.getD_none]
    rw [getD_get l 0 (by omega)]
    rcases Nat.eq_zero_or_pos j with h | h
    · subst h; exact Int.le_refl _
    · exact Int.le_of_lt (enB_lt he 0 j h hj)
  | some y => exact .inl (by simpa using List.find?_some hf)
/-- Where a pick stands in the order in which PolicyRound comes to x. -/
def rank (x p : Int) : Int := if x < p then p - 20000 else p
theorem Ran.apart {kind : Int} {nums L : List Int} {T : List Tn} (h : Ran kind nums L T) (hk : kind = 2 ∨ kind = 4) {x : Int} {s j : Nat} (hj : j ≤ T.length) (hw : ∀ i (hi : i < T.length), s ≤ i → i < j → x ∈ (T[i]).en ∧ x ≠ (T[i]).pk) :
    ∀ i i' (hi : i < T.length) (hi' : i' < T.length), s ≤ i → i < i' → i' < j → (T[i]).pk ≠ (T[i']).pk := by
  have hl := h.len
  rcases hk with rfl | rfl
  · have step : ∀ i (hi : i + 1 < T.length), s ≤ i → i + 1 < j → rank x (T[i]).pk < rank x (T[i + 1]).pk := by
      intro i hi h1 h2
      obtain ⟨e1, m1, p1⟩ := h.at_ (i + 1) hi
      obtain ⟨x1, x2⟩ := hw (i + 1) hi (by omega) h2
      obtain ⟨x3, x4⟩ := hw i (by omega) h1 (by omega)
      have hb : lastP (L.take (i + 1)) = (T[i]).pk := by
        rw [lastP_at (by rw [List.length_take]; omega)]
        simp only [List.length_take, Nat.min_eq_left (show i + 1 ≤ L.length by omega), Nat.add_sub_cancel, List.getElem_take]
        exact h.get (by omega)
      have hp : (T[i + 1]).pk = roundF (T[i]).pk (T[i + 1]).en := by
        rw [p1, pickF, if_neg (by decide), if_neg (by decide), if_neg (by decide), hb]
      have r1 := enB_range e1 _ m1
      have r2 := enB_range (h.at_ i (by omega)).1 _ (h.at_ i (by omega)).2.1
      have a1 := roundF_above (b := (T[i]).pk) e1 x1
      have a2 := roundF_below (b := (T[i]).pk) e1 x1
      rw [← hp] at a1 a2
      unfold rank
      split <;> split <;> omega
    have mono : ∀ i i' (hi : i < T.length) (hi' : i' < T.length), s ≤ i → i < i' → i' < j → rank x (T[i]).pk < rank x (T[i']).pk := by
      intro i i'
      induction i' with
      | zero => intro _ _ _ h2; omega
      | succ i' ih =>
        intro hi hi' h1 h2 h3
        have hs := step i' hi' (by omega) h3
        by_cases e : i = i'
        · subst e; exact hs
        · exact Int.lt_trans (ih hi (by omega) h1 (by omega) (by omega)) hs
    intro i i' hi hi' h1 h2 h3 e
    have := mono i i' hi hi' h1 h2 h3
    rw [e] at this
    omega
  · intro i i' hi hi' h1 h2 h3 e
    obtain ⟨e1, m1, p1⟩ := h.at_ i' hi'
    obtain ⟨x1, x2⟩ := hw i' hi' (by omega) h3
    have hp : (T[i']).pk = oldF (lastT (L.take i')) (T[i']).en := by rw [p1, pickF, if_neg (by decide), if_pos rfl]
    have hm := oldF_min (g := lastT (L.take i')) x x1
    rw [← hp] at hm
    have g1 := lastT_ge (L := L) (i := i) (by omega) i' h2 (by omega)
    rw [h.get hi, e] at g1
    have g2 := lastT_not (L := L) (x := x) (s := s) i' (by omega) (by omega) (fun k hk hs hk' => by
      rw [h.get (by omega)]
      exact fun e => (hw k (by omega) hs (by omega)).2 e.symm)
    omega
/-- As many different tasks as the longest wait, and one more. -/
theorem Ran.many {kind : Int} {nums L : List Int} {T : List Tn} (h : Ran kind nums L T) (hk : kind = 2 ∨ kind = 4) (h0 : 0 < T.length) :
    ∃ l : List Int, l.Nodup ∧ l.length = (worstF T).2 + 1 ∧ ∀ x ∈ l, ∃ t ∈ T, x ∈ t.en := by
  rcases wUp_is (T := T) T.length with hz | ⟨i, hi, x, hx, hg⟩
  · refine ⟨[(T[0]).pk], by simp, by rw [worstF, hz]; rfl, fun y hy => ?_⟩
    rw [List.mem_singleton] at hy
    subst hy
    exact ⟨T[0], List.getElem_mem h0, (h.at_ 0 h0).2.1⟩
  · obtain ⟨w1, w2⟩ := window (T := T) (x := x) (i + 1) (by omega)
    rw [hg] at w1 w2
    obtain ⟨n, hn⟩ : ∃ n, (wUp T T.length).2 = n := ⟨_, rfl⟩
    rw [hn] at w1 w2 hg
    have hw : ∀ k (hk : k < T.length), i + 1 - n ≤ k → k < i + 1 → x ∈ (T[k]).en ∧ x ≠ (T[k]).pk := fun k hk h1 h2 => w2 k hk h2 (by omega)
    have hap := h.apart hk (x := x) (s := i + 1 - n) (j := i + 1) (by omega) hw
    rw [getD_tn hi] at hx
    refine ⟨x :: (List.range n).map (fun k => (T.getD (i + 1 - n + k) ⟨[], 0⟩).pk), ?_, by rw [worstF, hn]; simp, fun y hy => ?_⟩
    · rw [List.nodup_cons]
      refine ⟨fun hm => ?_, ?_⟩
      · obtain ⟨k, hk', e⟩ := List.mem_map.1 hm
        rw [List.mem_range] at hk'
        rw [getD_tn (by omega)] at e
        exact (hw (i + 1 - n + k) (by omega) (by omega) (by omega)).2 e.symm
      · rw [List.Nodup, List.pairwise_map]
        refine List.Pairwise.imp_of_mem ?_ List.pairwise_lt_range
        intro a b ha hb hab
        rw [List.mem_range] at ha hb
        rw [getD_tn (by omega), getD_tn (by omega)]
        exact hap (i + 1 - n + a) (i + 1 - n + b) (by omega) (by omega) (by omega) (by omega) (by omega)
    · rcases List.mem_cons.1 hy with rfl | hy
      · exact ⟨T[i], List.getElem_mem hi, hx⟩
      · obtain ⟨k, hk', rfl⟩ := List.mem_map.1 hy
        rw [List.mem_range] at hk'
        rw [getD_tn (by omega)]
        exact ⟨T[i + 1 - n + k], List.getElem_mem _, (h.at_ _ (by omega)).2.1⟩
/-! ### who was ever enabled -/
noncomputable def everK (T : List Tn) (E : List Int) (k : Nat) : Int → Option Value := fun x => by
  classical exact if (∃ t ∈ T, x ∈ t.en) ∨ x ∈ E.take k then some (.bool true) else none
theorem everK_nil : everK [] [] 0 = fun _ => none := by funext x; simp [everK]
theorem everK_zero (T : List Tn) (E E' : List Int) : everK T E 0 = everK T E' 0 := by funext x; simp [everK]
theorem everK_step {T : List Tn} {E : List Int} {k : Nat} (hk : k < E.length) : upd (everK T E k) E[k] (.bool true) = everK T E (k + 1) := by
  funext x
  unfold everK upd
  simp only [mem_take_succ hk]
  by_cases hx : x = E[k]
  · simp [hx]
  · simp [hx]
theorem everK_all (T : List Tn) (E : List Int) (p : Int) : everK T E E.length = everK (T ++ [⟨E, p⟩]) [] 0 := by
  funext x
  unfold everK
  rw [List.take_length]
  by_cases h : (∃ t ∈ T, x ∈ t.en) ∨ x ∈ E
  · rw [if_pos h]
    refine (if_pos (.inl ?_)).symm
    rcases h with ⟨t, ht, hx⟩ | h
    · exact ⟨t, List.mem_append_left _ ht, hx⟩
    · exact ⟨⟨E, p⟩, by simp, h⟩
  · rw [if_neg h]
    refine (if_neg ?_).symm
    rintro (⟨t, ht, hx⟩ | hx)
    · rw [List.mem_append, List.mem_singleton] at ht
      rcases ht with ht | rfl
      · exact h (.inl ⟨t, ht, hx⟩)
      · exact h (.inr hx)
    · simp at hx
theorem everK_some {T : List Tn} {x : Int} (h : ∃ t ∈ T, x ∈ t.en) : (everK T [] 0 x).isSome = true := by
  unfold everK
  rw [if_pos (.inl h)]
  rfl
theorem Ran.ok {kind : Int} {nums L : List Int} {T : List Tn} (h : Ran kind nums L T) (hl : T.length ≤ 100000) : runE T = 0 :=
  runE_ok (by omega) (fun k hk => by
    obtain ⟨h1, h2, _⟩ := h.at_ k hk
    simp [okT, h1, h2])
end Go.Proofs.Ytfidnecdojgkjaa
