/- Sched: how long tasks wait, plainly. Nothing of the program stands here. -/
import Derived.Test.YtfidnecdojgkjaaPlain
namespace Go.Proofs.Ytfidnecdojgkjaa
open Go.RowKit

/-- A turn: who was enabled, who was picked. -/
structure Tn where
  en : List Int
  pk : Int
def gN (g : Int → Nat) (t : Tn) : Int → Nat := fun x => if x ∈ t.en ∧ x ≠ t.pk then g x + 1 else 0
/-- How many turns each task has waited after the turns T. -/
def gAt (T : List Tn) : Int → Nat := T.foldl gN (fun _ => 0)
theorem gAt_nil (x : Int) : gAt [] x = 0 := rfl
theorem gAt_snoc (T : List Tn) (t : Tn) : gAt (T ++ [t]) = gN (gAt T) t := by rw [gAt, List.foldl_append]; rfl
theorem gAt_take {T : List Tn} {k : Nat} (hk : k < T.length) : gAt (T.take (k + 1)) = gN (gAt (T.take k)) T[k] := by
  rw [List.take_succ_eq_append_getElem hk, gAt_snoc]
theorem gAt_le (T : List Tn) (x : Int) : gAt T x ≤ T.length := by
  have : ∀ n, n ≤ T.length → gAt (T.take n) x ≤ n := by
    intro n
    induction n with
    | zero => intro _; simp [gAt]
    | succ n ih =>
      intro hn
      rw [gAt_take (by omega), gN]
      have := ih (by omega)
      split <;> omega
  have h := this T.length (Nat.le_refl _)
  rwa [List.take_length] at h
theorem gN_in {g : Int → Nat} {t : Tn} {x : Int} (h : x ∈ t.en) (hp : x ≠ t.pk) : gN g t x = g x + 1 := if_pos ⟨h, hp⟩
theorem gN_pk (g : Int → Nat) (t : Tn) : gN g t t.pk = 0 := if_neg (fun h => h.2 rfl)
theorem gN_out {g : Int → Nat} {t : Tn} {x : Int} (h : x ∉ t.en) : gN g t x = 0 := if_neg (fun h' => h h'.1)

/-- What a map of the waits holds once k of the enabled tasks have been looked at. -/
def nowF (g : Int → Nat) (t : Tn) (k : Nat) : Int → Option Value := fun x => if x ∈ t.en.take k ∧ x ≠ t.pk then some (.int .i64 (g x + 1 : Nat)) else none
theorem nowF_zero (g : Int → Nat) (t : Tn) : nowF g t 0 = fun _ => none := by funext x; simp [nowF]
theorem nowF_skip {g : Int → Nat} {t : Tn} {k : Nat} (hk : k < t.en.length) (h : t.en[k] = t.pk) : nowF g t (k + 1) = nowF g t k := by
  funext x
  unfold nowF
  rw [List.take_succ_eq_append_getElem hk, h]
  by_cases hx : x = t.pk
  · simp [hx]
  · simp [hx]
theorem mem_take_succ {l : List Int} {k : Nat} (hk : k < l.length) (x : Int) : x ∈ l.take (k + 1) ↔ x ∈ l.take k ∨ x = l[k] := by
  rw [List.take_succ_eq_append_getElem hk, List.mem_append, List.mem_singleton]
theorem nowF_step {g : Int → Nat} {t : Tn} {k : Nat} (hk : k < t.en.length) (h : t.en[k] ≠ t.pk) : (fun x => if x = t.en[k] then some (.int .i64 ((g t.en[k] + 1 : Nat) : Int)) else nowF g t k x) = nowF g t (k + 1) := by
  funext x
  unfold nowF
  simp only [mem_take_succ hk]
  by_cases hx : x = t.en[k]
  · subst hx; simp [h]
  · simp [hx]
/-- What the map holds behind a turn. -/
def wtF (T : List Tn) : Int → Option Value := fun x => if gAt T x = 0 then none else some (.int .i64 (gAt T x))
theorem nowF_all (T : List Tn) (t : Tn) : nowF (gAt T) t t.en.length = wtF (T ++ [t]) := by
  funext x
  unfold nowF wtF
  rw [List.take_length, gAt_snoc, gN]
  by_cases hx : x ∈ t.en ∧ x ≠ t.pk
  · simp [hx]
  · simp [hx]
theorem wtF_nil : wtF [] = fun _ => none := by funext x; simp [wtF, gAt]
theorem wtF_getD (T : List Tn) (x : Int) : (wtF T x).getD (.int .i64 0) = .int .i64 (gAt T x) := by
  unfold wtF
  split
  · rename_i h; rw [h]; rfl
  · rfl

/-! ### calls that are made for each task that waits -/
section
variable {σ : Type}
/-- The state behind the tasks of a turn: (state, whether to go on). -/
def stF (f : σ → Nat → Int → Nat → σ × Bool) (k : Nat) (g : Int → Nat) (t : Tn) (s : σ × Bool) (x : Int) : σ × Bool := if s.2 = false ∨ x = t.pk then s else f s.1 k x (g x + 1)
def turnF (f : σ → Nat → Int → Nat → σ × Bool) (k : Nat) (g : Int → Nat) (t : Tn) (s : σ × Bool) : σ × Bool := t.en.foldl (stF f k g t) s
/-- The state behind the first k turns. -/
def waitF (f : σ → Nat → Int → Nat → σ × Bool) (s0 : σ) (T : List Tn) : σ × Bool := (List.range T.length).foldl (fun s k => turnF f k (gAt (T.take k)) (T.getD k ⟨[], 0⟩) s) (s0, true)
variable {f : σ → Nat → Int → Nat → σ × Bool} {s0 : σ}
theorem foldl_stop {k : Nat} {g : Int → Nat} {t : Tn} : ∀ (l : List Int) (s : σ × Bool), s.2 = false → l.foldl (stF f k g t) s = s
  | [], s, _ => rfl
  | x :: l, s, h => by
    rw [List.foldl_cons, stF, if_pos (.inl h)]
    exact foldl_stop l s h
theorem turnF_stop {k : Nat} {g : Int → Nat} {t : Tn} {s : σ × Bool} (h : s.2 = false) : turnF f k g t s = s := foldl_stop _ _ h
theorem range_stop {T : List Tn} : ∀ (l : List Nat) (s : σ × Bool), s.2 = false → l.foldl (fun s k => turnF f k (gAt (T.take k)) (T.getD k ⟨[], 0⟩) s) s = s
  | [], s, _ => rfl
  | x :: l, s, h => by
    rw [List.foldl_cons, turnF_stop h]
    exact range_stop l s h
/-- Behind k turns of T. -/
def upTo (f : σ → Nat → Int → Nat → σ × Bool) (s0 : σ) (T : List Tn) (k : Nat) : σ × Bool := (List.range k).foldl (fun s k => turnF f k (gAt (T.take k)) (T.getD k ⟨[], 0⟩) s) (s0, true)
theorem upTo_zero (T : List Tn) : upTo f s0 T 0 = (s0, true) := rfl
theorem upTo_succ (T : List Tn) (k : Nat) : upTo f s0 T (k + 1) = turnF f k (gAt (T.take k)) (T.getD k ⟨[], 0⟩) (upTo f s0 T k) := by
  rw [upTo, List.range_succ, List.foldl_append]; rfl
theorem upTo_all (T : List Tn) : upTo f s0 T T.length = waitF f s0 T := rfl
theorem upTo_stop {T : List Tn} {k m : Nat} (hkm : k ≤ m) (h : (upTo f s0 T k).2 = false) : upTo f s0 T m = upTo f s0 T k := by
  obtain ⟨d, rfl⟩ : ∃ d, m = k + d := ⟨m - k, by omega⟩
  clear hkm
  induction d with
  | zero => rfl
  | succ d ih => rw [← Nat.add_assoc, upTo_succ, ih, turnF_stop h]
theorem turn_take {k j : Nat} {g : Int → Nat} {t : Tn} {s : σ × Bool} (hj : j < t.en.length) : (t.en.take (j + 1)).foldl (stF f k g t) s = stF f k g t ((t.en.take j).foldl (stF f k g t) s) t.en[j] := by
  rw [List.take_succ_eq_append_getElem hj, List.foldl_append]; rfl
theorem turn_rest {k j : Nat} {g : Int → Nat} {t : Tn} {s : σ × Bool} (h : ((t.en.take j).foldl (stF f k g t) s).2 = false) : turnF f k g t s = (t.en.take j).foldl (stF f k g t) s := by
  have e : t.en = t.en.take j ++ t.en.drop j := (List.take_append_drop j t.en).symm
  rw [turnF]
  refine (congrArg (fun l => l.foldl (stF f k g t) s) e).trans ?_
  rw [List.foldl_append, foldl_stop _ _ h]
end

/-! ### the longest wait -/
def fW : Int × Nat → Nat → Int → Nat → (Int × Nat) × Bool := fun s _ x n => (if s.2 < n then (x, n) else s, true)
def wS (g : Int → Nat) (s : Int × Nat) (x : Int) : Int × Nat := if s.2 < g x then (x, g x) else s
def wUp (T : List Tn) (k : Nat) : Int × Nat := (List.range k).foldl (fun s i => (T.getD i ⟨[], 0⟩).en.foldl (wS (gAt (T.take (i + 1)))) s) (0, 0)
def worstF (T : List Tn) : Int × Nat := wUp T T.length
theorem wUp_succ (T : List Tn) (k : Nat) : wUp T (k + 1) = (T.getD k ⟨[], 0⟩).en.foldl (wS (gAt (T.take (k + 1)))) (wUp T k) := by
  rw [wUp, List.range_succ, List.foldl_append]; rfl
theorem getD_tn {T : List Tn} {k : Nat} (h : k < T.length) : T.getD k ⟨[], 0⟩ = T[k] := by simp [List.getD, h]
theorem stF_W (k : Nat) (g : Int → Nat) (t : Tn) (s : Int × Nat) {x : Int} (hx : x ∈ t.en) : stF fW k g t (s, true) x = (wS (gN g t) s x, true) := by
  unfold stF wS
  by_cases e : x = t.pk
  · subst e
    rw [if_pos (.inr rfl), gN_pk, if_neg (Nat.not_lt_zero _)]
  · rw [if_neg (by simp [e]), gN_in hx e]
    rfl
theorem foldl_W (k : Nat) (g : Int → Nat) (t : Tn) : ∀ (l : List Int) (s : Int × Nat), (∀ x ∈ l, x ∈ t.en) → l.foldl (stF fW k g t) (s, true) = (l.foldl (wS (gN g t)) s, true)
  | [], s, _ => rfl
  | x :: l, s, h => by
    rw [List.foldl_cons, List.foldl_cons, stF_W k g t s (h x (by simp))]
    exact foldl_W k g t l _ (fun y hy => h y (by simp [hy]))
theorem upTo_W {T : List Tn} : ∀ k, k ≤ T.length → upTo fW (0, 0) T k = (wUp T k, true)
  | 0, _ => rfl
  | k + 1, h => by
    rw [upTo_succ, upTo_W k (by omega), wUp_succ, getD_tn (by omega), turnF, foldl_W _ _ _ _ _ (fun x hx => hx), gAt_take (by omega)]
theorem waitF_W (T : List Tn) : waitF fW (0, 0) T = (worstF T, true) := by rw [← upTo_all, upTo_W _ (Nat.le_refl _)]; rfl

/-! ### the first long wait -/
def fF (b : Int) : Int → Nat → Int → Nat → Int × Bool := fun s k _ n => (if b ≤ (n : Int) then (k : Int) else s, decide ((if b ≤ (n : Int) then (k : Int) else s) < 0))
/-- Somebody has waited b turns at turn k. -/
def hit (T : List Tn) (b : Int) (k : Nat) : Bool := (T.getD k ⟨[], 0⟩).en.any fun x => decide (b ≤ (gAt (T.take (k + 1)) x : Int))
def fUp (T : List Tn) (b : Int) (k : Nat) : Option Nat := (List.range k).find? (hit T b)
def fairF (T : List Tn) (b : Int) : Int := match fUp T b T.length with | some k => (k : Int) | none => -1
theorem fUp_succ (T : List Tn) (b : Int) (k : Nat) : fUp T b (k + 1) = (fUp T b k).or (if hit T b k then some k else none) := by
  rw [fUp, List.range_succ, List.find?_append]
  simp only [List.find?_cons, List.find?_nil, fUp]
  cases hit T b k <;> rfl
theorem stF_F {b : Int} (hb : 1 ≤ b) (k : Nat) (g : Int → Nat) (t : Tn) {x : Int} (hx : x ∈ t.en) : stF (fF b) k g t (-1, true) x = if b ≤ (gN g t x : Int) then ((k : Int), false) else (-1, true) := by
  unfold stF
  by_cases e : x = t.pk
  · subst e
    rw [if_pos (.inr rfl), gN_pk, if_neg (by omega)]
  · rw [if_neg (by simp [e]), gN_in hx e]
    unfold fF
    by_cases h : b ≤ ((g x + 1 : Nat) : Int)
    · rw [if_pos h, if_pos h]; simp
    · rw [if_neg h, if_neg h]; simp
theorem foldl_F {b : Int} (hb : 1 ≤ b) (k : Nat) (g : Int → Nat) (t : Tn) : ∀ (l : List Int), (∀ x ∈ l, x ∈ t.en) → l.foldl (stF (fF b) k g t) (-1, true) = if l.any (fun x => decide (b ≤ (gN g t x : Int))) then ((k : Int), false) else (-1, true)
  | [], _ => rfl
  | x :: l, h => by
    rw [List.foldl_cons, stF_F hb k g t (h x (by simp)), List.any_cons]
    by_cases hx : b ≤ (gN g t x : Int)
    · rw [if_pos hx, foldl_stop l _ rfl]; simp [hx]
    · rw [if_neg hx, foldl_F hb k g t l (fun y hy => h y (by simp [hy]))]; simp [hx]
theorem upTo_F {T : List Tn} {b : Int} (hb : 1 ≤ b) : ∀ k, k ≤ T.length → upTo (fF b) (-1) T k = match fUp T b k with | some i => ((i : Int), false) | none => (-1, true)
  | 0, _ => rfl
  | k + 1, h => by
    rw [upTo_succ, upTo_F hb k (by omega), fUp_succ]
    cases hf : fUp T b k with
    | some i => rw [turnF_stop rfl]; rfl
    | none =>
      rw [getD_tn (by omega)]
      have := foldl_F hb k (gAt (T.take k)) T[k] T[k].en (fun x hx => hx)
      simp only [turnF]
      rw [this, ← gAt_take (by omega)]
      have e : hit T b k = T[k].en.any fun x => decide (b ≤ (gAt (T.take (k + 1)) x : Int)) := by rw [hit, getD_tn (by omega)]
      rw [← e]
      cases hit T b k <;> rfl
theorem waitF_F {T : List Tn} {b : Int} (hb : 1 ≤ b) : (waitF (fF b) (-1) T).1 = fairF T b := by
  rw [← upTo_all, upTo_F hb _ (Nat.le_refl _), fairF]
  cases fUp T b T.length <;> rfl

/-! ### which runs there are -/
def okT (t : Tn) : Bool := enB t.en && decide (t.pk ∈ t.en)
def runE (T : List Tn) : Int := if 100000 < T.length then 5 else if T.all okT then 0 else 2
theorem runE_long {T : List Tn} (h : 100000 < T.length) : runE T = 5 := if_pos h
theorem runE_bad {T : List Tn} (h : ¬ 100000 < T.length) {k : Nat} (hk : k < T.length) (hb : okT T[k] = false) : runE T = 2 := by
  rw [runE, if_neg h, if_neg]
  rw [List.all_eq_true]
  intro hh
  have := hh T[k] (List.getElem_mem hk)
  rw [hb] at this
  cases this
theorem runE_ok {T : List Tn} (h : ¬ 100000 < T.length) (hb : ∀ k (hk : k < T.length), okT T[k] = true) : runE T = 0 := by
  rw [runE, if_neg h, if_pos]
  rw [List.all_eq_true]
  intro t ht
  obtain ⟨k, hk, rfl⟩ := List.getElem_of_mem ht
  exact hb k hk
theorem runE_zero {T : List Tn} (h : runE T = 0) : T.length ≤ 100000 ∧ ∀ t ∈ T, enB t.en = true ∧ t.pk ∈ t.en := by
  unfold runE at h
  split at h
  · omega
  · split at h
    · rename_i h1 h2
      refine ⟨by omega, fun t ht => ?_⟩
      have := List.all_eq_true.1 h2 t ht
      simpa [okT] using this
    · omega
end Go.Proofs.Ytfidnecdojgkjaa
