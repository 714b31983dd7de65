/- Sched: plain words. Nothing of the program stands here. -/
import Derived.Test.YtfidnecdojgkjaaMem
namespace Go.Proofs.Ytfidnecdojgkjaa
open Go.RowKit

def ixFrom : List Int → Int → Nat → Int
  | [], _, _ => -1
  | y :: l, x, k => if x = y then (k : Int) else ixFrom l x (k + 1)
/-- The index of a number in a list, or -1. -/
def ix (q : List Int) (x : Int) : Int := ixFrom q x 0
theorem ixFrom_drop (q : List Int) (x : Int) (k : Nat) (h : k < q.length) : ixFrom (q.drop k) x k = if x = q[k] then (k : Int) else ixFrom (q.drop (k + 1)) x (k + 1) := by
  rw [List.drop_eq_getElem_cons h, ixFrom]
theorem ixFrom_ge : ∀ (q : List Int) (x : Int) (k : Nat), ixFrom q x k = -1 ∨ (k : Int) ≤ ixFrom q x k
  | [], _, _ => .inl rfl
  | y :: l, x, k => by
    rw [ixFrom]
    split
    · exact .inr (Int.le_refl _)
    · rcases ixFrom_ge l x (k + 1) with h | h
      · exact .inl h
      · exact .inr (by omega)
theorem ixFrom_none : ∀ (q : List Int) (x : Int) (k : Nat), ixFrom q x k = -1 ↔ x ∉ q
  | [], _, _ => by simp [ixFrom]
  | y :: l, x, k => by
    rw [ixFrom]
    split
    · rename_i h; subst h; simp
    · rename_i h; rw [ixFrom_none l x (k + 1)]; simp [h]
theorem ix_ge (q : List Int) (x : Int) : decide (0 ≤ ix q x) = decide (x ∈ q) := by
  have h1 := ixFrom_none q x 0
  have h2 := ixFrom_ge q x 0
  rw [decide_eq_decide]
  unfold ix
  constructor
  · intro h
    rcases Classical.em (x ∈ q) with m | m
    · exact m
    · have := h1.2 m; omega
  · intro h
    rcases h2 with e | e
    · exact absurd h (h1.1 e)
    · omega

/-! ### enabled -/
/-- What place j of a list of enabled tasks must be. -/
def okAt (l : List Int) (j : Nat) : Prop := (0 ≤ l.getD j 0 ∧ l.getD j 0 ≤ 9999) ∧ (0 < j → l.getD (j - 1) 0 < l.getD j 0)
instance (l : List Int) (j : Nat) : Decidable (okAt l j) := by unfold okAt; infer_instance
def enB (l : List Int) : Bool := (List.range l.length).all fun j => decide (okAt l j)
theorem enB_iff (l : List Int) : enB l = true ↔ ∀ j, j < l.length → okAt l j := by
  simp [enB, List.all_eq_true]
theorem enB_false {l : List Int} {j : Nat} (hj : j < l.length) (h : ¬ okAt l j) : enB l = false := by
  rw [← Bool.not_eq_true, enB_iff]
  exact fun hh => h (hh j hj)
theorem enB_nil : enB [] = true := rfl
theorem getD_get (l : List Int) (j : Nat) (h : j < l.length) (d : Int) : l.getD j d = l[j] := by simp [List.getD, h]
theorem enB_range {l : List Int} (h : enB l = true) : ∀ x ∈ l, 0 ≤ x ∧ x ≤ 9999 := by
  intro x hx
  obtain ⟨j, hj, rfl⟩ := List.getElem_of_mem hx
  have := ((enB_iff l).1 h j hj).1
  rwa [getD_get l j hj] at this
theorem enB_lt {l : List Int} (h : enB l = true) : ∀ (i j : Nat) (hi : i < j) (hj : j < l.length), l[i] < l[j] := by
  intro i j
  induction j with
  | zero => intro hi; omega
  | succ j ih =>
    intro hi hj
    have h1 := ((enB_iff l).1 h (j + 1) hj).2 (by omega)
    rw [Nat.add_sub_cancel, getD_get l j (by omega), getD_get l (j + 1) hj] at h1
    rcases Nat.lt_or_ge i j with hij | hij
    · exact Int.lt_trans (ih hij (by omega)) h1
    · have : i = j := by omega
      subst this
      exact h1
theorem enB_nodup {l : List Int} (h : enB l = true) : l.Nodup := by
  rw [List.Nodup, List.pairwise_iff_getElem]
  intro i j hi hj hij e
  have := enB_lt h i j hij hj
  omega

/-! ### what a scheduler picks -/
/-- One more than the index at which a task was picked last, or 0. -/
def lastT (L : List Int) (t : Int) : Nat := (L.foldl (fun (s : Nat × Nat) x => (s.1 + 1, if x = t then s.1 + 1 else s.2)) (0, 0)).2
theorem lastT_len (L : List Int) (t : Int) : (L.foldl (fun (s : Nat × Nat) x => (s.1 + 1, if x = t then s.1 + 1 else s.2)) (0, 0)).1 = L.length := by
  have : ∀ (L : List Int) (s : Nat × Nat), (L.foldl (fun (s : Nat × Nat) x => (s.1 + 1, if x = t then s.1 + 1 else s.2)) s).1 = s.1 + L.length := by
    intro L
    induction L with
    | nil => intro s; simp
    | cons x L ih => intro s; rw [List.foldl_cons, ih]; simp; omega
  rw [this]; simp
theorem lastT_nil (t : Int) : lastT [] t = 0 := rfl
theorem lastT_snoc (L : List Int) (p t : Int) : lastT (L ++ [p]) t = if p = t then L.length + 1 else lastT L t := by
  rw [lastT, List.foldl_append]
  simp only [List.foldl_cons, List.foldl_nil]
  rw [lastT_len]
  rfl
theorem lastT_le (L : List Int) (t : Int) : lastT L t ≤ L.length := by
  have : ∀ n, n ≤ L.length → lastT (L.take n) t ≤ n := by
    intro n
    induction n with
    | zero => intro _; simp [lastT_nil]
    | succ n ih =>
      intro hn
      rw [List.take_succ_eq_append_getElem (by omega), lastT_snoc]
      have := ih (by omega)
      split
      · rw [List.length_take]; omega
      · omega
  have h := this L.length (Nat.le_refl _)
  rwa [List.take_length] at h
theorem lastT_take {L : List Int} {t : Int} {i : Nat} (hi : i < L.length) : lastT (L.take (i + 1)) t = if L[i] = t then i + 1 else lastT (L.take i) t := by
  rw [List.take_succ_eq_append_getElem hi, lastT_snoc, List.length_take, Nat.min_eq_left (by omega)]
/-- The task that was picked last, or -1. -/
def lastP (L : List Int) : Int := L.getLast?.getD (-1)
theorem lastP_snoc (L : List Int) (p : Int) : lastP (L ++ [p]) = p := by simp [lastP]
theorem lastP_at {L : List Int} (h : 0 < L.length) : lastP L = L[L.length - 1] := by
  rw [lastP, List.getLast?_eq_getElem?, List.getElem?_eq_getElem (by omega)]; rfl
def byF (nums : List Int) (k : Nat) (l : List Int) : Int := l.getD ((nums.getD (k % nums.length) 0).toNat % l.length) 0
def roundF (b : Int) (l : List Int) : Int := (l.find? (fun t => decide (b < t))).getD (l.getD 0 0)
def stickF (b : Int) (l : List Int) : Int := if b ∈ l then b else roundF b l
def oldS (g : Int → Nat) (m x : Int) : Int := if g x < g m then x else m
def oldF (g : Int → Nat) (l : List Int) : Int := l.foldl (oldS g) (l.getD 0 0)
def pickF (kind : Int) (nums L l : List Int) : Int := if kind = 1 then byF nums L.length l else if kind = 4 then oldF (lastT L) l else if kind = 3 then stickF (lastP L) l else roundF (lastP L) l
theorem getD_mem {l : List Int} {k : Nat} (h : k < l.length) : l.getD k 0 ∈ l := by rw [getD_get l k h]; exact List.getElem_mem h
theorem roundF_mem {b : Int} {l : List Int} (h : 0 < l.length) : roundF b l ∈ l := by
  unfold roundF
  cases hf : l.find? (fun t => decide (b < t)) with
  | none => exact getD_mem h
  | some x => exact List.mem_of_find?_eq_some hf
theorem oldF_mem {g : Int → Nat} {l : List Int} (h : 0 < l.length) : oldF g l ∈ l := by
  have : ∀ (l m : List Int) (x : Int), x ∈ m → (∀ y ∈ l, y ∈ m) → l.foldl (oldS g) x ∈ m := by
    intro l
    induction l with
    | nil => intro m x hx _; exact hx
    | cons y l ih =>
      intro m x hx hl
      rw [List.foldl_cons]
      refine ih m _ ?_ (fun z hz => hl z (by simp [hz]))
      unfold oldS
      split
      · exact hl y (by simp)
      · exact hx
  exact this l l _ (getD_mem h) (fun y hy => hy)
theorem pickF_mem {kind : Int} {nums L l : List Int} (h : 0 < l.length) : pickF kind nums L l ∈ l := by
  unfold pickF
  split
  · exact getD_mem (Nat.mod_lt _ h)
  · split
    · exact oldF_mem h
    · split
      · unfold stickF
        split
        · assumption
        · exact roundF_mem h
      · exact roundF_mem h
/-- A step of the loop over enabled tasks that seeks one above b. -/
theorem find_take {l : List Int} {b : Int} {k : Nat} (hk : k < l.length) (h : (l.take k).find? (fun t => decide (b < t)) = none) :
    (b < l[k] → l.find? (fun t => decide (b < t)) = some l[k]) ∧ (¬ b < l[k] → (l.take (k + 1)).find? (fun t => decide (b < t)) = none) := by
  refine ⟨fun hb => ?_, fun hb => ?_⟩
  · have e : l = l.take k ++ (l[k] :: l.drop (k + 1)) := by rw [← List.drop_eq_getElem_cons hk, List.take_append_drop]
    refine (congrArg (List.find? fun t => decide (b < t)) e).trans ?_
    rw [List.find?_append, h, List.find?_cons]
    simp [hb]
  · rw [List.take_succ_eq_append_getElem hk, List.find?_append, h]
    simp [hb]
theorem roundF_some {l : List Int} {b x : Int} (h : l.find? (fun t => decide (b < t)) = some x) : roundF b l = x := by rw [roundF, h]; rfl
theorem roundF_none {l : List Int} {b : Int} (h : l.find? (fun t => decide (b < t)) = none) : roundF b l = l.getD 0 0 := by rw [roundF, h]; rfl
/-- With nothing picked, the first one comes out. -/
theorem roundF_first {l : List Int} (h : enB l = true) (hl : 0 < l.length) : roundF (-1) l = l.getD 0 0 := by
  have h0 := (find_take (b := -1) (k := 0) hl rfl).1 (by have := (enB_range h l[0] (List.getElem_mem hl)).1; omega)
  rw [roundF_some h0, getD_get l 0 hl]
theorem stickF_first {l : List Int} (h : enB l = true) (hl : 0 < l.length) : stickF (-1) l = l.getD 0 0 := by
  unfold stickF
  rw [if_neg (fun hm => by have := (enB_range h (-1) hm).1; omega), roundF_first h hl]

/-! ### New and Next -/
def newE (kind : Int) (nums : List Int) : Int :=
  if kind < 1 ∨ 4 < kind then 2 else if 4096 < nums.length then 5 else if decide (kind = 1) ≠ decide (0 < nums.length) then 2 else if nums.any (fun n => decide (n < 0)) then 2 else 0
/-- What a scheduler's numbers are. -/
structure Nums (kind : Int) (nums : List Int) : Prop where
  lo : 1 ≤ kind
  hi : kind ≤ 4
  len : nums.length ≤ 4096
  one : kind = 1 → 0 < nums.length
  pos : ∀ x ∈ nums, 0 ≤ x
theorem newE_ok {kind : Int} {nums : List Int} (h : newE kind nums = 0) : Nums kind nums := by
  unfold newE at h
  split at h
  · omega
  · split at h
    · omega
    · split at h
      · omega
      · split at h
        · omega
        · rename_i h1 h2 h3 h4
          refine ⟨by omega, by omega, by omega, fun e => ?_, fun x hx => ?_⟩
          · subst e
            simpa [List.length_pos_iff] using h3
          · simp only [List.any_eq_true, not_exists, not_and, decide_eq_true_eq] at h4
            have := h4 x hx
            omega
def nxE (l : List Int) : Int := if enB l then (if l.length = 0 then 9 else 0) else 2
def nxT (kind : Int) (nums L l : List Int) : Int := if nxE l = 0 then pickF kind nums L l else 0
def nxL (kind : Int) (nums L l : List Int) : List Int := if nxE l = 0 then L ++ [pickF kind nums L l] else L
theorem nxE_bad {l : List Int} (h : enB l = false) : nxE l = 2 := by rw [nxE, h]; rfl
theorem nxE_none {l : List Int} (h : l.length = 0) : nxE l = 9 := by
  have : l = [] := List.length_eq_zero_iff.1 h
  subst this; rfl
theorem nxE_ok {l : List Int} (h : enB l = true) (h0 : 0 < l.length) : nxE l = 0 := by rw [nxE, h, if_pos rfl, if_neg (by omega)]
/-- What the map of a scheduler holds. -/
def whenF (L : List Int) : Int → Option Value := fun t => if lastT L t = 0 then none else some (.int .i64 (lastT L t))
theorem whenF_snoc (L : List Int) (p : Int) : (fun t => if t = p then some (.int .i64 ((L.length + 1 : Nat) : Int)) else whenF L t) = whenF (L ++ [p]) := by
  funext t
  unfold whenF
  rw [lastT_snoc]
  by_cases h : t = p
  · subst h; simp
  · have h2 : ¬ p = t := fun e => h e.symm
    simp only [h, h2, if_false]
theorem whenF_getD (L : List Int) (t : Int) : (whenF L t).getD (.int .i64 0) = .int .i64 (lastT L t) := by
  unfold whenF
  split
  · rename_i h; rw [h]; rfl
  · rfl
end Go.Proofs.Ytfidnecdojgkjaa
