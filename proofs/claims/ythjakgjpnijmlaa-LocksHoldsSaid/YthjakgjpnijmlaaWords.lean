/- The locks' plain words: what each call answers. Nothing of the program stands here. -/
import Derived.Test.YthjakgjpnijmlaaFr
namespace Go.Proofs.Ythjakgjpnijmlaa
open Go.RowKit

def ixFrom : List Int → Int → Nat → Int
  | [], _, _ => -1
  | y :: l, x, k => if x = y then (k : Int) else ixFrom l x (k + 1)
/-- The index of a number in a list, or -1. -/
def ix (q : List Int) (x : Int) : Int := ixFrom q x 0
theorem ixFrom_drop (q : List Int) (x : Int) (k : Nat) (h : k < q.length) : ixFrom (q.drop k) x k = if x = q[k] then (k : Int) else ixFrom (q.drop (k + 1)) x (k + 1) := by
  rw [List.drop_eq_getElem_cons h, ixFrom]
theorem ixFrom_ge : ∀ (q : List Int) (x : Int) (k : Nat), ixFrom q x k = -1 ∨ (k : Int) ≤ ixFrom q x k
  | [], _, _ => .inl rfl
  | y :: l, x, k => by
    rw [ixFrom]
    split
    · exact .inr (Int.le_refl _)
    · rcases ixFrom_ge l x (k + 1) with h | h
      · exact .inl h
      · exact .inr (by omega)
theorem ixFrom_none : ∀ (q : List Int) (x : Int) (k : Nat), ixFrom q x k = -1 ↔ x ∉ q
  | [], _, _ => by simp [ixFrom]
  | y :: l, x, k => by
    rw [ixFrom]
    split
    · rename_i h; subst h; simp
    · rename_i h; rw [ixFrom_none l x (k + 1)]; simp [h]
theorem ix_zero (q : List Int) (x : Int) : ix q x = 0 ↔ q.head? = some x := by
  cases q with
  | nil => simp [ix, ixFrom]
  | cons y l =>
    simp only [ix, ixFrom, List.head?_cons, Option.some.injEq]
    split
    · rename_i h; simp [h]
    · rename_i h
      constructor
      · intro e
        rcases ixFrom_ge l x (0 + 1) with h' | h' <;> omega
      · intro e; exact absurd e.symm h
theorem ix_pos (q : List Int) (x : Int) : 0 < ix q x ↔ q.head? ≠ some x ∧ x ∈ q.tail := by
  cases q with
  | nil => simp [ix, ixFrom]
  | cons y l =>
    simp only [ix, ixFrom, List.head?_cons, Option.some.injEq, List.tail_cons]
    split
    · rename_i h; subst h; simp
    · rename_i h
      rcases ixFrom_ge l x (0 + 1) with h' | h'
      · have := (ixFrom_none l x (0 + 1)).1 h'
        constructor
        · intro e; omega
        · rintro ⟨_, e⟩; exact absurd e this
      · have hm : x ∈ l := by
          rcases Classical.em (x ∈ l) with m | m
          · exact m
          · have := (ixFrom_none l x (0 + 1)).2 m; omega
        constructor
        · intro _; exact ⟨fun e => h (by injection e with e; exact e.symm), hm⟩
        · intro _; omega
theorem ix_neg (q : List Int) (x : Int) : ix q x < 0 ↔ x ∉ q := by
  rw [← ixFrom_none q x 0]
  show ixFrom q x 0 < 0 ↔ _
  rcases ixFrom_ge q x 0 with h | h
  · simp [h]
  · constructor
    · intro h2; simp at h; omega
    · intro h2; simp at h; omega

/-- Whether one queue forbids that an owner asks for stripe s. -/
def stops (q : List Int) (o : Int) (i : Nat) (s : Int) : Bool := decide (0 < ix q o) || (decide (ix q o = 0) && decide (s ≤ (i : Int)))
def blockedFrom : List (List Int) → Int → Int → Nat → Bool
  | [], _, _, _ => false
  | q :: l, o, s, k => stops q o k s || blockedFrom l o s (k + 1)
def blocked (Q : List (List Int)) (o s : Int) : Bool := blockedFrom Q o s 0
theorem blockedFrom_drop (Q : List (List Int)) (o s : Int) (k : Nat) (h : k < Q.length) : blockedFrom (Q.drop k) o s k = (stops Q[k] o k s || blockedFrom (Q.drop (k + 1)) o s (k + 1)) := by
  rw [List.drop_eq_getElem_cons h, blockedFrom]
theorem blockedFrom_iff : ∀ (Q : List (List Int)) (o s : Int) (k : Nat), blockedFrom Q o s k = true ↔ ∃ i, ∃ h : i < Q.length, stops Q[i] o (k + i) s = true
  | [], _, _, _ => by simp [blockedFrom]
  | q :: l, o, s, k => by
    rw [blockedFrom, Bool.or_eq_true, blockedFrom_iff l o s (k + 1)]
    constructor
    · rintro (h | ⟨i, hi, h⟩)
      · exact ⟨0, by simp, by simpa using h⟩
      · exact ⟨i + 1, by simpa using hi, by simpa [Nat.add_assoc, Nat.add_comm 1 i] using h⟩
    · rintro ⟨i, hi, h⟩
      cases i with
      | zero => exact .inl (by simpa using h)
      | succ i => exact .inr ⟨i, by simpa using hi, by simpa [Nat.add_assoc, Nat.add_comm 1 i] using h⟩

def okS (Q : List (List Int)) (s : Int) : Bool := decide (0 ≤ s) && decide (s < (Q.length : Int))
def okO (o : Int) : Bool := decide (1 ≤ o) && decide (o ≤ 65535)
def queue (Q : List (List Int)) (s : Int) : List Int := Q.getD s.toNat []
theorem queue_at (Q : List (List Int)) (s : Nat) (h : s < Q.length) : queue Q s = Q[s] := by simp [queue, h]
def lockE (Q : List (List Int)) (o s : Int) : Int := if okS Q s = true ∧ okO o = true then (if blocked Q o s = true then 8 else 0) else 2
def lockB (Q : List (List Int)) (o s : Int) : Bool := decide (lockE Q o s = 0) && (queue Q s).isEmpty
def lockQ (Q : List (List Int)) (o s : Int) : List (List Int) := if lockE Q o s = 0 then Q.set s.toNat (queue Q s ++ [o]) else Q
def unE (Q : List (List Int)) (o s : Int) : Int := if okS Q s = true ∧ okO o = true then (if (queue Q s).head? = some o then 0 else 8) else 2
def unN (Q : List (List Int)) (o s : Int) : Int := if unE Q o s = 0 then (queue Q s).tail.headD 0 else 0
def unQ (Q : List (List Int)) (o s : Int) : List (List Int) := if unE Q o s = 0 then Q.set s.toNat (queue Q s).tail else Q
def holdN (Q : List (List Int)) (s : Int) : Int := if okS Q s = true then (queue Q s).headD 0 else 0
def holdE (Q : List (List Int)) (s : Int) : Int := if okS Q s = true then 0 else 2
def waitL (Q : List (List Int)) (s : Int) : List Int := if okS Q s = true then (queue Q s).tail else []
/-- The stripes whose locks an owner holds. -/
def heldFrom : List (List Int) → Int → Nat → List Int
  | [], _, _ => []
  | q :: l, o, k => if q.head? = some o then (k : Int) :: heldFrom l o (k + 1) else heldFrom l o (k + 1)
def held (Q : List (List Int)) (o : Int) : List Int := heldFrom Q o 0
theorem heldFrom_len : ∀ (Q : List (List Int)) (o : Int) (k : Nat), (heldFrom Q o k).length ≤ Q.length
  | [], _, _ => Nat.le_refl _
  | q :: l, o, k => by
    rw [heldFrom]
    have := heldFrom_len l o (k + 1)
    split <;> simp <;> omega
theorem heldFrom_drop (Q : List (List Int)) (o : Int) (k : Nat) (h : k < Q.length) : heldFrom (Q.drop k) o k = (if (Q[k]).head? = some o then [(k : Int)] else []) ++ heldFrom (Q.drop (k + 1)) o (k + 1) := by
  rw [List.drop_eq_getElem_cons h, heldFrom]
  split <;> simp
/-- The stripe whose lock an owner waits for, or -1. -/
def forFrom : List (List Int) → Int → Nat → Int
  | [], _, _ => -1
  | q :: l, o, k => if 0 < ix q o then (k : Int) else forFrom l o (k + 1)
def waitsFor (Q : List (List Int)) (o : Int) : Int := forFrom Q o 0
theorem forFrom_drop (Q : List (List Int)) (o : Int) (k : Nat) (h : k < Q.length) : forFrom (Q.drop k) o k = if 0 < ix Q[k] o then (k : Int) else forFrom (Q.drop (k + 1)) o (k + 1) := by
  rw [List.drop_eq_getElem_cons h, forFrom]

/-! ### The state in memory -/
structure LKd (w : World) (L : Nat) (S : Nat → Prop) (Q : List (List Int)) (g c : Nat) (vs : List Value) : Prop where
  hL : Blk w L 54 [.slice (some ⟨g, 0, none⟩) Q.length c]
  hg : w.ownsRow 0 40 1 (.slice (some ⟨g, 0, none⟩) Q.length c) Q.length vs
  hv : ∀ (i : Nat) (v : Value) (q : List Int), vs[i]? = some v → Q[i]? = some q → w.ownsRow 0 3 1 v q.length (ints q)
  hd : ∀ (i j : Nat) (v u : Value) (k : Nat), i ≠ j → vs[i]? = some v → vs[j]? = some u → v.ownBlock = some k → u.ownBlock ≠ some k
  sL : S L
  sg : S g
  sv : ∀ v ∈ vs, ∀ k, v.ownBlock = some k → S k
  lt : ∀ b, S b → b < w.heap.size
/-- The locks at block L: their queues are Q; all that they are made of lies in S. -/
def LK (w : World) (L : Nat) (S : Nat → Prop) (Q : List (List Int)) : Prop := 0 < Q.length ∧ Q.length ≤ 1024 ∧ ∃ g c vs, LKd w L S Q g c vs
section
variable {w w' : World} {L : Nat} {S T : Nat → Prop} {Q : List (List Int)} {g c : Nat} {vs : List Value}
theorem LKd.len (h : LKd w L S Q g c vs) : vs.length = Q.length := by simpa using h.hg.1
theorem LKd.fr (h : LKd w L S Q g c vs) (k : Fr T w w') (hn : ∀ b, S b → ¬ T b) : LKd w' L S Q g c vs :=
  ⟨h.hL.fr k (hn _ h.sL), own_fr h.hg k (fun b hb => by injection hb with hb; subst hb; exact hn _ h.sg), fun i v q h1 h2 => own_fr (h.hv i v q h1 h2) k (fun b hb => hn b (h.sv v (List.mem_of_getElem? h1) b hb)), h.hd, h.sL, h.sg, h.sv, fun b hb => Nat.lt_of_lt_of_le (h.lt b hb) k.size⟩
theorem LK.fr (h : LK w L S Q) (k : Fr T w w') (hn : ∀ b, S b → ¬ T b) : LK w' L S Q := by
  obtain ⟨h1, h2, g, c, vs, h⟩ := h
  exact ⟨h1, h2, g, c, vs, h.fr k hn⟩
theorem LK.kept (h : LK w L S Q) (k : Below w.heap.size w w') : LK w' L S Q := h.fr (T := fun _ => False) (Fr.of_below k _) (fun _ _ h => h)
theorem LKd.kept (h : LKd w L S Q g c vs) (k : Below w.heap.size w w') : LKd w' L S Q g c vs := h.fr (T := fun _ => False) (Fr.of_below k _) (fun _ _ h => h)
theorem LK.lt (h : LK w L S Q) : ∀ b, S b → b < w.heap.size := by
  obtain ⟨_, _, g, c, vs, h⟩ := h
  exact h.lt
/-- One queue. -/
theorem LKd.at_ (h : LKd w L S Q g c vs) {i : Nat} (hi : i < Q.length) : ∃ p d, vs[i]? = some (.slice p (Q[i]).length d) ∧ w.cell? ⟨g, i, none⟩ = some (.slice p (Q[i]).length d) ∧ w.frozen? ⟨g, i, none⟩ = false ∧ Rd w w.heap.size p (ints Q[i]) ∧ (Q[i]).length ≤ d ∧ d ≤ maxLen ∧ w.ownsRow 0 3 1 (.slice p (Q[i]).length d) (Q[i]).length (ints Q[i]) := by
  have hi' : i < vs.length := by rw [h.len]; exact hi
  have ho := h.hv i vs[i] Q[i] (List.getElem?_eq_getElem hi') (List.getElem?_eq_getElem hi)
  obtain ⟨p, d, hp, h1, h2⟩ := own_shape ho
  have hcell := h.hg.cells (g := g) rfl i vs[i] (List.getElem?_eq_getElem hi')
  have hadd : (⟨g, 0, none⟩ : Addr).add i = ⟨g, i, none⟩ := by unfold Addr.add; split <;> simp_all
  rw [hadd] at hcell
  have hf : w.frozen? ⟨g, i, none⟩ = false := by
    rcases h.hg.2 with ⟨h1, _⟩ | ⟨g', cap, cur, hv, _, hh, _⟩
    · cases h1
    · injection hv with hv
      injection hv with hv
      injection hv with hv
      subst hv
      simp [World.frozen?, hh]
  rw [hp] at ho hcell
  exact ⟨p, d, by rw [List.getElem?_eq_getElem hi', hp], hcell, hf, own_rd ho, h1, h2, ho⟩
theorem LKd.cell (h : LKd w L S Q g c vs) : w.cell? ⟨L, 0, none⟩ = some (.slice (some ⟨g, 0, none⟩) Q.length c) := (h.hL.cell 0)
theorem LKd.cap (h : LKd w L S Q g c vs) : Q.length ≤ c ∧ c ≤ maxLen := by
  rcases h.hg.2 with ⟨h1, _⟩ | ⟨g', cap, cur, hv, _, hh, hn, hm, _⟩
  · cases h1
  · injection hv with _ _ hv
    subst hv
    exact ⟨hn, hm⟩
theorem LKd.ne (h : LKd w L S Q g c vs) : L ≠ g := by
  rintro rfl
  have h1 := h.hL
  rcases h.hg.2 with ⟨h2, _⟩ | ⟨g', cap, cur, hv, _, hh, _⟩
  · cases h2
  · injection hv with hv
    injection hv with hv
    injection hv with hv
    subst hv
    unfold Blk at h1
    rw [h1] at hh
    injection hh with hh
    injection hh with _ ht
    cases ht
/-- A queue's block is no other block. -/
theorem LKd.ne_q (h : LKd w L S Q g c vs) {v : Value} (hv : v ∈ vs) {k : Nat} (hk : v.ownBlock = some k) : k ≠ L ∧ k ≠ g := by
  obtain ⟨i, hi, rfl⟩ := List.mem_iff_getElem.1 hv
  have hi' : i < Q.length := by rw [← h.len]; exact hi
  have ho := h.hv i vs[i] Q[i] (List.getElem?_eq_getElem hi) (List.getElem?_eq_getElem hi')
  rcases ho.2 with ⟨h1, _⟩ | ⟨b, cap, cur, hb, _, hh, _⟩
  · rw [h1] at hk; cases hk
  · rw [hb] at hk
    injection hk with hk
    subst hk
    refine ⟨?_, ?_⟩
    · intro e
      have h1 := h.hL
      unfold Blk at h1
      simp only at e hh
      rw [e, h1] at hh
      injection hh with hh
      injection hh with _ ht
      cases ht
    · intro e
      rcases h.hg.2 with ⟨h2, _⟩ | ⟨g', cap', cur', hv', _, hh', _⟩
      · cases h2
      · injection hv' with hv'
        injection hv' with hv'
        injection hv' with hv'
        subst hv'
        simp only at e hh
        rw [e, hh'] at hh
        injection hh with hh
        injection hh with _ ht
        cases ht
end
end Go.Proofs.Ythjakgjpnijmlaa
