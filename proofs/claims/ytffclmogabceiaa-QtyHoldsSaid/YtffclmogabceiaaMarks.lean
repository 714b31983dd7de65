/- Marks: the plain words, their order. Nothing of the program stands here. -/
import Derived.Test.YtffclmogabceiaaOpen
namespace Go.Proofs.Ytffclmogabceiaa
open Go.RowKit

structure Mk where
  r : Int
  c : Int
  q : Int
  t : Int
deriving DecidableEq

def Mk.cells (m : Mk) : List Value := [.int .i64 m.r, .int .i64 m.c, .int .i64 m.q, .int .u64 m.t]
def Mk.val (m : Mk) : Value := .agg #[.int .i64 m.r, .int .i64 m.c, .int .i64 m.q, .int .u64 m.t]
def Mk.zero : Mk := ⟨0, 0, 0, 0⟩
/-- Its time is an unsigned number. -/
def Mk.Ok (m : Mk) : Prop := 0 ≤ m.t ∧ m.t ≤ 18446744073709551615

def validQ (q : Int) : Bool := decide (1 ≤ q) && decide (q ≤ 2147483647)
def validD (r c : Int) : Bool := decide (1 ≤ r) && decide (r ≤ 65535) && decide (1 ≤ c) && decide (c ≤ 4294967295)
def validM (m : Mk) : Bool := validD m.r m.c && validQ m.q && decide (0 < m.t)

def cmpI (a b : Int) : Int := if a < b then -1 else if b < a then 1 else 0
/-- The first one that is not 0. -/
def firstNZ : List Int → Int
  | [] => 0
  | x :: l => if x = 0 then firstNZ l else x
def cmpM (a b : Mk) : Int := firstNZ [cmpI a.t b.t, cmpI a.r b.r, cmpI a.c b.c, cmpI a.q b.q]

/-- Newer. -/
def GT (a b : Mk) : Prop := a.t > b.t ∨ (a.t = b.t ∧ (a.r > b.r ∨ (a.r = b.r ∧ (a.c > b.c ∨ (a.c = b.c ∧ a.q > b.q)))))
instance (a b : Mk) : Decidable (GT a b) := by unfold GT; infer_instance

theorem cmpI_zero {a b : Int} : cmpI a b = 0 ↔ a = b := by unfold cmpI; split <;> (try split) <;> omega
theorem cmpI_self (a : Int) : cmpI a a = 0 := cmpI_zero.2 rfl
theorem cmpI_one {a b : Int} : cmpI a b = 1 ↔ a > b := by unfold cmpI; split <;> (try split) <;> omega
theorem cmpI_neg {a b : Int} : cmpI a b = -1 ↔ a < b := by unfold cmpI; split <;> (try split) <;> omega
theorem cmpI_in (a b : Int) : cmpI a b = -1 ∨ cmpI a b = 0 ∨ cmpI a b = 1 := by unfold cmpI; split <;> (try split) <;> omega

theorem Mk.ext' {a b : Mk} (h1 : a.r = b.r) (h2 : a.c = b.c) (h3 : a.q = b.q) (h4 : a.t = b.t) : a = b := by cases a; cases b; simp_all
theorem Mk.ne {a b : Mk} (h : a ≠ b) : a.r ≠ b.r ∨ a.c ≠ b.c ∨ a.q ≠ b.q ∨ a.t ≠ b.t := by
  by_cases h1 : a.r = b.r <;> by_cases h2 : a.c = b.c <;> by_cases h3 : a.q = b.q <;> by_cases h4 : a.t = b.t <;> first | exact absurd (Mk.ext' h1 h2 h3 h4) h | simp [*]
theorem GT.ne {a b : Mk} (h : GT a b) : a ≠ b := by rintro rfl; unfold GT at h; omega
theorem GT.asymm {a b : Mk} (h : GT a b) : ¬ GT b a := by unfold GT at *; omega
theorem GT.total {a b : Mk} (h : a ≠ b) : GT a b ∨ GT b a := by have := Mk.ne h; unfold GT; omega
theorem GT.trans {a b c : Mk} (h : GT a b) (k : GT b c) : GT a c := by unfold GT at *; omega

theorem cmpM_one {a b : Mk} : cmpM a b = 1 ↔ GT a b := by
  unfold cmpM GT
  simp only [firstNZ]
  rcases cmpI_in a.t b.t with h | h | h
  · rw [h]; have := cmpI_neg.1 h; simp; omega
  · rw [h]; have := cmpI_zero.1 h
    rcases cmpI_in a.r b.r with h1 | h1 | h1
    · rw [h1]; have := cmpI_neg.1 h1; simp; omega
    · rw [h1]; have := cmpI_zero.1 h1
      rcases cmpI_in a.c b.c with h2 | h2 | h2
      · rw [h2]; have := cmpI_neg.1 h2; simp; omega
      · rw [h2]; have := cmpI_zero.1 h2
        rcases cmpI_in a.q b.q with h3 | h3 | h3
        · rw [h3]; have := cmpI_neg.1 h3; simp; omega
        · rw [h3]; have := cmpI_zero.1 h3; simp; omega
        · rw [h3]; have := cmpI_one.1 h3; simp; omega
      · rw [h2]; have := cmpI_one.1 h2; simp; omega
    · rw [h1]; have := cmpI_one.1 h1; simp; omega
  · rw [h]; have := cmpI_one.1 h; simp; omega
theorem cmpI_swap (a b : Int) : cmpI b a = - cmpI a b := by unfold cmpI; split <;> (try split) <;> (try split) <;> (try split) <;> omega
theorem firstNZ_neg : ∀ l : List Int, firstNZ (l.map fun x => -x) = - firstNZ l
  | [] => rfl
  | x :: l => by
    rw [List.map_cons, firstNZ, firstNZ]
    by_cases h : x = 0
    · subst h; simp [firstNZ_neg l]
    · rw [if_neg h, if_neg (by omega)]
theorem cmpM_swap (a b : Mk) : cmpM b a = - cmpM a b := by
  unfold cmpM
  rw [← firstNZ_neg]
  simp only [List.map_cons, List.map_nil]
  rw [cmpI_swap a.t, cmpI_swap a.r, cmpI_swap a.c, cmpI_swap a.q]
theorem cmpM_neg {a b : Mk} : cmpM a b = -1 ↔ GT b a := by
  rw [← cmpM_one, cmpM_swap a b]; omega
theorem cmpM_in (a b : Mk) : cmpM a b = -1 ∨ cmpM a b = 0 ∨ cmpM a b = 1 := by
  unfold cmpM
  simp only [firstNZ]
  have h1 := cmpI_in a.t b.t
  have h2 := cmpI_in a.r b.r
  have h3 := cmpI_in a.c b.c
  have h4 := cmpI_in a.q b.q
  repeat' split
  all_goals omega
theorem cmpM_zero {a b : Mk} : cmpM a b = 0 ↔ a = b := by
  constructor
  · intro h
    by_cases e : a = b
    · exact e
    · rcases GT.total e with g | g
      · rw [cmpM_one.2 g] at h; omega
      · rw [cmpM_neg.2 g] at h; omega
  · rintro rfl
    simp [cmpM, firstNZ, cmpI_self]
theorem cmpM_eq (a b : Mk) : cmpM a b = if GT a b then 1 else if GT b a then -1 else 0 := by
  by_cases h : GT a b
  · rw [if_pos h, cmpM_one.2 h]
  · rw [if_neg h]
    by_cases k : GT b a
    · rw [if_pos k, cmpM_neg.2 k]
    · rw [if_neg k]
      by_cases e : a = b
      · exact cmpM_zero.2 e
      · rcases GT.total e with g | g <;> contradiction
theorem cmpM_pos {a b : Mk} : 0 < cmpM a b ↔ GT a b := by
  rw [← cmpM_one]; have := cmpM_in a b; omega

/-- The cells of a list of marks. -/
def mks (l : List Mk) : List Value := l.flatMap Mk.cells
theorem mks_cons (m : Mk) (l : List Mk) : mks (m :: l) = .int .i64 m.r :: .int .i64 m.c :: .int .i64 m.q :: .int .u64 m.t :: mks l := rfl
theorem mks_len : ∀ l : List Mk, (mks l).length = l.length * 4
  | [] => rfl
  | m :: l => by rw [mks_cons]; simp only [List.length_cons]; rw [mks_len l]; omega
theorem mks_at : ∀ (l : List Mk) (k : Nat) (h : k < l.length), (mks l)[k * 4]? = some (.int .i64 (l[k]).r) ∧ (mks l)[k * 4 + 1]? = some (.int .i64 (l[k]).c) ∧ (mks l)[k * 4 + 2]? = some (.int .i64 (l[k]).q) ∧ (mks l)[k * 4 + 3]? = some (.int .u64 (l[k]).t)
  | m :: l, 0, _ => ⟨rfl, rfl, rfl, rfl⟩
  | m :: l, k + 1, h => by
    rw [mks_cons, show (k + 1) * 4 = k * 4 + 1 + 1 + 1 + 1 from by omega]
    have := mks_at l k (by simpa using h)
    simpa [Nat.add_right_comm] using this
theorem mks_one (l : List Mk) : ∀ u ∈ mks l, u.oneCell' = true := by
  intro u hu
  simp only [mks, List.mem_flatMap, Mk.cells] at hu
  obtain ⟨x, _, h⟩ := hu
  simp at h
  rcases h with rfl | rfl | rfl | rfl <;> rfl
theorem mks_app (l r : List Mk) : mks l ++ mks r = mks (l ++ r) := by simp [mks]
theorem mks_snoc (l : List Mk) (m : Mk) : mks l ++ m.cells = mks (l ++ [m]) := by simp [mks]
/-- A slice of marks that reads as a list: the cells of element k. -/
theorem Rd.mk {w : World} {B : Nat} {p : Option Addr} {l : List Mk} (h : Rd w B p (mks l)) {k : Nat} (hk : k < l.length) :
    ∃ b o, p = some ⟨b, o, none⟩ ∧ b < B ∧ w.cell? ⟨b, o + k * 4, none⟩ = some (.int .i64 (l[k]).r) ∧ w.cell? ⟨b, o + k * 4 + 1, none⟩ = some (.int .i64 (l[k]).c) ∧ w.cell? ⟨b, o + k * 4 + 2, none⟩ = some (.int .i64 (l[k]).q) ∧ w.cell? ⟨b, o + k * 4 + 3, none⟩ = some (.int .u64 (l[k]).t) := by
  obtain ⟨b, o, hp, hb, _, hc⟩ := h.at_ (k := k * 4) (by rw [mks_len]; omega)
  obtain ⟨h0, h1, h2, h3⟩ := mks_at l k hk
  exact ⟨b, o, hp, hb, hc _ _ h0, by have := hc _ _ h1; rw [Nat.add_assoc]; exact this, by have := hc _ _ h2; rw [Nat.add_assoc]; exact this, by have := hc _ _ h3; rw [Nat.add_assoc]; exact this⟩

/-- The cells of a list of dots. -/
def dotCells (l : List (Int × Int)) : List Value := l.flatMap fun d => [.int .i64 d.1, .int .i64 d.2]
theorem dotCells_cons (d : Int × Int) (l : List (Int × Int)) : dotCells (d :: l) = .int .i64 d.1 :: .int .i64 d.2 :: dotCells l := rfl
theorem dotCells_len : ∀ l : List (Int × Int), (dotCells l).length = l.length * 2
  | [] => rfl
  | d :: l => by rw [dotCells_cons, List.length_cons, List.length_cons, dotCells_len l, List.length_cons]; omega
theorem dotCells_at0 : ∀ (l : List (Int × Int)) (k : Nat) (h : k < l.length), (dotCells l)[k * 2]? = some (.int .i64 (l[k]).1)
  | d :: l, 0, _ => rfl
  | d :: l, k + 1, h => by
    rw [dotCells_cons, show (k + 1) * 2 = k * 2 + 1 + 1 from by omega, List.getElem?_cons_succ, List.getElem?_cons_succ, dotCells_at0 l k (by simpa using h)]; rfl
theorem dotCells_at1 : ∀ (l : List (Int × Int)) (k : Nat) (h : k < l.length), (dotCells l)[k * 2 + 1]? = some (.int .i64 (l[k]).2)
  | d :: l, 0, _ => rfl
  | d :: l, k + 1, h => by
    rw [dotCells_cons, show (k + 1) * 2 + 1 = k * 2 + 1 + 1 + 1 from by omega, List.getElem?_cons_succ, List.getElem?_cons_succ, dotCells_at1 l k (by simpa using h)]; rfl
theorem dotCells_snoc (l : List (Int × Int)) (d : Int × Int) : dotCells l ++ [.int .i64 d.1, .int .i64 d.2] = dotCells (l ++ [d]) := by simp [dotCells]
theorem Rd.dot {w : World} {B : Nat} {p : Option Addr} {l : List (Int × Int)} (h : Rd w B p (dotCells l)) {k : Nat} (hk : k < l.length) :
    ∃ b o, p = some ⟨b, o, none⟩ ∧ b < B ∧ w.cell? ⟨b, o + k * 2, none⟩ = some (.int .i64 (l[k]).1) ∧ w.cell? ⟨b, o + k * 2 + 1, none⟩ = some (.int .i64 (l[k]).2) := by
  obtain ⟨b, o, hp, hb, _, hc⟩ := h.at_ (k := k * 2) (by rw [dotCells_len]; omega)
  exact ⟨b, o, hp, hb, hc _ _ (dotCells_at0 l k hk), by have := hc _ _ (dotCells_at1 l k hk); rw [Nat.add_assoc]; exact this⟩
theorem take_eq_step {α : Type} {xs ys : List α} {k : Nat} (hx : k < xs.length) (hy : k < ys.length) (h : xs.take k = ys.take k) (he : xs[k] = ys[k]) : xs.take (k + 1) = ys.take (k + 1) := by
  rw [List.take_succ_eq_append_getElem hx, List.take_succ_eq_append_getElem hy, h, he]
end Go.Proofs.Ytffclmogabceiaa
