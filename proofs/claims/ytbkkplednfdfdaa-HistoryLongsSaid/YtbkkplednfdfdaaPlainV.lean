/- What Valid says, in plain Lean: it is what the reference says. -/
import Derived.Test.YtbkkplednfdfdaaVDefs
import Derived.Test.YtbkkplednfdfdaaValid
namespace Go.Proofs.Ytbkkplednfdfdaa
open Go.RowKit Go.Maps

theorem right_rbad (x : Ev) : rightB x = !rbad x := by
  unfold rightB rbad
  by_cases h1 : x.asked < 0 <;> by_cases h2 : x.task < 0 <;> by_cases h3 : 9999 < x.task <;> by_cases h4 : x.made = -1 <;> by_cases h5 : x.ans = -1 <;> by_cases h6 : x.made < x.asked <;> by_cases h7 : x.ans < x.made <;> simp [h1, h2, h3, h4, h5, h6, h7] <;> omega
def PV (l : List Ev) : Prop := (∀ x ∈ l, rbad x = false) ∧ l.Pairwise (fun y x => rbad2 y x = false)
theorem rv_iff (l : List Ev) : RV l ↔ l.length ≤ 4096 ∧ PV l := by
  unfold RV PV RVi
  refine and_congr_right (fun _ => ?_)
  rw [List.pairwise_iff_getElem]
  constructor
  · intro h
    refine ⟨fun x hx => ?_, fun i j hi hj hij => ?_⟩
    · obtain ⟨i, hi, rfl⟩ := List.getElem_of_mem hx
      exact (h i _ hi (List.getElem?_eq_getElem hi)).1
    · exact (h j _ hj (List.getElem?_eq_getElem hj)).2 i _ hij (List.getElem?_eq_getElem hi)
  · rintro ⟨h1, h2⟩ j x hj hx
    rw [List.getElem?_eq_getElem hj] at hx
    injection hx with hx
    subst hx
    refine ⟨h1 _ (List.getElem_mem hj), fun k y hk hy => ?_⟩
    have hk' : k < l.length := by omega
    rw [List.getElem?_eq_getElem hk'] at hy
    injection hy with hy
    subst hy
    exact h2 k j hk' hj hk
structure VInv (pre : List Ev) (pa : Int) (last : Int → Option Ev) (mk : Int → Bool) : Prop where
  pv : PV pre
  up : ∀ y ∈ pre, y.asked ≤ pa
  top : pre ≠ [] → ∃ y ∈ pre, y.asked = pa
  mem : ∀ m, mk m = true ↔ ∃ y ∈ pre, y.made = m
  no : ∀ t, last t = none → ∀ y ∈ pre, y.task = t → y.made = -1
  so : ∀ t b, last t = some b → b ∈ pre ∧ b.task = t ∧ b.made ≠ -1 ∧ ∀ y ∈ pre, y.task = t → y.made ≠ -1 → y = b ∨ befB y b = true
theorem rbad_made {x : Ev} (h : rbad x = false) : x.made = -1 ∨ (0 ≤ x.made) := by
  simp only [rbad, Bool.or_eq_false_iff, Bool.and_eq_false_iff, decide_eq_false_iff_not] at h
  obtain ⟨⟨⟨⟨h1, _⟩, _⟩, h4⟩, _⟩ := h
  rcases h4 with h4 | h4
  · left; exact Classical.not_not.1 h4
  · right; omega
theorem befB_iff (a b : Ev) : befB a b = true ↔ a.ans ≠ -1 ∧ a.ans < b.asked := by simp [befB]
theorem rbad2_iff (y x : Ev) : rbad2 y x = false ↔ y.asked < x.asked ∧ (x.made ≠ -1 → x.made ≠ y.made) ∧ (x.task = y.task → y.made ≠ -1 → befB y x = true) := by
  unfold rbad2
  by_cases h1 : x.asked ≤ y.asked <;> by_cases h2 : x.made = -1 <;> by_cases h3 : x.made = y.made <;> by_cases h4 : x.task = y.task <;> by_cases h5 : y.made = -1 <;> cases h6 : befB y x <;> simp_all <;> omega
theorem VInv.good {pre : List Ev} {pa : Int} {last : Int → Option Ev} {mk : Int → Bool} (h : VInv pre pa last mk) (x : Ev) :
    (vbad x pre.length pa mk = false ∧ vbad2 x last = false) ↔ (rbad x = false ∧ ∀ y ∈ pre, rbad2 y x = false) := by
  constructor
  · rintro ⟨h1, h2⟩
    simp only [vbad, Bool.or_eq_false_iff, Bool.and_eq_false_iff, decide_eq_false_iff_not, right_rbad, Bool.not_not] at h1
    obtain ⟨⟨hr, ha⟩, hm⟩ := h1
    refine ⟨hr, fun y hy => (rbad2_iff y x).2 ?_⟩
    have hne : pre.length ≠ 0 := fun e => by rw [List.eq_nil_of_length_eq_zero e] at hy; cases hy
    have ha' : pa < x.asked := by
      rcases ha with ha | ha
      · exact absurd hne ha
      · omega
    have hup := h.up y hy
    refine ⟨by omega, fun hx e => ?_, fun ht hym => ?_⟩
    · have h0 : 0 ≤ x.made := (rbad_made hr).resolve_left hx
      have : mk x.made = true := (h.mem _).2 ⟨y, hy, e.symm⟩
      rcases hm with hm | hm
      · exact hm h0
      · rw [this] at hm; cases hm
    · cases hl : last x.task with
      | none => exact absurd (h.no _ hl y hy ht.symm) hym
      | some b =>
        obtain ⟨hb1, hb2, hb3, hb4⟩ := h.so _ b hl
        have hbx : befB b x = true := by
          have h2' : (!befB b x) = false := by simpa [vbad2, hl] using h2
          simpa using h2'
        rcases hb4 y hy ht.symm hym with rfl | hyb
        · exact hbx
        · have h3 := (befB_iff _ _).1 hyb
          have h4 := h.up b hb1
          exact (befB_iff _ _).2 ⟨h3.1, by omega⟩
  · rintro ⟨hr, h2⟩
    constructor
    · simp only [vbad, Bool.or_eq_false_iff, Bool.and_eq_false_iff, decide_eq_false_iff_not, right_rbad, Bool.not_not]
      refine ⟨⟨hr, ?_⟩, ?_⟩
      · by_cases hk : pre.length = 0
        · left; simp [hk]
        · right
          obtain ⟨y, hy, rfl⟩ := h.top (fun e => hk (by rw [e]; rfl))
          have := ((rbad2_iff y x).1 (h2 y hy)).1
          omega
      · by_cases hm : 0 ≤ x.made
        · right
          cases hmk : mk x.made with
          | false => rfl
          | true =>
            obtain ⟨y, hy, e⟩ := (h.mem _).1 hmk
            exact absurd e.symm (((rbad2_iff y x).1 (h2 y hy)).2.1 (by omega))
        · left; exact hm
    · unfold vbad2
      cases hl : last x.task with
      | none => rfl
      | some b =>
        obtain ⟨hb1, hb2, hb3, hb4⟩ := h.so _ b hl
        have := ((rbad2_iff b x).1 (h2 b hb1)).2.2 hb2.symm hb3
        simp [this]
theorem PV.snoc {pre : List Ev} {x : Ev} : PV (pre ++ [x]) ↔ PV pre ∧ rbad x = false ∧ ∀ y ∈ pre, rbad2 y x = false := by
  unfold PV
  rw [List.pairwise_append]
  constructor
  · rintro ⟨h1, h2, -, h3⟩
    exact ⟨⟨fun y hy => h1 y (by simp [hy]), h2⟩, h1 x (by simp), fun y hy => h3 y hy x (by simp)⟩
  · rintro ⟨⟨h1, h2⟩, h3, h4⟩
    refine ⟨fun y hy => ?_, h2, by simp, fun y hy z hz => by simp at hz; subst hz; exact h4 y hy⟩
    simp at hy
    rcases hy with hy | rfl
    · exact h1 y hy
    · exact h3
theorem VInv.next {pre : List Ev} {pa : Int} {last : Int → Option Ev} {mk : Int → Bool} (h : VInv pre pa last mk) {x : Ev} (hr : rbad x = false) (h2 : ∀ y ∈ pre, rbad2 y x = false) :
    VInv (pre ++ [x]) x.asked (vlast x last) (updB mk x.made) := by
  refine ⟨PV.snoc.2 ⟨h.pv, hr, h2⟩, fun y hy => ?_, fun _ => ⟨x, by simp, rfl⟩, fun m => ?_, fun t ht y hy hyt => ?_, fun t b hb => ?_⟩
  · simp at hy
    rcases hy with hy | rfl
    · have := ((rbad2_iff y x).1 (h2 y hy)).1; omega
    · exact Int.le_refl _
  · unfold updB
    by_cases e : m = x.made
    · subst e
      simp
    · rw [if_neg e, h.mem]
      constructor
      · rintro ⟨y, hy, h3⟩; exact ⟨y, by simp [hy], h3⟩
      · rintro ⟨y, hy, h3⟩
        simp at hy
        rcases hy with hy | rfl
        · exact ⟨y, hy, h3⟩
        · exact absurd h3.symm e
  · unfold vlast at ht
    simp at hy
    split at ht
    · by_cases e : t = x.task
      · rw [e, upd_same] at ht; cases ht
      · rw [upd_other _ _ e] at ht
        rcases hy with hy | rfl
        · exact h.no t ht y hy hyt
        · exact absurd hyt.symm e
    · rename_i hm
      rcases hy with hy | rfl
      · exact h.no t ht y hy hyt
      · exact (rbad_made hr).resolve_right hm
  · unfold vlast at hb
    split at hb
    · rename_i hm
      by_cases e : t = x.task
      · rw [e, upd_same] at hb
        injection hb with hb
        subst hb
        refine ⟨by simp, e.symm, by omega, fun y hy hyt hym => ?_⟩
        simp at hy
        rcases hy with hy | rfl
        · right; exact ((rbad2_iff y x).1 (h2 y hy)).2.2 (by rw [hyt, e]) hym
        · left; rfl
      · rw [upd_other _ _ e] at hb
        obtain ⟨hb1, hb2, hb3, hb4⟩ := h.so t b hb
        refine ⟨by simp [hb1], hb2, hb3, fun y hy hyt hym => ?_⟩
        simp at hy
        rcases hy with hy | rfl
        · exact hb4 y hy hyt hym
        · exact absurd hyt.symm e
    · rename_i hm
      obtain ⟨hb1, hb2, hb3, hb4⟩ := h.so t b hb
      refine ⟨by simp [hb1], hb2, hb3, fun y hy hyt hym => ?_⟩
      simp at hy
      rcases hy with hy | rfl
      · exact hb4 y hy hyt hym
      · exact absurd ((rbad_made hr).resolve_right hm) hym
theorem vrun_iff : ∀ (rest pre : List Ev) (pa : Int) (last : Int → Option Ev) (mk : Int → Bool), VInv pre pa last mk → (vrun pre.length pa last mk rest = true ↔ PV (pre ++ rest))
  | [], pre, _, _, _, h => by simp [vrun, h.pv]
  | x :: rest, pre, pa, last, mk, h => by
    have hg := h.good x
    by_cases hgood : rbad x = false ∧ ∀ y ∈ pre, rbad2 y x = false
    · obtain ⟨h1, h2⟩ := hg.2 hgood
      have ih := vrun_iff rest (pre ++ [x]) _ _ _ (h.next hgood.1 hgood.2)
      rw [List.length_append, List.append_assoc] at ih
      simp only [List.length_cons, List.length_nil, Nat.zero_add, List.singleton_append] at ih
      rw [← ih]
      simp [vrun, h1, h2]
    · have hno : ¬ PV (pre ++ x :: rest) := fun hp => hgood (by
        have e : pre ++ x :: rest = (pre ++ [x]) ++ rest := by simp
        rw [e] at hp
        have : PV (pre ++ [x]) := ⟨fun y hy => hp.1 y (by simp at hy ⊢; rcases hy with hy | hy <;> simp [hy]), (List.pairwise_append.1 hp.2).1⟩
        exact (PV.snoc.1 this).2)
      have hb : ¬ (vbad x pre.length pa mk = false ∧ vbad2 x last = false) := fun e => hgood (hg.1 e)
      constructor
      · intro e
        exfalso
        apply hb
        unfold vrun at e
        split at e
        · cases e
        split at e
        · cases e
        rename_i e1 e2
        exact ⟨by simpa using e1, by simpa using e2⟩
      · intro e; exact absurd e hno
theorem valid_iff (l : List Ev) : validL l = true ↔ RV l := by
  have h := vrun_iff l [] 0 (fun _ => none) (fun _ => false) ⟨⟨by simp, List.Pairwise.nil⟩, by simp, by simp, by simp, by simp, by simp⟩
  rw [rv_iff]
  unfold validL
  simp only [List.length_nil, List.nil_append] at h
  rw [Bool.and_eq_true, h]
  simp
end Go.Proofs.Ytbkkplednfdfdaa
