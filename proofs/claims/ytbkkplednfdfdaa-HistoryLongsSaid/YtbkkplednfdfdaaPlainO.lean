/- The history of a trace, in plain Lean: it is the reference's. -/
import Derived.Test.YtbkkplednfdfdaaPDefs
import Derived.Test.YtbkkplednfdfdaaOf
namespace Go.Proofs.Ytbkkplednfdfdaa
open Go.RowKit Go.Maps

def rngOk (d : PD) : Prop := 1 ≤ d.step ∧ d.step ≤ 7 ∧ 0 ≤ d.task ∧ d.task ≤ 9999
instance (d : PD) : Decidable (rngOk d) := inferInstanceAs (Decidable (1 ≤ d.step ∧ d.step ≤ 7 ∧ 0 ≤ d.task ∧ d.task ≤ 9999))
theorem pstep_rng {k : Nat} {d : PD} {S : PS} (h : ¬ rngOk d) : pstep k d S = none := by
  unfold pstep
  rw [if_pos (by unfold rngOk at h; omega)]
theorem set_last {α : Type} (l : List α) (a b : α) : (l ++ [a]).set l.length b = l ++ [b] := by
  rw [List.set_append_right _ _ (Nat.le_refl _)]; simp
theorem set_same {α : Type} : ∀ (l : List α) (i : Nat) (x : α), l[i]? = some x → l.set i x = l
  | [], _, _, h => by simp at h
  | a :: l, 0, x, h => by simp at h; subst h; rfl
  | a :: l, i + 1, x, h => by rw [List.set_cons_succ, set_same l i x (by simpa using h)]
/-- A step that begins an event. -/
theorem pstep_begin {k : Nat} {d : PD} {S : PS} (h : d.step = 1 ∨ d.step = 7) (hr : rngOk d) :
    pstep k d S = if pended (S.T d.task) = false ∧ pfit (S.T d.task) (decide (d.step = 7)) = true ∧ (d.made = true → d.step = 1) then
      some ⟨upd S.T d.task ⟨decide (d.step = 7), S.es.length, false⟩, S.es ++ [pup1 k (decide (d.step = 7)) d (pnew k d (decide (d.step = 7)))]⟩ else none := by
  unfold pstep
  rw [if_neg (by unfold rngOk at hr; omega)]
  have h6 : ¬ d.step = 6 := by omega
  cases he : pended (S.T d.task) with
  | true => simp
  | false =>
    simp only [Bool.false_eq_true, if_false, if_pos h]
    unfold pbegin
    cases hf : pfit (S.T d.task) (decide (d.step = 7)) with
    | false => simp
    | true =>
      simp only [if_true, padd, upd_same]
      rw [List.getElem?_append_right (Nat.le_refl _)]
      simp only [Nat.sub_self, List.getElem?_cons_zero]
      cases hm : d.made with
      | false => simp [h6, pup1, hm, upd_same]
      | true =>
        by_cases h1 : d.step = 1
        · simp [pmade, pmadeB, pnew, h1, h6, hm, pup1, pmadeE, upd_same]
        · simp [pmade, pmadeB, pnew, h1, hm, show ¬ d.step = 4 by omega]
/-- A step that goes on with one. -/
theorem pstep_on {k : Nat} {d : PD} {S : PS} {s : TS} {x : PE} (h : ¬ (d.step = 1 ∨ d.step = 7)) (hr : rngOk d) (hs : S.T d.task = some s) (hx : S.es[s.event]? = some x) :
    pstep k d S = if s.ended = false ∧ (d.made = true → d.step = 4 ∧ x.made < 0) ∧ (d.step = 6 → s.looks = false ∧ 0 ≤ x.made) then
      some ⟨if d.step = 6 then upd S.T d.task ⟨s.looks, s.event, true⟩ else S.T, S.es.set s.event (pup2 k d (pup1 k s.looks d x))⟩ else none := by
  have hlt := (List.getElem?_eq_some_iff.1 hx).1
  have h1 : ¬ d.step = 1 := fun e => h (.inl e)
  unfold pstep
  rw [if_neg (by unfold rngOk at hr; omega)]
  simp only [hs, pended, if_neg h, hx]
  cases he : s.ended with
  | true => simp
  | false =>
    simp only [Bool.false_eq_true, if_false]
    cases hm : d.made with
    | false =>
      simp only [Bool.false_eq_true, if_false, hx]
      by_cases h6 : d.step = 6
      · by_cases hm0 : x.made < 0
        · simp [h6, pans, pansB, hm0, show ¬ 0 ≤ x.made by omega]
        · cases hl : s.looks <;> simp [h6, pans, pansB, hm0, hl, pup1, pup2, hm, pansE, show 0 ≤ x.made by omega]
      · simp [h6, pup1, pup2, hm, set_same _ _ _ hx]
    | true =>
      simp only [if_true, pmade]
      by_cases hg : d.step = 4 ∧ x.made < 0
      · have hb : pmadeB d x = true := by simp [pmadeB, hg.1]; omega
        have h6 : ¬ d.step = 6 := by omega
        simp [hb, hg, h6, hlt, pup1, pup2, hm, pmadeE]
      · have hb : pmadeB d x = false := by
          simp only [pmadeB, Bool.and_eq_false_iff, Bool.or_eq_false_iff, Bool.not_eq_false', decide_eq_true_eq, decide_eq_false_iff_not]
          by_cases h4 : d.step = 4
          · left; have : ¬ x.made < 0 := fun e => hg ⟨h4, e⟩; omega
          · right; exact ⟨h1, h4⟩
        rw [hb]
        simp [hg]
theorem pstep_no {k : Nat} {d : PD} {S : PS} (h : ¬ (d.step = 1 ∨ d.step = 7)) (hs : S.T d.task = none) : pstep k d S = none := by
  unfold pstep
  split
  · rfl
  split
  · rfl
  simp only [if_neg h, hs]

/-! ### the events -/
def WFS (S : PS) : Prop := ∀ t s, S.T t = some s → ∃ x, S.es[s.event]? = some x ∧ x.task = t
/-- An event goes on, behind the step that began it. -/
def prc (lk : Bool) : Nat → List PD → PE → PE
  | _, [], x => x
  | k, d :: l, x => if d.task = x.task then (if d.step = 7 then x else prc lk (k + 1) l (pup2 k d (pup1 k lk d x))) else prc lk (k + 1) l x
theorem prl_prc (i : Nat) (lk : Bool) : ∀ (l : List PD) (k : Nat) (x : PE), i < k → prl i lk k l x = prc lk k l x
  | [], _, _, _ => rfl
  | d :: l, k, x, h => by
    rw [prl, prc, prl_prc i lk l (k + 1) _ (by omega), prl_prc i lk l (k + 1) _ (by omega)]
    simp only [h, true_and]
/-- The events that begin from step k on. -/
def revs : Nat → List PD → List PE
  | _, [] => []
  | k, d :: l => (if d.step = 1 ∨ d.step = 7 then [prl k (decide (d.step = 7)) k (d :: l) (pnew k d (decide (d.step = 7)))] else []) ++ revs (k + 1) l
theorem pofU_revs (l : List PD) : ∀ (rest : List PD) (k : Nat), rest = l.drop k → k ≤ l.length → pofU l l.length = pofU l k ++ revs k rest
  | [], k, h, hk => by
    have : l.length ≤ k := by
      have := congrArg List.length h
      simp at this; omega
    rw [show k = l.length by omega]
    simp [revs]
  | d :: rest, k, h, hk => by
    have hlt : k < l.length := by
      have := congrArg List.length h
      simp at this; omega
    have h2 := List.drop_eq_getElem_cons hlt
    rw [← h] at h2
    injection h2 with h3 h4
    rw [pofU_revs l rest (k + 1) h4 (by omega), pofU, revs, List.append_assoc]
    congr 2
    rw [List.getElem?_eq_getElem hlt]
    simp only [pevent, List.getElem?_eq_getElem hlt, ← h, ← h3]
theorem pofR_revs (l : List PD) : pofR l = revs 0 l := by
  have := pofU_revs l l 0 rfl (Nat.zero_le _)
  rw [pofR, this]
  rfl
def curF (S : PS) (k : Nat) (rest : List PD) (j : Nat) (x : PE) : PE := match S.T x.task with
  | none => x
  | some s => if s.event = j then prc s.looks k rest x else x
def fin (S : PS) (k : Nat) (rest : List PD) : List PE := S.es.mapIdx (curF S k rest)
theorem fin_at (S : PS) (k : Nat) (rest : List PD) (j : Nat) : (fin S k rest)[j]? = (S.es[j]?).map (curF S k rest j) := by
  unfold fin
  rw [List.getElem?_mapIdx]
theorem pup_task (k : Nat) (lk : Bool) (d : PD) (x : PE) : (pup2 k d (pup1 k lk d x)).task = x.task := by
  unfold pup2 pup1
  split <;> split <;> rfl
theorem pup1_task (k : Nat) (lk : Bool) (d : PD) (x : PE) : (pup1 k lk d x).task = x.task := by
  unfold pup1
  split <;> rfl
theorem curF_other {S S1 : PS} {k : Nat} {d : PD} {rest : List PD} {j : Nat} {x : PE} (hT : S1.T x.task = S.T x.task) (hne : d.task ≠ x.task) : curF S1 (k + 1) rest j x = curF S k (d :: rest) j x := by
  unfold curF
  rw [hT]
  cases S.T x.task with
  | none => rfl
  | some s => simp only [prc, if_neg hne]
theorem fin_step {k : Nat} {d : PD} {S S1 : PS} {rest : List PD} (hw : WFS S) (h : pstep k d S = some S1) :
    fin S1 (k + 1) rest = fin S k (d :: rest) ++ (if d.step = 1 ∨ d.step = 7 then [prl k (decide (d.step = 7)) k (d :: rest) (pnew k d (decide (d.step = 7)))] else []) ∧ WFS S1 := by
  have hr : rngOk d := Classical.byContradiction fun hn => by rw [pstep_rng hn] at h; cases h
  by_cases hb : d.step = 1 ∨ d.step = 7
  · rw [pstep_begin hb hr] at h
    split at h
    · rename_i hc
      obtain ⟨he, hf, hm⟩ := hc
      injection h with h
      subst h
      have h6 : ¬ d.step = 6 := by omega
      have hwf : WFS ⟨upd S.T d.task ⟨decide (d.step = 7), S.es.length, false⟩, S.es ++ [pup1 k (decide (d.step = 7)) d (pnew k d (decide (d.step = 7)))]⟩ := by
        intro t s hs
        simp only at hs ⊢
        by_cases e : t = d.task
        · subst e
          rw [upd_same] at hs
          injection hs with hs
          subst hs
          exact ⟨pup1 k (decide (d.step = 7)) d (pnew k d (decide (d.step = 7))), by rw [List.getElem?_append_right (Nat.le_refl _)]; simp, by rw [pup1_task]; rfl⟩
        · rw [upd_other _ _ e] at hs
          obtain ⟨x, hx, ht⟩ := hw t s hs
          exact ⟨x, by rw [List.getElem?_append_left (List.getElem?_eq_some_iff.1 hx).1]; exact hx, ht⟩
      refine ⟨?_, hwf⟩
      rw [if_pos hb]
      apply List.ext_getElem?
      intro j
      rw [fin_at]
      simp only
      have hlen : (fin S k (d :: rest)).length = S.es.length := by simp [fin]
      rcases Nat.lt_trichotomy j S.es.length with hj | hj | hj
      · rw [List.getElem?_append_left hj, List.getElem?_append_left (by rw [hlen]; exact hj), fin_at, List.getElem?_eq_getElem hj]
        simp only [Option.map_some]
        congr 1
        generalize hx : S.es[j] = x
        by_cases e : d.task = x.task
        · have h1 : curF ⟨upd S.T d.task ⟨decide (d.step = 7), S.es.length, false⟩, S.es ++ [pup1 k (decide (d.step = 7)) d (pnew k d (decide (d.step = 7)))]⟩ (k + 1) rest j x = x := by
            unfold curF
            simp only [← e, upd_same]
            rw [if_neg (by omega)]
          rw [h1]
          unfold curF
          rw [← e]
          cases hs : S.T d.task with
          | none => rfl
          | some s =>
            rw [hs] at hf
            have h7 : d.step = 7 := by simp [pfit] at hf; exact hf.2
            simp only [prc, if_pos e, if_pos h7]
            split <;> rfl
        · exact curF_other (upd_other _ _ (fun e' => e e'.symm)) e
      · subst hj
        rw [List.getElem?_append_right (Nat.le_refl _), List.getElem?_append_right (by rw [hlen]; exact Nat.le_refl _), hlen]
        simp only [Nat.sub_self, List.getElem?_cons_zero, Option.map_some]
        congr 1
        have h1 : (pup1 k (decide (d.step = 7)) d (pnew k d (decide (d.step = 7)))).task = d.task := by rw [pup1_task]; rfl
        unfold curF
        rw [h1]
        simp only [upd_same, if_true]
        rw [prl]
        rw [if_pos (show d.task = (pnew k d (decide (d.step = 7))).task from rfl), if_neg (by omega), prl_prc _ _ _ _ _ (Nat.lt_succ_self k)]
        congr 1
        unfold pup2
        rw [if_neg h6]
      · rw [List.getElem?_eq_none (by simp; omega), List.getElem?_eq_none (by simp [hlen]; omega)]
        rfl
    · cases h
  · cases hs : S.T d.task with
    | none => rw [pstep_no hb hs] at h; cases h
    | some s =>
      obtain ⟨x, hx, ht⟩ := hw _ s hs
      rw [pstep_on hb hr hs hx] at h
      have hlt := (List.getElem?_eq_some_iff.1 hx).1
      split at h
      · injection h with h
        subst h
        have h7 : ¬ d.step = 7 := fun e => hb (.inr e)
        have hTl : ∀ t, ((if d.step = 6 then upd S.T d.task ⟨s.looks, s.event, true⟩ else S.T) t).map (fun s => (s.looks, s.event)) = (S.T t).map (fun s => (s.looks, s.event)) := by
          intro t
          split
          · by_cases e : t = d.task
            · subst e; rw [upd_same, hs]; rfl
            · rw [upd_other _ _ e]
          · rfl
        have hset : ∀ j, (S.es.set s.event (pup2 k d (pup1 k s.looks d x)))[j]? = if s.event = j then some (pup2 k d (pup1 k s.looks d x)) else S.es[j]? := by
          intro j
          rw [List.getElem?_set]
          by_cases e : s.event = j
          · rw [if_pos e, if_pos e, if_pos (by omega)]
          · rw [if_neg e, if_neg e]
        refine ⟨?_, ?_⟩
        · rw [if_neg hb, List.append_nil]
          apply List.ext_getElem?
          intro j
          rw [fin_at, fin_at]
          simp only
          rw [hset]
          have hcur : ∀ (y : PE) (j : Nat) (r : List PD) (q : Nat), curF ⟨if d.step = 6 then upd S.T d.task ⟨s.looks, s.event, true⟩ else S.T, S.es.set s.event (pup2 k d (pup1 k s.looks d x))⟩ q r j y = curF S q r j y := by
            intro y j r q
            unfold curF
            have h1 := hTl y.task
            simp only
            cases h2 : (if d.step = 6 then upd S.T d.task ⟨s.looks, s.event, true⟩ else S.T) y.task with
            | none =>
              rw [h2] at h1
              cases h3 : S.T y.task with
              | none => rfl
              | some z => rw [h3] at h1; cases h1
            | some z1 =>
              rw [h2] at h1
              cases h3 : S.T y.task with
              | none => rw [h3] at h1; cases h1
              | some z =>
                rw [h3] at h1
                simp at h1
                simp only [h1.1, h1.2]
          by_cases e : s.event = j
          · subst e
            rw [if_pos rfl, hx]
            simp only [Option.map_some]
            congr 1
            rw [hcur]
            unfold curF
            rw [pup_task, ht, hs]
            simp only [if_true]
            rw [prc, if_pos ht.symm, if_neg h7]
          · rw [if_neg e]
            cases hy : S.es[j]? with
            | none => rfl
            | some y =>
              simp only [Option.map_some]
              congr 1
              rw [hcur]
              by_cases e2 : d.task = y.task
              · unfold curF
                rw [← e2, hs]
                simp only [if_neg e]
              · exact curF_other rfl e2
        · intro t s1 h1
          have h2 := hTl t
          simp only at h1
          rw [h1] at h2
          cases h3 : S.T t with
          | none => rw [h3] at h2; cases h2
          | some z =>
            rw [h3] at h2
            simp at h2
            obtain ⟨y, hy, hyt⟩ := hw t z h3
            simp only
            rw [hset, h2.2]
            by_cases e : s.event = z.event
            · rw [if_pos e]
              rw [← e, hx] at hy
              injection hy with hy
              subst hy
              exact ⟨_, rfl, by rw [pup_task]; exact hyt⟩
            · rw [if_neg e]
              exact ⟨y, hy, hyt⟩
      · cases h
theorem prun_fin : ∀ (rest : List PD) (k : Nat) (S S' : PS), WFS S → prun k rest S = some S' → S'.es = fin S k rest ++ revs k rest
  | [], k, S, S', hw, h => by
    simp only [prun] at h
    injection h with h
    subst h
    rw [revs, List.append_nil]
    apply List.ext_getElem?
    intro j
    rw [fin_at]
    cases S.es[j]? with
    | none => rfl
    | some x =>
      simp only [Option.map_some, curF, prc]
      cases S.T x.task with
      | none => rfl
      | some s => simp
  | d :: rest, k, S, S', hw, h => by
    rw [prun] at h
    cases hp : pstep k d S with
    | none => rw [hp] at h; cases h
    | some S1 =>
      rw [hp] at h
      obtain ⟨h1, h2⟩ := fin_step (rest := rest) hw hp
      rw [prun_fin rest (k + 1) S1 S' h2 h, h1, revs, List.append_assoc]
theorem prun_es {l : List PD} {S : PS} (h : prun 0 l PS.nil = some S) : S.es = pofR l := by
  rw [prun_fin l 0 PS.nil S (fun t s hs => by cases hs) h, pofR_revs]
  simp [fin, PS.nil]
end Go.Proofs.Ytbkkplednfdfdaa
