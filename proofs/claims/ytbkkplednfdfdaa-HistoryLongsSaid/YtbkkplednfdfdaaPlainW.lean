/- Which traces are allowed, in plain Lean: those that the reference allows. -/
import Derived.Test.YtbkkplednfdfdaaPlainO
namespace Go.Proofs.Ytbkkplednfdfdaa
open Go.RowKit Go.Maps

def palr (first : Int) : Nat → Bool → Bool → List (Int × Bool) → Bool
  | _, _, _, [] => true
  | i, opn, ended, x :: l =>
    if ended || (decide (0 < i) && decide (x.1 = 1)) || (decide (x.1 = 7) && decide (first = 1)) || (decide (x.1 = 6) && (decide (first = 7) || opn)) then false
    else if x.2 then (if (!decide (x.1 = 1) && !decide (x.1 = 4)) || !(opn || decide (x.1 = first)) then false else palr first (i + 1) false (decide (x.1 = 6)) l)
    else palr first (i + 1) (opn || decide (x.1 = first)) (decide (x.1 = 6)) l
/-- The steps of one task are allowed. -/
def pal : List (Int × Bool) → Bool
  | [] => false
  | x :: l => (decide (x.1 = 1) || decide (x.1 = 7)) && palr x.1 0 false false (x :: l)
def sm (d : PD) : Int × Bool := (d.step, d.made)
def mine (t : Int) (l : List PD) : List PD := l.filter (fun d => decide (d.task = t))
def WOK (l : List PD) : Prop := (∀ d ∈ l, rngOk d) ∧ ∀ t, mine t l = [] ∨ pal ((mine t l).map sm) = true
theorem palr_idx (first : Int) : ∀ (L : List (Int × Bool)) (i : Nat) (o e : Bool), 0 < i → palr first i o e L = palr first 1 o e L
  | [], _, _, _, _ => rfl
  | x :: L, i, o, e, h => by
    rw [palr, palr, palr_idx first L (i + 1) _ _ (by omega), palr_idx first L (i + 1) _ _ (by omega), palr_idx first L (1 + 1) _ _ (by omega), palr_idx first L (1 + 1) _ _ (by omega)]
    simp [h]
theorem mine_cons_same {d : PD} {l : List PD} : mine d.task (d :: l) = d :: mine d.task l := by simp [mine]
theorem mine_cons_other {d : PD} {l : List PD} {t : Int} (h : t ≠ d.task) : mine t (d :: l) = mine t l := by
  unfold mine
  rw [List.filter_cons_of_neg]
  simpa using fun e => h e.symm
def remT (S : PS) (rest : List PD) (t : Int) : Prop := match S.T t with
  | none => mine t rest = [] ∨ pal ((mine t rest).map sm) = true
  | some s => ∃ x, S.es[s.event]? = some x ∧ palr (if s.looks then 7 else 1) 1 (decide (x.made < 0)) s.ended ((mine t rest).map sm) = true
theorem remT_none {S : PS} {rest : List PD} {t : Int} (h : S.T t = none) : remT S rest t ↔ (mine t rest = [] ∨ pal ((mine t rest).map sm) = true) := by unfold remT; rw [h]
theorem remT_some {S : PS} {rest : List PD} {t : Int} {s : TS} {x : PE} (h : S.T t = some s) (hx : S.es[s.event]? = some x) : remT S rest t ↔ palr (if s.looks then 7 else 1) 1 (decide (x.made < 0)) s.ended ((mine t rest).map sm) = true := by
  unfold remT
  rw [h]
  constructor
  · rintro ⟨y, hy, h2⟩
    rw [hx] at hy
    injection hy with hy
    subst hy
    exact h2
  · exact fun h2 => ⟨x, hx, h2⟩
theorem rem_other {k : Nat} {d : PD} {S S1 : PS} {rest : List PD} {t : Int} (hw : WFS S) (h : pstep k d S = some S1) (ht : t ≠ d.task) : remT S1 rest t ↔ remT S (d :: rest) t := by
  have hr : rngOk d := Classical.byContradiction fun hn => by rw [pstep_rng hn] at h; cases h
  have key : S1.T t = S.T t ∧ ∀ s, S.T t = some s → S1.es[s.event]? = S.es[s.event]? := by
    by_cases hb : d.step = 1 ∨ d.step = 7
    · rw [pstep_begin hb hr] at h
      split at h
      · injection h with h
        subst h
        refine ⟨upd_other _ _ ht, fun s hs => ?_⟩
        obtain ⟨x, hx, _⟩ := hw t s hs
        simp only
        rw [List.getElem?_append_left (List.getElem?_eq_some_iff.1 hx).1]
      · cases h
    · cases hs0 : S.T d.task with
      | none => rw [pstep_no hb hs0] at h; cases h
      | some s0 =>
        obtain ⟨x0, hx0, ht0⟩ := hw _ s0 hs0
        rw [pstep_on hb hr hs0 hx0] at h
        split at h
        · injection h with h
          subst h
          refine ⟨?_, fun s hs => ?_⟩
          · simp only
            split
            · exact upd_other _ _ ht
            · rfl
          · obtain ⟨x, hx, hxt⟩ := hw t s hs
            simp only
            rw [List.getElem?_set, if_neg]
            intro e
            rw [e, hx] at hx0
            injection hx0 with hx0
            subst hx0
            exact ht (hxt.symm.trans ht0)
        · cases h
  unfold remT
  rw [key.1, mine_cons_other ht]
  cases hs : S.T t with
  | none => rfl
  | some s => simp only [key.2 s hs]
theorem rem_same {k : Nat} {d : PD} {S : PS} {rest : List PD} (hw : WFS S) (hr : rngOk d) : (∃ S1, pstep k d S = some S1 ∧ remT S1 rest d.task) ↔ remT S (d :: rest) d.task := by
  have hk : ¬ ((k : Int) < 0) := by omega
  by_cases hb : d.step = 1 ∨ d.step = 7
  · have hstep := pstep_begin (k := k) (S := S) hb hr
    have hnew : ∀ (S0 : PS), S0 = ⟨upd S.T d.task ⟨decide (d.step = 7), S.es.length, false⟩, S.es ++ [pup1 k (decide (d.step = 7)) d (pnew k d (decide (d.step = 7)))]⟩ →
        (remT S0 rest d.task ↔ palr (if d.step = 7 then 7 else 1) 1 (!d.made) false ((mine d.task rest).map sm) = true) := by
      rintro S0 rfl
      rw [remT_some (s := ⟨decide (d.step = 7), S.es.length, false⟩) (x := pup1 k (decide (d.step = 7)) d (pnew k d (decide (d.step = 7)))) (upd_same _ _ _) (by simp)]
      have e : decide ((pup1 k (decide (d.step = 7)) d (pnew k d (decide (d.step = 7)))).made < 0) = !d.made := by
        cases hm : d.made
        · simp [pup1, hm, pnew]
        · simp [pup1, hm, hk]
      rw [e]
      simp
    cases hs : S.T d.task with
    | none =>
      rw [remT_none hs, mine_cons_same]
      rw [hs] at hstep
      simp only [pended, pfit, true_and] at hstep
      simp only [List.map_cons, pal, palr, sm, palr_idx _ _ (0 + 1) _ _ (Nat.lt_succ_self 0)]
      by_cases hm : d.made = true → d.step = 1
      · rw [if_pos hm] at hstep
        rw [hstep]
        simp only [Option.some.injEq, exists_eq_left']
        rw [hnew _ rfl]
        rcases hb with h1 | h7
        · cases hmm : d.made <;> simp [h1, hmm]
        · cases hmm : d.made
          · simp [h7, hmm]
          · exact absurd (hm hmm) (by omega)
      · rw [if_neg hm] at hstep
        rw [hstep]
        have hmm : d.made = true := by cases h : d.made with
          | true => rfl
          | false => exact absurd (fun e => by rw [h] at e; cases e) hm
        have h7 : d.step = 7 := by
          rcases hb with h | h
          · exact absurd (fun _ => h) hm
          · exact h
        simp [hmm, h7]
    | some s =>
      obtain ⟨x, hx, hxt⟩ := hw _ s hs
      rw [remT_some hs hx, mine_cons_same]
      rw [hs] at hstep
      simp only [List.map_cons, palr, sm, palr_idx _ _ (1 + 1) _ _ (Nat.lt_succ_of_lt (Nat.lt_succ_self 0))]
      rw [hstep]
      by_cases hc : pended (some s) = false ∧ pfit (some s) (decide (d.step = 7)) = true ∧ (d.made = true → d.step = 1)
      · rw [if_pos hc]
        simp only [pended, pfit] at hc
        simp only [Option.some.injEq, exists_eq_left']
        rw [hnew _ rfl]
        obtain ⟨h1, h2, h3⟩ := hc
        simp at h2
        have hm : d.made = false := by cases h : d.made with
          | false => rfl
          | true => have := h3 h; omega
        simp [h1, h2.1, h2.2, hm]
      · rw [if_neg hc]
        simp only [pended, pfit] at hc
        cases he : s.ended <;> cases hl : s.looks <;> cases hm : d.made <;> rcases hb with h1 | h1 <;> simp [he, hl, hm, h1] at hc ⊢
  · have hn1 : ¬ d.step = 1 := fun e => hb (.inl e)
    have hn7 : ¬ d.step = 7 := fun e => hb (.inr e)
    cases hs : S.T d.task with
    | none =>
      rw [remT_none hs, mine_cons_same, pstep_no hb hs]
      simp [pal, sm, hn1, hn7]
    | some s =>
      obtain ⟨x, hx, hxt⟩ := hw _ s hs
      have hlt := (List.getElem?_eq_some_iff.1 hx).1
      rw [remT_some hs hx, mine_cons_same, pstep_on hb hr hs hx]
      simp only [List.map_cons, palr, sm, palr_idx _ _ (1 + 1) _ _ (Nat.lt_succ_of_lt (Nat.lt_succ_self 0))]
      have hnew : ∀ (S0 : PS), S0 = ⟨if d.step = 6 then upd S.T d.task ⟨s.looks, s.event, true⟩ else S.T, S.es.set s.event (pup2 k d (pup1 k s.looks d x))⟩ → s.ended = false →
          (remT S0 rest d.task ↔ palr (if s.looks then 7 else 1) 1 (!d.made && decide (x.made < 0)) (decide (d.step = 6)) ((mine d.task rest).map sm) = true) := by
        rintro S0 rfl he
        have e : decide ((pup2 k d (pup1 k s.looks d x)).made < 0) = (!d.made && decide (x.made < 0)) := by
          unfold pup2 pup1
          cases hm : d.made <;> simp only [hm, Bool.false_eq_true, if_false, if_true] <;> split <;> simp [hk]
        by_cases h6 : d.step = 6
        · rw [remT_some (s := ⟨s.looks, s.event, true⟩) (x := pup2 k d (pup1 k s.looks d x)) (by simp [h6, upd_same]) (by simp [hlt]), e]
          simp [h6]
        · rw [remT_some (s := s) (x := pup2 k d (pup1 k s.looks d x)) (by simp [h6, hs]) (by simp [hlt]), e]
          simp [h6, he]
      by_cases hc : s.ended = false ∧ (d.made = true → d.step = 4 ∧ x.made < 0) ∧ (d.step = 6 → s.looks = false ∧ 0 ≤ x.made)
      · rw [if_pos hc]
        simp only [Option.some.injEq, exists_eq_left']
        rw [hnew _ rfl hc.1]
        obtain ⟨h1, h2, h3⟩ := hc
        cases hm : d.made
        · by_cases h6 : d.step = 6
          · have h4 := h3 h6
            have h5 : ¬ x.made < 0 := by omega
            simp [h1, hm, h6, h4.1, h5]
          · cases hl : s.looks <;> simp [h1, hm, h6, hl, hn1, hn7]
        · have h4 := h2 hm
          have h6 : ¬ d.step = 6 := by omega
          cases hl : s.looks <;> simp [h1, hm, h4.1, h4.2, hl]
      · rw [if_neg hc]
        cases he : s.ended
        · cases hm : d.made
          · have h6 : d.step = 6 := Classical.byContradiction fun h6 => hc ⟨he, (fun e => by rw [hm] at e; cases e), fun e => absurd e h6⟩
            cases hl : s.looks
            · have h5 : x.made < 0 := by
                refine Classical.byContradiction fun h5 => hc ⟨he, (fun e => by rw [hm] at e; cases e), fun _ => ⟨hl, by omega⟩⟩
              simp [h6, h5]
            · simp [h6]
          · by_cases h4 : d.step = 4 ∧ x.made < 0
            · exact absurd ⟨he, fun _ => h4, fun e => by omega⟩ hc
            · by_cases h5 : d.step = 4
              · have h7 : ¬ x.made < 0 := fun e => h4 ⟨h5, e⟩
                cases hl : s.looks <;> simp [h5, h7]
              · cases hl : s.looks <;> simp [hn1, h5]
        · simp
theorem rem_wf {k : Nat} {d : PD} {S S1 : PS} (hw : WFS S) (h : pstep k d S = some S1) : WFS S1 := (fin_step (rest := []) hw h).2
theorem prun_rem : ∀ (rest : List PD) (k : Nat) (S : PS), WFS S → ((∃ S', prun k rest S = some S') ↔ ((∀ d ∈ rest, rngOk d) ∧ ∀ t, remT S rest t))
  | [], k, S, hw => by
    refine ⟨fun _ => ⟨by simp, fun t => ?_⟩, fun _ => ⟨S, rfl⟩⟩
    cases hs : S.T t with
    | none => exact (remT_none hs).2 (.inl rfl)
    | some s =>
      obtain ⟨x, hx, _⟩ := hw t s hs
      exact (remT_some hs hx).2 rfl
  | d :: rest, k, S, hw => by
    constructor
    · rintro ⟨S', h⟩
      rw [prun] at h
      cases hp : pstep k d S with
      | none => rw [hp] at h; cases h
      | some S1 =>
        rw [hp] at h
        have hr : rngOk d := Classical.byContradiction fun hn => by rw [pstep_rng hn] at hp; cases hp
        obtain ⟨h1, h2⟩ := (prun_rem rest (k + 1) S1 (rem_wf hw hp)).1 ⟨S', h⟩
        refine ⟨fun e he => ?_, fun t => ?_⟩
        · simp at he
          rcases he with rfl | he
          · exact hr
          · exact h1 e he
        · by_cases e : t = d.task
          · subst e
            exact (rem_same (k := k) hw hr).1 ⟨S1, hp, h2 _⟩
          · exact (rem_other hw hp e).1 (h2 t)
    · rintro ⟨h1, h2⟩
      have hr : rngOk d := h1 d (by simp)
      obtain ⟨S1, hp, h3⟩ := (rem_same (k := k) hw hr).2 (h2 d.task)
      obtain ⟨S', h4⟩ := (prun_rem rest (k + 1) S1 (rem_wf hw hp)).2 ⟨fun e he => h1 e (by simp [he]), fun t => by
        by_cases e : t = d.task
        · subst e; exact h3
        · exact (rem_other hw hp e).2 (h2 t)⟩
      exact ⟨S', by rw [prun, hp]; exact h4⟩
theorem prun_ok (l : List PD) : (∃ S, prun 0 l PS.nil = some S) ↔ WOK l := by
  rw [prun_rem l 0 PS.nil (fun t s hs => by cases hs)]
  unfold WOK
  refine and_congr_right (fun _ => forall_congr' fun t => ?_)
  exact remT_none rfl
/-- What Of says. -/
theorem pof_ok {l : List PD} (h : l.length ≤ 4096) (hw : WOK l) : pof l = (pofR l, 0) := by
  obtain ⟨S, hS⟩ := (prun_ok l).2 hw
  unfold pof
  rw [if_neg (by omega), hS]
  simp only
  rw [prun_es hS]
theorem pof_bad {l : List PD} (h : l.length ≤ 4096) (hw : ¬ WOK l) : pof l = ([], 2) := by
  unfold pof
  rw [if_neg (by omega)]
  cases hp : prun 0 l PS.nil with
  | none => rfl
  | some S => exact absurd ((prun_ok l).1 ⟨S, hp⟩) hw
theorem pof_long {l : List PD} (h : 4096 < l.length) : pof l = ([], 5) := by
  unfold pof
  rw [if_pos h]
end Go.Proofs.Ytbkkplednfdfdaa
