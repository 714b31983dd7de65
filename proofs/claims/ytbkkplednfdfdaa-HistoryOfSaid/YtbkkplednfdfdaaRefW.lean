/- The reference's Wrong. Printed by hist_z.py. -/
import Derived.Test.YtbkkplednfdfdaaRefA
import Derived.Test.YtbkkplednfdfdaaRefF
namespace Go.Proofs.Ytbkkplednfdfdaa
open Go.RowKit Go.Maps

/-- Which error a trace has. -/
def wrongP (l : List PD) (no : Int) : Prop := (4096 < l.length ∧ no = 5) ∨ (l.length ≤ 4096 ∧ ((WOK l ∧ no = 0) ∨ (¬ WOK l ∧ no = 2)))
theorem dmine_map {t : Int} : ∀ {ds : List Di} {l : List PD}, ds.length = l.length → (∀ (j : Nat) (d : Di) (q : PD), ds[j]? = some d → l[j]? = some q → d.task = q.task ∧ d.step = q.step ∧ d.made = q.made) → (dmine t ds).map dsm = (mine t l).map sm
  | [], [], _, _ => rfl
  | d :: ds, q :: l, h, hd => by
    obtain ⟨h1, h2, h3⟩ := hd 0 d q rfl rfl
    have ih := dmine_map (t := t) (ds := ds) (l := l) (by simpa using h) (fun j d q h1 h2 => hd (j + 1) d q (by simpa using h1) (by simpa using h2))
    unfold dmine mine at ih ⊢
    by_cases e : d.task = t
    · rw [List.filter_cons_of_pos (by simpa using e), List.filter_cons_of_pos (by simpa [← h1] using e), List.map_cons, List.map_cons, ih]
      simp [dsm, sm, h2, h3]
    · rw [List.filter_cons_of_neg (by simpa using e), List.filter_cons_of_neg (by simpa [← h1] using e), ih]
/-- The first place of a task. -/
theorem ixU_first {t : Int} {ds : List Di} : ∀ (k : Nat) (i : Nat), k ≤ ds.length → (∀ j, j < i → ∀ d, ds[j]? = some d → d.task ≠ t) → (∃ d, ds[i]? = some d ∧ d.task = t) → i < k → (ixU t ds k)[0]? = some (i : Int)
  | 0, _, _, _, _, h => absurd h (by omega)
  | k + 1, i, hk, hn, hi, h => by
    rw [ixU]
    by_cases e : i < k
    · have := ixU_first k i (by omega) hn hi e
      rw [List.getElem?_append_left (by have := (List.getElem?_eq_some_iff.1 this).1; exact this)]
      exact this
    · have e2 : i = k := by omega
      subst e2
      have hz : ∀ j, j ≤ i → ixU t ds j = [] := by
        intro j
        induction j with
        | zero => intro _; rfl
        | succ j ih =>
          intro hj
          rw [ixU, ih (by omega)]
          cases hd : ds[j]? with
          | none => rfl
          | some d => simp [hn j (by omega) d hd]
      obtain ⟨d, hd, ht⟩ := hi
      rw [hz i (Nat.le_refl _), hd]
      simp [ht]
theorem ixU_some {t : Int} {ds : List Di} {i : Nat} (hi : ∃ d, ds[i]? = some d ∧ d.task = t) : ∃ f : Nat, f ≤ i ∧ (ixU t ds ds.length)[0]? = some (f : Int) ∧ (∀ j, j < f → ∀ d, ds[j]? = some d → d.task ≠ t) ∧ ∃ d, ds[f]? = some d ∧ d.task = t := by
  have hex : ∃ f, ∃ d : Di, ds[f]? = some d ∧ d.task = t := ⟨i, hi⟩
  have hlt : ∀ f, (∃ d : Di, ds[f]? = some d ∧ d.task = t) → f < ds.length := fun f ⟨d, hd, _⟩ => (List.getElem?_eq_some_iff.1 hd).1
  have key : ∀ (m f : Nat), f ≤ m → (∃ d : Di, ds[f]? = some d ∧ d.task = t) → ∃ f' : Nat, f' ≤ f ∧ (∃ d : Di, ds[f']? = some d ∧ d.task = t) ∧ ∀ j, j < f' → ∀ d : Di, ds[j]? = some d → d.task ≠ t := by
    intro m
    induction m with
    | zero => intro f hf hd; exact ⟨f, Nat.le_refl _, hd, fun j hj => absurd hj (by omega)⟩
    | succ m ih =>
      intro f hf hd
      by_cases h : ∃ j, j < f ∧ ∃ d : Di, ds[j]? = some d ∧ d.task = t
      · obtain ⟨j, hj, hjd⟩ := h
        obtain ⟨f', h1, h2, h3⟩ := ih j (by omega) hjd
        exact ⟨f', by omega, h2, h3⟩
      · exact ⟨f, Nat.le_refl _, hd, fun j hj d hjd ht => h ⟨j, hj, d, hjd, ht⟩⟩
  obtain ⟨f, h1, h2, h3⟩ := key i i (Nat.le_refl _) hi
  exact ⟨f, h1, ixU_first ds.length f (Nat.le_refl _) h3 h2 (hlt f h2), h3, h2⟩
def RetW (w : World) (l : List PD) (e : Ending) (w' : World) : Prop := ∃ no, e = .returned (.int .i64 no) ∧ wrongP l no ∧ Below w.heap.size w w'
theorem ints_cell {w : World} {B c n : Nat} {p : Option Addr} {l : List Int} {x : Int} (h : w.ownsRow B 3 1 (.slice p n c) n (ints l)) (hx : l[0]? = some x) : ∃ g, p = some ⟨g, 0, none⟩ ∧ w.cell? ⟨g, 0, none⟩ = some (.int .i64 x) ∧ 0 < n := by
  have hl : n = l.length := by have := h.1; simpa [ints_len] using this.symm
  have h0 : 0 < l.length := (List.getElem?_eq_some_iff.1 hx).1
  obtain ⟨g, cap, hv, hb, hlt⟩ := h.form (by omega)
  injection hv with hp
  subst hp
  have hz : 0 < (ints l).length := by rw [ints_len]; exact h0
  have hcell := h.cells (g := g) rfl 0 (ints l)[0] (List.getElem?_eq_getElem hz)
  have hadd : (⟨g, 0, none⟩ : Addr).add 0 = ⟨g, 0, none⟩ := rfl
  rw [hadd] at hcell
  refine ⟨g, rfl, ?_, by omega⟩
  rw [hcell]
  rw [List.getElem?_eq_getElem h0] at hx
  injection hx with hx
  simp [ints, hx]
set_option maxRecDepth 100000 in
set_option maxHeartbeats 8000000 in
theorem wrong_any (w : World) (p : Option Addr) (c : Nat) (ds : List Di) (l : List PD) (h : Rd w w.heap.size p (dis ds)) (hn : ds.length = l.length) (hc : ds.length ≤ c) (hn2 : ds.length ≤ 9223372036854775807)
    (hd : ∀ (j : Nat) (d : Di) (q : PD), ds[j]? = some d → l[j]? = some q → d.task = q.task ∧ d.step = q.step ∧ d.made = q.made) :
    Calls Try.prog 10 #[.slice p ds.length c] w (RetW w l) := by
  have HR := Lib.hid h
  have HD := Lib.hid hd
  by_cases hbig : 4096 < l.length
  · have HP := Lib.hid hbig
    obtain ⟨n, hn9⟩ : ∃ n, ds.length = n := ⟨_, rfl⟩
    rw [hn9] at hn hc hn2 ⊢
    have hbi : (4096 : Int) < (n : Int) := by omega
    have hbj : (n : Int) ≤ 9223372036854775807 := by omega
    clear h hd hn9 hbig hn hn2
    go_enter Try.func10, Try.ntmps10
    go_wp2_with fail
    go_ret
    exact ⟨5, rfl, .inl ⟨HP.out, rfl⟩, Below.refl _ _⟩
  · have HP := Lib.hid hbig
    have HM := Lib.hid (fun t => dmine_map (t := t) hn hd)
    have HK := Lib.hid (fun (w' : World) (hb : Below w.heap.size w w') (t : Int) => of27_any w' p c ds t (h.kept hb) hc (by omega))
    obtain ⟨n, hn9⟩ : ∃ n, ds.length = n := ⟨_, rfl⟩
    have HN := Lib.hid hn9
    have HLN := Lib.hid (show l.length = n by omega)
    rw [hn9] at hc hn2 ⊢
    simp only [hn9] at HK
    have hbi : (n : Int) ≤ 4096 := by omega
    have hbn : n ≤ 4096 := by omega
    clear h hd hn9 hbig hn hn2
    go_enter Try.func10, Try.ntmps10
    go_wp2_with fail
    go_loop [3] (fun i => ∃ k : Nat, k ≤ n ∧ i = .int .i64 k ∧ Hid (∀ (j : Nat) (d : PD), j < k → l[j]? = some d → rngOk d)) (fun i => n - (intOf i).toNat)
    case atStart => exact ⟨0, Nat.zero_le _, rfl, Lib.hid (fun j d hj => absurd hj (by omega))⟩
    case round =>
      obtain ⟨k, hk, rfl, HI⟩ := hrel
      by_cases hlt : k < n
      · have hki : (k : Int) < (n : Int) := by omega
        have hk2 : k < ds.length := by rw [HN.out]; exact hlt
        have hk3 : k < l.length := by rw [HLN.out]; exact hlt
        obtain ⟨b, o, rfl, hb, hc9⟩ := dis_rd HR.out hk2
        obtain ⟨e1, e2, -⟩ := HD.out k _ _ (List.getElem?_eq_getElem hk2) (List.getElem?_eq_getElem hk3)
        have HLK := Lib.hid (List.getElem?_eq_getElem hk3)
        obtain ⟨e, he⟩ : ∃ e, ds[k] = e := ⟨_, rfl⟩
        obtain ⟨q, hq⟩ : ∃ q, l[k] = q := ⟨_, rfl⟩
        rw [he] at hc9 e1 e2
        rw [hq] at e1 e2 HLK
        have q0 := hc9 0 _ rfl
        have q1 := hc9 1 _ rfl
        rw [e1] at q0
        rw [e2] at q1
        simp only [Nat.add_zero] at q0
        have HRQ := Lib.hid (show rngOk q ↔ ¬ (q.step < 1 ∨ 7 < q.step ∨ q.task < 0 ∨ 9999 < q.task) by unfold rngOk; omega)
        have HNX := Lib.hid (show rngOk q → ∀ (j : Nat) (d : PD), j < k + 1 → l[j]? = some d → rngOk d from fun hr j d hj hd => by
          by_cases e : j = k
          · subst e; rw [HLK.out] at hd; injection hd with hd; subst hd; exact hr
          · exact HI.out j d (by omega) hd)
        have HBAD := Lib.hid (show ¬ rngOk q → ¬ WOK l from fun hr hw => hr (hw.1 q (List.mem_of_getElem? HLK.out)))
        obtain ⟨s, hs⟩ : ∃ s, q.step = s := ⟨_, rfl⟩
        obtain ⟨t, ht⟩ : ∃ t, q.task = t := ⟨_, rfl⟩
        rw [hs] at q1 HRQ
        rw [ht] at q0 HRQ
        obtain ⟨v1, hv1⟩ : ∃ v1, v1 = (decide (s < 1) || decide (7 < s) || decide (t < 0) || decide (9999 < t)) := ⟨_, rfl⟩
        have HV := Lib.hid hv1
        have HVV := Lib.hid hv1
        clear hk2 hk3 hb hc9 e1 e2 he hq hs ht hv1
        go_upto_region 6 with fail
        go_cut [45] (fun c wx => c = .bool v1 ∧ wx = w)
        case first =>
          clear HVV
          by_cases h1 : s < 1
          · have hv : v1 = true := by rw [HV.out]; simp [h1]
            subst hv
            clear HV
            go_wp2_with fail
            go_meet
            exact ⟨rfl, rfl⟩
          · have g1 : 1 ≤ s := by omega
            by_cases h2 : 7 < s
            · have hv : v1 = true := by rw [HV.out]; simp [h2]
              subst hv
              clear HV
              go_wp2_with fail
              go_meet
              exact ⟨rfl, rfl⟩
            · have g2 : s ≤ 7 := by omega
              by_cases h3 : t < 0
              · have hv : v1 = true := by rw [HV.out]; simp [h3]
                subst hv
                clear HV
                go_wp2_with fail
                go_meet
                exact ⟨rfl, rfl⟩
              · have g3 : 0 ≤ t := by omega
                by_cases h4 : 9999 < t
                · have hv : v1 = true := by rw [HV.out]; simp [h4]
                  subst hv
                  clear HV
                  go_wp2_with fail
                  go_meet
                  exact ⟨rfl, rfl⟩
                · have g4 : t ≤ 9999 := by omega
                  have hv : v1 = false := by rw [HV.out]; simp [h1, h2, h3, h4]
                  subst hv
                  clear HV
                  go_wp2_with fail
                  go_meet
                  exact ⟨rfl, rfl⟩
        case rest =>
          obtain ⟨rfl, hwc⟩ := hcut
          subst hwc
          clear HV q0 q1
          cases v1 with
          | true =>
            have HE := Lib.hid (HBAD.out (fun hr => by have h := HVV.out.symm; have h2 := HRQ.out.1 hr; simp at h; omega))
            go_wp2_with fail
            go_ret
            exact ⟨2, rfl, .inr ⟨by have := HP.out; omega, .inr ⟨HE.out, rfl⟩⟩, Below.refl _ _⟩
          | false =>
            have HX := Lib.hid (HNX.out (HRQ.out.2 (by have h := HVV.out.symm; simp at h; omega)))
            go_wp2_with fail
            go_round
            case rel => exact ⟨k + 1, by omega, by go_num, HX⟩
            case measure => simp [intOf]; omega
      · have hkn : k = n := by omega
        subst hkn
        have HRNG := Lib.hid (show ∀ d ∈ l, rngOk d from fun d hd => by
          obtain ⟨j, hj, rfl⟩ := List.getElem_of_mem hd
          exact HI.out j _ (by rw [← HLN.out]; exact hj) (List.getElem?_eq_getElem hj))
        clear HI hlt
        go_wp2_with fail
        go_loopw [4] (fun i wr => ∃ m : Nat, m ≤ k ∧ i = .int .i64 m ∧ Hid ((∀ (j : Nat) (d : Di), j < m → ds[j]? = some d → (∀ j', j' < j → ∀ d', ds[j']? = some d' → d'.task ≠ d.task) → pal ((dmine d.task ds).map dsm) = true) ∧ Below w.heap.size w wr)) (fun i _ => k - (intOf i).toNat)
        case atStart => exact ⟨0, Nat.zero_le _, rfl, Lib.hid ⟨fun j d hj => absurd hj (by omega), Below.refl _ _⟩⟩
        case round =>
          obtain ⟨m, hm, rfl, HI⟩ := hrel
          by_cases hlt : m < k
          · have hmi : (m : Int) < (k : Int) := by omega
            have hk2 : m < ds.length := by rw [HN.out]; exact hlt
            obtain ⟨b, o, rfl, hb, hc9⟩ := dis_rd HR.out hk2
            have HLK := Lib.hid (List.getElem?_eq_getElem hk2)
            obtain ⟨e, he⟩ : ∃ e, ds[m] = e := ⟨_, rfl⟩
            rw [he] at hc9 HLK
            have q0 := (HI.out.2.cell (p := ⟨b, o + m * 18 + 0, none⟩) hb).trans (hc9 0 _ rfl)
            simp only [Nat.add_zero] at q0
            obtain ⟨f, hf1, hf2, hf3, hf4⟩ := ixU_some (t := e.task) (ds := ds) ⟨e, HLK.out, rfl⟩
            have HF := Lib.hid (And.intro hf3 hf4)
            have HFI := Lib.hid hf2
            obtain ⟨t, ht⟩ : ∃ t, e.task = t := ⟨_, rfl⟩
            have HTE := Lib.hid ht
            rw [ht] at q0 HF HFI
            have hfm : (f : Int) ≤ (m : Int) := by omega
            have HPM : Hid (dmine t ds ≠ []) := Lib.hid (fun e9 => by
              have : e ∈ dmine t ds := by unfold dmine; rw [List.mem_filter]; exact ⟨List.mem_of_getElem? HLK.out, by simpa using ht⟩
              rw [e9] at this; cases this)
            have HC := Lib.hid (HK.out wr HI.out.2 t)
            clear hk2 hb hc9 he hf2 hf3 hf4 ht hf1
            go_wp2_with fail
            refine HC.out.mono ?_
            rintro e9 w2 ⟨q1, c1, q2, c2, rfl, ho1, ho2, hb2⟩
            have HO1 := Lib.hid ho1
            rw [HN.out] at ho2
            obtain ⟨g, rfl, hg, hg0⟩ := ints_cell ho2 (by have := HFI.out; rw [HN.out] at this; exact this)
            have HB2 := Lib.hid (HI.out.2.trans (hb2.mono HI.out.2.size))
            have HL2 := Lib.hid (show (dmine t ds).length ≤ k by have := dmine_len t ds; have := HN.out; omega)
            have hixn : (ixU t ds k).length ≤ k := ixU_len t ds k
            rw [HN.out]
            clear ho1 ho2 hb2 HC
            obtain ⟨m2, hm2⟩ : ∃ m2, (ixU t ds k).length = m2 := ⟨_, rfl⟩
            rw [hm2] at hg0 hixn ⊢
            have hg0i : (0 : Int) < (m2 : Int) := by omega
            obtain ⟨m1, hm1⟩ : ∃ m1, (dmine t ds).length = m1 := ⟨_, rfl⟩
            have HM1 := Lib.hid hm1
            rw [hm1] at HO1 ⊢
            clear hm2 hm1
            by_cases hfe : f = m
            · subst hfe
              have HAL := Lib.hid (show Calls Try.prog 28 #[.slice q1 m1 c1] w2 fun e w' => e = .returned (.bool (pal ((dmine t ds).map dsm))) ∧ w' = w2 by
                obtain ⟨-, hcc, -⟩ := own_form' HO1.out
                have h := allowed_any w2 q1 c1 (dmine t ds) (Rd.of_own HO1.out) (by rw [HM1.out]; exact hcc) (Nat.pos_of_ne_zero (fun e => HPM.out (List.eq_nil_of_length_eq_zero e))) (by have := HL2.out; omega)
                rw [HM1.out] at h
                exact h)
              obtain ⟨v, hv⟩ : ∃ v, pal ((dmine t ds).map dsm) = v := ⟨_, rfl⟩
              have HV := Lib.hid hv
              rw [hv] at HAL
              clear hv
              go_wp2_with fail
              refine HAL.out.mono ?_
              rintro e8 w3 ⟨rfl, rfl⟩
              clear HAL hg
              cases v with
              | true =>
                have HX := Lib.hid (show ∀ (j : Nat) (d : Di), j < f + 1 → ds[j]? = some d → (∀ j', j' < j → ∀ d', ds[j']? = some d' → d'.task ≠ d.task) → pal ((dmine d.task ds).map dsm) = true from fun j d hj hd hfirst => by
                  by_cases e : j = f
                  · subst e; rw [HLK.out] at hd; injection hd with hd; subst hd; rw [HTE.out]; exact HV.out
                  · exact HI.out.1 j d (by omega) hd hfirst)
                go_wp2_with fail
                go_roundw
                case rel => exact ⟨f + 1, by omega, by go_num, Lib.hid ⟨HX.out, HB2.out⟩⟩
                case measure => simp [intOf]; omega
              | false =>
                have HE : Hid (¬ WOK l) := Lib.hid (fun hw => by
                  rcases hw.2 t with h | h
                  · rw [← List.map_eq_nil_iff (f := sm), ← HM.out t, List.map_eq_nil_iff] at h
                    exact HPM.out h
                  · rw [← HM.out t, HV.out] at h; cases h)
                go_wp2_with fail
                go_ret
                exact ⟨2, rfl, .inr ⟨by have := HP.out; omega, .inr ⟨HE.out, rfl⟩⟩, HB2.out⟩
            · have hfe' : ((f : Int) == (m : Int)) = false := by simp; omega
              have HX := Lib.hid (show ∀ (j : Nat) (d : Di), j < m + 1 → ds[j]? = some d → (∀ j', j' < j → ∀ d', ds[j']? = some d' → d'.task ≠ d.task) → pal ((dmine d.task ds).map dsm) = true from fun j d hj hd hfirst => by
                by_cases e : j = m
                · subst e
                  rw [HLK.out] at hd; injection hd with hd; subst hd
                  obtain ⟨d9, h1, h2⟩ := HF.out.2
                  exact absurd (h2.trans HTE.out.symm) (hfirst f (by omega) d9 h1)
                · exact HI.out.1 j d (by omega) hd hfirst)
              clear hfe
              go_wp2_with fail
              clear hg
              go_roundw
              case rel => exact ⟨m + 1, by omega, by go_num, Lib.hid ⟨HX.out, HB2.out⟩⟩
              case measure => simp [intOf]; omega
          · have hmk : m = k := by omega
            subst hmk
            have HE : Hid (WOK l) := Lib.hid ⟨HRNG.out, fun t => by
              by_cases he : mine t l = []
              · exact .inl he
              · right
                rw [← HM.out t]
                have he2 : dmine t ds ≠ [] := fun e => he (by rw [← List.map_eq_nil_iff (f := sm), ← HM.out t, e]; rfl)
                obtain ⟨d, hdm⟩ := List.exists_mem_of_ne_nil _ he2
                have hdm2 : d ∈ ds ∧ d.task = t := by unfold dmine at hdm; rw [List.mem_filter] at hdm; exact ⟨hdm.1, by simpa using hdm.2⟩
                obtain ⟨i, hi, hid⟩ := List.getElem_of_mem hdm2.1
                obtain ⟨f, h1, h2, h3, d9, h4, h5⟩ := ixU_some (t := t) (ds := ds) (i := i) ⟨d, by rw [List.getElem?_eq_getElem hi, hid], hdm2.2⟩
                have := HI.out.1 f d9 (by have := (List.getElem?_eq_some_iff.1 h4).1; have := HN.out; omega) h4 (by rw [h5]; exact h3)
                rw [h5] at this
                exact this⟩
            go_wp2_with fail
            go_ret
            exact ⟨0, rfl, .inr ⟨by have := HP.out; omega, .inl ⟨HE.out, rfl⟩⟩, HI.out.2⟩
end Go.Proofs.Ytbkkplednfdfdaa
