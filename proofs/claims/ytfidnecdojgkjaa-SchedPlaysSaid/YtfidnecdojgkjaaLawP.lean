/- SchedPlays. Printed by sched_plays.py. -/
import Derived.Test.YtfidnecdojgkjaaEnab
import Derived.Test.YtfidnecdojgkjaaCopy
import Derived.Test.YtfidnecdojgkjaaLawA
import Derived.Test.YtfidnecdojgkjaaRefX
import Derived.Test.YtfidnecdojgkjaaOwnAt
namespace Go.Proofs.Ytfidnecdojgkjaa
open Go.RowKit
theorem enA_len {x : Ac} (h : x.en.length ≤ 60) : (enA x).length ≤ 60 := by
  unfold enA
  split
  · exact h
  · exact Nat.le_trans (bitsUp_len _ _) (by omega)
theorem nxL_len (kind : Int) (nums L l : List Int) : (nxL kind nums L l).length ≤ L.length + 1 := by
  unfold nxL
  split <;> simp
/-- The state of the calls: a scheduler, and the reference's. -/
structure PSt (W w : World) (R b g : Nat) (q : Option Addr) (d : Nat) (kind : Int) (nums L : List Int) (p : Option Addr) (c : Nat) (qp : Option Addr) (cp : Nat) : Prop where
  ss : SS w R b q d kind nums L
  below : Below W.heap.size W w
  r : W.heap.size ≤ R
  rb : W.heap.size ≤ b
  gg : W.heap.size ≤ g
  gR : g ≠ R
  gb : g ≠ b
  blk : Blk w g 30 [.int .i64 kind, .slice p nums.length c, .slice qp L.length cp]
  rd : Rd w w.heap.size qp (ints L)
  rq : ∀ a, qp = some a → (a.block ≠ R ∧ a.block ≠ b) ∧ a.block ≠ g ∧ a.block < w.heap.size
  qg : ∀ a, q = some a → a.block ≠ g
set_option maxRecDepth 100000 in
set_option maxHeartbeats 8000000 in
theorem schedPlays_walk (kind : Int) (p q : Option Addr) (c cl : Nat) (nums : List Int) (l : List Ac) (W : World) (hr : Rd W W.heap.size p (ints nums)) (hc : nums.length ≤ c) (hcm : c ≤ maxLen)
    (hq : Rd W W.heap.size q (acs l)) (hlc : l.length ≤ cl) (hlm : cl ≤ maxLen) (hok : ∀ x ∈ l, x.ok W) (hw : ∀ x ∈ nums, (Lit.int .i64 x).wf = true) :
    Calls Try.prog 8 #[.int .i64 kind, .slice p nums.length c, .slice q l.length cl] W fun e w' => e = .returned (.bool true) ∧ Below W.heap.size W w' := by
  have HK := Lib.hid known_any
  have HFW := Lib.hid (few_any cl l hq (by have := maxLen_le hlm; omega))
  have hnm := maxLen_le hcm
  have HR := Lib.hid hr
  have HQ := Lib.hid hq
  have HOK := Lib.hid hok
  obtain ⟨n, hn⟩ : ∃ n, nums.length = n := ⟨_, rfl⟩
  have HN := Lib.hid hn
  rw [hn] at hc ⊢
  have hn63 : n ≤ 9223372036854775807 := by omega
  clear hr hq hok hc hcm hlc hlm hnm hn hw
  by_cases hn1 : 100 < n
  · have hni : (100 : Int) < (n : Int) := by omega
    clear HFW HOK HQ
    generalize l.length = m at *
    go_enter Try.func8, Try.ntmps8
    go_wp2_with fail
    refine (HK.out _).mono ?_
    rintro e wk ⟨rfl, hbk⟩
    have HBk := Lib.hid (below_step (Below.refl _ _) hbk)
    clear hbk
    go_wp2_with fail
    go_ret
    exact ⟨rfl, HBk.out⟩
  · have hni : (n : Int) ≤ 100 := by omega
    cases hf : fewB l with
    | false =>
      rw [hf] at HFW
      clear hf HOK HQ
      generalize l.length = m at *
      go_enter Try.func8, Try.ntmps8
      go_wp2_with fail
      refine HFW.out.mono ?_
      rintro e w1 ⟨rfl, rfl⟩
      go_wp2_with fail
      refine (HK.out _).mono ?_
      rintro e wk ⟨rfl, hbk⟩
      have HBk := Lib.hid (below_step (Below.refl _ _) hbk)
      clear hbk
      go_wp2_with fail
      go_ret
      exact ⟨rfl, HBk.out⟩
    | true =>
      have HL := Lib.hid (fewB_iff hf)
      rw [hf] at HFW
      clear hf hn1
      obtain ⟨lm, hlm⟩ : ∃ m, l.length = m := ⟨_, rfl⟩
      have HLM := Lib.hid hlm
      have hlm1 : lm ≤ 100 := by have := HL.out.1; omega
      rw [hlm] at HFW ⊢
      clear hlm
      go_enter Try.func8, Try.ntmps8
      go_wp2_with fail
      refine HFW.out.mono ?_
      rintro e w1 ⟨rfl, rfl⟩
      go_wp2_with (at_builtin; refine wpList_appM rfl (.const (.slice none 0 0)) (.tmp 27) 23 rfl W.heap.size 3 _ 1 8 Try.underlying23 int_info rfl (by omega) _ 0 [] rfl (World.ownsRow_nil _ _ _ _) W.heap.size p n c (ints nums) rfl (by rw [ints_len, HN.out, Nat.mul_one]) HR.out (ints_one _) (by omega) (by omega) (Nat.le_refl _) ?_; intro v1 w1 hown1 hb1 _ _; rw [Nat.zero_add, List.nil_append] at hown1; obtain ⟨qo, co, rfl, _, _⟩ := own_shape hown1; have HO1 := Lib.hid hown1; have HB1 := Lib.hid hb1; clear hown1 hb1)
      have HNW := new_any qo co kind nums (own_rd HO1.out) (by rw [HN.out]; omega)
      rw [HN.out] at HNW
      have HRN := Lib.hid (fun (w' : World) (hb : Below W.heap.size W w') => refNew_any p c kind nums (HR.out.kept hb) (by rw [HN.out]; omega))
      rw [HN.out] at HRN
      refine HNW.mono ?_
      rintro e w2 ⟨hx1, hx0, hb2⟩
      have HB2 := Lib.hid (below_step HB1.out hb2)
      have HF2 := Lib.hid (Fr.of_below hb2 (fun _ => False))
      have H12 := Lib.hid hb2.size
      clear HNW
      by_cases hr0 : newE kind nums = 0
      · obtain ⟨R, b, q9, d9, rfl, hss, hR, hb, hq9⟩ := hx0 hr0
        rw [hr0] at HRN
        have HS2 := Lib.hid hss
        have HRR := Lib.hid hR
        have HRb := Lib.hid hb
        have HR9 := Lib.hid hq9
        have HNE2 := Lib.hid (fun b9 h9 => (hss.ne b9 h9).2)
        have HR2 := Lib.hid (show R < w2.heap.size ∧ b < w2.heap.size from ⟨hss.blk.lt, hss.mp.lt⟩)
        clear hx1 hx0 hb2 hss hR hb hq9 hr0
        go_wp2_with fail
        refine (HRN.out _ HB2.out).mono ?_
        rintro e w3 ⟨a, q1, n1, c1, q2, n2, c2, rfl, hz, hb3⟩
        obtain ⟨rfl, rfl, rfl, rfl, rfl, rfl, rfl⟩ := hz (by first | rfl | trivial)
        have HB3 := Lib.hid (below_al (below_step HB2.out hb3) (.cells #[.int .i64 a, .slice q1 n1 c1, .slice none 0 0] 30))
        have HS3 := Lib.hid ((HS2.out.kept hb3).kept (below_al (Below.refl _ _) (.cells #[.int .i64 a, .slice q1 n1 c1, .slice none 0 0] 30)))
        have HG3 := Lib.hid (Blk.new w3 30 [.int .i64 a, .slice q1 n1 c1, .slice none 0 0])
        have HF3 := Lib.hid ((HF2.out.step hb3).alloc (.cells #[.int .i64 a, .slice q1 n1 c1, .slice none 0 0] 30))
        have HO3 := Lib.hid (own_fr HO1.out HF3.out (fun _ _ h => h))
        have HWZ := Lib.hid (show (w3.alloc (.cells #[.int .i64 a, .slice q1 n1 c1, .slice none 0 0] 30)).heap.size = w3.heap.size + 1 by simp)
        have H32 := Lib.hid (show w2.heap.size ≤ w3.heap.size from hb3.size)
        clear hz hb3 HRN HF2 HS2 HB2
        go_wp2_with fail
        generalize w3.alloc (.cells #[.int .i64 a, .slice q1 n1 c1, .slice none 0 0] 30) = W3 at *
        go_loopw [12] (fun i wr => ∃ (k : Nat) (vals : List Int), k ≤ n1 ∧ i = .int .i64 k ∧ Hid (wr.ownsRow W.heap.size 3 1 (.slice qo n1 co) n1 (ints vals)) ∧ Hid (Fr (fun x => (Value.slice qo n1 co).ownBlock = some x) W3 wr)) (fun i _ => n1 - (intOf i).toNat)
        case atStart => exact ⟨0, nums, Nat.zero_le _, rfl, HO3, Lib.hid (Fr.refl _ _)⟩
        case round =>
          obtain ⟨k, vals, hk, rfl, HO, HF⟩ := hrel
          by_cases hlt : k < n1
          · have hki : (k : Int) < (n1 : Int) := by omega
            have hvl : vals.length = n1 := by have := HO.out.1; rw [ints_len] at this; omega
            obtain ⟨g, co', hv, hg1, hg2, _, _, hcell, hfz⟩ := own_at HO.out (by omega)
            injection hv with hv1 hv2 hv3
            subst hv1 hv3
            have hck := hcell k _ (ints_at vals k (by omega))
            have hfk := hfz k
            obtain ⟨x, hx⟩ : ∃ x, vals[k]'(by omega) = x := ⟨_, rfl⟩
            rw [hx] at hck
            clear hx hcell hfz hvl hv2
            go_wp2_with fail
            go_roundw
            case rel => exact ⟨k + 1, vals.set k (wrap64 (x + 1)), by omega, by go_num, Lib.hid (by rw [← ints_set]; exact own_store HO.out k _), Lib.hid (HF.out.set ⟨g, k, none⟩ _ (.inl rfl))⟩
            case measure => simp [intOf]; omega
          · have hkn : n1 = k := by omega
            subst hkn
            have hob := own_lt HO1.out
            have HPS : Hid (PSt W wr R b w3.heap.size q9 d9 a nums [] q1 c1 none 0) := Lib.hid (by
              have hlt1 : ∀ x, (Value.slice qo n1 co).ownBlock = some x → x < w1.heap.size := fun x hx => (hob x hx).2
              have hge1 : ∀ x, (Value.slice qo n1 co).ownBlock = some x → W.heap.size ≤ x := fun x hx => (hob x hx).1
              have hW1 := HB1.out.size
              have h12 := H12.out
              have h23 := H32.out
              have hzz := HWZ.out
              have hRl := HR2.out.1
              have hbl := HR2.out.2
              refine ⟨HS3.out.fr HF.out (fun e => by have := hlt1 _ e; have := HRR.out; omega) (fun e => by have := hlt1 _ e; have := HRb.out; omega) (fun a ha e => by have := hlt1 _ e; have := HR9.out a ha; omega), Fr.below HB3.out HF.out (fun x hx => hge1 x hx), by have := HRR.out; omega, by have := HRb.out; omega, by omega, by omega, by omega, ?_, Rd.nil _ _ _, by simp, fun b9 h9 => by have := HNE2.out b9 h9; omega⟩
              rw [HN.out]
              exact HG3.out.fr HF.out (fun e => by have := hlt1 _ e; omega))
            clear HO1 HB1 HS3 HB3 HG3 HF3 HO3 HO HF HRR HRb HR9 HWZ H32 hob HFW
            go_wp2_with fail
            go_loopw [8, 13] (fun v i wr => ∃ (k R b : Nat) (q9 : Option Addr) (d9 : Nat) (L : List Int) (qp : Option Addr) (cp : Nat), k ≤ lm ∧ L.length ≤ k ∧ v = .pointer (some ⟨R, 0, none⟩) ∧ i = .int .i64 k ∧ Hid (PSt W wr R b w3.heap.size q9 d9 a nums L q1 c1 qp cp)) (fun _ i _ => lm - (intOf i).toNat)
            case atStart => exact ⟨0, R, b, q9, d9, [], none, 0, Nat.zero_le _, Nat.le_refl _, rfl, rfl, HPS⟩
            case round =>
              clear HPS
              generalize w3.heap.size = g at *
              obtain ⟨k, R, b, q9, d9, L, qp, cp, hk, hLk, rfl, rfl, HP⟩ := hrel
              by_cases hlt : k < lm
              · have hki : (k : Int) < (lm : Int) := by omega
                have hlt2 : k < l.length := by rw [HLM.out]; exact hlt
                obtain ⟨bt, ot, rfl, hbt, cw0, cw1, cw2⟩ := acs_rd HQ.out hlt2
                have hxl := HL.out.2 _ (List.getElem_mem hlt2)
                have hxo := HOK.out _ (List.getElem_mem hlt2)
                obtain ⟨x, hx⟩ : ∃ x, l[k] = x := ⟨_, rfl⟩
                rw [hx] at cw0 cw1 cw2 hxl hxo
                obtain ⟨xa, xq, xc, xe, xb⟩ := x
                simp only at cw0 cw1 cw2 hxl
                have HE := Lib.hid (enA_len (x := ⟨xa, xq, xc, xe, xb⟩) hxl)
                have hXR : Rd W W.heap.size xq (ints xe) := hxo.2.1
                have HXR := Lib.hid hXR
                obtain ⟨xn, hxn⟩ : ∃ m, xe.length = m := ⟨_, rfl⟩
                have HXN := Lib.hid hxn
                rw [hxn] at cw1 hxl
                have hc0 := (HP.out.below.cell (p := ⟨bt, ot + k * 3, none⟩) hbt).trans cw0
                have hc1 := (HP.out.below.cell (p := ⟨bt, ot + k * 3 + 1, none⟩) hbt).trans cw1
                have hc2 := (HP.out.below.cell (p := ⟨bt, ot + k * 3 + 2, none⟩) hbt).trans cw2
                have HC0 := Lib.hid cw0
                have HC1 := Lib.hid cw1
                have HC2 := Lib.hid cw2
                clear cw0 cw1 cw2
                have HBT := Lib.hid hbt
                clear hx hlt2 hxo hXR hxn hbt
                by_cases hx0 : xa = 0
                · have hx1 : (xa == 0) = true := by simpa using hx0
                  have hx2 : (xa != 0) = false := by simpa using hx0
                  clear hx0
                  obtain ⟨m, hm⟩ : ∃ m, L.length = m := ⟨_, rfl⟩
                  have HM := Lib.hid hm
                  have HSS := Lib.hid fun (w' : World) (hf : Fr (fun _ => False) wr w') => (by
                    have hg := HP.out.blk.fr hf (fun h => h)
                    rw [HN.out, hm] at hg
                    have hw' := Fr.below HP.out.below hf (fun _ h => h.elim)
                    exact ⟨⟨hg.cell 0, hg.cell 1, hg.cell 2⟩, (hw'.cell (p := ⟨bt, ot + k * 3, none⟩) HBT.out).trans HC0.out, (hw'.cell (p := ⟨bt, ot + k * 3 + 1, none⟩) HBT.out).trans HC1.out, (hw'.cell (p := ⟨bt, ot + k * 3 + 2, none⟩) HBT.out).trans HC2.out⟩ : ((w'.cell? ⟨g, 0, none⟩ = some (.int .i64 a) ∧ w'.cell? ⟨g, 1, none⟩ = some (.slice q1 n1 c1) ∧ w'.cell? ⟨g, 2, none⟩ = some (.slice qp m cp)) ∧ w'.cell? ⟨bt, ot + k * 3, none⟩ = some (.int .i64 xa) ∧ w'.cell? ⟨bt, ot + k * 3 + 1, none⟩ = some (.slice xq xn xc) ∧ w'.cell? ⟨bt, ot + k * 3 + 2, none⟩ = some (.int .u16 xb)))
                  have HEN := Lib.hid fun (w' : World) (hW : Below W.heap.size W w') => enab_any (w := w') ⟨xa, xq, xc, xe, xb⟩ (HXR.out.kept hW)
                  have HNX := Lib.hid fun (w' : World) (hf : Fr (fun _ => False) wr w') (p5 : Option Addr) (d5 : Nat) (h5 : Rd w' w'.heap.size p5 (ints (enA ⟨xa, xq, xc, xe, xb⟩))) => refNext_any (w := w') ⟨HP.out.ss.ok.lo, HP.out.ss.ok.hi⟩ q1 c1 nums qp cp L p5 d5 (enA ⟨xa, xq, xc, xe, xb⟩) ((HR.out.kept HP.out.below).fr hf (fun _ _ h => h)) (HP.out.rd.fr hf (fun _ _ h => h)) h5 (fun a ha => Nat.lt_of_lt_of_le (HP.out.rq a ha).2.2 hf.size) (by have := HE.out; omega) (by omega) HP.out.ss.ok.one HP.out.ss.ok.pos (by have := HP.out.ss.ok.len; omega)
                  have HPK := Lib.hid fun (w' : World) (h : SS w' R b q9 d9 a nums L) (p5 : Option Addr) (d5 : Nat) (h5 : Rd w' w'.heap.size p5 (ints (enA ⟨xa, xq, xc, xe, xb⟩))) => picks_any h (by omega) p5 d5 (enA ⟨xa, xq, xc, xe, xb⟩) h5 (by have := HE.out; omega) _ _ rfl rfl
                  have HLX := Lib.hid (nxL_len a nums L (enA ⟨xa, xq, xc, xe, xb⟩))
                  simp only [hm, HN.out, HXN.out] at HEN HNX HPK HLX
                  obtain ⟨E, hE⟩ : ∃ E, enA ⟨xa, xq, xc, xe, xb⟩ = E := ⟨_, rfl⟩
                  rw [hE] at HEN HNX HPK HLX
                  obtain ⟨L2, hL2⟩ : ∃ z, nxL a nums L E = z := ⟨_, rfl⟩
                  obtain ⟨t2, ht2⟩ : ∃ z, nxT a nums L E = z := ⟨_, rfl⟩
                  obtain ⟨e2, he2⟩ : ∃ z, nxE E = z := ⟨_, rfl⟩
                  simp only [hL2, ht2, he2] at HNX HPK HLX
                  obtain ⟨m2, hm2⟩ : ∃ z, L2.length = z := ⟨_, rfl⟩
                  rw [hm2] at HLX
                  simp only [hm2] at HNX
                  have HM2 := Lib.hid hm2
                  unfold RetQ at HEN
                  obtain ⟨en, hen⟩ : ∃ z, E.length = z := ⟨_, rfl⟩
                  simp only [hen] at HEN HNX HPK
                  clear hm hE hL2 ht2 he2 hm2 hen
                  go_upto_region 24 with fail
                  clear hc0 hc1 hc2
                  refine wp_region_noPanic ?_
                  refine wp_region_held_drew (S := fun w' => (w'.cell? ⟨g, 0, none⟩ = some (.int .i64 a) ∧ w'.cell? ⟨g, 1, none⟩ = some (.slice q1 n1 c1) ∧ w'.cell? ⟨g, 2, none⟩ = some (.slice qp m cp)) ∧ w'.cell? ⟨bt, ot + k * 3, none⟩ = some (.int .i64 xa) ∧ w'.cell? ⟨bt, ot + k * 3 + 1, none⟩ = some (.slice xq xn xc) ∧ w'.cell? ⟨bt, ot + k * 3 + 2, none⟩ = some (.int .u16 xb)) (by kernel_rfl) (HSS.out _ (by first | exact (Fr.refl _ _).drew | exact ((Fr.refl _ _).alloc _).drew | exact ((Fr.refl _ _).drew).alloc _ | exact HF5.out | exact HF5.out.alloc _ | exact HF6.out | exact HF6.out.alloc _)) (fun hHeld => ?_)
                  refine wpAnyH_take (i := 0) (oi := ⟨some 103, _, _, _, _, _⟩) (v := ?_) rfl (by kernel_rfl) (by kernel_rfl) (by kernel_rfl) (fun _ _ _ h => h) (Or.inl ⟨by rfl, ?_⟩) hHeld ?_
                  rotate_left
                  · (intro w hSw; obtain ⟨⟨hq1, hq2, hq3⟩, hq4, hq5, hq6⟩ := hSw; go_simp; try with_reducible rfl)
                  try simp only [Act.put, List.setIfInBounds_toArray, List.set_cons_zero, List.set_cons_succ]
                  refine wpAnyH_take (i := 1) (oi := ⟨some 104, _, _, _, _, _⟩) (v := ?_) rfl (by kernel_rfl) (by kernel_rfl) (by kernel_rfl) (fun _ _ _ h => h) (Or.inl ⟨by rfl, ?_⟩) hHeld ?_
                  rotate_left
                  · (intro w hSw; obtain ⟨⟨hq1, hq2, hq3⟩, hq4, hq5, hq6⟩ := hSw; go_simp; try with_reducible rfl)
                  try simp only [Act.put, List.setIfInBounds_toArray, List.set_cons_zero, List.set_cons_succ]
                  refine wpAnyH_take (i := 2) (oi := ⟨some 105, _, _, _, _, _⟩) (v := ?_) rfl (by kernel_rfl) (by kernel_rfl) (by kernel_rfl) (fun _ _ _ h => h) (Or.inl ⟨by rfl, ?_⟩) hHeld ?_
                  rotate_left
                  · (intro w hSw; obtain ⟨⟨hq1, hq2, hq3⟩, hq4, hq5, hq6⟩ := hSw; go_simp; try with_reducible rfl)
                  try simp only [Act.put, List.setIfInBounds_toArray, List.set_cons_zero, List.set_cons_succ]
                  refine wpAnyH_take (i := 3) (oi := ⟨some 106, _, _, _, _, _⟩) (v := ?_) rfl (by kernel_rfl) (by kernel_rfl) (by kernel_rfl) (fun _ _ _ h => h) (Or.inl ⟨by rfl, ?_⟩) hHeld ?_
                  rotate_left
                  · (intro w hSw; obtain ⟨⟨hq1, hq2, hq3⟩, hq4, hq5, hq6⟩ := hSw; go_simp; try with_reducible rfl)
                  try simp only [Act.put, List.setIfInBounds_toArray, List.set_cons_zero, List.set_cons_succ]
                  refine wpAnyH_take (i := 4) (oi := ⟨some 107, _, _, _, _, _⟩) (v := ?_) rfl (by kernel_rfl) (by kernel_rfl) (by kernel_rfl) (fun _ _ _ h => h) (Or.inl ⟨by rfl, ?_⟩) hHeld ?_
                  rotate_left
                  · (intro w hSw; obtain ⟨⟨hq1, hq2, hq3⟩, hq4, hq5, hq6⟩ := hSw; go_simp; try with_reducible rfl)
                  try simp only [Act.put, List.setIfInBounds_toArray, List.set_cons_zero, List.set_cons_succ]
                  refine wpAnyH_ready (rs := [5, 11]) (by kernel_rfl) (by simp) ?_
                  refine (AllReadyH.cons (o := ⟨some 108, _, _, _, _, _⟩) rfl (fun K hK => ?_) (AllReadyH.cons (o := ⟨some 15, _, _, _, _, _⟩) rfl (fun K hK => ?_) AllReadyH.nil))
                  · go_simp
                    (refine (HEN.out _ (Fr.below HP.out.below (S := fun _ => False) (by first | exact (Fr.refl _ _).drew | exact ((Fr.refl _ _).alloc _).drew | exact ((Fr.refl _ _).drew).alloc _ | exact HF5.out | exact HF5.out.alloc _ | exact HF6.out | exact HF6.out.alloc _) (fun _ h => h.elim))).mono ?_; rintro e w5 ⟨p5, d5, rfl, hr5, hb5, -⟩)
                    have HF5 := Lib.hid (Fr.step (show Fr (fun _ => False) wr _ from (by first | exact (Fr.refl _ _).drew | exact ((Fr.refl _ _).alloc _).drew | exact ((Fr.refl _ _).drew).alloc _ | exact HF5.out | exact HF5.out.alloc _ | exact HF6.out | exact HF6.out.alloc _)) hb5)
                    have HR5 := Lib.hid hr5
                    have HB5 := Lib.hid hb5.size
                    clear hr5 hb5
                    refine hK.out _ _ (HSS.out _ HF5.out) (fun hHeld => ?_)
                    clear hK K
                    try simp only [Act.put, List.setIfInBounds_toArray, List.set_cons_zero, List.set_cons_succ]
                    refine wpAnyH_ready (rs := [6, 11]) (by kernel_rfl) (by simp) ?_
                    refine (AllReadyH.cons (o := ⟨some 109, _, _, _, _, _⟩) rfl (fun K hK => ?_) (AllReadyH.cons (o := ⟨some 15, _, _, _, _, _⟩) rfl (fun K hK => ?_) AllReadyH.nil))
                    · go_simp
                      (refine (HNX.out _ (by first | exact (Fr.refl _ _).drew | exact ((Fr.refl _ _).alloc _).drew | exact ((Fr.refl _ _).drew).alloc _ | exact HF5.out | exact HF5.out.alloc _ | exact HF6.out | exact HF6.out.alloc _) p5 d5 HR5.out).mono ?_; rintro e w6 ⟨q2, c2, rfl, hr6, hl6, hb6, hq6⟩)
                      have HF6 := Lib.hid (Fr.step (show Fr (fun _ => False) wr _ from (by first | exact (Fr.refl _ _).drew | exact ((Fr.refl _ _).alloc _).drew | exact ((Fr.refl _ _).drew).alloc _ | exact HF5.out | exact HF5.out.alloc _ | exact HF6.out | exact HF6.out.alloc _)) hb6)
                      have HR6 := Lib.hid hr6
                      have HL6 := Lib.hid hl6
                      have HQ6 := Lib.hid hq6
                      have HB6 := Lib.hid hb6.size
                      clear hr6 hl6 hb6 hq6
                      refine hK.out _ _ (HSS.out _ HF6.out) (fun hHeld => ?_)
                      clear hK K
                      try simp only [Act.put, List.setIfInBounds_toArray, List.set_cons_zero, List.set_cons_succ]
                      refine wpAnyH_take (i := 7) (oi := ⟨some 102, _, _, _, _, _⟩) (v := ?_) rfl (by kernel_rfl) (by kernel_rfl) (by kernel_rfl) (fun _ _ _ h => h) (Or.inl ⟨by rfl, ?_⟩) hHeld ?_
                      rotate_left
                      · (intro w hSw; obtain ⟨⟨hq1, hq2, hq3⟩, hq4, hq5, hq6⟩ := hSw; go_simp; try with_reducible rfl)
                      try simp only [Act.put, List.setIfInBounds_toArray, List.set_cons_zero, List.set_cons_succ]
                      refine wpAnyH_take (i := 8) (oi := ⟨some 110, _, _, _, _, _⟩) (v := ?_) rfl (by kernel_rfl) (by kernel_rfl) (by kernel_rfl) (fun _ _ _ h => h) (Or.inl ⟨by rfl, ?_⟩) hHeld ?_
                      rotate_left
                      · (intro w hSw; obtain ⟨⟨hq1, hq2, hq3⟩, hq4, hq5, hq6⟩ := hSw; go_simp; try with_reducible rfl)
                      try simp only [Act.put, List.setIfInBounds_toArray, List.set_cons_zero, List.set_cons_succ]
                      refine wpAnyH_take (i := 9) (oi := ⟨some 111, _, _, _, _, _⟩) (v := ?_) rfl (by kernel_rfl) (by kernel_rfl) (by kernel_rfl) (fun _ _ _ h => h) (Or.inl ⟨by rfl, ?_⟩) hHeld ?_
                      rotate_left
                      · (intro w hSw; obtain ⟨⟨hq1, hq2, hq3⟩, hq4, hq5, hq6⟩ := hSw; go_simp; try with_reducible rfl)
                      try simp only [Act.put, List.setIfInBounds_toArray, List.set_cons_zero, List.set_cons_succ]
                      refine wpAnyH_take (i := 10) (oi := ⟨some 112, _, _, _, _, _⟩) (v := ?_) rfl (by kernel_rfl) (by kernel_rfl) (by kernel_rfl) (fun _ _ _ h => h) (Or.inl ⟨by rfl, ?_⟩) hHeld ?_
                      rotate_left
                      · (intro w hSw; obtain ⟨⟨hq1, hq2, hq3⟩, hq4, hq5, hq6⟩ := hSw; go_simp; try with_reducible rfl)
                      try simp only [Act.put, List.setIfInBounds_toArray, List.set_cons_zero, List.set_cons_succ]
                      refine wpAnyH_ready (rs := [11]) (by kernel_rfl) (by simp) ?_
                      refine (AllReadyH.cons (o := ⟨some 15, _, _, _, _, _⟩) rfl (fun K hK => ?_) AllReadyH.nil)
                      go_simp
                      refine hK.out _ _ (HSS.out _ (by first | exact (Fr.refl _ _).drew | exact ((Fr.refl _ _).alloc _).drew | exact ((Fr.refl _ _).drew).alloc _ | exact HF5.out | exact HF5.out.alloc _ | exact HF6.out | exact HF6.out.alloc _)) (fun hHeld => ?_)
                      clear hK K
                      try simp only [Act.put, List.setIfInBounds_toArray, List.set_cons_zero, List.set_cons_succ]
                      refine wpAnyH_ready (rs := [12]) (by kernel_rfl) (by simp) ?_
                      refine (AllReadyH.cons (o := ⟨none, _, _, _, _, _⟩) rfl (fun K hK => ?_) AllReadyH.nil)
                      go_simp
                      have HFz := Lib.hid (Blk.new w6 30 [.int .i64 a, .slice q1 n1 c1, .slice q2 m2 c2])
                      have HFf := Lib.hid (HF6.out.alloc (.cells #[.int .i64 a, .slice q1 n1 c1, .slice q2 m2 c2] 30))
                      have HR7 := Lib.hid (HR6.out.kept (below_al (Below.refl _ _) (.cells #[.int .i64 a, .slice q1 n1 c1, .slice q2 m2 c2] 30)))
                      have HL7 := Lib.hid (fun b9 h9 => Nat.lt_of_lt_of_le (HL6.out b9 h9) (below_al (Below.refl w6.heap.size w6) (.cells #[.int .i64 a, .slice q1 n1 c1, .slice q2 m2 c2] 30)).size)
                      have HQ7 : Hid (q2 = qp ∨ ∀ b9, q2 = some b9 → wr.heap.size ≤ b9.block) := Lib.hid (HQ6.out.imp id (fun h b9 h9 => by have := h b9 h9; have := HF5.out.size; have := HB5.out; omega))
                      refine hK.out _ _ (HSS.out _ HFf.out) (fun hHeld => ?_)
                      clear hK K
                      try simp only [Act.put, List.setIfInBounds_toArray, List.set_cons_zero, List.set_cons_succ]
                      refine wpAnyH_take (i := 13) (oi := ⟨some 16, _, _, _, _, _⟩) (v := ?_) rfl (by kernel_rfl) (by kernel_rfl) (by kernel_rfl) (fun _ _ _ h => h) (Or.inl ⟨by rfl, ?_⟩) hHeld ?_
                      rotate_left
                      · (intro w hSw; obtain ⟨⟨hq1, hq2, hq3⟩, hq4, hq5, hq6⟩ := hSw; go_simp; try with_reducible rfl)
                      try simp only [Act.put, List.setIfInBounds_toArray, List.set_cons_zero, List.set_cons_succ]
                      refine wpAnyH_take (i := 14) (oi := ⟨some 17, _, _, _, _, _⟩) (v := ?_) rfl (by kernel_rfl) (by kernel_rfl) (by kernel_rfl) (fun _ _ _ h => h) (Or.inl ⟨by rfl, ?_⟩) hHeld ?_
                      rotate_left
                      · (intro w hSw; obtain ⟨⟨hq1, hq2, hq3⟩, hq4, hq5, hq6⟩ := hSw; go_simp; try with_reducible rfl)
                      try simp only [Act.put, List.setIfInBounds_toArray, List.set_cons_zero, List.set_cons_succ]
                      refine wpAnyH_done (by kernel_rfl) ?_ _
                      refine NoPanic.normal ?_
                      clear hHeld
                      generalize (w6.alloc (.cells #[.int .i64 a, .slice q1 n1 c1, .slice q2 m2 c2] 30)) = w7 at *
                      have d0 := HFz.out.cell 0
                      have d1 := HFz.out.cell 1
                      have d2 := HFz.out.cell 2
                      have hg7 := HP.out.blk.fr HFf.out (fun h => h)
                      rw [HN.out, HM.out] at hg7
                      have u0 := hg7.cell 0
                      have u1 := hg7.cell 1
                      have u2 := hg7.cell 2
                      have v0 := hg7.free 0
                      have v1 := hg7.free 1
                      have v2 := hg7.free 2
                      simp only [List.getElem?_cons_zero, List.getElem?_cons_succ, List.set_cons_zero, List.set_cons_succ] at d0 d1 d2 u0 u1 u2
                      have HG8 := Lib.hid (((hg7.set_ 0 (.int .i64 a)).set_ 1 (.slice q1 n1 c1)).set_ 2 (.slice q2 m2 c2))
                      have hf8 := (((Fr.refl (fun x => x = g) w7).set ⟨g, 0, none⟩ (.int .i64 a) (.inl rfl)).set ⟨g, 1, none⟩ (.slice q1 n1 c1) (.inl rfl)).set ⟨g, 2, none⟩ (.slice q2 m2 c2) (.inl rfl)
                      have hf8' := Fr.trans (S := fun x => x = g) (Fr.mono HFf.out (fun x h => h.elim)) hf8 (fun x hx => .inl hx)
                      have HW8 := Lib.hid (Fr.below HP.out.below hf8' (fun x hx => by subst hx; exact HP.out.gg))
                      have HS8 := Lib.hid (HP.out.ss.fr hf8' (fun h => HP.out.gR h.symm) (fun h => HP.out.gb h.symm) (fun b9 h9 hx => HP.out.qg b9 h9 hx))
                      have HR8 := Lib.hid (HR7.out.fr hf8 (fun b9 h9 hx => by
                    rcases HQ7.out with h | h
                    · rw [h] at h9; exact (HP.out.rq b9 h9).2.1 hx
                    · have := h b9 h9; have := HP.out.blk.lt; omega))
                      have HL8 := Lib.hid (fun b9 h9 => Nat.lt_of_lt_of_le (HL7.out b9 h9) hf8.size)
                      clear HFz HFf HR7 HL7 hg7 hf8 hf8'
                      go_upto_region 26 with fail
                      clear d0 d1 d2 u0 u1 u2 v0 v1 v2
                      generalize (((w7.setCell ⟨g, 0, none⟩ (.int .i64 a)).setCell ⟨g, 1, none⟩ (.slice q1 n1 c1)).setCell ⟨g, 2, none⟩ (.slice q2 m2 c2)) = w8 at *
                      have HS26 := Lib.hid fun (w' : World) (hf : Fr (fun x => x = R ∨ x = b) w8 w') => (by
                        have hg := HG8.out.fr hf (fun hx => hx.elim HP.out.gR HP.out.gb)
                        have hw' := Fr.below HW8.out hf (fun x hx => hx.elim (fun e => e ▸ HP.out.r) (fun e => e ▸ HP.out.rb))
                        exact ⟨hg.cell 2, (hw'.cell (p := ⟨bt, ot + k * 3, none⟩) HBT.out).trans HC0.out, (hw'.cell (p := ⟨bt, ot + k * 3 + 1, none⟩) HBT.out).trans HC1.out, (hw'.cell (p := ⟨bt, ot + k * 3 + 2, none⟩) HBT.out).trans HC2.out⟩ : (w'.cell? ⟨g, 2, none⟩ = some (.slice q2 m2 c2) ∧ w'.cell? ⟨bt, ot + k * 3, none⟩ = some (.int .i64 xa) ∧ w'.cell? ⟨bt, ot + k * 3 + 1, none⟩ = some (.slice xq xn xc) ∧ w'.cell? ⟨bt, ot + k * 3 + 2, none⟩ = some (.int .u16 xb)))
                      refine wp_region_noPanic ?_
                      refine wp_region_held_drew (S := fun w' => w'.cell? ⟨g, 2, none⟩ = some (.slice q2 m2 c2) ∧ w'.cell? ⟨bt, ot + k * 3, none⟩ = some (.int .i64 xa) ∧ w'.cell? ⟨bt, ot + k * 3 + 1, none⟩ = some (.slice xq xn xc) ∧ w'.cell? ⟨bt, ot + k * 3 + 2, none⟩ = some (.int .u16 xb)) (by kernel_rfl) (HS26.out _ ((Fr.refl _ _).drew)) (fun hHeld => ?_)
                      refine wpAnyH_take (i := 0) (oi := ⟨some 114, _, _, _, _, _⟩) (v := ?_) rfl (by kernel_rfl) (by kernel_rfl) (by kernel_rfl) (fun _ _ _ h => h) (Or.inl ⟨by rfl, ?_⟩) hHeld ?_
                      rotate_left
                      · (intro w hSw; obtain ⟨hq1, hq2, hq3, hq4⟩ := hSw; go_simp; try with_reducible rfl)
                      try simp only [Act.put, List.setIfInBounds_toArray, List.set_cons_zero, List.set_cons_succ]
                      refine wpAnyH_take (i := 1) (oi := ⟨some 115, _, _, _, _, _⟩) (v := ?_) rfl (by kernel_rfl) (by kernel_rfl) (by kernel_rfl) (fun _ _ _ h => h) (Or.inl ⟨by rfl, ?_⟩) hHeld ?_
                      rotate_left
                      · (intro w hSw; obtain ⟨hq1, hq2, hq3, hq4⟩ := hSw; go_simp; try with_reducible rfl)
                      try simp only [Act.put, List.setIfInBounds_toArray, List.set_cons_zero, List.set_cons_succ]
                      refine wpAnyH_take (i := 2) (oi := ⟨some 116, _, _, _, _, _⟩) (v := ?_) rfl (by kernel_rfl) (by kernel_rfl) (by kernel_rfl) (fun _ _ _ h => h) (Or.inl ⟨by rfl, ?_⟩) hHeld ?_
                      rotate_left
                      · (intro w hSw; obtain ⟨hq1, hq2, hq3, hq4⟩ := hSw; go_simp; try with_reducible rfl)
                      try simp only [Act.put, List.setIfInBounds_toArray, List.set_cons_zero, List.set_cons_succ]
                      refine wpAnyH_take (i := 3) (oi := ⟨some 117, _, _, _, _, _⟩) (v := ?_) rfl (by kernel_rfl) (by kernel_rfl) (by kernel_rfl) (fun _ _ _ h => h) (Or.inl ⟨by rfl, ?_⟩) hHeld ?_
                      rotate_left
                      · (intro w hSw; obtain ⟨hq1, hq2, hq3, hq4⟩ := hSw; go_simp; try with_reducible rfl)
                      try simp only [Act.put, List.setIfInBounds_toArray, List.set_cons_zero, List.set_cons_succ]
                      refine wpAnyH_take (i := 4) (oi := ⟨some 118, _, _, _, _, _⟩) (v := ?_) rfl (by kernel_rfl) (by kernel_rfl) (by kernel_rfl) (fun _ _ _ h => h) (Or.inl ⟨by rfl, ?_⟩) hHeld ?_
                      rotate_left
                      · (intro w hSw; obtain ⟨hq1, hq2, hq3, hq4⟩ := hSw; go_simp; try with_reducible rfl)
                      try simp only [Act.put, List.setIfInBounds_toArray, List.set_cons_zero, List.set_cons_succ]
                      refine wpAnyH_take (i := 5) (oi := ⟨some 119, _, _, _, _, _⟩) (v := ?_) rfl (by kernel_rfl) (by kernel_rfl) (by kernel_rfl) (fun _ _ _ h => h) (Or.inl ⟨by rfl, ?_⟩) hHeld ?_
                      rotate_left
                      · (intro w hSw; obtain ⟨hq1, hq2, hq3, hq4⟩ := hSw; go_simp; try with_reducible rfl)
                      try simp only [Act.put, List.setIfInBounds_toArray, List.set_cons_zero, List.set_cons_succ]
                      refine wpAnyH_take (i := 6) (oi := ⟨some 120, _, _, _, _, _⟩) (v := ?_) rfl (by kernel_rfl) (by kernel_rfl) (by kernel_rfl) (fun _ _ _ h => h) (Or.inl ⟨by rfl, ?_⟩) hHeld ?_
                      rotate_left
                      · (intro w hSw; obtain ⟨hq1, hq2, hq3, hq4⟩ := hSw; go_simp; try with_reducible rfl)
                      try simp only [Act.put, List.setIfInBounds_toArray, List.set_cons_zero, List.set_cons_succ]
                      refine wpAnyH_ready (rs := [7]) (by kernel_rfl) (by simp) ?_
                      refine (AllReadyH.cons (o := ⟨some 121, _, _, _, _, _⟩) rfl (fun K hK => ?_) AllReadyH.nil)
                      go_simp
                      (refine (HEN.out w8.drew ⟨HW8.out.os, HW8.out.tape, HW8.out.output, HW8.out.size, HW8.out.block⟩).mono ?_; rintro e w9 ⟨p9, d9', rfl, hr9, hb9, -⟩)
                      have HB9 := Lib.hid (show Below w8.heap.size w8 w9 from ⟨hb9.os, hb9.tape, hb9.output, hb9.size, hb9.block⟩)
                      have HR9 := Lib.hid hr9
                      clear hr9 hb9
                      refine hK.out _ _ (HS26.out _ (Fr.of_below HB9.out _)) (fun hHeld => ?_)
                      clear hK K
                      try simp only [Act.put, List.setIfInBounds_toArray, List.set_cons_zero, List.set_cons_succ]
                      refine wpAnyH_ready (rs := [8]) (by kernel_rfl) (by simp) ?_
                      refine (AllReadyH.cons (o := ⟨some 122, _, _, _, _, _⟩) rfl (fun K hK => ?_) AllReadyH.nil)
                      go_simp
                      (refine (HPK.out _ (HS8.out.kept HB9.out) p9 d9' HR9.out).mono ?_; rintro e w10 ⟨rfl, hs10⟩)
                      have HS10 := Lib.hid hs10.1
                      have HF10 := Lib.hid (Fr.first HB9.out hs10.2)
                      clear hs10
                      refine hK.out _ _ (HS26.out _ HF10.out) (fun hHeld => ?_)
                      clear hK K
                      try simp only [Act.put, List.setIfInBounds_toArray, List.set_cons_zero, List.set_cons_succ]
                      refine wpAnyH_take (i := 9) (oi := ⟨some 123, _, _, _, _, _⟩) (v := ?_) rfl (by kernel_rfl) (by kernel_rfl) (by kernel_rfl) (fun _ _ _ h => h) (Or.inl ⟨by rfl, ?_⟩) hHeld ?_
                      rotate_left
                      · (intro w hSw; obtain ⟨hq1, hq2, hq3, hq4⟩ := hSw; go_simp; try with_reducible rfl)
                      try simp only [Act.put, List.setIfInBounds_toArray, List.set_cons_zero, List.set_cons_succ]
                      refine wpAnyH_take (i := 10) (oi := ⟨some 124, _, _, _, _, _⟩) (v := ?_) rfl (by kernel_rfl) (by kernel_rfl) (by kernel_rfl) (fun _ _ _ h => h) (Or.inl ⟨by rfl, ?_⟩) hHeld ?_
                      rotate_left
                      · (intro w hSw; obtain ⟨hq1, hq2, hq3, hq4⟩ := hSw; go_simp; try with_reducible rfl)
                      try simp only [Act.put, List.setIfInBounds_toArray, List.set_cons_zero, List.set_cons_succ]
                      refine wpAnyH_take (i := 11) (oi := ⟨some 125, _, _, _, _, _⟩) (v := ?_) rfl (by kernel_rfl) (by kernel_rfl) (by kernel_rfl) (fun _ _ _ h => h) (Or.inl ⟨by rfl, ?_⟩) hHeld ?_
                      rotate_left
                      · (intro w hSw; obtain ⟨hq1, hq2, hq3, hq4⟩ := hSw; go_simp; try with_reducible rfl)
                      try simp only [Act.put, List.setIfInBounds_toArray, List.set_cons_zero, List.set_cons_succ]
                      refine wpAnyH_take (i := 13) (oi := ⟨some 127, _, _, _, _, _⟩) (v := ?_) rfl (by kernel_rfl) (by kernel_rfl) (by kernel_rfl) (fun _ _ _ h => h) (Or.inl ⟨by rfl, ?_⟩) hHeld ?_
                      rotate_left
                      · (intro w hSw; obtain ⟨hq1, hq2, hq3, hq4⟩ := hSw; go_simp; try with_reducible rfl)
                      try simp only [Act.put, List.setIfInBounds_toArray, List.set_cons_zero, List.set_cons_succ]
                      refine wpAnyH_take (i := 14) (oi := ⟨some 128, _, _, _, _, _⟩) (v := ?_) rfl (by kernel_rfl) (by kernel_rfl) (by kernel_rfl) (fun _ _ _ h => h) (Or.inl ⟨by rfl, ?_⟩) hHeld ?_
                      rotate_left
                      · (intro w hSw; obtain ⟨hq1, hq2, hq3, hq4⟩ := hSw; go_simp; try with_reducible rfl)
                      try simp only [Act.put, List.setIfInBounds_toArray, List.set_cons_zero, List.set_cons_succ]
                      refine wpAnyH_take (i := 15) (oi := ⟨some 129, _, _, _, _, _⟩) (v := ?_) rfl (by kernel_rfl) (by kernel_rfl) (by kernel_rfl) (fun _ _ _ h => h) (Or.inl ⟨by rfl, ?_⟩) hHeld ?_
                      rotate_left
                      · (intro w hSw; obtain ⟨hq1, hq2, hq3, hq4⟩ := hSw; go_simp; try with_reducible rfl)
                      try simp only [Act.put, List.setIfInBounds_toArray, List.set_cons_zero, List.set_cons_succ]
                      refine wpAnyH_ready (rs := [12]) (by kernel_rfl) (by simp) ?_
                      refine (AllReadyH.cons (o := ⟨some 126, _, _, _, _, _⟩) rfl (fun K hK => ?_) AllReadyH.nil)
                      go_simp
                      (refine (turns_any HS10.out).mono ?_; rintro e w11 ⟨rfl, rfl⟩)
                      rw [HM2.out]
                      refine hK.out _ _ (HS26.out _ HF10.out) (fun hHeld => ?_)
                      clear hK K
                      try simp only [Act.put, List.setIfInBounds_toArray, List.set_cons_zero, List.set_cons_succ]
                      refine wpAnyH_take (i := 16) (oi := ⟨some 130, _, _, _, _, _⟩) (v := ?_) rfl (by kernel_rfl) (by kernel_rfl) (by kernel_rfl) (fun _ _ _ h => h) (Or.inl ⟨by rfl, ?_⟩) hHeld ?_
                      rotate_left
                      · (intro w hSw; obtain ⟨hq1, hq2, hq3, hq4⟩ := hSw; go_simp; try with_reducible rfl)
                      try simp only [Act.put, List.setIfInBounds_toArray, List.set_cons_zero, List.set_cons_succ]
                      refine wpAnyH_take (i := 17) (oi := ⟨some 131, _, _, _, _, _⟩) (v := ?_) rfl (by kernel_rfl) (by kernel_rfl) (by kernel_rfl) (fun _ _ _ h => h) (Or.inl ⟨by rfl, ?_⟩) hHeld ?_
                      rotate_left
                      · (intro w hSw; obtain ⟨hq1, hq2, hq3, hq4⟩ := hSw; go_simp; try with_reducible rfl)
                      try simp only [Act.put, List.setIfInBounds_toArray, List.set_cons_zero, List.set_cons_succ]
                      refine wpAnyH_done (by kernel_rfl) ?_ _
                      refine NoPanic.normal ?_
                      clear hHeld
                      go_wp2_with fail
                      go_roundw
                      case rel =>
                        refine ⟨k + 1, R, b, q9, d9, L2, q2, c2, by omega, by have := HLX.out; have := HM2.out; have := HM.out; omega, rfl, by go_num, Lib.hid ?_⟩
                        have hnRb : ∀ b9, q2 = some b9 → (b9.block ≠ R ∧ b9.block ≠ b) ∧ b9.block ≠ g := fun b9 h9 => by
                          have r1 := HP.out.ss.blk.lt
                          have r2 := HP.out.ss.mp.lt
                          have r3 := HP.out.blk.lt
                          rcases HQ7.out with h | h
                          · rw [h] at h9; have := HP.out.rq b9 h9; exact ⟨this.1, this.2.1⟩
                          · have := h b9 h9; omega
                        refine ⟨HS10.out, Fr.below HW8.out HF10.out (fun x hx => hx.elim (fun e => e ▸ HP.out.r) (fun e => e ▸ HP.out.rb)), HP.out.r, HP.out.rb, HP.out.gg, HP.out.gR, HP.out.gb, ?_, HR8.out.fr HF10.out (fun b9 h9 hx => hx.elim (hnRb b9 h9).1.1 (hnRb b9 h9).1.2), fun b9 h9 => ⟨(hnRb b9 h9).1, (hnRb b9 h9).2, Nat.lt_of_lt_of_le (HL8.out b9 h9) HF10.out.size⟩, HP.out.qg⟩
                        have := HG8.out.fr HF10.out (fun hx => hx.elim HP.out.gR HP.out.gb)
                        rw [← HN.out, ← HM2.out] at this
                        exact this
                      case measure => simp [intOf]; omega
                    · go_simp
                      have HZ := Lib.hid (Blk.new w5 30 [.int .i64 0, .slice none 0 0, .slice none 0 0])
                      refine hK.out _ _ (HSS.out _ (by first | exact (Fr.refl _ _).drew | exact ((Fr.refl _ _).alloc _).drew | exact ((Fr.refl _ _).drew).alloc _ | exact HF5.out | exact HF5.out.alloc _ | exact HF6.out | exact HF6.out.alloc _)) (fun hHeld => ?_)
                      clear hK K
                      try simp only [Act.put, List.setIfInBounds_toArray, List.set_cons_zero, List.set_cons_succ]
                      refine wpAnyH_ready (rs := [6]) (by kernel_rfl) (by simp) ?_
                      refine (AllReadyH.cons (o := ⟨some 109, _, _, _, _, _⟩) rfl (fun K hK => ?_) AllReadyH.nil)
                      go_simp
                      (refine (HNX.out _ (by first | exact (Fr.refl _ _).drew | exact ((Fr.refl _ _).alloc _).drew | exact ((Fr.refl _ _).drew).alloc _ | exact HF5.out | exact HF5.out.alloc _ | exact HF6.out | exact HF6.out.alloc _) p5 d5 (HR5.out.kept (below_al (Below.refl _ _) _))).mono ?_; rintro e w6 ⟨q2, c2, rfl, hr6, hl6, hb6, hq6⟩)
                      have HF6 := Lib.hid (Fr.step (show Fr (fun _ => False) wr _ from (by first | exact (Fr.refl _ _).drew | exact ((Fr.refl _ _).alloc _).drew | exact ((Fr.refl _ _).drew).alloc _ | exact HF5.out | exact HF5.out.alloc _ | exact HF6.out | exact HF6.out.alloc _)) hb6)
                      have HR6 := Lib.hid hr6
                      have HL6 := Lib.hid hl6
                      have HQ6 := Lib.hid hq6
                      have HB6 := Lib.hid hb6.size
                      have HZ6 := Lib.hid (HZ.out.kept hb6)
                      clear hr6 hl6 hb6 hq6
                      refine hK.out _ _ (HSS.out _ HF6.out) (fun hHeld => ?_)
                      clear hK K
                      try simp only [Act.put, List.setIfInBounds_toArray, List.set_cons_zero, List.set_cons_succ]
                      refine wpAnyH_take (i := 7) (oi := ⟨some 102, _, _, _, _, _⟩) (v := ?_) rfl (by kernel_rfl) (by kernel_rfl) (by kernel_rfl) (fun _ _ _ h => h) (Or.inl ⟨by rfl, ?_⟩) hHeld ?_
                      rotate_left
                      · (intro w hSw; obtain ⟨⟨hq1, hq2, hq3⟩, hq4, hq5, hq6⟩ := hSw; go_simp; try with_reducible rfl)
                      try simp only [Act.put, List.setIfInBounds_toArray, List.set_cons_zero, List.set_cons_succ]
                      refine wpAnyH_take (i := 8) (oi := ⟨some 110, _, _, _, _, _⟩) (v := ?_) rfl (by kernel_rfl) (by kernel_rfl) (by kernel_rfl) (fun _ _ _ h => h) (Or.inl ⟨by rfl, ?_⟩) hHeld ?_
                      rotate_left
                      · (intro w hSw; obtain ⟨⟨hq1, hq2, hq3⟩, hq4, hq5, hq6⟩ := hSw; go_simp; try with_reducible rfl)
                      try simp only [Act.put, List.setIfInBounds_toArray, List.set_cons_zero, List.set_cons_succ]
                      refine wpAnyH_take (i := 9) (oi := ⟨some 111, _, _, _, _, _⟩) (v := ?_) rfl (by kernel_rfl) (by kernel_rfl) (by kernel_rfl) (fun _ _ _ h => h) (Or.inl ⟨by rfl, ?_⟩) hHeld ?_
                      rotate_left
                      · (intro w hSw; obtain ⟨⟨hq1, hq2, hq3⟩, hq4, hq5, hq6⟩ := hSw; go_simp; try with_reducible rfl)
                      try simp only [Act.put, List.setIfInBounds_toArray, List.set_cons_zero, List.set_cons_succ]
                      refine wpAnyH_take (i := 10) (oi := ⟨some 112, _, _, _, _, _⟩) (v := ?_) rfl (by kernel_rfl) (by kernel_rfl) (by kernel_rfl) (fun _ _ _ h => h) (Or.inl ⟨by rfl, ?_⟩) hHeld ?_
                      rotate_left
                      · (intro w hSw; obtain ⟨⟨hq1, hq2, hq3⟩, hq4, hq5, hq6⟩ := hSw; go_simp; try with_reducible rfl)
                      try simp only [Act.put, List.setIfInBounds_toArray, List.set_cons_zero, List.set_cons_succ]
                      refine wpAnyH_ready (rs := [12]) (by kernel_rfl) (by simp) ?_
                      refine (AllReadyH.cons (o := ⟨none, _, _, _, _, _⟩) rfl (fun K hK => ?_) AllReadyH.nil)
                      have z0 := HZ6.out.cell 0
                      have z1 := HZ6.out.cell 1
                      have z2 := HZ6.out.cell 2
                      have y0 := HZ6.out.free 0
                      have y1 := HZ6.out.free 1
                      have y2 := HZ6.out.free 2
                      simp only [List.getElem?_cons_zero, List.getElem?_cons_succ] at z0 z1 z2
                      go_simp
                      clear z0 z1 z2 y0 y1 y2
                      have HFz := Lib.hid (((HZ6.out.set_ 0 (.int .i64 a)).set_ 1 (.slice q1 n1 c1)).set_ 2 (.slice q2 m2 c2))
                      have hfz := (((Fr.refl (fun x => x = w5.heap.size) w6).set ⟨w5.heap.size, 0, none⟩ (.int .i64 a) (.inl rfl)).set ⟨w5.heap.size, 1, none⟩ (.slice q1 n1 c1) (.inl rfl)).set ⟨w5.heap.size, 2, none⟩ (.slice q2 m2 c2) (.inl rfl)
                      have HFf := Lib.hid (Fr.trans HF6.out hfz (fun x hx => .inr (by have := HF5.out.size; omega)))
                      have HR7 := Lib.hid (HR6.out.fr hfz (fun b9 h9 hx => by
                    rcases HQ6.out with h | h
                    · rw [h] at h9; have := (HP.out.rq b9 h9).2.2; have := HF5.out.size; omega
                    · have := h b9 h9; (try simp at this); have := HB5.out; (try simp at this); omega))
                      have HL7 := Lib.hid (fun b9 h9 => Nat.lt_of_lt_of_le (HL6.out b9 h9) hfz.size)
                      have HQ7 : Hid (q2 = qp ∨ ∀ b9, q2 = some b9 → wr.heap.size ≤ b9.block) := Lib.hid (HQ6.out.imp id (fun h b9 h9 => by (have := h b9 h9; try simp at this); have := HF5.out.size; have := HB5.out; omega))
                      clear hfz
                      refine hK.out _ _ (HSS.out _ HFf.out) (fun hHeld => ?_)
                      clear hK K
                      try simp only [Act.put, List.setIfInBounds_toArray, List.set_cons_zero, List.set_cons_succ]
                      refine wpAnyH_take (i := 13) (oi := ⟨some 16, _, _, _, _, _⟩) (v := ?_) rfl (by kernel_rfl) (by kernel_rfl) (by kernel_rfl) (fun _ _ _ h => h) (Or.inl ⟨by rfl, ?_⟩) hHeld ?_
                      rotate_left
                      · (intro w hSw; obtain ⟨⟨hq1, hq2, hq3⟩, hq4, hq5, hq6⟩ := hSw; go_simp; try with_reducible rfl)
                      try simp only [Act.put, List.setIfInBounds_toArray, List.set_cons_zero, List.set_cons_succ]
                      refine wpAnyH_take (i := 14) (oi := ⟨some 17, _, _, _, _, _⟩) (v := ?_) rfl (by kernel_rfl) (by kernel_rfl) (by kernel_rfl) (fun _ _ _ h => h) (Or.inl ⟨by rfl, ?_⟩) hHeld ?_
                      rotate_left
                      · (intro w hSw; obtain ⟨⟨hq1, hq2, hq3⟩, hq4, hq5, hq6⟩ := hSw; go_simp; try with_reducible rfl)
                      try simp only [Act.put, List.setIfInBounds_toArray, List.set_cons_zero, List.set_cons_succ]
                      refine wpAnyH_done (by kernel_rfl) ?_ _
                      refine NoPanic.normal ?_
                      clear hHeld
                      generalize (((w6.setCell ⟨w5.heap.size, 0, none⟩ (.int .i64 a)).setCell ⟨w5.heap.size, 1, none⟩ (.slice q1 n1 c1)).setCell ⟨w5.heap.size, 2, none⟩ (.slice q2 m2 c2)) = w7 at *
                      have d0 := HFz.out.cell 0
                      have d1 := HFz.out.cell 1
                      have d2 := HFz.out.cell 2
                      have hg7 := HP.out.blk.fr HFf.out (fun h => h)
                      rw [HN.out, HM.out] at hg7
                      have u0 := hg7.cell 0
                      have u1 := hg7.cell 1
                      have u2 := hg7.cell 2
                      have v0 := hg7.free 0
                      have v1 := hg7.free 1
                      have v2 := hg7.free 2
                      simp only [List.getElem?_cons_zero, List.getElem?_cons_succ, List.set_cons_zero, List.set_cons_succ] at d0 d1 d2 u0 u1 u2
                      have HG8 := Lib.hid (((hg7.set_ 0 (.int .i64 a)).set_ 1 (.slice q1 n1 c1)).set_ 2 (.slice q2 m2 c2))
                      have hf8 := (((Fr.refl (fun x => x = g) w7).set ⟨g, 0, none⟩ (.int .i64 a) (.inl rfl)).set ⟨g, 1, none⟩ (.slice q1 n1 c1) (.inl rfl)).set ⟨g, 2, none⟩ (.slice q2 m2 c2) (.inl rfl)
                      have hf8' := Fr.trans (S := fun x => x = g) (Fr.mono HFf.out (fun x h => h.elim)) hf8 (fun x hx => .inl hx)
                      have HW8 := Lib.hid (Fr.below HP.out.below hf8' (fun x hx => by subst hx; exact HP.out.gg))
                      have HS8 := Lib.hid (HP.out.ss.fr hf8' (fun h => HP.out.gR h.symm) (fun h => HP.out.gb h.symm) (fun b9 h9 hx => HP.out.qg b9 h9 hx))
                      have HR8 := Lib.hid (HR7.out.fr hf8 (fun b9 h9 hx => by
                    rcases HQ7.out with h | h
                    · rw [h] at h9; exact (HP.out.rq b9 h9).2.1 hx
                    · have := h b9 h9; have := HP.out.blk.lt; omega))
                      have HL8 := Lib.hid (fun b9 h9 => Nat.lt_of_lt_of_le (HL7.out b9 h9) hf8.size)
                      clear HFz HFf HR7 HL7 hg7 hf8 hf8'
                      go_upto_region 26 with fail
                      clear d0 d1 d2 u0 u1 u2 v0 v1 v2
                      generalize (((w7.setCell ⟨g, 0, none⟩ (.int .i64 a)).setCell ⟨g, 1, none⟩ (.slice q1 n1 c1)).setCell ⟨g, 2, none⟩ (.slice q2 m2 c2)) = w8 at *
                      have HS26 := Lib.hid fun (w' : World) (hf : Fr (fun x => x = R ∨ x = b) w8 w') => (by
                        have hg := HG8.out.fr hf (fun hx => hx.elim HP.out.gR HP.out.gb)
                        have hw' := Fr.below HW8.out hf (fun x hx => hx.elim (fun e => e ▸ HP.out.r) (fun e => e ▸ HP.out.rb))
                        exact ⟨hg.cell 2, (hw'.cell (p := ⟨bt, ot + k * 3, none⟩) HBT.out).trans HC0.out, (hw'.cell (p := ⟨bt, ot + k * 3 + 1, none⟩) HBT.out).trans HC1.out, (hw'.cell (p := ⟨bt, ot + k * 3 + 2, none⟩) HBT.out).trans HC2.out⟩ : (w'.cell? ⟨g, 2, none⟩ = some (.slice q2 m2 c2) ∧ w'.cell? ⟨bt, ot + k * 3, none⟩ = some (.int .i64 xa) ∧ w'.cell? ⟨bt, ot + k * 3 + 1, none⟩ = some (.slice xq xn xc) ∧ w'.cell? ⟨bt, ot + k * 3 + 2, none⟩ = some (.int .u16 xb)))
                      refine wp_region_noPanic ?_
                      refine wp_region_held_drew (S := fun w' => w'.cell? ⟨g, 2, none⟩ = some (.slice q2 m2 c2) ∧ w'.cell? ⟨bt, ot + k * 3, none⟩ = some (.int .i64 xa) ∧ w'.cell? ⟨bt, ot + k * 3 + 1, none⟩ = some (.slice xq xn xc) ∧ w'.cell? ⟨bt, ot + k * 3 + 2, none⟩ = some (.int .u16 xb)) (by kernel_rfl) (HS26.out _ ((Fr.refl _ _).drew)) (fun hHeld => ?_)
                      refine wpAnyH_take (i := 0) (oi := ⟨some 114, _, _, _, _, _⟩) (v := ?_) rfl (by kernel_rfl) (by kernel_rfl) (by kernel_rfl) (fun _ _ _ h => h) (Or.inl ⟨by rfl, ?_⟩) hHeld ?_
                      rotate_left
                      · (intro w hSw; obtain ⟨hq1, hq2, hq3, hq4⟩ := hSw; go_simp; try with_reducible rfl)
                      try simp only [Act.put, List.setIfInBounds_toArray, List.set_cons_zero, List.set_cons_succ]
                      refine wpAnyH_take (i := 1) (oi := ⟨some 115, _, _, _, _, _⟩) (v := ?_) rfl (by kernel_rfl) (by kernel_rfl) (by kernel_rfl) (fun _ _ _ h => h) (Or.inl ⟨by rfl, ?_⟩) hHeld ?_
                      rotate_left
                      · (intro w hSw; obtain ⟨hq1, hq2, hq3, hq4⟩ := hSw; go_simp; try with_reducible rfl)
                      try simp only [Act.put, List.setIfInBounds_toArray, List.set_cons_zero, List.set_cons_succ]
                      refine wpAnyH_take (i := 2) (oi := ⟨some 116, _, _, _, _, _⟩) (v := ?_) rfl (by kernel_rfl) (by kernel_rfl) (by kernel_rfl) (fun _ _ _ h => h) (Or.inl ⟨by rfl, ?_⟩) hHeld ?_
                      rotate_left
                      · (intro w hSw; obtain ⟨hq1, hq2, hq3, hq4⟩ := hSw; go_simp; try with_reducible rfl)
                      try simp only [Act.put, List.setIfInBounds_toArray, List.set_cons_zero, List.set_cons_succ]
                      refine wpAnyH_take (i := 3) (oi := ⟨some 117, _, _, _, _, _⟩) (v := ?_) rfl (by kernel_rfl) (by kernel_rfl) (by kernel_rfl) (fun _ _ _ h => h) (Or.inl ⟨by rfl, ?_⟩) hHeld ?_
                      rotate_left
                      · (intro w hSw; obtain ⟨hq1, hq2, hq3, hq4⟩ := hSw; go_simp; try with_reducible rfl)
                      try simp only [Act.put, List.setIfInBounds_toArray, List.set_cons_zero, List.set_cons_succ]
                      refine wpAnyH_take (i := 4) (oi := ⟨some 118, _, _, _, _, _⟩) (v := ?_) rfl (by kernel_rfl) (by kernel_rfl) (by kernel_rfl) (fun _ _ _ h => h) (Or.inl ⟨by rfl, ?_⟩) hHeld ?_
                      rotate_left
                      · (intro w hSw; obtain ⟨hq1, hq2, hq3, hq4⟩ := hSw; go_simp; try with_reducible rfl)
                      try simp only [Act.put, List.setIfInBounds_toArray, List.set_cons_zero, List.set_cons_succ]
                      refine wpAnyH_take (i := 5) (oi := ⟨some 119, _, _, _, _, _⟩) (v := ?_) rfl (by kernel_rfl) (by kernel_rfl) (by kernel_rfl) (fun _ _ _ h => h) (Or.inl ⟨by rfl, ?_⟩) hHeld ?_
                      rotate_left
                      · (intro w hSw; obtain ⟨hq1, hq2, hq3, hq4⟩ := hSw; go_simp; try with_reducible rfl)
                      try simp only [Act.put, List.setIfInBounds_toArray, List.set_cons_zero, List.set_cons_succ]
                      refine wpAnyH_take (i := 6) (oi := ⟨some 120, _, _, _, _, _⟩) (v := ?_) rfl (by kernel_rfl) (by kernel_rfl) (by kernel_rfl) (fun _ _ _ h => h) (Or.inl ⟨by rfl, ?_⟩) hHeld ?_
                      rotate_left
                      · (intro w hSw; obtain ⟨hq1, hq2, hq3, hq4⟩ := hSw; go_simp; try with_reducible rfl)
                      try simp only [Act.put, List.setIfInBounds_toArray, List.set_cons_zero, List.set_cons_succ]
                      refine wpAnyH_ready (rs := [7]) (by kernel_rfl) (by simp) ?_
                      refine (AllReadyH.cons (o := ⟨some 121, _, _, _, _, _⟩) rfl (fun K hK => ?_) AllReadyH.nil)
                      go_simp
                      (refine (HEN.out w8.drew ⟨HW8.out.os, HW8.out.tape, HW8.out.output, HW8.out.size, HW8.out.block⟩).mono ?_; rintro e w9 ⟨p9, d9', rfl, hr9, hb9, -⟩)
                      have HB9 := Lib.hid (show Below w8.heap.size w8 w9 from ⟨hb9.os, hb9.tape, hb9.output, hb9.size, hb9.block⟩)
                      have HR9 := Lib.hid hr9
                      clear hr9 hb9
                      refine hK.out _ _ (HS26.out _ (Fr.of_below HB9.out _)) (fun hHeld => ?_)
                      clear hK K
                      try simp only [Act.put, List.setIfInBounds_toArray, List.set_cons_zero, List.set_cons_succ]
                      refine wpAnyH_ready (rs := [8]) (by kernel_rfl) (by simp) ?_
                      refine (AllReadyH.cons (o := ⟨some 122, _, _, _, _, _⟩) rfl (fun K hK => ?_) AllReadyH.nil)
                      go_simp
                      (refine (HPK.out _ (HS8.out.kept HB9.out) p9 d9' HR9.out).mono ?_; rintro e w10 ⟨rfl, hs10⟩)
                      have HS10 := Lib.hid hs10.1
                      have HF10 := Lib.hid (Fr.first HB9.out hs10.2)
                      clear hs10
                      refine hK.out _ _ (HS26.out _ HF10.out) (fun hHeld => ?_)
                      clear hK K
                      try simp only [Act.put, List.setIfInBounds_toArray, List.set_cons_zero, List.set_cons_succ]
                      refine wpAnyH_take (i := 9) (oi := ⟨some 123, _, _, _, _, _⟩) (v := ?_) rfl (by kernel_rfl) (by kernel_rfl) (by kernel_rfl) (fun _ _ _ h => h) (Or.inl ⟨by rfl, ?_⟩) hHeld ?_
                      rotate_left
                      · (intro w hSw; obtain ⟨hq1, hq2, hq3, hq4⟩ := hSw; go_simp; try with_reducible rfl)
                      try simp only [Act.put, List.setIfInBounds_toArray, List.set_cons_zero, List.set_cons_succ]
                      refine wpAnyH_take (i := 10) (oi := ⟨some 124, _, _, _, _, _⟩) (v := ?_) rfl (by kernel_rfl) (by kernel_rfl) (by kernel_rfl) (fun _ _ _ h => h) (Or.inl ⟨by rfl, ?_⟩) hHeld ?_
                      rotate_left
                      · (intro w hSw; obtain ⟨hq1, hq2, hq3, hq4⟩ := hSw; go_simp; try with_reducible rfl)
                      try simp only [Act.put, List.setIfInBounds_toArray, List.set_cons_zero, List.set_cons_succ]
                      refine wpAnyH_take (i := 11) (oi := ⟨some 125, _, _, _, _, _⟩) (v := ?_) rfl (by kernel_rfl) (by kernel_rfl) (by kernel_rfl) (fun _ _ _ h => h) (Or.inl ⟨by rfl, ?_⟩) hHeld ?_
                      rotate_left
                      · (intro w hSw; obtain ⟨hq1, hq2, hq3, hq4⟩ := hSw; go_simp; try with_reducible rfl)
                      try simp only [Act.put, List.setIfInBounds_toArray, List.set_cons_zero, List.set_cons_succ]
                      refine wpAnyH_take (i := 13) (oi := ⟨some 127, _, _, _, _, _⟩) (v := ?_) rfl (by kernel_rfl) (by kernel_rfl) (by kernel_rfl) (fun _ _ _ h => h) (Or.inl ⟨by rfl, ?_⟩) hHeld ?_
                      rotate_left
                      · (intro w hSw; obtain ⟨hq1, hq2, hq3, hq4⟩ := hSw; go_simp; try with_reducible rfl)
                      try simp only [Act.put, List.setIfInBounds_toArray, List.set_cons_zero, List.set_cons_succ]
                      refine wpAnyH_take (i := 14) (oi := ⟨some 128, _, _, _, _, _⟩) (v := ?_) rfl (by kernel_rfl) (by kernel_rfl) (by kernel_rfl) (fun _ _ _ h => h) (Or.inl ⟨by rfl, ?_⟩) hHeld ?_
                      rotate_left
                      · (intro w hSw; obtain ⟨hq1, hq2, hq3, hq4⟩ := hSw; go_simp; try with_reducible rfl)
                      try simp only [Act.put, List.setIfInBounds_toArray, List.set_cons_zero, List.set_cons_succ]
                      refine wpAnyH_take (i := 15) (oi := ⟨some 129, _, _, _, _, _⟩) (v := ?_) rfl (by kernel_rfl) (by kernel_rfl) (by kernel_rfl) (fun _ _ _ h => h) (Or.inl ⟨by rfl, ?_⟩) hHeld ?_
                      rotate_left
                      · (intro w hSw; obtain ⟨hq1, hq2, hq3, hq4⟩ := hSw; go_simp; try with_reducible rfl)
                      try simp only [Act.put, List.setIfInBounds_toArray, List.set_cons_zero, List.set_cons_succ]
                      refine wpAnyH_ready (rs := [12]) (by kernel_rfl) (by simp) ?_
                      refine (AllReadyH.cons (o := ⟨some 126, _, _, _, _, _⟩) rfl (fun K hK => ?_) AllReadyH.nil)
                      go_simp
                      (refine (turns_any HS10.out).mono ?_; rintro e w11 ⟨rfl, rfl⟩)
                      rw [HM2.out]
                      refine hK.out _ _ (HS26.out _ HF10.out) (fun hHeld => ?_)
                      clear hK K
                      try simp only [Act.put, List.setIfInBounds_toArray, List.set_cons_zero, List.set_cons_succ]
                      refine wpAnyH_take (i := 16) (oi := ⟨some 130, _, _, _, _, _⟩) (v := ?_) rfl (by kernel_rfl) (by kernel_rfl) (by kernel_rfl) (fun _ _ _ h => h) (Or.inl ⟨by rfl, ?_⟩) hHeld ?_
                      rotate_left
                      · (intro w hSw; obtain ⟨hq1, hq2, hq3, hq4⟩ := hSw; go_simp; try with_reducible rfl)
                      try simp only [Act.put, List.setIfInBounds_toArray, List.set_cons_zero, List.set_cons_succ]
                      refine wpAnyH_take (i := 17) (oi := ⟨some 131, _, _, _, _, _⟩) (v := ?_) rfl (by kernel_rfl) (by kernel_rfl) (by kernel_rfl) (fun _ _ _ h => h) (Or.inl ⟨by rfl, ?_⟩) hHeld ?_
                      rotate_left
                      · (intro w hSw; obtain ⟨hq1, hq2, hq3, hq4⟩ := hSw; go_simp; try with_reducible rfl)
                      try simp only [Act.put, List.setIfInBounds_toArray, List.set_cons_zero, List.set_cons_succ]
                      refine wpAnyH_done (by kernel_rfl) ?_ _
                      refine NoPanic.normal ?_
                      clear hHeld
                      go_wp2_with fail
                      go_roundw
                      case rel =>
                        refine ⟨k + 1, R, b, q9, d9, L2, q2, c2, by omega, by have := HLX.out; have := HM2.out; have := HM.out; omega, rfl, by go_num, Lib.hid ?_⟩
                        have hnRb : ∀ b9, q2 = some b9 → (b9.block ≠ R ∧ b9.block ≠ b) ∧ b9.block ≠ g := fun b9 h9 => by
                          have r1 := HP.out.ss.blk.lt
                          have r2 := HP.out.ss.mp.lt
                          have r3 := HP.out.blk.lt
                          rcases HQ7.out with h | h
                          · rw [h] at h9; have := HP.out.rq b9 h9; exact ⟨this.1, this.2.1⟩
                          · have := h b9 h9; omega
                        refine ⟨HS10.out, Fr.below HW8.out HF10.out (fun x hx => hx.elim (fun e => e ▸ HP.out.r) (fun e => e ▸ HP.out.rb)), HP.out.r, HP.out.rb, HP.out.gg, HP.out.gR, HP.out.gb, ?_, HR8.out.fr HF10.out (fun b9 h9 hx => hx.elim (hnRb b9 h9).1.1 (hnRb b9 h9).1.2), fun b9 h9 => ⟨(hnRb b9 h9).1, (hnRb b9 h9).2, Nat.lt_of_lt_of_le (HL8.out b9 h9) HF10.out.size⟩, HP.out.qg⟩
                        have := HG8.out.fr HF10.out (fun hx => hx.elim HP.out.gR HP.out.gb)
                        rw [← HN.out, ← HM2.out] at this
                        exact this
                      case measure => simp [intOf]; omega
                  · go_simp
                    have HZ := Lib.hid (show Blk (wr.alloc (.cells #[.int .i64 0, .slice none 0 0, .slice none 0 0] 30)).drew wr.heap.size 30 [.int .i64 0, .slice none 0 0, .slice none 0 0] from Blk.new wr 30 [.int .i64 0, .slice none 0 0, .slice none 0 0])
                    refine hK.out _ _ (HSS.out _ (by first | exact (Fr.refl _ _).drew | exact ((Fr.refl _ _).alloc _).drew | exact ((Fr.refl _ _).drew).alloc _ | exact HF5.out | exact HF5.out.alloc _ | exact HF6.out | exact HF6.out.alloc _)) (fun hHeld => ?_)
                    clear hK K
                    try simp only [Act.put, List.setIfInBounds_toArray, List.set_cons_zero, List.set_cons_succ]
                    refine wpAnyH_ready (rs := [5]) (by kernel_rfl) (by simp) ?_
                    refine (AllReadyH.cons (o := ⟨some 108, _, _, _, _, _⟩) rfl (fun K hK => ?_) AllReadyH.nil)
                    go_simp
                    (refine (HEN.out _ (Fr.below HP.out.below (S := fun _ => False) (by first | exact (Fr.refl _ _).drew | exact ((Fr.refl _ _).alloc _).drew | exact ((Fr.refl _ _).drew).alloc _ | exact HF5.out | exact HF5.out.alloc _ | exact HF6.out | exact HF6.out.alloc _) (fun _ h => h.elim))).mono ?_; rintro e w5 ⟨p5, d5, rfl, hr5, hb5, -⟩)
                    have HF5 := Lib.hid (Fr.step (show Fr (fun _ => False) wr _ from (by first | exact (Fr.refl _ _).drew | exact ((Fr.refl _ _).alloc _).drew | exact ((Fr.refl _ _).drew).alloc _ | exact HF5.out | exact HF5.out.alloc _ | exact HF6.out | exact HF6.out.alloc _)) hb5)
                    have HR5 := Lib.hid hr5
                    have HB5 := Lib.hid hb5.size
                    have HZ5 := Lib.hid (HZ.out.kept hb5)
                    clear hr5 hb5
                    refine hK.out _ _ (HSS.out _ HF5.out) (fun hHeld => ?_)
                    clear hK K
                    try simp only [Act.put, List.setIfInBounds_toArray, List.set_cons_zero, List.set_cons_succ]
                    refine wpAnyH_ready (rs := [6]) (by kernel_rfl) (by simp) ?_
                    refine (AllReadyH.cons (o := ⟨some 109, _, _, _, _, _⟩) rfl (fun K hK => ?_) AllReadyH.nil)
                    go_simp
                    (refine (HNX.out _ (by first | exact (Fr.refl _ _).drew | exact ((Fr.refl _ _).alloc _).drew | exact ((Fr.refl _ _).drew).alloc _ | exact HF5.out | exact HF5.out.alloc _ | exact HF6.out | exact HF6.out.alloc _) p5 d5 HR5.out).mono ?_; rintro e w6 ⟨q2, c2, rfl, hr6, hl6, hb6, hq6⟩)
                    have HF6 := Lib.hid (Fr.step (show Fr (fun _ => False) wr _ from (by first | exact (Fr.refl _ _).drew | exact ((Fr.refl _ _).alloc _).drew | exact ((Fr.refl _ _).drew).alloc _ | exact HF5.out | exact HF5.out.alloc _ | exact HF6.out | exact HF6.out.alloc _)) hb6)
                    have HR6 := Lib.hid hr6
                    have HL6 := Lib.hid hl6
                    have HQ6 := Lib.hid hq6
                    have HB6 := Lib.hid hb6.size
                    have HZ6 := Lib.hid (HZ5.out.kept hb6)
                    clear hr6 hl6 hb6 hq6
                    refine hK.out _ _ (HSS.out _ HF6.out) (fun hHeld => ?_)
                    clear hK K
                    try simp only [Act.put, List.setIfInBounds_toArray, List.set_cons_zero, List.set_cons_succ]
                    refine wpAnyH_take (i := 7) (oi := ⟨some 102, _, _, _, _, _⟩) (v := ?_) rfl (by kernel_rfl) (by kernel_rfl) (by kernel_rfl) (fun _ _ _ h => h) (Or.inl ⟨by rfl, ?_⟩) hHeld ?_
                    rotate_left
                    · (intro w hSw; obtain ⟨⟨hq1, hq2, hq3⟩, hq4, hq5, hq6⟩ := hSw; go_simp; try with_reducible rfl)
                    try simp only [Act.put, List.setIfInBounds_toArray, List.set_cons_zero, List.set_cons_succ]
                    refine wpAnyH_take (i := 8) (oi := ⟨some 110, _, _, _, _, _⟩) (v := ?_) rfl (by kernel_rfl) (by kernel_rfl) (by kernel_rfl) (fun _ _ _ h => h) (Or.inl ⟨by rfl, ?_⟩) hHeld ?_
                    rotate_left
                    · (intro w hSw; obtain ⟨⟨hq1, hq2, hq3⟩, hq4, hq5, hq6⟩ := hSw; go_simp; try with_reducible rfl)
                    try simp only [Act.put, List.setIfInBounds_toArray, List.set_cons_zero, List.set_cons_succ]
                    refine wpAnyH_take (i := 9) (oi := ⟨some 111, _, _, _, _, _⟩) (v := ?_) rfl (by kernel_rfl) (by kernel_rfl) (by kernel_rfl) (fun _ _ _ h => h) (Or.inl ⟨by rfl, ?_⟩) hHeld ?_
                    rotate_left
                    · (intro w hSw; obtain ⟨⟨hq1, hq2, hq3⟩, hq4, hq5, hq6⟩ := hSw; go_simp; try with_reducible rfl)
                    try simp only [Act.put, List.setIfInBounds_toArray, List.set_cons_zero, List.set_cons_succ]
                    refine wpAnyH_take (i := 10) (oi := ⟨some 112, _, _, _, _, _⟩) (v := ?_) rfl (by kernel_rfl) (by kernel_rfl) (by kernel_rfl) (fun _ _ _ h => h) (Or.inl ⟨by rfl, ?_⟩) hHeld ?_
                    rotate_left
                    · (intro w hSw; obtain ⟨⟨hq1, hq2, hq3⟩, hq4, hq5, hq6⟩ := hSw; go_simp; try with_reducible rfl)
                    try simp only [Act.put, List.setIfInBounds_toArray, List.set_cons_zero, List.set_cons_succ]
                    refine wpAnyH_ready (rs := [12]) (by kernel_rfl) (by simp) ?_
                    refine (AllReadyH.cons (o := ⟨none, _, _, _, _, _⟩) rfl (fun K hK => ?_) AllReadyH.nil)
                    have z0 := HZ6.out.cell 0
                    have z1 := HZ6.out.cell 1
                    have z2 := HZ6.out.cell 2
                    have y0 := HZ6.out.free 0
                    have y1 := HZ6.out.free 1
                    have y2 := HZ6.out.free 2
                    simp only [List.getElem?_cons_zero, List.getElem?_cons_succ] at z0 z1 z2
                    go_simp
                    clear z0 z1 z2 y0 y1 y2
                    have HFz := Lib.hid (((HZ6.out.set_ 0 (.int .i64 a)).set_ 1 (.slice q1 n1 c1)).set_ 2 (.slice q2 m2 c2))
                    have hfz := (((Fr.refl (fun x => x = wr.heap.size) w6).set ⟨wr.heap.size, 0, none⟩ (.int .i64 a) (.inl rfl)).set ⟨wr.heap.size, 1, none⟩ (.slice q1 n1 c1) (.inl rfl)).set ⟨wr.heap.size, 2, none⟩ (.slice q2 m2 c2) (.inl rfl)
                    have HFf := Lib.hid (Fr.trans HF6.out hfz (fun x hx => .inr (by have := HF5.out.size; omega)))
                    have HR7 := Lib.hid (HR6.out.fr hfz (fun b9 h9 hx => by
                    rcases HQ6.out with h | h
                    · rw [h] at h9; have := (HP.out.rq b9 h9).2.2; have := HF5.out.size; omega
                    · have := h b9 h9; (try simp at this); have := HB5.out; (try simp at this); omega))
                    have HL7 := Lib.hid (fun b9 h9 => Nat.lt_of_lt_of_le (HL6.out b9 h9) hfz.size)
                    have HQ7 : Hid (q2 = qp ∨ ∀ b9, q2 = some b9 → wr.heap.size ≤ b9.block) := Lib.hid (HQ6.out.imp id (fun h b9 h9 => by (have := h b9 h9; try simp at this); have := HF5.out.size; have := HB5.out; omega))
                    clear hfz
                    refine hK.out _ _ (HSS.out _ HFf.out) (fun hHeld => ?_)
                    clear hK K
                    try simp only [Act.put, List.setIfInBounds_toArray, List.set_cons_zero, List.set_cons_succ]
                    refine wpAnyH_take (i := 13) (oi := ⟨some 16, _, _, _, _, _⟩) (v := ?_) rfl (by kernel_rfl) (by kernel_rfl) (by kernel_rfl) (fun _ _ _ h => h) (Or.inl ⟨by rfl, ?_⟩) hHeld ?_
                    rotate_left
                    · (intro w hSw; obtain ⟨⟨hq1, hq2, hq3⟩, hq4, hq5, hq6⟩ := hSw; go_simp; try with_reducible rfl)
                    try simp only [Act.put, List.setIfInBounds_toArray, List.set_cons_zero, List.set_cons_succ]
                    refine wpAnyH_take (i := 14) (oi := ⟨some 17, _, _, _, _, _⟩) (v := ?_) rfl (by kernel_rfl) (by kernel_rfl) (by kernel_rfl) (fun _ _ _ h => h) (Or.inl ⟨by rfl, ?_⟩) hHeld ?_
                    rotate_left
                    · (intro w hSw; obtain ⟨⟨hq1, hq2, hq3⟩, hq4, hq5, hq6⟩ := hSw; go_simp; try with_reducible rfl)
                    try simp only [Act.put, List.setIfInBounds_toArray, List.set_cons_zero, List.set_cons_succ]
                    refine wpAnyH_done (by kernel_rfl) ?_ _
                    refine NoPanic.normal ?_
                    clear hHeld
                    generalize (((w6.setCell ⟨wr.heap.size, 0, none⟩ (.int .i64 a)).setCell ⟨wr.heap.size, 1, none⟩ (.slice q1 n1 c1)).setCell ⟨wr.heap.size, 2, none⟩ (.slice q2 m2 c2)) = w7 at *
                    have d0 := HFz.out.cell 0
                    have d1 := HFz.out.cell 1
                    have d2 := HFz.out.cell 2
                    have hg7 := HP.out.blk.fr HFf.out (fun h => h)
                    rw [HN.out, HM.out] at hg7
                    have u0 := hg7.cell 0
                    have u1 := hg7.cell 1
                    have u2 := hg7.cell 2
                    have v0 := hg7.free 0
                    have v1 := hg7.free 1
                    have v2 := hg7.free 2
                    simp only [List.getElem?_cons_zero, List.getElem?_cons_succ, List.set_cons_zero, List.set_cons_succ] at d0 d1 d2 u0 u1 u2
                    have HG8 := Lib.hid (((hg7.set_ 0 (.int .i64 a)).set_ 1 (.slice q1 n1 c1)).set_ 2 (.slice q2 m2 c2))
                    have hf8 := (((Fr.refl (fun x => x = g) w7).set ⟨g, 0, none⟩ (.int .i64 a) (.inl rfl)).set ⟨g, 1, none⟩ (.slice q1 n1 c1) (.inl rfl)).set ⟨g, 2, none⟩ (.slice q2 m2 c2) (.inl rfl)
                    have hf8' := Fr.trans (S := fun x => x = g) (Fr.mono HFf.out (fun x h => h.elim)) hf8 (fun x hx => .inl hx)
                    have HW8 := Lib.hid (Fr.below HP.out.below hf8' (fun x hx => by subst hx; exact HP.out.gg))
                    have HS8 := Lib.hid (HP.out.ss.fr hf8' (fun h => HP.out.gR h.symm) (fun h => HP.out.gb h.symm) (fun b9 h9 hx => HP.out.qg b9 h9 hx))
                    have HR8 := Lib.hid (HR7.out.fr hf8 (fun b9 h9 hx => by
                    rcases HQ7.out with h | h
                    · rw [h] at h9; exact (HP.out.rq b9 h9).2.1 hx
                    · have := h b9 h9; have := HP.out.blk.lt; omega))
                    have HL8 := Lib.hid (fun b9 h9 => Nat.lt_of_lt_of_le (HL7.out b9 h9) hf8.size)
                    clear HFz HFf HR7 HL7 hg7 hf8 hf8'
                    go_upto_region 26 with fail
                    clear d0 d1 d2 u0 u1 u2 v0 v1 v2
                    generalize (((w7.setCell ⟨g, 0, none⟩ (.int .i64 a)).setCell ⟨g, 1, none⟩ (.slice q1 n1 c1)).setCell ⟨g, 2, none⟩ (.slice q2 m2 c2)) = w8 at *
                    have HS26 := Lib.hid fun (w' : World) (hf : Fr (fun x => x = R ∨ x = b) w8 w') => (by
                      have hg := HG8.out.fr hf (fun hx => hx.elim HP.out.gR HP.out.gb)
                      have hw' := Fr.below HW8.out hf (fun x hx => hx.elim (fun e => e ▸ HP.out.r) (fun e => e ▸ HP.out.rb))
                      exact ⟨hg.cell 2, (hw'.cell (p := ⟨bt, ot + k * 3, none⟩) HBT.out).trans HC0.out, (hw'.cell (p := ⟨bt, ot + k * 3 + 1, none⟩) HBT.out).trans HC1.out, (hw'.cell (p := ⟨bt, ot + k * 3 + 2, none⟩) HBT.out).trans HC2.out⟩ : (w'.cell? ⟨g, 2, none⟩ = some (.slice q2 m2 c2) ∧ w'.cell? ⟨bt, ot + k * 3, none⟩ = some (.int .i64 xa) ∧ w'.cell? ⟨bt, ot + k * 3 + 1, none⟩ = some (.slice xq xn xc) ∧ w'.cell? ⟨bt, ot + k * 3 + 2, none⟩ = some (.int .u16 xb)))
                    refine wp_region_noPanic ?_
                    refine wp_region_held_drew (S := fun w' => w'.cell? ⟨g, 2, none⟩ = some (.slice q2 m2 c2) ∧ w'.cell? ⟨bt, ot + k * 3, none⟩ = some (.int .i64 xa) ∧ w'.cell? ⟨bt, ot + k * 3 + 1, none⟩ = some (.slice xq xn xc) ∧ w'.cell? ⟨bt, ot + k * 3 + 2, none⟩ = some (.int .u16 xb)) (by kernel_rfl) (HS26.out _ ((Fr.refl _ _).drew)) (fun hHeld => ?_)
                    refine wpAnyH_take (i := 0) (oi := ⟨some 114, _, _, _, _, _⟩) (v := ?_) rfl (by kernel_rfl) (by kernel_rfl) (by kernel_rfl) (fun _ _ _ h => h) (Or.inl ⟨by rfl, ?_⟩) hHeld ?_
                    rotate_left
                    · (intro w hSw; obtain ⟨hq1, hq2, hq3, hq4⟩ := hSw; go_simp; try with_reducible rfl)
                    try simp only [Act.put, List.setIfInBounds_toArray, List.set_cons_zero, List.set_cons_succ]
                    refine wpAnyH_take (i := 1) (oi := ⟨some 115, _, _, _, _, _⟩) (v := ?_) rfl (by kernel_rfl) (by kernel_rfl) (by kernel_rfl) (fun _ _ _ h => h) (Or.inl ⟨by rfl, ?_⟩) hHeld ?_
                    rotate_left
                    · (intro w hSw; obtain ⟨hq1, hq2, hq3, hq4⟩ := hSw; go_simp; try with_reducible rfl)
                    try simp only [Act.put, List.setIfInBounds_toArray, List.set_cons_zero, List.set_cons_succ]
                    refine wpAnyH_take (i := 2) (oi := ⟨some 116, _, _, _, _, _⟩) (v := ?_) rfl (by kernel_rfl) (by kernel_rfl) (by kernel_rfl) (fun _ _ _ h => h) (Or.inl ⟨by rfl, ?_⟩) hHeld ?_
                    rotate_left
                    · (intro w hSw; obtain ⟨hq1, hq2, hq3, hq4⟩ := hSw; go_simp; try with_reducible rfl)
                    try simp only [Act.put, List.setIfInBounds_toArray, List.set_cons_zero, List.set_cons_succ]
                    refine wpAnyH_take (i := 3) (oi := ⟨some 117, _, _, _, _, _⟩) (v := ?_) rfl (by kernel_rfl) (by kernel_rfl) (by kernel_rfl) (fun _ _ _ h => h) (Or.inl ⟨by rfl, ?_⟩) hHeld ?_
                    rotate_left
                    · (intro w hSw; obtain ⟨hq1, hq2, hq3, hq4⟩ := hSw; go_simp; try with_reducible rfl)
                    try simp only [Act.put, List.setIfInBounds_toArray, List.set_cons_zero, List.set_cons_succ]
                    refine wpAnyH_take (i := 4) (oi := ⟨some 118, _, _, _, _, _⟩) (v := ?_) rfl (by kernel_rfl) (by kernel_rfl) (by kernel_rfl) (fun _ _ _ h => h) (Or.inl ⟨by rfl, ?_⟩) hHeld ?_
                    rotate_left
                    · (intro w hSw; obtain ⟨hq1, hq2, hq3, hq4⟩ := hSw; go_simp; try with_reducible rfl)
                    try simp only [Act.put, List.setIfInBounds_toArray, List.set_cons_zero, List.set_cons_succ]
                    refine wpAnyH_take (i := 5) (oi := ⟨some 119, _, _, _, _, _⟩) (v := ?_) rfl (by kernel_rfl) (by kernel_rfl) (by kernel_rfl) (fun _ _ _ h => h) (Or.inl ⟨by rfl, ?_⟩) hHeld ?_
                    rotate_left
                    · (intro w hSw; obtain ⟨hq1, hq2, hq3, hq4⟩ := hSw; go_simp; try with_reducible rfl)
                    try simp only [Act.put, List.setIfInBounds_toArray, List.set_cons_zero, List.set_cons_succ]
                    refine wpAnyH_take (i := 6) (oi := ⟨some 120, _, _, _, _, _⟩) (v := ?_) rfl (by kernel_rfl) (by kernel_rfl) (by kernel_rfl) (fun _ _ _ h => h) (Or.inl ⟨by rfl, ?_⟩) hHeld ?_
                    rotate_left
                    · (intro w hSw; obtain ⟨hq1, hq2, hq3, hq4⟩ := hSw; go_simp; try with_reducible rfl)
                    try simp only [Act.put, List.setIfInBounds_toArray, List.set_cons_zero, List.set_cons_succ]
                    refine wpAnyH_ready (rs := [7]) (by kernel_rfl) (by simp) ?_
                    refine (AllReadyH.cons (o := ⟨some 121, _, _, _, _, _⟩) rfl (fun K hK => ?_) AllReadyH.nil)
                    go_simp
                    (refine (HEN.out w8.drew ⟨HW8.out.os, HW8.out.tape, HW8.out.output, HW8.out.size, HW8.out.block⟩).mono ?_; rintro e w9 ⟨p9, d9', rfl, hr9, hb9, -⟩)
                    have HB9 := Lib.hid (show Below w8.heap.size w8 w9 from ⟨hb9.os, hb9.tape, hb9.output, hb9.size, hb9.block⟩)
                    have HR9 := Lib.hid hr9
                    clear hr9 hb9
                    refine hK.out _ _ (HS26.out _ (Fr.of_below HB9.out _)) (fun hHeld => ?_)
                    clear hK K
                    try simp only [Act.put, List.setIfInBounds_toArray, List.set_cons_zero, List.set_cons_succ]
                    refine wpAnyH_ready (rs := [8]) (by kernel_rfl) (by simp) ?_
                    refine (AllReadyH.cons (o := ⟨some 122, _, _, _, _, _⟩) rfl (fun K hK => ?_) AllReadyH.nil)
                    go_simp
                    (refine (HPK.out _ (HS8.out.kept HB9.out) p9 d9' HR9.out).mono ?_; rintro e w10 ⟨rfl, hs10⟩)
                    have HS10 := Lib.hid hs10.1
                    have HF10 := Lib.hid (Fr.first HB9.out hs10.2)
                    clear hs10
                    refine hK.out _ _ (HS26.out _ HF10.out) (fun hHeld => ?_)
                    clear hK K
                    try simp only [Act.put, List.setIfInBounds_toArray, List.set_cons_zero, List.set_cons_succ]
                    refine wpAnyH_take (i := 9) (oi := ⟨some 123, _, _, _, _, _⟩) (v := ?_) rfl (by kernel_rfl) (by kernel_rfl) (by kernel_rfl) (fun _ _ _ h => h) (Or.inl ⟨by rfl, ?_⟩) hHeld ?_
                    rotate_left
                    · (intro w hSw; obtain ⟨hq1, hq2, hq3, hq4⟩ := hSw; go_simp; try with_reducible rfl)
                    try simp only [Act.put, List.setIfInBounds_toArray, List.set_cons_zero, List.set_cons_succ]
                    refine wpAnyH_take (i := 10) (oi := ⟨some 124, _, _, _, _, _⟩) (v := ?_) rfl (by kernel_rfl) (by kernel_rfl) (by kernel_rfl) (fun _ _ _ h => h) (Or.inl ⟨by rfl, ?_⟩) hHeld ?_
                    rotate_left
                    · (intro w hSw; obtain ⟨hq1, hq2, hq3, hq4⟩ := hSw; go_simp; try with_reducible rfl)
                    try simp only [Act.put, List.setIfInBounds_toArray, List.set_cons_zero, List.set_cons_succ]
                    refine wpAnyH_take (i := 11) (oi := ⟨some 125, _, _, _, _, _⟩) (v := ?_) rfl (by kernel_rfl) (by kernel_rfl) (by kernel_rfl) (fun _ _ _ h => h) (Or.inl ⟨by rfl, ?_⟩) hHeld ?_
                    rotate_left
                    · (intro w hSw; obtain ⟨hq1, hq2, hq3, hq4⟩ := hSw; go_simp; try with_reducible rfl)
                    try simp only [Act.put, List.setIfInBounds_toArray, List.set_cons_zero, List.set_cons_succ]
                    refine wpAnyH_take (i := 13) (oi := ⟨some 127, _, _, _, _, _⟩) (v := ?_) rfl (by kernel_rfl) (by kernel_rfl) (by kernel_rfl) (fun _ _ _ h => h) (Or.inl ⟨by rfl, ?_⟩) hHeld ?_
                    rotate_left
                    · (intro w hSw; obtain ⟨hq1, hq2, hq3, hq4⟩ := hSw; go_simp; try with_reducible rfl)
                    try simp only [Act.put, List.setIfInBounds_toArray, List.set_cons_zero, List.set_cons_succ]
                    refine wpAnyH_take (i := 14) (oi := ⟨some 128, _, _, _, _, _⟩) (v := ?_) rfl (by kernel_rfl) (by kernel_rfl) (by kernel_rfl) (fun _ _ _ h => h) (Or.inl ⟨by rfl, ?_⟩) hHeld ?_
                    rotate_left
                    · (intro w hSw; obtain ⟨hq1, hq2, hq3, hq4⟩ := hSw; go_simp; try with_reducible rfl)
                    try simp only [Act.put, List.setIfInBounds_toArray, List.set_cons_zero, List.set_cons_succ]
                    refine wpAnyH_take (i := 15) (oi := ⟨some 129, _, _, _, _, _⟩) (v := ?_) rfl (by kernel_rfl) (by kernel_rfl) (by kernel_rfl) (fun _ _ _ h => h) (Or.inl ⟨by rfl, ?_⟩) hHeld ?_
                    rotate_left
                    · (intro w hSw; obtain ⟨hq1, hq2, hq3, hq4⟩ := hSw; go_simp; try with_reducible rfl)
                    try simp only [Act.put, List.setIfInBounds_toArray, List.set_cons_zero, List.set_cons_succ]
                    refine wpAnyH_ready (rs := [12]) (by kernel_rfl) (by simp) ?_
                    refine (AllReadyH.cons (o := ⟨some 126, _, _, _, _, _⟩) rfl (fun K hK => ?_) AllReadyH.nil)
                    go_simp
                    (refine (turns_any HS10.out).mono ?_; rintro e w11 ⟨rfl, rfl⟩)
                    rw [HM2.out]
                    refine hK.out _ _ (HS26.out _ HF10.out) (fun hHeld => ?_)
                    clear hK K
                    try simp only [Act.put, List.setIfInBounds_toArray, List.set_cons_zero, List.set_cons_succ]
                    refine wpAnyH_take (i := 16) (oi := ⟨some 130, _, _, _, _, _⟩) (v := ?_) rfl (by kernel_rfl) (by kernel_rfl) (by kernel_rfl) (fun _ _ _ h => h) (Or.inl ⟨by rfl, ?_⟩) hHeld ?_
                    rotate_left
                    · (intro w hSw; obtain ⟨hq1, hq2, hq3, hq4⟩ := hSw; go_simp; try with_reducible rfl)
                    try simp only [Act.put, List.setIfInBounds_toArray, List.set_cons_zero, List.set_cons_succ]
                    refine wpAnyH_take (i := 17) (oi := ⟨some 131, _, _, _, _, _⟩) (v := ?_) rfl (by kernel_rfl) (by kernel_rfl) (by kernel_rfl) (fun _ _ _ h => h) (Or.inl ⟨by rfl, ?_⟩) hHeld ?_
                    rotate_left
                    · (intro w hSw; obtain ⟨hq1, hq2, hq3, hq4⟩ := hSw; go_simp; try with_reducible rfl)
                    try simp only [Act.put, List.setIfInBounds_toArray, List.set_cons_zero, List.set_cons_succ]
                    refine wpAnyH_done (by kernel_rfl) ?_ _
                    refine NoPanic.normal ?_
                    clear hHeld
                    go_wp2_with fail
                    go_roundw
                    case rel =>
                      refine ⟨k + 1, R, b, q9, d9, L2, q2, c2, by omega, by have := HLX.out; have := HM2.out; have := HM.out; omega, rfl, by go_num, Lib.hid ?_⟩
                      have hnRb : ∀ b9, q2 = some b9 → (b9.block ≠ R ∧ b9.block ≠ b) ∧ b9.block ≠ g := fun b9 h9 => by
                        have r1 := HP.out.ss.blk.lt
                        have r2 := HP.out.ss.mp.lt
                        have r3 := HP.out.blk.lt
                        rcases HQ7.out with h | h
                        · rw [h] at h9; have := HP.out.rq b9 h9; exact ⟨this.1, this.2.1⟩
                        · have := h b9 h9; omega
                      refine ⟨HS10.out, Fr.below HW8.out HF10.out (fun x hx => hx.elim (fun e => e ▸ HP.out.r) (fun e => e ▸ HP.out.rb)), HP.out.r, HP.out.rb, HP.out.gg, HP.out.gR, HP.out.gb, ?_, HR8.out.fr HF10.out (fun b9 h9 hx => hx.elim (hnRb b9 h9).1.1 (hnRb b9 h9).1.2), fun b9 h9 => ⟨(hnRb b9 h9).1, (hnRb b9 h9).2, Nat.lt_of_lt_of_le (HL8.out b9 h9) HF10.out.size⟩, HP.out.qg⟩
                      have := HG8.out.fr HF10.out (fun hx => hx.elim HP.out.gR HP.out.gb)
                      rw [← HN.out, ← HM2.out] at this
                      exact this
                    case measure => simp [intOf]; omega
                · have hx1 : (xa == 0) = false := by simpa using hx0
                  have hx2 : (xa != 0) = true := by simpa using hx0
                  by_cases hx3 : xa = 1
                  · have hx4 : (xa == 1) = true := by simpa using hx3
                    have hx5 : (xa != 1) = false := by simpa using hx3
                    clear hx0 hx3
                    obtain ⟨m, hm⟩ : ∃ m, L.length = m := ⟨_, rfl⟩
                    have HM := Lib.hid hm
                    have HSS := Lib.hid fun (w' : World) (hf : Fr (fun _ => False) wr w') => (by
                      have hg := HP.out.blk.fr hf (fun h => h)
                      rw [HN.out, hm] at hg
                      have hw' := Fr.below HP.out.below hf (fun _ h => h.elim)
                      exact ⟨⟨hg.cell 0, hg.cell 1, hg.cell 2⟩, (hw'.cell (p := ⟨bt, ot + k * 3, none⟩) HBT.out).trans HC0.out, (hw'.cell (p := ⟨bt, ot + k * 3 + 1, none⟩) HBT.out).trans HC1.out, (hw'.cell (p := ⟨bt, ot + k * 3 + 2, none⟩) HBT.out).trans HC2.out⟩ : ((w'.cell? ⟨g, 0, none⟩ = some (.int .i64 a) ∧ w'.cell? ⟨g, 1, none⟩ = some (.slice q1 n1 c1) ∧ w'.cell? ⟨g, 2, none⟩ = some (.slice qp m cp)) ∧ w'.cell? ⟨bt, ot + k * 3, none⟩ = some (.int .i64 xa) ∧ w'.cell? ⟨bt, ot + k * 3 + 1, none⟩ = some (.slice xq xn xc) ∧ w'.cell? ⟨bt, ot + k * 3 + 2, none⟩ = some (.int .u16 xb)))
                    have HEN := Lib.hid fun (w' : World) (hW : Below W.heap.size W w') => enab_any (w := w') ⟨xa, xq, xc, xe, xb⟩ (HXR.out.kept hW)
                    have HNX := Lib.hid fun (w' : World) (hf : Fr (fun _ => False) wr w') (p5 : Option Addr) (d5 : Nat) (h5 : Rd w' w'.heap.size p5 (ints (enA ⟨xa, xq, xc, xe, xb⟩))) => refNext_any (w := w') ⟨HP.out.ss.ok.lo, HP.out.ss.ok.hi⟩ q1 c1 nums qp cp L p5 d5 (enA ⟨xa, xq, xc, xe, xb⟩) ((HR.out.kept HP.out.below).fr hf (fun _ _ h => h)) (HP.out.rd.fr hf (fun _ _ h => h)) h5 (fun a ha => Nat.lt_of_lt_of_le (HP.out.rq a ha).2.2 hf.size) (by have := HE.out; omega) (by omega) HP.out.ss.ok.one HP.out.ss.ok.pos (by have := HP.out.ss.ok.len; omega)
                    have HPK := Lib.hid fun (w' : World) (h : SS w' R b q9 d9 a nums L) (p5 : Option Addr) (d5 : Nat) (h5 : Rd w' w'.heap.size p5 (ints (enA ⟨xa, xq, xc, xe, xb⟩))) => picks_any h (by omega) p5 d5 (enA ⟨xa, xq, xc, xe, xb⟩) h5 (by have := HE.out; omega) _ _ rfl rfl
                    have HLX := Lib.hid (nxL_len a nums L (enA ⟨xa, xq, xc, xe, xb⟩))
                    simp only [hm, HN.out, HXN.out] at HEN HNX HPK HLX
                    obtain ⟨E, hE⟩ : ∃ E, enA ⟨xa, xq, xc, xe, xb⟩ = E := ⟨_, rfl⟩
                    rw [hE] at HEN HNX HPK HLX
                    obtain ⟨L2, hL2⟩ : ∃ z, nxL a nums L E = z := ⟨_, rfl⟩
                    obtain ⟨t2, ht2⟩ : ∃ z, nxT a nums L E = z := ⟨_, rfl⟩
                    obtain ⟨e2, he2⟩ : ∃ z, nxE E = z := ⟨_, rfl⟩
                    simp only [hL2, ht2, he2] at HNX HPK HLX
                    obtain ⟨m2, hm2⟩ : ∃ z, L2.length = z := ⟨_, rfl⟩
                    rw [hm2] at HLX
                    simp only [hm2] at HNX
                    have HM2 := Lib.hid hm2
                    unfold RetQ at HEN
                    obtain ⟨en, hen⟩ : ∃ z, E.length = z := ⟨_, rfl⟩
                    simp only [hen] at HEN HNX HPK
                    clear hm hE hL2 ht2 he2 hm2 hen
                    go_upto_region 24 with fail
                    clear hc0 hc1 hc2
                    refine wp_region_noPanic ?_
                    refine wp_region_held_drew (S := fun w' => (w'.cell? ⟨g, 0, none⟩ = some (.int .i64 a) ∧ w'.cell? ⟨g, 1, none⟩ = some (.slice q1 n1 c1) ∧ w'.cell? ⟨g, 2, none⟩ = some (.slice qp m cp)) ∧ w'.cell? ⟨bt, ot + k * 3, none⟩ = some (.int .i64 xa) ∧ w'.cell? ⟨bt, ot + k * 3 + 1, none⟩ = some (.slice xq xn xc) ∧ w'.cell? ⟨bt, ot + k * 3 + 2, none⟩ = some (.int .u16 xb)) (by kernel_rfl) (HSS.out _ (by first | exact (Fr.refl _ _).drew | exact ((Fr.refl _ _).alloc _).drew | exact ((Fr.refl _ _).drew).alloc _ | exact HF5.out | exact HF5.out.alloc _ | exact HF6.out | exact HF6.out.alloc _)) (fun hHeld => ?_)
                    refine wpAnyH_take (i := 0) (oi := ⟨some 103, _, _, _, _, _⟩) (v := ?_) rfl (by kernel_rfl) (by kernel_rfl) (by kernel_rfl) (fun _ _ _ h => h) (Or.inl ⟨by rfl, ?_⟩) hHeld ?_
                    rotate_left
                    · (intro w hSw; obtain ⟨⟨hq1, hq2, hq3⟩, hq4, hq5, hq6⟩ := hSw; go_simp; try with_reducible rfl)
                    try simp only [Act.put, List.setIfInBounds_toArray, List.set_cons_zero, List.set_cons_succ]
                    refine wpAnyH_take (i := 1) (oi := ⟨some 104, _, _, _, _, _⟩) (v := ?_) rfl (by kernel_rfl) (by kernel_rfl) (by kernel_rfl) (fun _ _ _ h => h) (Or.inl ⟨by rfl, ?_⟩) hHeld ?_
                    rotate_left
                    · (intro w hSw; obtain ⟨⟨hq1, hq2, hq3⟩, hq4, hq5, hq6⟩ := hSw; go_simp; try with_reducible rfl)
                    try simp only [Act.put, List.setIfInBounds_toArray, List.set_cons_zero, List.set_cons_succ]
                    refine wpAnyH_take (i := 2) (oi := ⟨some 105, _, _, _, _, _⟩) (v := ?_) rfl (by kernel_rfl) (by kernel_rfl) (by kernel_rfl) (fun _ _ _ h => h) (Or.inl ⟨by rfl, ?_⟩) hHeld ?_
                    rotate_left
                    · (intro w hSw; obtain ⟨⟨hq1, hq2, hq3⟩, hq4, hq5, hq6⟩ := hSw; go_simp; try with_reducible rfl)
                    try simp only [Act.put, List.setIfInBounds_toArray, List.set_cons_zero, List.set_cons_succ]
                    refine wpAnyH_take (i := 3) (oi := ⟨some 106, _, _, _, _, _⟩) (v := ?_) rfl (by kernel_rfl) (by kernel_rfl) (by kernel_rfl) (fun _ _ _ h => h) (Or.inl ⟨by rfl, ?_⟩) hHeld ?_
                    rotate_left
                    · (intro w hSw; obtain ⟨⟨hq1, hq2, hq3⟩, hq4, hq5, hq6⟩ := hSw; go_simp; try with_reducible rfl)
                    try simp only [Act.put, List.setIfInBounds_toArray, List.set_cons_zero, List.set_cons_succ]
                    refine wpAnyH_take (i := 4) (oi := ⟨some 107, _, _, _, _, _⟩) (v := ?_) rfl (by kernel_rfl) (by kernel_rfl) (by kernel_rfl) (fun _ _ _ h => h) (Or.inl ⟨by rfl, ?_⟩) hHeld ?_
                    rotate_left
                    · (intro w hSw; obtain ⟨⟨hq1, hq2, hq3⟩, hq4, hq5, hq6⟩ := hSw; go_simp; try with_reducible rfl)
                    try simp only [Act.put, List.setIfInBounds_toArray, List.set_cons_zero, List.set_cons_succ]
                    refine wpAnyH_ready (rs := [5, 11]) (by kernel_rfl) (by simp) ?_
                    refine (AllReadyH.cons (o := ⟨some 108, _, _, _, _, _⟩) rfl (fun K hK => ?_) (AllReadyH.cons (o := ⟨some 15, _, _, _, _, _⟩) rfl (fun K hK => ?_) AllReadyH.nil))
                    · go_simp
                      (refine (HEN.out _ (Fr.below HP.out.below (S := fun _ => False) (by first | exact (Fr.refl _ _).drew | exact ((Fr.refl _ _).alloc _).drew | exact ((Fr.refl _ _).drew).alloc _ | exact HF5.out | exact HF5.out.alloc _ | exact HF6.out | exact HF6.out.alloc _) (fun _ h => h.elim))).mono ?_; rintro e w5 ⟨p5, d5, rfl, hr5, hb5, -⟩)
                      have HF5 := Lib.hid (Fr.step (show Fr (fun _ => False) wr _ from (by first | exact (Fr.refl _ _).drew | exact ((Fr.refl _ _).alloc _).drew | exact ((Fr.refl _ _).drew).alloc _ | exact HF5.out | exact HF5.out.alloc _ | exact HF6.out | exact HF6.out.alloc _)) hb5)
                      have HR5 := Lib.hid hr5
                      have HB5 := Lib.hid hb5.size
                      clear hr5 hb5
                      refine hK.out _ _ (HSS.out _ HF5.out) (fun hHeld => ?_)
                      clear hK K
                      try simp only [Act.put, List.setIfInBounds_toArray, List.set_cons_zero, List.set_cons_succ]
                      refine wpAnyH_ready (rs := [6, 11]) (by kernel_rfl) (by simp) ?_
                      refine (AllReadyH.cons (o := ⟨some 109, _, _, _, _, _⟩) rfl (fun K hK => ?_) (AllReadyH.cons (o := ⟨some 15, _, _, _, _, _⟩) rfl (fun K hK => ?_) AllReadyH.nil))
                      · go_simp
                        (refine (HNX.out _ (by first | exact (Fr.refl _ _).drew | exact ((Fr.refl _ _).alloc _).drew | exact ((Fr.refl _ _).drew).alloc _ | exact HF5.out | exact HF5.out.alloc _ | exact HF6.out | exact HF6.out.alloc _) p5 d5 HR5.out).mono ?_; rintro e w6 ⟨q2, c2, rfl, hr6, hl6, hb6, hq6⟩)
                        have HF6 := Lib.hid (Fr.step (show Fr (fun _ => False) wr _ from (by first | exact (Fr.refl _ _).drew | exact ((Fr.refl _ _).alloc _).drew | exact ((Fr.refl _ _).drew).alloc _ | exact HF5.out | exact HF5.out.alloc _ | exact HF6.out | exact HF6.out.alloc _)) hb6)
                        have HR6 := Lib.hid hr6
                        have HL6 := Lib.hid hl6
                        have HQ6 := Lib.hid hq6
                        have HB6 := Lib.hid hb6.size
                        clear hr6 hl6 hb6 hq6
                        refine hK.out _ _ (HSS.out _ HF6.out) (fun hHeld => ?_)
                        clear hK K
                        try simp only [Act.put, List.setIfInBounds_toArray, List.set_cons_zero, List.set_cons_succ]
                        refine wpAnyH_take (i := 7) (oi := ⟨some 102, _, _, _, _, _⟩) (v := ?_) rfl (by kernel_rfl) (by kernel_rfl) (by kernel_rfl) (fun _ _ _ h => h) (Or.inl ⟨by rfl, ?_⟩) hHeld ?_
                        rotate_left
                        · (intro w hSw; obtain ⟨⟨hq1, hq2, hq3⟩, hq4, hq5, hq6⟩ := hSw; go_simp; try with_reducible rfl)
                        try simp only [Act.put, List.setIfInBounds_toArray, List.set_cons_zero, List.set_cons_succ]
                        refine wpAnyH_take (i := 8) (oi := ⟨some 110, _, _, _, _, _⟩) (v := ?_) rfl (by kernel_rfl) (by kernel_rfl) (by kernel_rfl) (fun _ _ _ h => h) (Or.inl ⟨by rfl, ?_⟩) hHeld ?_
                        rotate_left
                        · (intro w hSw; obtain ⟨⟨hq1, hq2, hq3⟩, hq4, hq5, hq6⟩ := hSw; go_simp; try with_reducible rfl)
                        try simp only [Act.put, List.setIfInBounds_toArray, List.set_cons_zero, List.set_cons_succ]
                        refine wpAnyH_take (i := 9) (oi := ⟨some 111, _, _, _, _, _⟩) (v := ?_) rfl (by kernel_rfl) (by kernel_rfl) (by kernel_rfl) (fun _ _ _ h => h) (Or.inl ⟨by rfl, ?_⟩) hHeld ?_
                        rotate_left
                        · (intro w hSw; obtain ⟨⟨hq1, hq2, hq3⟩, hq4, hq5, hq6⟩ := hSw; go_simp; try with_reducible rfl)
                        try simp only [Act.put, List.setIfInBounds_toArray, List.set_cons_zero, List.set_cons_succ]
                        refine wpAnyH_take (i := 10) (oi := ⟨some 112, _, _, _, _, _⟩) (v := ?_) rfl (by kernel_rfl) (by kernel_rfl) (by kernel_rfl) (fun _ _ _ h => h) (Or.inl ⟨by rfl, ?_⟩) hHeld ?_
                        rotate_left
                        · (intro w hSw; obtain ⟨⟨hq1, hq2, hq3⟩, hq4, hq5, hq6⟩ := hSw; go_simp; try with_reducible rfl)
                        try simp only [Act.put, List.setIfInBounds_toArray, List.set_cons_zero, List.set_cons_succ]
                        refine wpAnyH_ready (rs := [11]) (by kernel_rfl) (by simp) ?_
                        refine (AllReadyH.cons (o := ⟨some 15, _, _, _, _, _⟩) rfl (fun K hK => ?_) AllReadyH.nil)
                        go_simp
                        refine hK.out _ _ (HSS.out _ (by first | exact (Fr.refl _ _).drew | exact ((Fr.refl _ _).alloc _).drew | exact ((Fr.refl _ _).drew).alloc _ | exact HF5.out | exact HF5.out.alloc _ | exact HF6.out | exact HF6.out.alloc _)) (fun hHeld => ?_)
                        clear hK K
                        try simp only [Act.put, List.setIfInBounds_toArray, List.set_cons_zero, List.set_cons_succ]
                        refine wpAnyH_ready (rs := [12]) (by kernel_rfl) (by simp) ?_
                        refine (AllReadyH.cons (o := ⟨none, _, _, _, _, _⟩) rfl (fun K hK => ?_) AllReadyH.nil)
                        go_simp
                        have HFz := Lib.hid (Blk.new w6 30 [.int .i64 a, .slice q1 n1 c1, .slice q2 m2 c2])
                        have HFf := Lib.hid (HF6.out.alloc (.cells #[.int .i64 a, .slice q1 n1 c1, .slice q2 m2 c2] 30))
                        have HR7 := Lib.hid (HR6.out.kept (below_al (Below.refl _ _) (.cells #[.int .i64 a, .slice q1 n1 c1, .slice q2 m2 c2] 30)))
                        have HL7 := Lib.hid (fun b9 h9 => Nat.lt_of_lt_of_le (HL6.out b9 h9) (below_al (Below.refl w6.heap.size w6) (.cells #[.int .i64 a, .slice q1 n1 c1, .slice q2 m2 c2] 30)).size)
                        have HQ7 : Hid (q2 = qp ∨ ∀ b9, q2 = some b9 → wr.heap.size ≤ b9.block) := Lib.hid (HQ6.out.imp id (fun h b9 h9 => by have := h b9 h9; have := HF5.out.size; have := HB5.out; omega))
                        refine hK.out _ _ (HSS.out _ HFf.out) (fun hHeld => ?_)
                        clear hK K
                        try simp only [Act.put, List.setIfInBounds_toArray, List.set_cons_zero, List.set_cons_succ]
                        refine wpAnyH_take (i := 13) (oi := ⟨some 16, _, _, _, _, _⟩) (v := ?_) rfl (by kernel_rfl) (by kernel_rfl) (by kernel_rfl) (fun _ _ _ h => h) (Or.inl ⟨by rfl, ?_⟩) hHeld ?_
                        rotate_left
                        · (intro w hSw; obtain ⟨⟨hq1, hq2, hq3⟩, hq4, hq5, hq6⟩ := hSw; go_simp; try with_reducible rfl)
                        try simp only [Act.put, List.setIfInBounds_toArray, List.set_cons_zero, List.set_cons_succ]
                        refine wpAnyH_take (i := 14) (oi := ⟨some 17, _, _, _, _, _⟩) (v := ?_) rfl (by kernel_rfl) (by kernel_rfl) (by kernel_rfl) (fun _ _ _ h => h) (Or.inl ⟨by rfl, ?_⟩) hHeld ?_
                        rotate_left
                        · (intro w hSw; obtain ⟨⟨hq1, hq2, hq3⟩, hq4, hq5, hq6⟩ := hSw; go_simp; try with_reducible rfl)
                        try simp only [Act.put, List.setIfInBounds_toArray, List.set_cons_zero, List.set_cons_succ]
                        refine wpAnyH_done (by kernel_rfl) ?_ _
                        refine NoPanic.normal ?_
                        clear hHeld
                        generalize (w6.alloc (.cells #[.int .i64 a, .slice q1 n1 c1, .slice q2 m2 c2] 30)) = w7 at *
                        have d0 := HFz.out.cell 0
                        have d1 := HFz.out.cell 1
                        have d2 := HFz.out.cell 2
                        have hg7 := HP.out.blk.fr HFf.out (fun h => h)
                        rw [HN.out, HM.out] at hg7
                        have u0 := hg7.cell 0
                        have u1 := hg7.cell 1
                        have u2 := hg7.cell 2
                        have v0 := hg7.free 0
                        have v1 := hg7.free 1
                        have v2 := hg7.free 2
                        simp only [List.getElem?_cons_zero, List.getElem?_cons_succ, List.set_cons_zero, List.set_cons_succ] at d0 d1 d2 u0 u1 u2
                        have HG8 := Lib.hid (((hg7.set_ 0 (.int .i64 a)).set_ 1 (.slice q1 n1 c1)).set_ 2 (.slice q2 m2 c2))
                        have hf8 := (((Fr.refl (fun x => x = g) w7).set ⟨g, 0, none⟩ (.int .i64 a) (.inl rfl)).set ⟨g, 1, none⟩ (.slice q1 n1 c1) (.inl rfl)).set ⟨g, 2, none⟩ (.slice q2 m2 c2) (.inl rfl)
                        have hf8' := Fr.trans (S := fun x => x = g) (Fr.mono HFf.out (fun x h => h.elim)) hf8 (fun x hx => .inl hx)
                        have HW8 := Lib.hid (Fr.below HP.out.below hf8' (fun x hx => by subst hx; exact HP.out.gg))
                        have HS8 := Lib.hid (HP.out.ss.fr hf8' (fun h => HP.out.gR h.symm) (fun h => HP.out.gb h.symm) (fun b9 h9 hx => HP.out.qg b9 h9 hx))
                        have HR8 := Lib.hid (HR7.out.fr hf8 (fun b9 h9 hx => by
                      rcases HQ7.out with h | h
                      · rw [h] at h9; exact (HP.out.rq b9 h9).2.1 hx
                      · have := h b9 h9; have := HP.out.blk.lt; omega))
                        have HL8 := Lib.hid (fun b9 h9 => Nat.lt_of_lt_of_le (HL7.out b9 h9) hf8.size)
                        clear HFz HFf HR7 HL7 hg7 hf8 hf8'
                        go_upto_region 26 with fail
                        clear d0 d1 d2 u0 u1 u2 v0 v1 v2
                        generalize (((w7.setCell ⟨g, 0, none⟩ (.int .i64 a)).setCell ⟨g, 1, none⟩ (.slice q1 n1 c1)).setCell ⟨g, 2, none⟩ (.slice q2 m2 c2)) = w8 at *
                        have HS26 := Lib.hid fun (w' : World) (hf : Fr (fun x => x = R ∨ x = b) w8 w') => (by
                          have hg := HG8.out.fr hf (fun hx => hx.elim HP.out.gR HP.out.gb)
                          have hw' := Fr.below HW8.out hf (fun x hx => hx.elim (fun e => e ▸ HP.out.r) (fun e => e ▸ HP.out.rb))
                          exact ⟨hg.cell 2, (hw'.cell (p := ⟨bt, ot + k * 3, none⟩) HBT.out).trans HC0.out, (hw'.cell (p := ⟨bt, ot + k * 3 + 1, none⟩) HBT.out).trans HC1.out, (hw'.cell (p := ⟨bt, ot + k * 3 + 2, none⟩) HBT.out).trans HC2.out⟩ : (w'.cell? ⟨g, 2, none⟩ = some (.slice q2 m2 c2) ∧ w'.cell? ⟨bt, ot + k * 3, none⟩ = some (.int .i64 xa) ∧ w'.cell? ⟨bt, ot + k * 3 + 1, none⟩ = some (.slice xq xn xc) ∧ w'.cell? ⟨bt, ot + k * 3 + 2, none⟩ = some (.int .u16 xb)))
                        refine wp_region_noPanic ?_
                        refine wp_region_held_drew (S := fun w' => w'.cell? ⟨g, 2, none⟩ = some (.slice q2 m2 c2) ∧ w'.cell? ⟨bt, ot + k * 3, none⟩ = some (.int .i64 xa) ∧ w'.cell? ⟨bt, ot + k * 3 + 1, none⟩ = some (.slice xq xn xc) ∧ w'.cell? ⟨bt, ot + k * 3 + 2, none⟩ = some (.int .u16 xb)) (by kernel_rfl) (HS26.out _ ((Fr.refl _ _).drew)) (fun hHeld => ?_)
                        refine wpAnyH_take (i := 0) (oi := ⟨some 114, _, _, _, _, _⟩) (v := ?_) rfl (by kernel_rfl) (by kernel_rfl) (by kernel_rfl) (fun _ _ _ h => h) (Or.inl ⟨by rfl, ?_⟩) hHeld ?_
                        rotate_left
                        · (intro w hSw; obtain ⟨hq1, hq2, hq3, hq4⟩ := hSw; go_simp; try with_reducible rfl)
                        try simp only [Act.put, List.setIfInBounds_toArray, List.set_cons_zero, List.set_cons_succ]
                        refine wpAnyH_take (i := 1) (oi := ⟨some 115, _, _, _, _, _⟩) (v := ?_) rfl (by kernel_rfl) (by kernel_rfl) (by kernel_rfl) (fun _ _ _ h => h) (Or.inl ⟨by rfl, ?_⟩) hHeld ?_
                        rotate_left
                        · (intro w hSw; obtain ⟨hq1, hq2, hq3, hq4⟩ := hSw; go_simp; try with_reducible rfl)
                        try simp only [Act.put, List.setIfInBounds_toArray, List.set_cons_zero, List.set_cons_succ]
                        refine wpAnyH_take (i := 2) (oi := ⟨some 116, _, _, _, _, _⟩) (v := ?_) rfl (by kernel_rfl) (by kernel_rfl) (by kernel_rfl) (fun _ _ _ h => h) (Or.inl ⟨by rfl, ?_⟩) hHeld ?_
                        rotate_left
                        · (intro w hSw; obtain ⟨hq1, hq2, hq3, hq4⟩ := hSw; go_simp; try with_reducible rfl)
                        try simp only [Act.put, List.setIfInBounds_toArray, List.set_cons_zero, List.set_cons_succ]
                        refine wpAnyH_take (i := 3) (oi := ⟨some 117, _, _, _, _, _⟩) (v := ?_) rfl (by kernel_rfl) (by kernel_rfl) (by kernel_rfl) (fun _ _ _ h => h) (Or.inl ⟨by rfl, ?_⟩) hHeld ?_
                        rotate_left
                        · (intro w hSw; obtain ⟨hq1, hq2, hq3, hq4⟩ := hSw; go_simp; try with_reducible rfl)
                        try simp only [Act.put, List.setIfInBounds_toArray, List.set_cons_zero, List.set_cons_succ]
                        refine wpAnyH_take (i := 4) (oi := ⟨some 118, _, _, _, _, _⟩) (v := ?_) rfl (by kernel_rfl) (by kernel_rfl) (by kernel_rfl) (fun _ _ _ h => h) (Or.inl ⟨by rfl, ?_⟩) hHeld ?_
                        rotate_left
                        · (intro w hSw; obtain ⟨hq1, hq2, hq3, hq4⟩ := hSw; go_simp; try with_reducible rfl)
                        try simp only [Act.put, List.setIfInBounds_toArray, List.set_cons_zero, List.set_cons_succ]
                        refine wpAnyH_take (i := 5) (oi := ⟨some 119, _, _, _, _, _⟩) (v := ?_) rfl (by kernel_rfl) (by kernel_rfl) (by kernel_rfl) (fun _ _ _ h => h) (Or.inl ⟨by rfl, ?_⟩) hHeld ?_
                        rotate_left
                        · (intro w hSw; obtain ⟨hq1, hq2, hq3, hq4⟩ := hSw; go_simp; try with_reducible rfl)
                        try simp only [Act.put, List.setIfInBounds_toArray, List.set_cons_zero, List.set_cons_succ]
                        refine wpAnyH_take (i := 6) (oi := ⟨some 120, _, _, _, _, _⟩) (v := ?_) rfl (by kernel_rfl) (by kernel_rfl) (by kernel_rfl) (fun _ _ _ h => h) (Or.inl ⟨by rfl, ?_⟩) hHeld ?_
                        rotate_left
                        · (intro w hSw; obtain ⟨hq1, hq2, hq3, hq4⟩ := hSw; go_simp; try with_reducible rfl)
                        try simp only [Act.put, List.setIfInBounds_toArray, List.set_cons_zero, List.set_cons_succ]
                        refine wpAnyH_ready (rs := [7]) (by kernel_rfl) (by simp) ?_
                        refine (AllReadyH.cons (o := ⟨some 121, _, _, _, _, _⟩) rfl (fun K hK => ?_) AllReadyH.nil)
                        go_simp
                        (refine (HEN.out w8.drew ⟨HW8.out.os, HW8.out.tape, HW8.out.output, HW8.out.size, HW8.out.block⟩).mono ?_; rintro e w9 ⟨p9, d9', rfl, hr9, hb9, -⟩)
                        have HB9 := Lib.hid (show Below w8.heap.size w8 w9 from ⟨hb9.os, hb9.tape, hb9.output, hb9.size, hb9.block⟩)
                        have HR9 := Lib.hid hr9
                        clear hr9 hb9
                        refine hK.out _ _ (HS26.out _ (Fr.of_below HB9.out _)) (fun hHeld => ?_)
                        clear hK K
                        try simp only [Act.put, List.setIfInBounds_toArray, List.set_cons_zero, List.set_cons_succ]
                        refine wpAnyH_ready (rs := [8]) (by kernel_rfl) (by simp) ?_
                        refine (AllReadyH.cons (o := ⟨some 122, _, _, _, _, _⟩) rfl (fun K hK => ?_) AllReadyH.nil)
                        go_simp
                        (refine (HPK.out _ (HS8.out.kept HB9.out) p9 d9' HR9.out).mono ?_; rintro e w10 ⟨rfl, hs10⟩)
                        have HS10 := Lib.hid hs10.1
                        have HF10 := Lib.hid (Fr.first HB9.out hs10.2)
                        clear hs10
                        refine hK.out _ _ (HS26.out _ HF10.out) (fun hHeld => ?_)
                        clear hK K
                        try simp only [Act.put, List.setIfInBounds_toArray, List.set_cons_zero, List.set_cons_succ]
                        refine wpAnyH_take (i := 9) (oi := ⟨some 123, _, _, _, _, _⟩) (v := ?_) rfl (by kernel_rfl) (by kernel_rfl) (by kernel_rfl) (fun _ _ _ h => h) (Or.inl ⟨by rfl, ?_⟩) hHeld ?_
                        rotate_left
                        · (intro w hSw; obtain ⟨hq1, hq2, hq3, hq4⟩ := hSw; go_simp; try with_reducible rfl)
                        try simp only [Act.put, List.setIfInBounds_toArray, List.set_cons_zero, List.set_cons_succ]
                        refine wpAnyH_take (i := 10) (oi := ⟨some 124, _, _, _, _, _⟩) (v := ?_) rfl (by kernel_rfl) (by kernel_rfl) (by kernel_rfl) (fun _ _ _ h => h) (Or.inl ⟨by rfl, ?_⟩) hHeld ?_
                        rotate_left
                        · (intro w hSw; obtain ⟨hq1, hq2, hq3, hq4⟩ := hSw; go_simp; try with_reducible rfl)
                        try simp only [Act.put, List.setIfInBounds_toArray, List.set_cons_zero, List.set_cons_succ]
                        refine wpAnyH_take (i := 11) (oi := ⟨some 125, _, _, _, _, _⟩) (v := ?_) rfl (by kernel_rfl) (by kernel_rfl) (by kernel_rfl) (fun _ _ _ h => h) (Or.inl ⟨by rfl, ?_⟩) hHeld ?_
                        rotate_left
                        · (intro w hSw; obtain ⟨hq1, hq2, hq3, hq4⟩ := hSw; go_simp; try with_reducible rfl)
                        try simp only [Act.put, List.setIfInBounds_toArray, List.set_cons_zero, List.set_cons_succ]
                        refine wpAnyH_take (i := 13) (oi := ⟨some 127, _, _, _, _, _⟩) (v := ?_) rfl (by kernel_rfl) (by kernel_rfl) (by kernel_rfl) (fun _ _ _ h => h) (Or.inl ⟨by rfl, ?_⟩) hHeld ?_
                        rotate_left
                        · (intro w hSw; obtain ⟨hq1, hq2, hq3, hq4⟩ := hSw; go_simp; try with_reducible rfl)
                        try simp only [Act.put, List.setIfInBounds_toArray, List.set_cons_zero, List.set_cons_succ]
                        refine wpAnyH_take (i := 14) (oi := ⟨some 128, _, _, _, _, _⟩) (v := ?_) rfl (by kernel_rfl) (by kernel_rfl) (by kernel_rfl) (fun _ _ _ h => h) (Or.inl ⟨by rfl, ?_⟩) hHeld ?_
                        rotate_left
                        · (intro w hSw; obtain ⟨hq1, hq2, hq3, hq4⟩ := hSw; go_simp; try with_reducible rfl)
                        try simp only [Act.put, List.setIfInBounds_toArray, List.set_cons_zero, List.set_cons_succ]
                        refine wpAnyH_take (i := 15) (oi := ⟨some 129, _, _, _, _, _⟩) (v := ?_) rfl (by kernel_rfl) (by kernel_rfl) (by kernel_rfl) (fun _ _ _ h => h) (Or.inl ⟨by rfl, ?_⟩) hHeld ?_
                        rotate_left
                        · (intro w hSw; obtain ⟨hq1, hq2, hq3, hq4⟩ := hSw; go_simp; try with_reducible rfl)
                        try simp only [Act.put, List.setIfInBounds_toArray, List.set_cons_zero, List.set_cons_succ]
                        refine wpAnyH_ready (rs := [12]) (by kernel_rfl) (by simp) ?_
                        refine (AllReadyH.cons (o := ⟨some 126, _, _, _, _, _⟩) rfl (fun K hK => ?_) AllReadyH.nil)
                        go_simp
                        (refine (turns_any HS10.out).mono ?_; rintro e w11 ⟨rfl, rfl⟩)
                        rw [HM2.out]
                        refine hK.out _ _ (HS26.out _ HF10.out) (fun hHeld => ?_)
                        clear hK K
                        try simp only [Act.put, List.setIfInBounds_toArray, List.set_cons_zero, List.set_cons_succ]
                        refine wpAnyH_take (i := 16) (oi := ⟨some 130, _, _, _, _, _⟩) (v := ?_) rfl (by kernel_rfl) (by kernel_rfl) (by kernel_rfl) (fun _ _ _ h => h) (Or.inl ⟨by rfl, ?_⟩) hHeld ?_
                        rotate_left
                        · (intro w hSw; obtain ⟨hq1, hq2, hq3, hq4⟩ := hSw; go_simp; try with_reducible rfl)
                        try simp only [Act.put, List.setIfInBounds_toArray, List.set_cons_zero, List.set_cons_succ]
                        refine wpAnyH_take (i := 17) (oi := ⟨some 131, _, _, _, _, _⟩) (v := ?_) rfl (by kernel_rfl) (by kernel_rfl) (by kernel_rfl) (fun _ _ _ h => h) (Or.inl ⟨by rfl, ?_⟩) hHeld ?_
                        rotate_left
                        · (intro w hSw; obtain ⟨hq1, hq2, hq3, hq4⟩ := hSw; go_simp; try with_reducible rfl)
                        try simp only [Act.put, List.setIfInBounds_toArray, List.set_cons_zero, List.set_cons_succ]
                        refine wpAnyH_done (by kernel_rfl) ?_ _
                        refine NoPanic.normal ?_
                        clear hHeld
                        go_wp2_with fail
                        go_roundw
                        case rel =>
                          refine ⟨k + 1, R, b, q9, d9, L2, q2, c2, by omega, by have := HLX.out; have := HM2.out; have := HM.out; omega, rfl, by go_num, Lib.hid ?_⟩
                          have hnRb : ∀ b9, q2 = some b9 → (b9.block ≠ R ∧ b9.block ≠ b) ∧ b9.block ≠ g := fun b9 h9 => by
                            have r1 := HP.out.ss.blk.lt
                            have r2 := HP.out.ss.mp.lt
                            have r3 := HP.out.blk.lt
                            rcases HQ7.out with h | h
                            · rw [h] at h9; have := HP.out.rq b9 h9; exact ⟨this.1, this.2.1⟩
                            · have := h b9 h9; omega
                          refine ⟨HS10.out, Fr.below HW8.out HF10.out (fun x hx => hx.elim (fun e => e ▸ HP.out.r) (fun e => e ▸ HP.out.rb)), HP.out.r, HP.out.rb, HP.out.gg, HP.out.gR, HP.out.gb, ?_, HR8.out.fr HF10.out (fun b9 h9 hx => hx.elim (hnRb b9 h9).1.1 (hnRb b9 h9).1.2), fun b9 h9 => ⟨(hnRb b9 h9).1, (hnRb b9 h9).2, Nat.lt_of_lt_of_le (HL8.out b9 h9) HF10.out.size⟩, HP.out.qg⟩
                          have := HG8.out.fr HF10.out (fun hx => hx.elim HP.out.gR HP.out.gb)
                          rw [← HN.out, ← HM2.out] at this
                          exact this
                        case measure => simp [intOf]; omega
                      · go_simp
                        have HZ := Lib.hid (Blk.new w5 30 [.int .i64 0, .slice none 0 0, .slice none 0 0])
                        refine hK.out _ _ (HSS.out _ (by first | exact (Fr.refl _ _).drew | exact ((Fr.refl _ _).alloc _).drew | exact ((Fr.refl _ _).drew).alloc _ | exact HF5.out | exact HF5.out.alloc _ | exact HF6.out | exact HF6.out.alloc _)) (fun hHeld => ?_)
                        clear hK K
                        try simp only [Act.put, List.setIfInBounds_toArray, List.set_cons_zero, List.set_cons_succ]
                        refine wpAnyH_ready (rs := [6]) (by kernel_rfl) (by simp) ?_
                        refine (AllReadyH.cons (o := ⟨some 109, _, _, _, _, _⟩) rfl (fun K hK => ?_) AllReadyH.nil)
                        go_simp
                        (refine (HNX.out _ (by first | exact (Fr.refl _ _).drew | exact ((Fr.refl _ _).alloc _).drew | exact ((Fr.refl _ _).drew).alloc _ | exact HF5.out | exact HF5.out.alloc _ | exact HF6.out | exact HF6.out.alloc _) p5 d5 (HR5.out.kept (below_al (Below.refl _ _) _))).mono ?_; rintro e w6 ⟨q2, c2, rfl, hr6, hl6, hb6, hq6⟩)
                        have HF6 := Lib.hid (Fr.step (show Fr (fun _ => False) wr _ from (by first | exact (Fr.refl _ _).drew | exact ((Fr.refl _ _).alloc _).drew | exact ((Fr.refl _ _).drew).alloc _ | exact HF5.out | exact HF5.out.alloc _ | exact HF6.out | exact HF6.out.alloc _)) hb6)
                        have HR6 := Lib.hid hr6
                        have HL6 := Lib.hid hl6
                        have HQ6 := Lib.hid hq6
                        have HB6 := Lib.hid hb6.size
                        have HZ6 := Lib.hid (HZ.out.kept hb6)
                        clear hr6 hl6 hb6 hq6
                        refine hK.out _ _ (HSS.out _ HF6.out) (fun hHeld => ?_)
                        clear hK K
                        try simp only [Act.put, List.setIfInBounds_toArray, List.set_cons_zero, List.set_cons_succ]
                        refine wpAnyH_take (i := 7) (oi := ⟨some 102, _, _, _, _, _⟩) (v := ?_) rfl (by kernel_rfl) (by kernel_rfl) (by kernel_rfl) (fun _ _ _ h => h) (Or.inl ⟨by rfl, ?_⟩) hHeld ?_
                        rotate_left
                        · (intro w hSw; obtain ⟨⟨hq1, hq2, hq3⟩, hq4, hq5, hq6⟩ := hSw; go_simp; try with_reducible rfl)
                        try simp only [Act.put, List.setIfInBounds_toArray, List.set_cons_zero, List.set_cons_succ]
                        refine wpAnyH_take (i := 8) (oi := ⟨some 110, _, _, _, _, _⟩) (v := ?_) rfl (by kernel_rfl) (by kernel_rfl) (by kernel_rfl) (fun _ _ _ h => h) (Or.inl ⟨by rfl, ?_⟩) hHeld ?_
                        rotate_left
                        · (intro w hSw; obtain ⟨⟨hq1, hq2, hq3⟩, hq4, hq5, hq6⟩ := hSw; go_simp; try with_reducible rfl)
                        try simp only [Act.put, List.setIfInBounds_toArray, List.set_cons_zero, List.set_cons_succ]
                        refine wpAnyH_take (i := 9) (oi := ⟨some 111, _, _, _, _, _⟩) (v := ?_) rfl (by kernel_rfl) (by kernel_rfl) (by kernel_rfl) (fun _ _ _ h => h) (Or.inl ⟨by rfl, ?_⟩) hHeld ?_
                        rotate_left
                        · (intro w hSw; obtain ⟨⟨hq1, hq2, hq3⟩, hq4, hq5, hq6⟩ := hSw; go_simp; try with_reducible rfl)
                        try simp only [Act.put, List.setIfInBounds_toArray, List.set_cons_zero, List.set_cons_succ]
                        refine wpAnyH_take (i := 10) (oi := ⟨some 112, _, _, _, _, _⟩) (v := ?_) rfl (by kernel_rfl) (by kernel_rfl) (by kernel_rfl) (fun _ _ _ h => h) (Or.inl ⟨by rfl, ?_⟩) hHeld ?_
                        rotate_left
                        · (intro w hSw; obtain ⟨⟨hq1, hq2, hq3⟩, hq4, hq5, hq6⟩ := hSw; go_simp; try with_reducible rfl)
                        try simp only [Act.put, List.setIfInBounds_toArray, List.set_cons_zero, List.set_cons_succ]
                        refine wpAnyH_ready (rs := [12]) (by kernel_rfl) (by simp) ?_
                        refine (AllReadyH.cons (o := ⟨none, _, _, _, _, _⟩) rfl (fun K hK => ?_) AllReadyH.nil)
                        have z0 := HZ6.out.cell 0
                        have z1 := HZ6.out.cell 1
                        have z2 := HZ6.out.cell 2
                        have y0 := HZ6.out.free 0
                        have y1 := HZ6.out.free 1
                        have y2 := HZ6.out.free 2
                        simp only [List.getElem?_cons_zero, List.getElem?_cons_succ] at z0 z1 z2
                        go_simp
                        clear z0 z1 z2 y0 y1 y2
                        have HFz := Lib.hid (((HZ6.out.set_ 0 (.int .i64 a)).set_ 1 (.slice q1 n1 c1)).set_ 2 (.slice q2 m2 c2))
                        have hfz := (((Fr.refl (fun x => x = w5.heap.size) w6).set ⟨w5.heap.size, 0, none⟩ (.int .i64 a) (.inl rfl)).set ⟨w5.heap.size, 1, none⟩ (.slice q1 n1 c1) (.inl rfl)).set ⟨w5.heap.size, 2, none⟩ (.slice q2 m2 c2) (.inl rfl)
                        have HFf := Lib.hid (Fr.trans HF6.out hfz (fun x hx => .inr (by have := HF5.out.size; omega)))
                        have HR7 := Lib.hid (HR6.out.fr hfz (fun b9 h9 hx => by
                      rcases HQ6.out with h | h
                      · rw [h] at h9; have := (HP.out.rq b9 h9).2.2; have := HF5.out.size; omega
                      · have := h b9 h9; (try simp at this); have := HB5.out; (try simp at this); omega))
                        have HL7 := Lib.hid (fun b9 h9 => Nat.lt_of_lt_of_le (HL6.out b9 h9) hfz.size)
                        have HQ7 : Hid (q2 = qp ∨ ∀ b9, q2 = some b9 → wr.heap.size ≤ b9.block) := Lib.hid (HQ6.out.imp id (fun h b9 h9 => by (have := h b9 h9; try simp at this); have := HF5.out.size; have := HB5.out; omega))
                        clear hfz
                        refine hK.out _ _ (HSS.out _ HFf.out) (fun hHeld => ?_)
                        clear hK K
                        try simp only [Act.put, List.setIfInBounds_toArray, List.set_cons_zero, List.set_cons_succ]
                        refine wpAnyH_take (i := 13) (oi := ⟨some 16, _, _, _, _, _⟩) (v := ?_) rfl (by kernel_rfl) (by kernel_rfl) (by kernel_rfl) (fun _ _ _ h => h) (Or.inl ⟨by rfl, ?_⟩) hHeld ?_
                        rotate_left
                        · (intro w hSw; obtain ⟨⟨hq1, hq2, hq3⟩, hq4, hq5, hq6⟩ := hSw; go_simp; try with_reducible rfl)
                        try simp only [Act.put, List.setIfInBounds_toArray, List.set_cons_zero, List.set_cons_succ]
                        refine wpAnyH_take (i := 14) (oi := ⟨some 17, _, _, _, _, _⟩) (v := ?_) rfl (by kernel_rfl) (by kernel_rfl) (by kernel_rfl) (fun _ _ _ h => h) (Or.inl ⟨by rfl, ?_⟩) hHeld ?_
                        rotate_left
                        · (intro w hSw; obtain ⟨⟨hq1, hq2, hq3⟩, hq4, hq5, hq6⟩ := hSw; go_simp; try with_reducible rfl)
                        try simp only [Act.put, List.setIfInBounds_toArray, List.set_cons_zero, List.set_cons_succ]
                        refine wpAnyH_done (by kernel_rfl) ?_ _
                        refine NoPanic.normal ?_
                        clear hHeld
                        generalize (((w6.setCell ⟨w5.heap.size, 0, none⟩ (.int .i64 a)).setCell ⟨w5.heap.size, 1, none⟩ (.slice q1 n1 c1)).setCell ⟨w5.heap.size, 2, none⟩ (.slice q2 m2 c2)) = w7 at *
                        have d0 := HFz.out.cell 0
                        have d1 := HFz.out.cell 1
                        have d2 := HFz.out.cell 2
                        have hg7 := HP.out.blk.fr HFf.out (fun h => h)
                        rw [HN.out, HM.out] at hg7
                        have u0 := hg7.cell 0
                        have u1 := hg7.cell 1
                        have u2 := hg7.cell 2
                        have v0 := hg7.free 0
                        have v1 := hg7.free 1
                        have v2 := hg7.free 2
                        simp only [List.getElem?_cons_zero, List.getElem?_cons_succ, List.set_cons_zero, List.set_cons_succ] at d0 d1 d2 u0 u1 u2
                        have HG8 := Lib.hid (((hg7.set_ 0 (.int .i64 a)).set_ 1 (.slice q1 n1 c1)).set_ 2 (.slice q2 m2 c2))
                        have hf8 := (((Fr.refl (fun x => x = g) w7).set ⟨g, 0, none⟩ (.int .i64 a) (.inl rfl)).set ⟨g, 1, none⟩ (.slice q1 n1 c1) (.inl rfl)).set ⟨g, 2, none⟩ (.slice q2 m2 c2) (.inl rfl)
                        have hf8' := Fr.trans (S := fun x => x = g) (Fr.mono HFf.out (fun x h => h.elim)) hf8 (fun x hx => .inl hx)
                        have HW8 := Lib.hid (Fr.below HP.out.below hf8' (fun x hx => by subst hx; exact HP.out.gg))
                        have HS8 := Lib.hid (HP.out.ss.fr hf8' (fun h => HP.out.gR h.symm) (fun h => HP.out.gb h.symm) (fun b9 h9 hx => HP.out.qg b9 h9 hx))
                        have HR8 := Lib.hid (HR7.out.fr hf8 (fun b9 h9 hx => by
                      rcases HQ7.out with h | h
                      · rw [h] at h9; exact (HP.out.rq b9 h9).2.1 hx
                      · have := h b9 h9; have := HP.out.blk.lt; omega))
                        have HL8 := Lib.hid (fun b9 h9 => Nat.lt_of_lt_of_le (HL7.out b9 h9) hf8.size)
                        clear HFz HFf HR7 HL7 hg7 hf8 hf8'
                        go_upto_region 26 with fail
                        clear d0 d1 d2 u0 u1 u2 v0 v1 v2
                        generalize (((w7.setCell ⟨g, 0, none⟩ (.int .i64 a)).setCell ⟨g, 1, none⟩ (.slice q1 n1 c1)).setCell ⟨g, 2, none⟩ (.slice q2 m2 c2)) = w8 at *
                        have HS26 := Lib.hid fun (w' : World) (hf : Fr (fun x => x = R ∨ x = b) w8 w') => (by
                          have hg := HG8.out.fr hf (fun hx => hx.elim HP.out.gR HP.out.gb)
                          have hw' := Fr.below HW8.out hf (fun x hx => hx.elim (fun e => e ▸ HP.out.r) (fun e => e ▸ HP.out.rb))
                          exact ⟨hg.cell 2, (hw'.cell (p := ⟨bt, ot + k * 3, none⟩) HBT.out).trans HC0.out, (hw'.cell (p := ⟨bt, ot + k * 3 + 1, none⟩) HBT.out).trans HC1.out, (hw'.cell (p := ⟨bt, ot + k * 3 + 2, none⟩) HBT.out).trans HC2.out⟩ : (w'.cell? ⟨g, 2, none⟩ = some (.slice q2 m2 c2) ∧ w'.cell? ⟨bt, ot + k * 3, none⟩ = some (.int .i64 xa) ∧ w'.cell? ⟨bt, ot + k * 3 + 1, none⟩ = some (.slice xq xn xc) ∧ w'.cell? ⟨bt, ot + k * 3 + 2, none⟩ = some (.int .u16 xb)))
                        refine wp_region_noPanic ?_
                        refine wp_region_held_drew (S := fun w' => w'.cell? ⟨g, 2, none⟩ = some (.slice q2 m2 c2) ∧ w'.cell? ⟨bt, ot + k * 3, none⟩ = some (.int .i64 xa) ∧ w'.cell? ⟨bt, ot + k * 3 + 1, none⟩ = some (.slice xq xn xc) ∧ w'.cell? ⟨bt, ot + k * 3 + 2, none⟩ = some (.int .u16 xb)) (by kernel_rfl) (HS26.out _ ((Fr.refl _ _).drew)) (fun hHeld => ?_)
                        refine wpAnyH_take (i := 0) (oi := ⟨some 114, _, _, _, _, _⟩) (v := ?_) rfl (by kernel_rfl) (by kernel_rfl) (by kernel_rfl) (fun _ _ _ h => h) (Or.inl ⟨by rfl, ?_⟩) hHeld ?_
                        rotate_left
                        · (intro w hSw; obtain ⟨hq1, hq2, hq3, hq4⟩ := hSw; go_simp; try with_reducible rfl)
                        try simp only [Act.put, List.setIfInBounds_toArray, List.set_cons_zero, List.set_cons_succ]
                        refine wpAnyH_take (i := 1) (oi := ⟨some 115, _, _, _, _, _⟩) (v := ?_) rfl (by kernel_rfl) (by kernel_rfl) (by kernel_rfl) (fun _ _ _ h => h) (Or.inl ⟨by rfl, ?_⟩) hHeld ?_
                        rotate_left
                        · (intro w hSw; obtain ⟨hq1, hq2, hq3, hq4⟩ := hSw; go_simp; try with_reducible rfl)
                        try simp only [Act.put, List.setIfInBounds_toArray, List.set_cons_zero, List.set_cons_succ]
                        refine wpAnyH_take (i := 2) (oi := ⟨some 116, _, _, _, _, _⟩) (v := ?_) rfl (by kernel_rfl) (by kernel_rfl) (by kernel_rfl) (fun _ _ _ h => h) (Or.inl ⟨by rfl, ?_⟩) hHeld ?_
                        rotate_left
                        · (intro w hSw; obtain ⟨hq1, hq2, hq3, hq4⟩ := hSw; go_simp; try with_reducible rfl)
                        try simp only [Act.put, List.setIfInBounds_toArray, List.set_cons_zero, List.set_cons_succ]
                        refine wpAnyH_take (i := 3) (oi := ⟨some 117, _, _, _, _, _⟩) (v := ?_) rfl (by kernel_rfl) (by kernel_rfl) (by kernel_rfl) (fun _ _ _ h => h) (Or.inl ⟨by rfl, ?_⟩) hHeld ?_
                        rotate_left
                        · (intro w hSw; obtain ⟨hq1, hq2, hq3, hq4⟩ := hSw; go_simp; try with_reducible rfl)
                        try simp only [Act.put, List.setIfInBounds_toArray, List.set_cons_zero, List.set_cons_succ]
                        refine wpAnyH_take (i := 4) (oi := ⟨some 118, _, _, _, _, _⟩) (v := ?_) rfl (by kernel_rfl) (by kernel_rfl) (by kernel_rfl) (fun _ _ _ h => h) (Or.inl ⟨by rfl, ?_⟩) hHeld ?_
                        rotate_left
                        · (intro w hSw; obtain ⟨hq1, hq2, hq3, hq4⟩ := hSw; go_simp; try with_reducible rfl)
                        try simp only [Act.put, List.setIfInBounds_toArray, List.set_cons_zero, List.set_cons_succ]
                        refine wpAnyH_take (i := 5) (oi := ⟨some 119, _, _, _, _, _⟩) (v := ?_) rfl (by kernel_rfl) (by kernel_rfl) (by kernel_rfl) (fun _ _ _ h => h) (Or.inl ⟨by rfl, ?_⟩) hHeld ?_
                        rotate_left
                        · (intro w hSw; obtain ⟨hq1, hq2, hq3, hq4⟩ := hSw; go_simp; try with_reducible rfl)
                        try simp only [Act.put, List.setIfInBounds_toArray, List.set_cons_zero, List.set_cons_succ]
                        refine wpAnyH_take (i := 6) (oi := ⟨some 120, _, _, _, _, _⟩) (v := ?_) rfl (by kernel_rfl) (by kernel_rfl) (by kernel_rfl) (fun _ _ _ h => h) (Or.inl ⟨by rfl, ?_⟩) hHeld ?_
                        rotate_left
                        · (intro w hSw; obtain ⟨hq1, hq2, hq3, hq4⟩ := hSw; go_simp; try with_reducible rfl)
                        try simp only [Act.put, List.setIfInBounds_toArray, List.set_cons_zero, List.set_cons_succ]
                        refine wpAnyH_ready (rs := [7]) (by kernel_rfl) (by simp) ?_
                        refine (AllReadyH.cons (o := ⟨some 121, _, _, _, _, _⟩) rfl (fun K hK => ?_) AllReadyH.nil)
                        go_simp
                        (refine (HEN.out w8.drew ⟨HW8.out.os, HW8.out.tape, HW8.out.output, HW8.out.size, HW8.out.block⟩).mono ?_; rintro e w9 ⟨p9, d9', rfl, hr9, hb9, -⟩)
                        have HB9 := Lib.hid (show Below w8.heap.size w8 w9 from ⟨hb9.os, hb9.tape, hb9.output, hb9.size, hb9.block⟩)
                        have HR9 := Lib.hid hr9
                        clear hr9 hb9
                        refine hK.out _ _ (HS26.out _ (Fr.of_below HB9.out _)) (fun hHeld => ?_)
                        clear hK K
                        try simp only [Act.put, List.setIfInBounds_toArray, List.set_cons_zero, List.set_cons_succ]
                        refine wpAnyH_ready (rs := [8]) (by kernel_rfl) (by simp) ?_
                        refine (AllReadyH.cons (o := ⟨some 122, _, _, _, _, _⟩) rfl (fun K hK => ?_) AllReadyH.nil)
                        go_simp
                        (refine (HPK.out _ (HS8.out.kept HB9.out) p9 d9' HR9.out).mono ?_; rintro e w10 ⟨rfl, hs10⟩)
                        have HS10 := Lib.hid hs10.1
                        have HF10 := Lib.hid (Fr.first HB9.out hs10.2)
                        clear hs10
                        refine hK.out _ _ (HS26.out _ HF10.out) (fun hHeld => ?_)
                        clear hK K
                        try simp only [Act.put, List.setIfInBounds_toArray, List.set_cons_zero, List.set_cons_succ]
                        refine wpAnyH_take (i := 9) (oi := ⟨some 123, _, _, _, _, _⟩) (v := ?_) rfl (by kernel_rfl) (by kernel_rfl) (by kernel_rfl) (fun _ _ _ h => h) (Or.inl ⟨by rfl, ?_⟩) hHeld ?_
                        rotate_left
                        · (intro w hSw; obtain ⟨hq1, hq2, hq3, hq4⟩ := hSw; go_simp; try with_reducible rfl)
                        try simp only [Act.put, List.setIfInBounds_toArray, List.set_cons_zero, List.set_cons_succ]
                        refine wpAnyH_take (i := 10) (oi := ⟨some 124, _, _, _, _, _⟩) (v := ?_) rfl (by kernel_rfl) (by kernel_rfl) (by kernel_rfl) (fun _ _ _ h => h) (Or.inl ⟨by rfl, ?_⟩) hHeld ?_
                        rotate_left
                        · (intro w hSw; obtain ⟨hq1, hq2, hq3, hq4⟩ := hSw; go_simp; try with_reducible rfl)
                        try simp only [Act.put, List.setIfInBounds_toArray, List.set_cons_zero, List.set_cons_succ]
                        refine wpAnyH_take (i := 11) (oi := ⟨some 125, _, _, _, _, _⟩) (v := ?_) rfl (by kernel_rfl) (by kernel_rfl) (by kernel_rfl) (fun _ _ _ h => h) (Or.inl ⟨by rfl, ?_⟩) hHeld ?_
                        rotate_left
                        · (intro w hSw; obtain ⟨hq1, hq2, hq3, hq4⟩ := hSw; go_simp; try with_reducible rfl)
                        try simp only [Act.put, List.setIfInBounds_toArray, List.set_cons_zero, List.set_cons_succ]
                        refine wpAnyH_take (i := 13) (oi := ⟨some 127, _, _, _, _, _⟩) (v := ?_) rfl (by kernel_rfl) (by kernel_rfl) (by kernel_rfl) (fun _ _ _ h => h) (Or.inl ⟨by rfl, ?_⟩) hHeld ?_
                        rotate_left
                        · (intro w hSw; obtain ⟨hq1, hq2, hq3, hq4⟩ := hSw; go_simp; try with_reducible rfl)
                        try simp only [Act.put, List.setIfInBounds_toArray, List.set_cons_zero, List.set_cons_succ]
                        refine wpAnyH_take (i := 14) (oi := ⟨some 128, _, _, _, _, _⟩) (v := ?_) rfl (by kernel_rfl) (by kernel_rfl) (by kernel_rfl) (fun _ _ _ h => h) (Or.inl ⟨by rfl, ?_⟩) hHeld ?_
                        rotate_left
                        · (intro w hSw; obtain ⟨hq1, hq2, hq3, hq4⟩ := hSw; go_simp; try with_reducible rfl)
                        try simp only [Act.put, List.setIfInBounds_toArray, List.set_cons_zero, List.set_cons_succ]
                        refine wpAnyH_take (i := 15) (oi := ⟨some 129, _, _, _, _, _⟩) (v := ?_) rfl (by kernel_rfl) (by kernel_rfl) (by kernel_rfl) (fun _ _ _ h => h) (Or.inl ⟨by rfl, ?_⟩) hHeld ?_
                        rotate_left
                        · (intro w hSw; obtain ⟨hq1, hq2, hq3, hq4⟩ := hSw; go_simp; try with_reducible rfl)
                        try simp only [Act.put, List.setIfInBounds_toArray, List.set_cons_zero, List.set_cons_succ]
                        refine wpAnyH_ready (rs := [12]) (by kernel_rfl) (by simp) ?_
                        refine (AllReadyH.cons (o := ⟨some 126, _, _, _, _, _⟩) rfl (fun K hK => ?_) AllReadyH.nil)
                        go_simp
                        (refine (turns_any HS10.out).mono ?_; rintro e w11 ⟨rfl, rfl⟩)
                        rw [HM2.out]
                        refine hK.out _ _ (HS26.out _ HF10.out) (fun hHeld => ?_)
                        clear hK K
                        try simp only [Act.put, List.setIfInBounds_toArray, List.set_cons_zero, List.set_cons_succ]
                        refine wpAnyH_take (i := 16) (oi := ⟨some 130, _, _, _, _, _⟩) (v := ?_) rfl (by kernel_rfl) (by kernel_rfl) (by kernel_rfl) (fun _ _ _ h => h) (Or.inl ⟨by rfl, ?_⟩) hHeld ?_
                        rotate_left
                        · (intro w hSw; obtain ⟨hq1, hq2, hq3, hq4⟩ := hSw; go_simp; try with_reducible rfl)
                        try simp only [Act.put, List.setIfInBounds_toArray, List.set_cons_zero, List.set_cons_succ]
                        refine wpAnyH_take (i := 17) (oi := ⟨some 131, _, _, _, _, _⟩) (v := ?_) rfl (by kernel_rfl) (by kernel_rfl) (by kernel_rfl) (fun _ _ _ h => h) (Or.inl ⟨by rfl, ?_⟩) hHeld ?_
                        rotate_left
                        · (intro w hSw; obtain ⟨hq1, hq2, hq3, hq4⟩ := hSw; go_simp; try with_reducible rfl)
                        try simp only [Act.put, List.setIfInBounds_toArray, List.set_cons_zero, List.set_cons_succ]
                        refine wpAnyH_done (by kernel_rfl) ?_ _
                        refine NoPanic.normal ?_
                        clear hHeld
                        go_wp2_with fail
                        go_roundw
                        case rel =>
                          refine ⟨k + 1, R, b, q9, d9, L2, q2, c2, by omega, by have := HLX.out; have := HM2.out; have := HM.out; omega, rfl, by go_num, Lib.hid ?_⟩
                          have hnRb : ∀ b9, q2 = some b9 → (b9.block ≠ R ∧ b9.block ≠ b) ∧ b9.block ≠ g := fun b9 h9 => by
                            have r1 := HP.out.ss.blk.lt
                            have r2 := HP.out.ss.mp.lt
                            have r3 := HP.out.blk.lt
                            rcases HQ7.out with h | h
                            · rw [h] at h9; have := HP.out.rq b9 h9; exact ⟨this.1, this.2.1⟩
                            · have := h b9 h9; omega
                          refine ⟨HS10.out, Fr.below HW8.out HF10.out (fun x hx => hx.elim (fun e => e ▸ HP.out.r) (fun e => e ▸ HP.out.rb)), HP.out.r, HP.out.rb, HP.out.gg, HP.out.gR, HP.out.gb, ?_, HR8.out.fr HF10.out (fun b9 h9 hx => hx.elim (hnRb b9 h9).1.1 (hnRb b9 h9).1.2), fun b9 h9 => ⟨(hnRb b9 h9).1, (hnRb b9 h9).2, Nat.lt_of_lt_of_le (HL8.out b9 h9) HF10.out.size⟩, HP.out.qg⟩
                          have := HG8.out.fr HF10.out (fun hx => hx.elim HP.out.gR HP.out.gb)
                          rw [← HN.out, ← HM2.out] at this
                          exact this
                        case measure => simp [intOf]; omega
                    · go_simp
                      have HZ := Lib.hid (show Blk (wr.alloc (.cells #[.int .i64 0, .slice none 0 0, .slice none 0 0] 30)).drew wr.heap.size 30 [.int .i64 0, .slice none 0 0, .slice none 0 0] from Blk.new wr 30 [.int .i64 0, .slice none 0 0, .slice none 0 0])
                      refine hK.out _ _ (HSS.out _ (by first | exact (Fr.refl _ _).drew | exact ((Fr.refl _ _).alloc _).drew | exact ((Fr.refl _ _).drew).alloc _ | exact HF5.out | exact HF5.out.alloc _ | exact HF6.out | exact HF6.out.alloc _)) (fun hHeld => ?_)
                      clear hK K
                      try simp only [Act.put, List.setIfInBounds_toArray, List.set_cons_zero, List.set_cons_succ]
                      refine wpAnyH_ready (rs := [5]) (by kernel_rfl) (by simp) ?_
                      refine (AllReadyH.cons (o := ⟨some 108, _, _, _, _, _⟩) rfl (fun K hK => ?_) AllReadyH.nil)
                      go_simp
                      (refine (HEN.out _ (Fr.below HP.out.below (S := fun _ => False) (by first | exact (Fr.refl _ _).drew | exact ((Fr.refl _ _).alloc _).drew | exact ((Fr.refl _ _).drew).alloc _ | exact HF5.out | exact HF5.out.alloc _ | exact HF6.out | exact HF6.out.alloc _) (fun _ h => h.elim))).mono ?_; rintro e w5 ⟨p5, d5, rfl, hr5, hb5, -⟩)
                      have HF5 := Lib.hid (Fr.step (show Fr (fun _ => False) wr _ from (by first | exact (Fr.refl _ _).drew | exact ((Fr.refl _ _).alloc _).drew | exact ((Fr.refl _ _).drew).alloc _ | exact HF5.out | exact HF5.out.alloc _ | exact HF6.out | exact HF6.out.alloc _)) hb5)
                      have HR5 := Lib.hid hr5
                      have HB5 := Lib.hid hb5.size
                      have HZ5 := Lib.hid (HZ.out.kept hb5)
                      clear hr5 hb5
                      refine hK.out _ _ (HSS.out _ HF5.out) (fun hHeld => ?_)
                      clear hK K
                      try simp only [Act.put, List.setIfInBounds_toArray, List.set_cons_zero, List.set_cons_succ]
                      refine wpAnyH_ready (rs := [6]) (by kernel_rfl) (by simp) ?_
                      refine (AllReadyH.cons (o := ⟨some 109, _, _, _, _, _⟩) rfl (fun K hK => ?_) AllReadyH.nil)
                      go_simp
                      (refine (HNX.out _ (by first | exact (Fr.refl _ _).drew | exact ((Fr.refl _ _).alloc _).drew | exact ((Fr.refl _ _).drew).alloc _ | exact HF5.out | exact HF5.out.alloc _ | exact HF6.out | exact HF6.out.alloc _) p5 d5 HR5.out).mono ?_; rintro e w6 ⟨q2, c2, rfl, hr6, hl6, hb6, hq6⟩)
                      have HF6 := Lib.hid (Fr.step (show Fr (fun _ => False) wr _ from (by first | exact (Fr.refl _ _).drew | exact ((Fr.refl _ _).alloc _).drew | exact ((Fr.refl _ _).drew).alloc _ | exact HF5.out | exact HF5.out.alloc _ | exact HF6.out | exact HF6.out.alloc _)) hb6)
                      have HR6 := Lib.hid hr6
                      have HL6 := Lib.hid hl6
                      have HQ6 := Lib.hid hq6
                      have HB6 := Lib.hid hb6.size
                      have HZ6 := Lib.hid (HZ5.out.kept hb6)
                      clear hr6 hl6 hb6 hq6
                      refine hK.out _ _ (HSS.out _ HF6.out) (fun hHeld => ?_)
                      clear hK K
                      try simp only [Act.put, List.setIfInBounds_toArray, List.set_cons_zero, List.set_cons_succ]
                      refine wpAnyH_take (i := 7) (oi := ⟨some 102, _, _, _, _, _⟩) (v := ?_) rfl (by kernel_rfl) (by kernel_rfl) (by kernel_rfl) (fun _ _ _ h => h) (Or.inl ⟨by rfl, ?_⟩) hHeld ?_
                      rotate_left
                      · (intro w hSw; obtain ⟨⟨hq1, hq2, hq3⟩, hq4, hq5, hq6⟩ := hSw; go_simp; try with_reducible rfl)
                      try simp only [Act.put, List.setIfInBounds_toArray, List.set_cons_zero, List.set_cons_succ]
                      refine wpAnyH_take (i := 8) (oi := ⟨some 110, _, _, _, _, _⟩) (v := ?_) rfl (by kernel_rfl) (by kernel_rfl) (by kernel_rfl) (fun _ _ _ h => h) (Or.inl ⟨by rfl, ?_⟩) hHeld ?_
                      rotate_left
                      · (intro w hSw; obtain ⟨⟨hq1, hq2, hq3⟩, hq4, hq5, hq6⟩ := hSw; go_simp; try with_reducible rfl)
                      try simp only [Act.put, List.setIfInBounds_toArray, List.set_cons_zero, List.set_cons_succ]
                      refine wpAnyH_take (i := 9) (oi := ⟨some 111, _, _, _, _, _⟩) (v := ?_) rfl (by kernel_rfl) (by kernel_rfl) (by kernel_rfl) (fun _ _ _ h => h) (Or.inl ⟨by rfl, ?_⟩) hHeld ?_
                      rotate_left
                      · (intro w hSw; obtain ⟨⟨hq1, hq2, hq3⟩, hq4, hq5, hq6⟩ := hSw; go_simp; try with_reducible rfl)
                      try simp only [Act.put, List.setIfInBounds_toArray, List.set_cons_zero, List.set_cons_succ]
                      refine wpAnyH_take (i := 10) (oi := ⟨some 112, _, _, _, _, _⟩) (v := ?_) rfl (by kernel_rfl) (by kernel_rfl) (by kernel_rfl) (fun _ _ _ h => h) (Or.inl ⟨by rfl, ?_⟩) hHeld ?_
                      rotate_left
                      · (intro w hSw; obtain ⟨⟨hq1, hq2, hq3⟩, hq4, hq5, hq6⟩ := hSw; go_simp; try with_reducible rfl)
                      try simp only [Act.put, List.setIfInBounds_toArray, List.set_cons_zero, List.set_cons_succ]
                      refine wpAnyH_ready (rs := [12]) (by kernel_rfl) (by simp) ?_
                      refine (AllReadyH.cons (o := ⟨none, _, _, _, _, _⟩) rfl (fun K hK => ?_) AllReadyH.nil)
                      have z0 := HZ6.out.cell 0
                      have z1 := HZ6.out.cell 1
                      have z2 := HZ6.out.cell 2
                      have y0 := HZ6.out.free 0
                      have y1 := HZ6.out.free 1
                      have y2 := HZ6.out.free 2
                      simp only [List.getElem?_cons_zero, List.getElem?_cons_succ] at z0 z1 z2
                      go_simp
                      clear z0 z1 z2 y0 y1 y2
                      have HFz := Lib.hid (((HZ6.out.set_ 0 (.int .i64 a)).set_ 1 (.slice q1 n1 c1)).set_ 2 (.slice q2 m2 c2))
                      have hfz := (((Fr.refl (fun x => x = wr.heap.size) w6).set ⟨wr.heap.size, 0, none⟩ (.int .i64 a) (.inl rfl)).set ⟨wr.heap.size, 1, none⟩ (.slice q1 n1 c1) (.inl rfl)).set ⟨wr.heap.size, 2, none⟩ (.slice q2 m2 c2) (.inl rfl)
                      have HFf := Lib.hid (Fr.trans HF6.out hfz (fun x hx => .inr (by have := HF5.out.size; omega)))
                      have HR7 := Lib.hid (HR6.out.fr hfz (fun b9 h9 hx => by
                      rcases HQ6.out with h | h
                      · rw [h] at h9; have := (HP.out.rq b9 h9).2.2; have := HF5.out.size; omega
                      · have := h b9 h9; (try simp at this); have := HB5.out; (try simp at this); omega))
                      have HL7 := Lib.hid (fun b9 h9 => Nat.lt_of_lt_of_le (HL6.out b9 h9) hfz.size)
                      have HQ7 : Hid (q2 = qp ∨ ∀ b9, q2 = some b9 → wr.heap.size ≤ b9.block) := Lib.hid (HQ6.out.imp id (fun h b9 h9 => by (have := h b9 h9; try simp at this); have := HF5.out.size; have := HB5.out; omega))
                      clear hfz
                      refine hK.out _ _ (HSS.out _ HFf.out) (fun hHeld => ?_)
                      clear hK K
                      try simp only [Act.put, List.setIfInBounds_toArray, List.set_cons_zero, List.set_cons_succ]
                      refine wpAnyH_take (i := 13) (oi := ⟨some 16, _, _, _, _, _⟩) (v := ?_) rfl (by kernel_rfl) (by kernel_rfl) (by kernel_rfl) (fun _ _ _ h => h) (Or.inl ⟨by rfl, ?_⟩) hHeld ?_
                      rotate_left
                      · (intro w hSw; obtain ⟨⟨hq1, hq2, hq3⟩, hq4, hq5, hq6⟩ := hSw; go_simp; try with_reducible rfl)
                      try simp only [Act.put, List.setIfInBounds_toArray, List.set_cons_zero, List.set_cons_succ]
                      refine wpAnyH_take (i := 14) (oi := ⟨some 17, _, _, _, _, _⟩) (v := ?_) rfl (by kernel_rfl) (by kernel_rfl) (by kernel_rfl) (fun _ _ _ h => h) (Or.inl ⟨by rfl, ?_⟩) hHeld ?_
                      rotate_left
                      · (intro w hSw; obtain ⟨⟨hq1, hq2, hq3⟩, hq4, hq5, hq6⟩ := hSw; go_simp; try with_reducible rfl)
                      try simp only [Act.put, List.setIfInBounds_toArray, List.set_cons_zero, List.set_cons_succ]
                      refine wpAnyH_done (by kernel_rfl) ?_ _
                      refine NoPanic.normal ?_
                      clear hHeld
                      generalize (((w6.setCell ⟨wr.heap.size, 0, none⟩ (.int .i64 a)).setCell ⟨wr.heap.size, 1, none⟩ (.slice q1 n1 c1)).setCell ⟨wr.heap.size, 2, none⟩ (.slice q2 m2 c2)) = w7 at *
                      have d0 := HFz.out.cell 0
                      have d1 := HFz.out.cell 1
                      have d2 := HFz.out.cell 2
                      have hg7 := HP.out.blk.fr HFf.out (fun h => h)
                      rw [HN.out, HM.out] at hg7
                      have u0 := hg7.cell 0
                      have u1 := hg7.cell 1
                      have u2 := hg7.cell 2
                      have v0 := hg7.free 0
                      have v1 := hg7.free 1
                      have v2 := hg7.free 2
                      simp only [List.getElem?_cons_zero, List.getElem?_cons_succ, List.set_cons_zero, List.set_cons_succ] at d0 d1 d2 u0 u1 u2
                      have HG8 := Lib.hid (((hg7.set_ 0 (.int .i64 a)).set_ 1 (.slice q1 n1 c1)).set_ 2 (.slice q2 m2 c2))
                      have hf8 := (((Fr.refl (fun x => x = g) w7).set ⟨g, 0, none⟩ (.int .i64 a) (.inl rfl)).set ⟨g, 1, none⟩ (.slice q1 n1 c1) (.inl rfl)).set ⟨g, 2, none⟩ (.slice q2 m2 c2) (.inl rfl)
                      have hf8' := Fr.trans (S := fun x => x = g) (Fr.mono HFf.out (fun x h => h.elim)) hf8 (fun x hx => .inl hx)
                      have HW8 := Lib.hid (Fr.below HP.out.below hf8' (fun x hx => by subst hx; exact HP.out.gg))
                      have HS8 := Lib.hid (HP.out.ss.fr hf8' (fun h => HP.out.gR h.symm) (fun h => HP.out.gb h.symm) (fun b9 h9 hx => HP.out.qg b9 h9 hx))
                      have HR8 := Lib.hid (HR7.out.fr hf8 (fun b9 h9 hx => by
                      rcases HQ7.out with h | h
                      · rw [h] at h9; exact (HP.out.rq b9 h9).2.1 hx
                      · have := h b9 h9; have := HP.out.blk.lt; omega))
                      have HL8 := Lib.hid (fun b9 h9 => Nat.lt_of_lt_of_le (HL7.out b9 h9) hf8.size)
                      clear HFz HFf HR7 HL7 hg7 hf8 hf8'
                      go_upto_region 26 with fail
                      clear d0 d1 d2 u0 u1 u2 v0 v1 v2
                      generalize (((w7.setCell ⟨g, 0, none⟩ (.int .i64 a)).setCell ⟨g, 1, none⟩ (.slice q1 n1 c1)).setCell ⟨g, 2, none⟩ (.slice q2 m2 c2)) = w8 at *
                      have HS26 := Lib.hid fun (w' : World) (hf : Fr (fun x => x = R ∨ x = b) w8 w') => (by
                        have hg := HG8.out.fr hf (fun hx => hx.elim HP.out.gR HP.out.gb)
                        have hw' := Fr.below HW8.out hf (fun x hx => hx.elim (fun e => e ▸ HP.out.r) (fun e => e ▸ HP.out.rb))
                        exact ⟨hg.cell 2, (hw'.cell (p := ⟨bt, ot + k * 3, none⟩) HBT.out).trans HC0.out, (hw'.cell (p := ⟨bt, ot + k * 3 + 1, none⟩) HBT.out).trans HC1.out, (hw'.cell (p := ⟨bt, ot + k * 3 + 2, none⟩) HBT.out).trans HC2.out⟩ : (w'.cell? ⟨g, 2, none⟩ = some (.slice q2 m2 c2) ∧ w'.cell? ⟨bt, ot + k * 3, none⟩ = some (.int .i64 xa) ∧ w'.cell? ⟨bt, ot + k * 3 + 1, none⟩ = some (.slice xq xn xc) ∧ w'.cell? ⟨bt, ot + k * 3 + 2, none⟩ = some (.int .u16 xb)))
                      refine wp_region_noPanic ?_
                      refine wp_region_held_drew (S := fun w' => w'.cell? ⟨g, 2, none⟩ = some (.slice q2 m2 c2) ∧ w'.cell? ⟨bt, ot + k * 3, none⟩ = some (.int .i64 xa) ∧ w'.cell? ⟨bt, ot + k * 3 + 1, none⟩ = some (.slice xq xn xc) ∧ w'.cell? ⟨bt, ot + k * 3 + 2, none⟩ = some (.int .u16 xb)) (by kernel_rfl) (HS26.out _ ((Fr.refl _ _).drew)) (fun hHeld => ?_)
                      refine wpAnyH_take (i := 0) (oi := ⟨some 114, _, _, _, _, _⟩) (v := ?_) rfl (by kernel_rfl) (by kernel_rfl) (by kernel_rfl) (fun _ _ _ h => h) (Or.inl ⟨by rfl, ?_⟩) hHeld ?_
                      rotate_left
                      · (intro w hSw; obtain ⟨hq1, hq2, hq3, hq4⟩ := hSw; go_simp; try with_reducible rfl)
                      try simp only [Act.put, List.setIfInBounds_toArray, List.set_cons_zero, List.set_cons_succ]
                      refine wpAnyH_take (i := 1) (oi := ⟨some 115, _, _, _, _, _⟩) (v := ?_) rfl (by kernel_rfl) (by kernel_rfl) (by kernel_rfl) (fun _ _ _ h => h) (Or.inl ⟨by rfl, ?_⟩) hHeld ?_
                      rotate_left
                      · (intro w hSw; obtain ⟨hq1, hq2, hq3, hq4⟩ := hSw; go_simp; try with_reducible rfl)
                      try simp only [Act.put, List.setIfInBounds_toArray, List.set_cons_zero, List.set_cons_succ]
                      refine wpAnyH_take (i := 2) (oi := ⟨some 116, _, _, _, _, _⟩) (v := ?_) rfl (by kernel_rfl) (by kernel_rfl) (by kernel_rfl) (fun _ _ _ h => h) (Or.inl ⟨by rfl, ?_⟩) hHeld ?_
                      rotate_left
                      · (intro w hSw; obtain ⟨hq1, hq2, hq3, hq4⟩ := hSw; go_simp; try with_reducible rfl)
                      try simp only [Act.put, List.setIfInBounds_toArray, List.set_cons_zero, List.set_cons_succ]
                      refine wpAnyH_take (i := 3) (oi := ⟨some 117, _, _, _, _, _⟩) (v := ?_) rfl (by kernel_rfl) (by kernel_rfl) (by kernel_rfl) (fun _ _ _ h => h) (Or.inl ⟨by rfl, ?_⟩) hHeld ?_
                      rotate_left
                      · (intro w hSw; obtain ⟨hq1, hq2, hq3, hq4⟩ := hSw; go_simp; try with_reducible rfl)
                      try simp only [Act.put, List.setIfInBounds_toArray, List.set_cons_zero, List.set_cons_succ]
                      refine wpAnyH_take (i := 4) (oi := ⟨some 118, _, _, _, _, _⟩) (v := ?_) rfl (by kernel_rfl) (by kernel_rfl) (by kernel_rfl) (fun _ _ _ h => h) (Or.inl ⟨by rfl, ?_⟩) hHeld ?_
                      rotate_left
                      · (intro w hSw; obtain ⟨hq1, hq2, hq3, hq4⟩ := hSw; go_simp; try with_reducible rfl)
                      try simp only [Act.put, List.setIfInBounds_toArray, List.set_cons_zero, List.set_cons_succ]
                      refine wpAnyH_take (i := 5) (oi := ⟨some 119, _, _, _, _, _⟩) (v := ?_) rfl (by kernel_rfl) (by kernel_rfl) (by kernel_rfl) (fun _ _ _ h => h) (Or.inl ⟨by rfl, ?_⟩) hHeld ?_
                      rotate_left
                      · (intro w hSw; obtain ⟨hq1, hq2, hq3, hq4⟩ := hSw; go_simp; try with_reducible rfl)
                      try simp only [Act.put, List.setIfInBounds_toArray, List.set_cons_zero, List.set_cons_succ]
                      refine wpAnyH_take (i := 6) (oi := ⟨some 120, _, _, _, _, _⟩) (v := ?_) rfl (by kernel_rfl) (by kernel_rfl) (by kernel_rfl) (fun _ _ _ h => h) (Or.inl ⟨by rfl, ?_⟩) hHeld ?_
                      rotate_left
                      · (intro w hSw; obtain ⟨hq1, hq2, hq3, hq4⟩ := hSw; go_simp; try with_reducible rfl)
                      try simp only [Act.put, List.setIfInBounds_toArray, List.set_cons_zero, List.set_cons_succ]
                      refine wpAnyH_ready (rs := [7]) (by kernel_rfl) (by simp) ?_
                      refine (AllReadyH.cons (o := ⟨some 121, _, _, _, _, _⟩) rfl (fun K hK => ?_) AllReadyH.nil)
                      go_simp
                      (refine (HEN.out w8.drew ⟨HW8.out.os, HW8.out.tape, HW8.out.output, HW8.out.size, HW8.out.block⟩).mono ?_; rintro e w9 ⟨p9, d9', rfl, hr9, hb9, -⟩)
                      have HB9 := Lib.hid (show Below w8.heap.size w8 w9 from ⟨hb9.os, hb9.tape, hb9.output, hb9.size, hb9.block⟩)
                      have HR9 := Lib.hid hr9
                      clear hr9 hb9
                      refine hK.out _ _ (HS26.out _ (Fr.of_below HB9.out _)) (fun hHeld => ?_)
                      clear hK K
                      try simp only [Act.put, List.setIfInBounds_toArray, List.set_cons_zero, List.set_cons_succ]
                      refine wpAnyH_ready (rs := [8]) (by kernel_rfl) (by simp) ?_
                      refine (AllReadyH.cons (o := ⟨some 122, _, _, _, _, _⟩) rfl (fun K hK => ?_) AllReadyH.nil)
                      go_simp
                      (refine (HPK.out _ (HS8.out.kept HB9.out) p9 d9' HR9.out).mono ?_; rintro e w10 ⟨rfl, hs10⟩)
                      have HS10 := Lib.hid hs10.1
                      have HF10 := Lib.hid (Fr.first HB9.out hs10.2)
                      clear hs10
                      refine hK.out _ _ (HS26.out _ HF10.out) (fun hHeld => ?_)
                      clear hK K
                      try simp only [Act.put, List.setIfInBounds_toArray, List.set_cons_zero, List.set_cons_succ]
                      refine wpAnyH_take (i := 9) (oi := ⟨some 123, _, _, _, _, _⟩) (v := ?_) rfl (by kernel_rfl) (by kernel_rfl) (by kernel_rfl) (fun _ _ _ h => h) (Or.inl ⟨by rfl, ?_⟩) hHeld ?_
                      rotate_left
                      · (intro w hSw; obtain ⟨hq1, hq2, hq3, hq4⟩ := hSw; go_simp; try with_reducible rfl)
                      try simp only [Act.put, List.setIfInBounds_toArray, List.set_cons_zero, List.set_cons_succ]
                      refine wpAnyH_take (i := 10) (oi := ⟨some 124, _, _, _, _, _⟩) (v := ?_) rfl (by kernel_rfl) (by kernel_rfl) (by kernel_rfl) (fun _ _ _ h => h) (Or.inl ⟨by rfl, ?_⟩) hHeld ?_
                      rotate_left
                      · (intro w hSw; obtain ⟨hq1, hq2, hq3, hq4⟩ := hSw; go_simp; try with_reducible rfl)
                      try simp only [Act.put, List.setIfInBounds_toArray, List.set_cons_zero, List.set_cons_succ]
                      refine wpAnyH_take (i := 11) (oi := ⟨some 125, _, _, _, _, _⟩) (v := ?_) rfl (by kernel_rfl) (by kernel_rfl) (by kernel_rfl) (fun _ _ _ h => h) (Or.inl ⟨by rfl, ?_⟩) hHeld ?_
                      rotate_left
                      · (intro w hSw; obtain ⟨hq1, hq2, hq3, hq4⟩ := hSw; go_simp; try with_reducible rfl)
                      try simp only [Act.put, List.setIfInBounds_toArray, List.set_cons_zero, List.set_cons_succ]
                      refine wpAnyH_take (i := 13) (oi := ⟨some 127, _, _, _, _, _⟩) (v := ?_) rfl (by kernel_rfl) (by kernel_rfl) (by kernel_rfl) (fun _ _ _ h => h) (Or.inl ⟨by rfl, ?_⟩) hHeld ?_
                      rotate_left
                      · (intro w hSw; obtain ⟨hq1, hq2, hq3, hq4⟩ := hSw; go_simp; try with_reducible rfl)
                      try simp only [Act.put, List.setIfInBounds_toArray, List.set_cons_zero, List.set_cons_succ]
                      refine wpAnyH_take (i := 14) (oi := ⟨some 128, _, _, _, _, _⟩) (v := ?_) rfl (by kernel_rfl) (by kernel_rfl) (by kernel_rfl) (fun _ _ _ h => h) (Or.inl ⟨by rfl, ?_⟩) hHeld ?_
                      rotate_left
                      · (intro w hSw; obtain ⟨hq1, hq2, hq3, hq4⟩ := hSw; go_simp; try with_reducible rfl)
                      try simp only [Act.put, List.setIfInBounds_toArray, List.set_cons_zero, List.set_cons_succ]
                      refine wpAnyH_take (i := 15) (oi := ⟨some 129, _, _, _, _, _⟩) (v := ?_) rfl (by kernel_rfl) (by kernel_rfl) (by kernel_rfl) (fun _ _ _ h => h) (Or.inl ⟨by rfl, ?_⟩) hHeld ?_
                      rotate_left
                      · (intro w hSw; obtain ⟨hq1, hq2, hq3, hq4⟩ := hSw; go_simp; try with_reducible rfl)
                      try simp only [Act.put, List.setIfInBounds_toArray, List.set_cons_zero, List.set_cons_succ]
                      refine wpAnyH_ready (rs := [12]) (by kernel_rfl) (by simp) ?_
                      refine (AllReadyH.cons (o := ⟨some 126, _, _, _, _, _⟩) rfl (fun K hK => ?_) AllReadyH.nil)
                      go_simp
                      (refine (turns_any HS10.out).mono ?_; rintro e w11 ⟨rfl, rfl⟩)
                      rw [HM2.out]
                      refine hK.out _ _ (HS26.out _ HF10.out) (fun hHeld => ?_)
                      clear hK K
                      try simp only [Act.put, List.setIfInBounds_toArray, List.set_cons_zero, List.set_cons_succ]
                      refine wpAnyH_take (i := 16) (oi := ⟨some 130, _, _, _, _, _⟩) (v := ?_) rfl (by kernel_rfl) (by kernel_rfl) (by kernel_rfl) (fun _ _ _ h => h) (Or.inl ⟨by rfl, ?_⟩) hHeld ?_
                      rotate_left
                      · (intro w hSw; obtain ⟨hq1, hq2, hq3, hq4⟩ := hSw; go_simp; try with_reducible rfl)
                      try simp only [Act.put, List.setIfInBounds_toArray, List.set_cons_zero, List.set_cons_succ]
                      refine wpAnyH_take (i := 17) (oi := ⟨some 131, _, _, _, _, _⟩) (v := ?_) rfl (by kernel_rfl) (by kernel_rfl) (by kernel_rfl) (fun _ _ _ h => h) (Or.inl ⟨by rfl, ?_⟩) hHeld ?_
                      rotate_left
                      · (intro w hSw; obtain ⟨hq1, hq2, hq3, hq4⟩ := hSw; go_simp; try with_reducible rfl)
                      try simp only [Act.put, List.setIfInBounds_toArray, List.set_cons_zero, List.set_cons_succ]
                      refine wpAnyH_done (by kernel_rfl) ?_ _
                      refine NoPanic.normal ?_
                      clear hHeld
                      go_wp2_with fail
                      go_roundw
                      case rel =>
                        refine ⟨k + 1, R, b, q9, d9, L2, q2, c2, by omega, by have := HLX.out; have := HM2.out; have := HM.out; omega, rfl, by go_num, Lib.hid ?_⟩
                        have hnRb : ∀ b9, q2 = some b9 → (b9.block ≠ R ∧ b9.block ≠ b) ∧ b9.block ≠ g := fun b9 h9 => by
                          have r1 := HP.out.ss.blk.lt
                          have r2 := HP.out.ss.mp.lt
                          have r3 := HP.out.blk.lt
                          rcases HQ7.out with h | h
                          · rw [h] at h9; have := HP.out.rq b9 h9; exact ⟨this.1, this.2.1⟩
                          · have := h b9 h9; omega
                        refine ⟨HS10.out, Fr.below HW8.out HF10.out (fun x hx => hx.elim (fun e => e ▸ HP.out.r) (fun e => e ▸ HP.out.rb)), HP.out.r, HP.out.rb, HP.out.gg, HP.out.gR, HP.out.gb, ?_, HR8.out.fr HF10.out (fun b9 h9 hx => hx.elim (hnRb b9 h9).1.1 (hnRb b9 h9).1.2), fun b9 h9 => ⟨(hnRb b9 h9).1, (hnRb b9 h9).2, Nat.lt_of_lt_of_le (HL8.out b9 h9) HF10.out.size⟩, HP.out.qg⟩
                        have := HG8.out.fr HF10.out (fun hx => hx.elim HP.out.gR HP.out.gb)
                        rw [← HN.out, ← HM2.out] at this
                        exact this
                      case measure => simp [intOf]; omega
                  · have hx4 : (xa == 1) = false := by simpa using hx3
                    have hx5 : (xa != 1) = true := by simpa using hx3
                    clear hx0 hx3
                    have HCP := Lib.hid (copy_any HP.out.ss)
                    clear HXN HXR HC0 HC1 HC2
                    go_wp2_with fail
                    refine HCP.out.mono ?_
                    rintro e w2 ⟨R2, b2, rfl, hs2, hR2, hb2, hbl2⟩
                    have HS2 := Lib.hid hs2
                    have HRB2 := Lib.hid (show wr.heap.size ≤ R2 ∧ wr.heap.size ≤ b2 from ⟨hR2, hb2⟩)
                    have HB2 := Lib.hid hbl2
                    have HN1 := Lib.hid (next_any ((HP.out.ss.kept hbl2).kept (below_al (Below.refl _ _) (.cells (ints [1, 2]).toArray 3))) (by omega) (some ⟨w2.heap.size, 0, none⟩) 2 [1, 2] (rd_new w2 [1, 2]) (by simp))
                    have HLX := Lib.hid (nxL_len a nums L [1, 2])
                    clear hs2 hR2 hb2 hbl2 HCP
                    go_wp2_with fail
                    refine HN1.out.mono ?_
                    rintro e w3 ⟨rfl, hs3⟩
                    have HF3 := Lib.hid (Fr.first (below_al (Below.refl w2.heap.size w2) (.cells (ints [1, 2]).toArray 3)) hs3.2)
                    have HN2 := Lib.hid (next_any (hs3.1.kept (below_al (Below.refl _ _) (.cells (ints [0]).toArray 3))) (by have := HLX.out; omega) (some ⟨w3.heap.size, 0, none⟩) 1 [0] (rd_new w3 [0]) (by simp))
                    clear hs3 HN1
                    go_wp2_with fail
                    refine HN2.out.mono ?_
                    rintro e w4 ⟨rfl, hs4⟩
                    have HF4 := Lib.hid (HF3.out.trans (Fr.first (below_al (Below.refl w3.heap.size w3) (.cells (ints [0]).toArray 3)) hs4.2) (fun _ h => .inl h))
                    clear hs4 HN2
                    go_wp2_with fail
                    go_roundw
                    case rel =>
                      refine ⟨k + 1, R2, b2, q9, d9, L, qp, cp, by omega, by omega, rfl, by go_num, Lib.hid ?_⟩
                      have r1 := HP.out.ss.blk.lt
                      have r2 := HP.out.ss.mp.lt
                      have r3 := HP.out.blk.lt
                      have r4 := HRB2.out
                      have r5 := HP.out.below.size
                      refine ⟨HS2.out.fr HF4.out (fun h => by rcases h with h | h <;> omega) (fun h => by rcases h with h | h <;> omega) (fun b9 h9 h => h.elim (HP.out.ss.ne b9 h9).1.1 (HP.out.ss.ne b9 h9).1.2), Fr.below (Below.trans HP.out.below (HB2.out.mono r5)) HF4.out (fun x hx => hx.elim (fun e => e ▸ HP.out.r) (fun e => e ▸ HP.out.rb)), by omega, by omega, HP.out.gg, by omega, by omega, (HP.out.blk.kept HB2.out).fr HF4.out (fun h => h.elim HP.out.gR HP.out.gb), (HP.out.rd.kept HB2.out).fr HF4.out (fun b9 h9 h => h.elim (HP.out.rq b9 h9).1.1 (HP.out.rq b9 h9).1.2), fun b9 h9 => ?_, HP.out.qg⟩
                      have h8 := HP.out.rq b9 h9
                      have := HB2.out.size
                      have := HF4.out.size
                      exact ⟨by omega, h8.2.1, by omega⟩
                    case measure => simp [intOf]; omega
              · have hkn : k = lm := by omega
                subst hkn
                go_wp2_with fail
                refine (HK.out _).mono ?_
                rintro e wk ⟨rfl, hbk⟩
                have HBk := Lib.hid (below_step HP.out.below hbk)
                clear hbk
                go_wp2_with fail
                go_ret
                exact ⟨rfl, HBk.out⟩
      · have hxe := hx1 hr0
        have hr2 : (newE kind nums == 0) = false := by simpa using hr0
        have hr3 : (newE kind nums != 0) = true := by simpa using hr0
        generalize newE kind nums = r at *
        subst hxe
        clear hx1 hx0 hb2 HF2 H12 HO1
        go_wp2_with fail
        refine (HRN.out _ HB2.out).mono ?_
        rintro e w3 ⟨a, q1, n1, c1, q2, n2, c2, rfl, -, hb3⟩
        have HB3 := Lib.hid (below_al (below_step HB2.out hb3) (.cells #[.int .i64 a, .slice q1 n1 c1, .slice q2 n2 c2] 30))
        clear hb3 HRN HB2
        go_wp2_with fail
        refine (HK.out _).mono ?_
        rintro e wk ⟨rfl, hbk⟩
        have HBk := Lib.hid (below_step HB3.out hbk)
        clear hbk
        go_wp2_with fail
        go_ret
        exact ⟨rfl, HBk.out⟩
end Go.Proofs.Ytfidnecdojgkjaa
