/- SchedHolds. Printed by sched_holds.py. -/
import Derived.Test.YtfidnecdojgkjaaEnab
import Derived.Test.YtfidnecdojgkjaaLawA
import Derived.Test.YtfidnecdojgkjaaPlainHo
import Derived.Test.YtfidnecdojgkjaaLawL
namespace Go.Proofs.Ytfidnecdojgkjaa
open Go.RowKit

theorem under48 : Try.prog.underlying 48 = some (.map 3 4) := by kernel_rfl
theorem nxE_zero {l : List Int} (h : nxE l = 0) : enB l = true ∧ 0 < l.length := by
  unfold nxE at h
  cases he : enB l with
  | false => rw [he] at h; simp at h
  | true =>
    rw [he, if_pos rfl] at h
    refine ⟨rfl, ?_⟩
    split at h
    · omega
    · omega
theorem enA_len' {x : Ac} (h : x.en.length ≤ 60) : (enA x).length ≤ 60 := by
  unfold enA
  split
  · exact h
  · exact Nat.le_trans (bitsUp_len _ _) (by omega)
theorem tps_snoc (l : List Tp) (x : Tp) : tps (l ++ [x]) = tps l ++ [.slice x.q x.en.length x.c, .int .i64 x.pk] := by simp [tps, Tp.cells]
/-- A turn that has been kept, apart from what the loop changes. -/
def ElOk (w : World) (R b mb : Nat) (v : Value) (t : Tp) : Prop := Rd w w.heap.size t.q (ints t.en) ∧ t.en.length ≤ 60 ∧ ∀ a, t.q = some a → ((a.block ≠ R ∧ a.block ≠ b) ∧ a.block ≠ mb) ∧ a.block < w.heap.size ∧ ∀ x, v.ownBlock = some x → a.block ≠ x
theorem ElOk.fr {w w' : World} {R b mb : Nat} {v v' : Value} {t : Tp} {S : Nat → Prop} (h : ElOk w R b mb v t) (hf : Fr S w w') (hS : ∀ x, S x → x = R ∨ x = b ∨ x = mb ∨ v.ownBlock = some x) (hv : v'.ownBlock = v.ownBlock ∨ ∀ k, v'.ownBlock = some k → w.heap.size ≤ k) : ElOk w' R b mb v' t := by
  obtain ⟨h1, h2, h3⟩ := h
  refine ⟨h1.fr hf (fun a ha hx => ?_), h2, fun a ha => ?_⟩
  · obtain ⟨⟨⟨n1, n2⟩, n3⟩, n4, n5⟩ := h3 a ha
    rcases hS _ hx with h | h | h | h
    · exact n1 h
    · exact n2 h
    · exact n3 h
    · exact n5 _ h rfl
  · obtain ⟨n1, n4, n5⟩ := h3 a ha
    refine ⟨n1, Nat.lt_of_lt_of_le n4 hf.size, fun x hx => ?_⟩
    rcases hv with hv | hv
    · rw [hv] at hx; exact n5 x hx
    · have := hv x hx; omega
/-- The state of the loop over calls. -/
structure HSt (W w : World) (B0 R b mb : Nat) (q : Option Addr) (d : Nat) (kind : Int) (nums L : List Int) (tp : List Tp) (v : Value) : Prop where
  ss : SS w R b q d kind nums L
  below : Below W.heap.size W w
  size : B0 ≤ w.heap.size
  ran : Ran kind nums L (tp.map Tp.tn)
  own : w.ownsRow B0 44 2 v tp.length (tps tp)
  mp : ∃ N, Mp w mb N (everK (tp.map Tp.tn) [] 0)
  el : ∀ t ∈ tp, ElOk w R b mb v t
set_option maxRecDepth 100000 in
set_option maxHeartbeats 8000000 in
theorem schedHolds_walk (kind : Int) (p q : Option Addr) (c cl : Nat) (nums : List Int) (l : List Ac) (bound : Int) (W : World) (hr : Rd W W.heap.size p (ints nums)) (hc : nums.length ≤ c) (hcm : c ≤ maxLen)
    (hq : Rd W W.heap.size q (acs l)) (hlc : l.length ≤ cl) (hlm : cl ≤ maxLen) (hok : ∀ x ∈ l, x.ok W) :
    Calls Try.prog 7 #[.int .i64 kind, .slice p nums.length c, .slice q l.length cl, .int .i64 bound] W fun e w' => e = .returned (.bool true) ∧ Below W.heap.size W w' := by
  have HK := Lib.hid known_any
  have HFW := Lib.hid (few_any cl l hq (by have := maxLen_le hlm; omega))
  have hnm := maxLen_le hcm
  have HR := Lib.hid hr
  have HQ := Lib.hid hq
  have HOK := Lib.hid hok
  have HNW := Lib.hid (fun (h : nums.length ≤ 100) => new_any p c kind nums hr (by omega))
  obtain ⟨n, hn⟩ : ∃ n, nums.length = n := ⟨_, rfl⟩
  have HN := Lib.hid hn
  rw [hn] at hc HNW ⊢
  have hn63 : n ≤ 9223372036854775807 := by omega
  clear hr hq hok hc hcm hlc hlm hnm hn
  by_cases hn1 : 100 < n
  · have hni : (100 : Int) < (n : Int) := by omega
    clear HFW HOK HQ HNW
    generalize l.length = m at *
    go_enter Try.func7, Try.ntmps7
    go_wp2_with fail
    refine (HK.out _).mono ?_
    rintro e wk ⟨rfl, hbk⟩
    have HBk := Lib.hid (below_step (Below.refl _ _) hbk)
    clear hbk
    go_wp2_with fail
    go_ret
    exact ⟨rfl, HBk.out⟩
  · have hni : (n : Int) ≤ 100 := by omega
    cases hf : fewB l with
    | false =>
      rw [hf] at HFW
      clear hf HOK HQ HNW
      generalize l.length = m at *
      go_enter Try.func7, Try.ntmps7
      go_wp2_with fail
      refine HFW.out.mono ?_
      rintro e w1 ⟨rfl, rfl⟩
      go_wp2_with fail
      refine (HK.out _).mono ?_
      rintro e wk ⟨rfl, hbk⟩
      have HBk := Lib.hid (below_step (Below.refl _ _) hbk)
      clear hbk
      go_wp2_with fail
      go_ret
      exact ⟨rfl, HBk.out⟩
    | true =>
      have HL := Lib.hid (fewB_iff hf)
      rw [hf] at HFW
      replace HNW := Lib.hid (HNW.out (by omega))
      clear hf hn1
      obtain ⟨lm, hlm⟩ : ∃ m, l.length = m := ⟨_, rfl⟩
      have HLM := Lib.hid hlm
      have hlm1 : lm ≤ 100 := by have := HL.out.1; omega
      rw [hlm] at HFW ⊢
      clear hlm
      by_cases hbd : bound < 1
      · clear HNW HOK HQ
        go_enter Try.func7, Try.ntmps7
        go_wp2_with fail
        refine HFW.out.mono ?_
        rintro e w1 ⟨rfl, rfl⟩
        go_wp2_with fail
        refine (HK.out _).mono ?_
        rintro e wk ⟨rfl, hbk⟩
        have HBk := Lib.hid (below_step (Below.refl _ _) hbk)
        clear hbk
        go_wp2_with fail
        go_ret
        exact ⟨rfl, HBk.out⟩
      · have hbd2 : decide (bound < 1) = false := by simpa using hbd
        have HBD1 := Lib.hid (show 1 ≤ bound by omega)
        clear hbd
        go_enter Try.func7, Try.ntmps7
        go_wp2_with fail
        refine HFW.out.mono ?_
        rintro e w1 ⟨rfl, rfl⟩
        go_wp2_with fail
        refine HNW.out.mono ?_
        rintro e w2 ⟨hx1, hx0, hb2⟩
        have HB2 := Lib.hid hb2
        clear HFW HNW
        by_cases hr0 : newE kind nums = 0
        · obtain ⟨R, b, q9, d9, rfl, hss, hR, hb, hq9⟩ := hx0 hr0
          have HS2 := Lib.hid hss
          have HRR := Lib.hid (show W.heap.size ≤ R ∧ W.heap.size ≤ b from ⟨hR, hb⟩)
          clear hx1 hx0 hb2 hss hR hb hq9 hr0
          have hmk := fun w => run_makeMap (P := Try.prog) 48 w
          have HW0 := Lib.hid (show HSt W (w2.alloc (.map #[] 0)) (w2.heap.size + 1) R b w2.heap.size q9 d9 kind nums [] [] (.slice none 0 0) from
            ⟨HS2.out.kept (below_al (Below.refl _ _) _), below_al HB2.out _, by simp, Ran.nil _ _, World.ownsRow_nil _ _ _ _, ⟨0, by simp only [List.map_nil, everK_nil]; exact Mp.new w2⟩, by simp⟩)
          have HRL := Lib.hid (show (R < w2.heap.size ∧ b < w2.heap.size) ∧ ∀ a, q9 = some a → a.block < w2.heap.size from ⟨⟨HS2.out.blk.lt, HS2.out.mp.lt⟩, fun a ha => (HS2.out.ne a ha).2⟩)
          have HWB := Lib.hid (show W.heap.size ≤ w2.heap.size from HB2.out.size)
          go_wp2_with fail
          clear hmk HB2 HS2
          generalize w2.alloc (.map #[] 0) = w20 at *
          go_loopw [11, 13] (fun v i wr => ∃ (k : Nat) (L : List Int) (tp : List Tp) (v0 : Value), k ≤ lm ∧ L.length ≤ k ∧ tp.length ≤ k ∧ v = v0 ∧ i = .int .i64 k ∧ Hid (HSt W wr (w2.heap.size + 1) R b w2.heap.size q9 d9 kind nums L tp v0)) (fun _ i _ => lm - (intOf i).toNat)
          case atStart => exact ⟨0, [], [], _, Nat.zero_le _, Nat.le_refl _, Nat.le_refl _, rfl, rfl, HW0⟩
          case round =>
            clear HW0
            obtain ⟨k, L, tp, v0, hk, hLk, htk, rfl, rfl, HP⟩ := hrel
            obtain ⟨pv, cv, rfl, _, _⟩ := own_shape HP.out.own
            obtain ⟨tn, htn⟩ : ∃ m, tp.length = m := ⟨_, rfl⟩
            have HTN := Lib.hid htn
            rw [htn] at HP htk ⊢
            have HOW := Lib.hid (show wr.ownsRow (w2.heap.size + 1) 44 2 (.slice pv tn cv) tn (tps tp) from htn ▸ HP.out.own)
            clear htn
            generalize hmb : w2.heap.size = mb at *
            clear hmb
            by_cases hlt : k < lm
            · have hki : (k : Int) < (lm : Int) := by omega
              have hlt2 : k < l.length := by rw [HLM.out]; exact hlt
              obtain ⟨bt, ot, rfl, hbt, cw0, cw1, cw2⟩ := acs_rd HQ.out hlt2
              have hxl := HL.out.2 _ (List.getElem_mem hlt2)
              have hxo := HOK.out _ (List.getElem_mem hlt2)
              obtain ⟨x, hx⟩ : ∃ x, l[k] = x := ⟨_, rfl⟩
              rw [hx] at cw0 cw1 cw2 hxl hxo
              obtain ⟨xa, xq, xc, xe, xb⟩ := x
              simp only at cw0 cw1 cw2 hxl
              have HE := Lib.hid (enA_len' (x := ⟨xa, xq, xc, xe, xb⟩) hxl)
              have hXR : Rd W W.heap.size xq (ints xe) := hxo.2.1
              have HXQ : Hid (xa = 0 → enA ⟨xa, xq, xc, xe, xb⟩ ≠ [] → ∀ a9, xq = some a9 → a9.block < W.heap.size) := Lib.hid (fun h0 h1 a9 h9 => by
                rcases hXR with hn | ⟨b9, o9, hp9, hl9, _⟩
                · rw [enA, if_pos h0] at h1
                  exact absurd (List.map_eq_nil_iff.1 hn) h1
                · rw [h9] at hp9
                  injection hp9 with hp9
                  rw [hp9]
                  exact hl9)
              have HEA := Lib.hid (enab_any (w := wr) ⟨xa, xq, xc, xe, xb⟩ (hXR.kept HP.out.below))
              obtain ⟨xn, hxn⟩ : ∃ m, xe.length = m := ⟨_, rfl⟩
              rw [hxn] at cw1 hxl
              simp only [hxn] at HEA
              have hc0 := (HP.out.below.cell (p := ⟨bt, ot + k * 3, none⟩) hbt).trans cw0
              have hc1 := (HP.out.below.cell (p := ⟨bt, ot + k * 3 + 1, none⟩) hbt).trans cw1
              have hc2 := (HP.out.below.cell (p := ⟨bt, ot + k * 3 + 2, none⟩) hbt).trans cw2
              have HC0 := Lib.hid cw0
              have HBT := Lib.hid hbt
              clear cw0 cw1 cw2 hx hlt2 hxo hXR hxn hbt
              obtain ⟨E, hE⟩ : ∃ E, enA ⟨xa, xq, xc, xe, xb⟩ = E := ⟨_, rfl⟩
              rw [hE] at HE HEA HXQ
              clear hE
              go_wp2_with fail
              unfold RetQ at HEA
              refine HEA.out.mono ?_
              rintro e w1 ⟨p5, d5, rfl, hr5, hb5, hq5⟩
              have HR5 := Lib.hid hr5
              have HB5 := Lib.hid hb5
              have hm0 := HRL.out
              have hNE : E ≠ [] → ∀ a9, p5 = some a9 → (((a9.block ≠ R ∧ a9.block ≠ b) ∧ a9.block ≠ mb) ∧ a9.block < w1.heap.size) ∧ ∀ x, (Value.slice pv tn cv).ownBlock = some x → a9.block ≠ x := fun hne a9 h9 => by
                have hlt9 : a9.block < w1.heap.size := by
                  rcases hr5 with hn | ⟨b9, o9, hp9, hl9, _⟩
                  · exact absurd (List.map_eq_nil_iff.1 hn) hne
                  · rw [h9] at hp9; injection hp9 with hp9; rw [hp9]; exact hl9
                have hsz := HP.out.size
                have hol := own_lt HP.out.own
                have hwb := HWB.out
                have hrr := HRR.out
                rcases hq5 with ⟨h0, he⟩ | hf
                · have := HXQ.out h0 hne a9 (he ▸ h9)
                  exact ⟨⟨⟨⟨by omega, by omega⟩, by omega⟩, hlt9⟩, fun x hx => by have := (hol x hx).1; omega⟩
                · have := hf a9 h9
                  exact ⟨⟨⟨⟨by omega, by omega⟩, by omega⟩, hlt9⟩, fun x hx => by have := (hol x hx).2; omega⟩
              have HNE0 := Lib.hid hNE
              have hnx := next_any (HP.out.ss.kept hb5) (by omega) p5 d5 E hr5 (by have := HE.out; omega)
              obtain ⟨en, hen⟩ : ∃ m, E.length = m := ⟨_, rfl⟩
              have HEN := Lib.hid hen
              rw [hen] at hnx HE ⊢
              have hen60 : en ≤ 60 := HE.out
              have HNX := Lib.hid hnx
              obtain ⟨T, hT⟩ : ∃ T, tp.map Tp.tn = T := ⟨_, rfl⟩
              have HTT := Lib.hid hT
              have HMW := Lib.hid (show ∃ N, Mp w1 mb N (everK T [] 0) by obtain ⟨N0, h0⟩ := HP.out.mp; rw [hT] at h0; exact ⟨N0, h0.kept hb5⟩)
              clear hr5 hb5 hq5 hm0 hNE hnx hen hT hc0 hc1 hc2 HXQ HEA
              by_cases he : nxE E = 0
              · obtain ⟨hEB, h0⟩ := nxE_zero he
                have HEB := Lib.hid hEB
                rw [HEN.out] at h0
                obtain ⟨z, hz⟩ : ∃ z, pickF kind nums L E = z := ⟨_, rfl⟩
                have HZE := Lib.hid (show z ∈ E by rw [← hz]; exact pickF_mem (by rw [HEN.out]; exact h0))
                have HRN := Lib.hid (show Ran kind nums (L ++ [z]) (tp.map Tp.tn ++ [⟨E, z⟩]) by rw [← hz]; exact HP.out.ran.snoc hEB (by rw [HEN.out]; exact h0))
                have e1 : nxT kind nums L E = z := by rw [nxT, if_pos he, hz]
                have e2 : nxL kind nums L E = L ++ [z] := by rw [nxL, if_pos he, hz]
                rw [he, e1, e2] at HNX
                have HNE := Lib.hid (fun a9 h9 => (HNE0.out (fun e => by rw [e] at HEN; have := HEN.out; simp at this; omega) a9 h9).1.1)
                have HNEO := Lib.hid (fun a9 h9 => HNE0.out (fun e => by rw [e] at HEN; have := HEN.out; simp at this; omega) a9 h9)
                have hen0 : ((en : Int) == 0) = false := by rw [beq_eq_false_iff_ne]; omega
                clear e1 e2 hz he hEB h0
                go_wp2_with fail
                refine HNX.out.mono ?_
                rintro e w2' ⟨rfl, hs2⟩
                rename_i w2old
                have HS2 := Lib.hid hs2.1
                have HF2 := Lib.hid hs2.2
                have hml := HRL.out
                have HM2 := Lib.hid (show ∃ N, Mp w2' mb N (everK T [] 0) by obtain ⟨N0, h0⟩ := HMW.out; exact ⟨N0, h0.fr hs2.2 (fun hx => by rcases hx with hx | hx <;> omega)⟩)
                have HR2 := Lib.hid (HR5.out.fr hs2.2 (fun a9 h9 hx => hx.elim (HNE.out a9 h9).1.1 (HNE.out a9 h9).1.2))
                have HO2 := Lib.hid (own_fr (own_fr HOW.out (Fr.of_below HB5.out (fun _ => False)) (fun _ _ h => h)) hs2.2 (fun x hx e => by have := (own_lt HP.out.own x hx).1; rcases e with e | e <;> omega))
                have HSZ2 := Lib.hid (show mb + 1 ≤ w2'.heap.size by have := HP.out.size; have := HB5.out.size; have := hs2.2.size; omega)
                have HW2 := Lib.hid (Fr.below (below_step HP.out.below HB5.out) hs2.2 (fun x hx => hx.elim (fun e => e ▸ HRR.out.1) (fun e => e ▸ HRR.out.2)))
                have HEL := Lib.hid (fun t ht => ElOk.fr (ElOk.fr (HP.out.el t ht) (Fr.of_below HB5.out (fun _ => False)) (fun _ h => h.elim) (.inl rfl)) hs2.2 (fun x hx => hx.elim .inl (fun e => .inr (.inl e))) (.inl rfl))
                have HNEW := Lib.hid (show ElOk w2' R b mb (.slice pv tn cv) ⟨p5, d5, E, z⟩ from ElOk.fr (w := w1) ⟨HR5.out, by rw [HEN.out]; exact hen60, fun a9 h9 => ⟨(HNEO.out a9 h9).1.1, (HNEO.out a9 h9).1.2, (HNEO.out a9 h9).2⟩⟩ hs2.2 (fun x hx => hx.elim .inl (fun e => .inr (.inl e))) (.inl rfl))
                have hca := (HW2.out.cell (p := ⟨bt, ot + k * 3, none⟩) HBT.out).trans HC0.out
                clear hs2 hml HNX HMW HR5 HB5
                by_cases hx0 : xa = 0
                · have hx1 : (xa != 0) = false := by simpa using hx0
                  clear hx0
                  go_wp2_with fail
                  go_loopw [17, 18] (fun s i wq => ∃ (j : Nat) (u : Bool), j ≤ en ∧ i = .int .i64 j ∧ s = .bool u ∧ Hid (u = decide (z ∈ E.take j)) ∧ Hid (∃ N, Mp wq mb N (everK T E j)) ∧ Hid (Fr (fun x => x = mb) w2' wq)) (fun _ i _ => en - (intOf i).toNat)
                  case atStart => exact ⟨0, false, Nat.zero_le _, rfl, rfl, Lib.hid (by simp), Lib.hid (by rw [everK_zero T E []]; exact HM2.out), Lib.hid (Fr.refl _ _)⟩
                  case round =>
                    obtain ⟨j, u, hj, rfl, rfl, HU, HM, HF⟩ := hrel
                    by_cases hjt : j < en
                    · have hji : (j : Int) < (en : Int) := by omega
                      have hj2 : j < E.length := by rw [HEN.out]; exact hjt
                      obtain ⟨bb, oo, rfl, hbb, hcj⟩ := (HR2.out.fr HF.out (fun a9 h9 e9 => (HNE.out a9 h9).2 e9)).int hj2
                      have HT1 := Lib.hid (everK_step (T := T) hj2)
                      have HT2 := Lib.hid (fun y => mem_take_succ hj2 y)
                      have hyr := enB_range HEB.out E[j] (List.getElem_mem hj2)
                      obtain ⟨y, hy⟩ : ∃ y, E[j] = y := ⟨_, rfl⟩
                      rw [hy] at hcj HT1 HT2 hyr
                      obtain ⟨N0, hN0⟩ := HM.out
                      obtain ⟨w3, hput, hm3, hf3⟩ := hN0.put (P := Try.prog) (t := 48) (e := 4) under3 under48 y (wf_of (by omega) (by omega)) (.bool true)
                      have HM3 := Lib.hid (show ∃ N, Mp w3 mb N (everK T E (j + 1)) from ⟨_, by rw [← HT1.out]; exact hm3⟩)
                      have HF3 := Lib.hid (HF.out.trans hf3 (fun x h => .inl h))
                      have hcj3 := (World.cell?_of_block (w := wr) (w' := w3) (a := ⟨bb, oo + j, none⟩) (hf3.block bb hbb (fun e => (HNE.out _ rfl).2 e))).trans hcj
                      clear hy hj2 hm3 hf3 hN0 hyr
                      cases u with
                      | true =>
                        have HU2 := Lib.hid (show true = decide (z ∈ E.take (j + 1)) by
                          have h9 := HU.out
                          rw [eq_comm, decide_eq_true_eq] at h9 ⊢
                          exact (HT2.out z).2 (.inl h9))
                        go_wp2_with fail
                        go_roundw
                        case rel => exact ⟨j + 1, true, by omega, by go_num, rfl, HU2, HM3, HF3⟩
                        case measure => simp [intOf]; omega
                      | false =>
                        have HU2 : Hid (∀ u : Bool, (y == z) = u → u = decide (z ∈ E.take (j + 1))) := Lib.hid (fun u hu => by
                          have h9 := HU.out
                          rw [eq_comm, decide_eq_false_iff_not] at h9
                          have h8 := HT2.out z
                          cases u with
                          | true => rw [eq_comm, decide_eq_true_eq]; exact h8.2 (.inr (by have h7 := hu; simp at h7; exact h7.symm : z = y))
                          | false => rw [eq_comm, decide_eq_false_iff_not]; exact fun h => (h8.1 h).elim h9 (fun e => by rw [e] at hu; simp at hu))
                        obtain ⟨u, hu⟩ : ∃ u, (y == z) = u := ⟨_, rfl⟩
                        have HU3 := Lib.hid (HU2.out u hu)
                        cases u with
                        | true =>
                          go_wp2_with fail
                          go_roundw
                          case rel => exact ⟨j + 1, true, by omega, by go_num, rfl, HU3, HM3, HF3⟩
                          case measure => simp [intOf]; omega
                        | false =>
                          go_wp2_with fail
                          go_roundw
                          case rel => exact ⟨j + 1, false, by omega, by go_num, rfl, HU3, HM3, HF3⟩
                          case measure => simp [intOf]; omega
                    · have hje : en = j := by omega
                      subst hje
                      have hu : u = true := by
                        rw [HU.out, decide_eq_true_eq, ← HEN.out, List.take_length]; exact HZE.out
                      subst hu
                      have HOn := Lib.hid (own_fr HO2.out HF.out (fun x hx e => by have := (own_lt HO2.out x hx).1; omega))
                      have HWZ := Lib.hid (show mb + 1 ≤ wr.heap.size from by have := HF.out.size; have := HSZ2.out; omega)
                      clear HM2
                      go_wp2_with (at_builtin; refine wpList_appS rfl (.tmp 114) (.tmp 118) 35 rfl (mb + 1) 44 (.agg #[.slice none 0 0, .int .i64 0]) 2 32 Try.underlying35 turn_info rfl (by omega) _ tn (tps tp) rfl HOn.out [.slice p5 en d5, .int .i64 z] rfl (by intro u hu; simp at hu; rcases hu with rfl | rfl <;> rfl) rfl (by omega) (by omega) HWZ.out ?_; intro v' w' hown' hb' hat' hg'; obtain ⟨pv', cv', rfl, _, _⟩ := own_shape hown'; have HO' := Lib.hid hown'; have HB' := Lib.hid hb'; have HA' := Lib.hid hat'; have HG' := Lib.hid hg'; clear hown' hb' hat' hg')
                      go_roundw
                      case rel =>
                        refine ⟨k + 1, L ++ [z], tp ++ [⟨p5, d5, E, z⟩], _, by omega, by rw [List.length_append]; simp; omega, by rw [List.length_append, HTN.out]; simp; omega, rfl, by go_num, Lib.hid ?_⟩
                        have hG := Fr.gb (Fr.refl (fun x => (Value.slice pv tn cv).ownBlock = some x) wr) HG'.out (fun c hc => .inl hc)
                        have hol := own_lt HOn.out
                        have h1 := HRL.out
                        refine ⟨(HS2.out.fr HF.out (fun e => by omega) (fun e => by omega) (fun a9 h9 e => by have := h1.2 a9 h9; omega)).fr hG (fun e => by have := (hol _ e).1; omega) (fun e => by have := (hol _ e).1; omega) (fun a9 h9 e => by have := (hol _ e).1; have := h1.2 a9 h9; omega), ?_, by have := hG.size; have := HWZ.out; omega, ?_, ?_, ?_, ?_⟩
                        · exact Fr.below (Fr.below HW2.out HF.out (fun x hx => by have := HWB.out; omega)) hG (fun x hx => by have := (hol _ hx).1; have := HWB.out; omega)
                        · rw [List.map_append]; have := HRN.out; exact this
                        · rw [tps_snoc, List.length_append, HTN.out]; have h7 := HO'.out; rw [← HEN.out] at h7; exact h7
                        · obtain ⟨N0, hN0⟩ := HM.out
                          refine ⟨N0, ?_⟩
                          rw [List.map_append, HTT.out]
                          have := everK_all T E z
                          rw [HEN.out] at this
                          exact (this ▸ hN0).fr hG (fun e => by have := (hol _ e).1; omega)
                        · intro t ht
                          rcases List.mem_append.1 ht with ht | ht
                          · exact ElOk.fr (ElOk.fr (HEL.out t ht) HF.out (fun x hx => .inr (.inr (.inl hx))) (.inl rfl)) hG (fun x hx => .inr (.inr (.inr hx))) HA'.out
                          · rw [List.mem_singleton] at ht
                            subst ht
                            exact ElOk.fr (ElOk.fr HNEW.out HF.out (fun x hx => .inr (.inr (.inl hx))) (.inl rfl)) hG (fun x hx => .inr (.inr (.inr hx))) HA'.out
                      case measure => simp [intOf]; omega
                · have hx1 : (xa != 0) = true := by simpa using hx0
                  by_cases hx3 : xa = 1
                  · have hx4 : (xa != 1) = false := by simpa using hx3
                    clear hx0 hx3
                    go_wp2_with fail
                    go_loopw [17, 18] (fun s i wq => ∃ (j : Nat) (u : Bool), j ≤ en ∧ i = .int .i64 j ∧ s = .bool u ∧ Hid (u = decide (z ∈ E.take j)) ∧ Hid (∃ N, Mp wq mb N (everK T E j)) ∧ Hid (Fr (fun x => x = mb) w2' wq)) (fun _ i _ => en - (intOf i).toNat)
                    case atStart => exact ⟨0, false, Nat.zero_le _, rfl, rfl, Lib.hid (by simp), Lib.hid (by rw [everK_zero T E []]; exact HM2.out), Lib.hid (Fr.refl _ _)⟩
                    case round =>
                      obtain ⟨j, u, hj, rfl, rfl, HU, HM, HF⟩ := hrel
                      by_cases hjt : j < en
                      · have hji : (j : Int) < (en : Int) := by omega
                        have hj2 : j < E.length := by rw [HEN.out]; exact hjt
                        obtain ⟨bb, oo, rfl, hbb, hcj⟩ := (HR2.out.fr HF.out (fun a9 h9 e9 => (HNE.out a9 h9).2 e9)).int hj2
                        have HT1 := Lib.hid (everK_step (T := T) hj2)
                        have HT2 := Lib.hid (fun y => mem_take_succ hj2 y)
                        have hyr := enB_range HEB.out E[j] (List.getElem_mem hj2)
                        obtain ⟨y, hy⟩ : ∃ y, E[j] = y := ⟨_, rfl⟩
                        rw [hy] at hcj HT1 HT2 hyr
                        obtain ⟨N0, hN0⟩ := HM.out
                        obtain ⟨w3, hput, hm3, hf3⟩ := hN0.put (P := Try.prog) (t := 48) (e := 4) under3 under48 y (wf_of (by omega) (by omega)) (.bool true)
                        have HM3 := Lib.hid (show ∃ N, Mp w3 mb N (everK T E (j + 1)) from ⟨_, by rw [← HT1.out]; exact hm3⟩)
                        have HF3 := Lib.hid (HF.out.trans hf3 (fun x h => .inl h))
                        have hcj3 := (World.cell?_of_block (w := wr) (w' := w3) (a := ⟨bb, oo + j, none⟩) (hf3.block bb hbb (fun e => (HNE.out _ rfl).2 e))).trans hcj
                        clear hy hj2 hm3 hf3 hN0 hyr
                        cases u with
                        | true =>
                          have HU2 := Lib.hid (show true = decide (z ∈ E.take (j + 1)) by
                            have h9 := HU.out
                            rw [eq_comm, decide_eq_true_eq] at h9 ⊢
                            exact (HT2.out z).2 (.inl h9))
                          go_wp2_with fail
                          go_roundw
                          case rel => exact ⟨j + 1, true, by omega, by go_num, rfl, HU2, HM3, HF3⟩
                          case measure => simp [intOf]; omega
                        | false =>
                          have HU2 : Hid (∀ u : Bool, (y == z) = u → u = decide (z ∈ E.take (j + 1))) := Lib.hid (fun u hu => by
                            have h9 := HU.out
                            rw [eq_comm, decide_eq_false_iff_not] at h9
                            have h8 := HT2.out z
                            cases u with
                            | true => rw [eq_comm, decide_eq_true_eq]; exact h8.2 (.inr (by have h7 := hu; simp at h7; exact h7.symm : z = y))
                            | false => rw [eq_comm, decide_eq_false_iff_not]; exact fun h => (h8.1 h).elim h9 (fun e => by rw [e] at hu; simp at hu))
                          obtain ⟨u, hu⟩ : ∃ u, (y == z) = u := ⟨_, rfl⟩
                          have HU3 := Lib.hid (HU2.out u hu)
                          cases u with
                          | true =>
                            go_wp2_with fail
                            go_roundw
                            case rel => exact ⟨j + 1, true, by omega, by go_num, rfl, HU3, HM3, HF3⟩
                            case measure => simp [intOf]; omega
                          | false =>
                            go_wp2_with fail
                            go_roundw
                            case rel => exact ⟨j + 1, false, by omega, by go_num, rfl, HU3, HM3, HF3⟩
                            case measure => simp [intOf]; omega
                      · have hje : en = j := by omega
                        subst hje
                        have hu : u = true := by
                          rw [HU.out, decide_eq_true_eq, ← HEN.out, List.take_length]; exact HZE.out
                        subst hu
                        have HOn := Lib.hid (own_fr HO2.out HF.out (fun x hx e => by have := (own_lt HO2.out x hx).1; omega))
                        have HWZ := Lib.hid (show mb + 1 ≤ wr.heap.size from by have := HF.out.size; have := HSZ2.out; omega)
                        clear HM2
                        go_wp2_with (at_builtin; refine wpList_appS rfl (.tmp 114) (.tmp 118) 35 rfl (mb + 1) 44 (.agg #[.slice none 0 0, .int .i64 0]) 2 32 Try.underlying35 turn_info rfl (by omega) _ tn (tps tp) rfl HOn.out [.slice p5 en d5, .int .i64 z] rfl (by intro u hu; simp at hu; rcases hu with rfl | rfl <;> rfl) rfl (by omega) (by omega) HWZ.out ?_; intro v' w' hown' hb' hat' hg'; obtain ⟨pv', cv', rfl, _, _⟩ := own_shape hown'; have HO' := Lib.hid hown'; have HB' := Lib.hid hb'; have HA' := Lib.hid hat'; have HG' := Lib.hid hg'; clear hown' hb' hat' hg')
                        go_roundw
                        case rel =>
                          refine ⟨k + 1, L ++ [z], tp ++ [⟨p5, d5, E, z⟩], _, by omega, by rw [List.length_append]; simp; omega, by rw [List.length_append, HTN.out]; simp; omega, rfl, by go_num, Lib.hid ?_⟩
                          have hG := Fr.gb (Fr.refl (fun x => (Value.slice pv tn cv).ownBlock = some x) wr) HG'.out (fun c hc => .inl hc)
                          have hol := own_lt HOn.out
                          have h1 := HRL.out
                          refine ⟨(HS2.out.fr HF.out (fun e => by omega) (fun e => by omega) (fun a9 h9 e => by have := h1.2 a9 h9; omega)).fr hG (fun e => by have := (hol _ e).1; omega) (fun e => by have := (hol _ e).1; omega) (fun a9 h9 e => by have := (hol _ e).1; have := h1.2 a9 h9; omega), ?_, by have := hG.size; have := HWZ.out; omega, ?_, ?_, ?_, ?_⟩
                          · exact Fr.below (Fr.below HW2.out HF.out (fun x hx => by have := HWB.out; omega)) hG (fun x hx => by have := (hol _ hx).1; have := HWB.out; omega)
                          · rw [List.map_append]; have := HRN.out; exact this
                          · rw [tps_snoc, List.length_append, HTN.out]; have h7 := HO'.out; rw [← HEN.out] at h7; exact h7
                          · obtain ⟨N0, hN0⟩ := HM.out
                            refine ⟨N0, ?_⟩
                            rw [List.map_append, HTT.out]
                            have := everK_all T E z
                            rw [HEN.out] at this
                            exact (this ▸ hN0).fr hG (fun e => by have := (hol _ e).1; omega)
                          · intro t ht
                            rcases List.mem_append.1 ht with ht | ht
                            · exact ElOk.fr (ElOk.fr (HEL.out t ht) HF.out (fun x hx => .inr (.inr (.inl hx))) (.inl rfl)) hG (fun x hx => .inr (.inr (.inr hx))) HA'.out
                            · rw [List.mem_singleton] at ht
                              subst ht
                              exact ElOk.fr (ElOk.fr HNEW.out HF.out (fun x hx => .inr (.inr (.inl hx))) (.inl rfl)) hG (fun x hx => .inr (.inr (.inr hx))) HA'.out
                        case measure => simp [intOf]; omega
                  · have hx4 : (xa != 1) = true := by simpa using hx3
                    clear hx0 hx3
                    go_wp2_with fail
                    go_loopw [17, 18] (fun s i wq => ∃ (j : Nat) (u : Bool), j ≤ en ∧ i = .int .i64 j ∧ s = .bool u ∧ Hid (u = decide (z ∈ E.take j)) ∧ Hid (∃ N, Mp wq mb N (everK T E j)) ∧ Hid (Fr (fun x => x = mb) w2' wq)) (fun _ i _ => en - (intOf i).toNat)
                    case atStart => exact ⟨0, false, Nat.zero_le _, rfl, rfl, Lib.hid (by simp), Lib.hid (by rw [everK_zero T E []]; exact HM2.out), Lib.hid (Fr.refl _ _)⟩
                    case round =>
                      obtain ⟨j, u, hj, rfl, rfl, HU, HM, HF⟩ := hrel
                      by_cases hjt : j < en
                      · have hji : (j : Int) < (en : Int) := by omega
                        have hj2 : j < E.length := by rw [HEN.out]; exact hjt
                        obtain ⟨bb, oo, rfl, hbb, hcj⟩ := (HR2.out.fr HF.out (fun a9 h9 e9 => (HNE.out a9 h9).2 e9)).int hj2
                        have HT1 := Lib.hid (everK_step (T := T) hj2)
                        have HT2 := Lib.hid (fun y => mem_take_succ hj2 y)
                        have hyr := enB_range HEB.out E[j] (List.getElem_mem hj2)
                        obtain ⟨y, hy⟩ : ∃ y, E[j] = y := ⟨_, rfl⟩
                        rw [hy] at hcj HT1 HT2 hyr
                        obtain ⟨N0, hN0⟩ := HM.out
                        obtain ⟨w3, hput, hm3, hf3⟩ := hN0.put (P := Try.prog) (t := 48) (e := 4) under3 under48 y (wf_of (by omega) (by omega)) (.bool true)
                        have HM3 := Lib.hid (show ∃ N, Mp w3 mb N (everK T E (j + 1)) from ⟨_, by rw [← HT1.out]; exact hm3⟩)
                        have HF3 := Lib.hid (HF.out.trans hf3 (fun x h => .inl h))
                        have hcj3 := (World.cell?_of_block (w := wr) (w' := w3) (a := ⟨bb, oo + j, none⟩) (hf3.block bb hbb (fun e => (HNE.out _ rfl).2 e))).trans hcj
                        clear hy hj2 hm3 hf3 hN0 hyr
                        cases u with
                        | true =>
                          have HU2 := Lib.hid (show true = decide (z ∈ E.take (j + 1)) by
                            have h9 := HU.out
                            rw [eq_comm, decide_eq_true_eq] at h9 ⊢
                            exact (HT2.out z).2 (.inl h9))
                          go_wp2_with fail
                          go_roundw
                          case rel => exact ⟨j + 1, true, by omega, by go_num, rfl, HU2, HM3, HF3⟩
                          case measure => simp [intOf]; omega
                        | false =>
                          have HU2 : Hid (∀ u : Bool, (y == z) = u → u = decide (z ∈ E.take (j + 1))) := Lib.hid (fun u hu => by
                            have h9 := HU.out
                            rw [eq_comm, decide_eq_false_iff_not] at h9
                            have h8 := HT2.out z
                            cases u with
                            | true => rw [eq_comm, decide_eq_true_eq]; exact h8.2 (.inr (by have h7 := hu; simp at h7; exact h7.symm : z = y))
                            | false => rw [eq_comm, decide_eq_false_iff_not]; exact fun h => (h8.1 h).elim h9 (fun e => by rw [e] at hu; simp at hu))
                          obtain ⟨u, hu⟩ : ∃ u, (y == z) = u := ⟨_, rfl⟩
                          have HU3 := Lib.hid (HU2.out u hu)
                          cases u with
                          | true =>
                            go_wp2_with fail
                            go_roundw
                            case rel => exact ⟨j + 1, true, by omega, by go_num, rfl, HU3, HM3, HF3⟩
                            case measure => simp [intOf]; omega
                          | false =>
                            go_wp2_with fail
                            go_roundw
                            case rel => exact ⟨j + 1, false, by omega, by go_num, rfl, HU3, HM3, HF3⟩
                            case measure => simp [intOf]; omega
                      · have hje : en = j := by omega
                        subst hje
                        have hu : u = true := by
                          rw [HU.out, decide_eq_true_eq, ← HEN.out, List.take_length]; exact HZE.out
                        subst hu
                        have HOn := Lib.hid (own_fr HO2.out HF.out (fun x hx e => by have := (own_lt HO2.out x hx).1; omega))
                        have HWZ := Lib.hid (show mb + 1 ≤ wr.heap.size from by have := HF.out.size; have := HSZ2.out; omega)
                        clear HM2
                        go_wp2_with (at_builtin; refine wpList_appS rfl (.tmp 114) (.tmp 118) 35 rfl (mb + 1) 44 (.agg #[.slice none 0 0, .int .i64 0]) 2 32 Try.underlying35 turn_info rfl (by omega) _ tn (tps tp) rfl HOn.out [.slice p5 en d5, .int .i64 z] rfl (by intro u hu; simp at hu; rcases hu with rfl | rfl <;> rfl) rfl (by omega) (by omega) HWZ.out ?_; intro v' w' hown' hb' hat' hg'; obtain ⟨pv', cv', rfl, _, _⟩ := own_shape hown'; have HO' := Lib.hid hown'; have HB' := Lib.hid hb'; have HA' := Lib.hid hat'; have HG' := Lib.hid hg'; clear hown' hb' hat' hg')
                        go_roundw
                        case rel =>
                          refine ⟨k + 1, L ++ [z], tp ++ [⟨p5, d5, E, z⟩], _, by omega, by rw [List.length_append]; simp; omega, by rw [List.length_append, HTN.out]; simp; omega, rfl, by go_num, Lib.hid ?_⟩
                          have hG := Fr.gb (Fr.refl (fun x => (Value.slice pv tn cv).ownBlock = some x) wr) HG'.out (fun c hc => .inl hc)
                          have hol := own_lt HOn.out
                          have h1 := HRL.out
                          refine ⟨(HS2.out.fr HF.out (fun e => by omega) (fun e => by omega) (fun a9 h9 e => by have := h1.2 a9 h9; omega)).fr hG (fun e => by have := (hol _ e).1; omega) (fun e => by have := (hol _ e).1; omega) (fun a9 h9 e => by have := (hol _ e).1; have := h1.2 a9 h9; omega), ?_, by have := hG.size; have := HWZ.out; omega, ?_, ?_, ?_, ?_⟩
                          · exact Fr.below (Fr.below HW2.out HF.out (fun x hx => by have := HWB.out; omega)) hG (fun x hx => by have := (hol _ hx).1; have := HWB.out; omega)
                          · rw [List.map_append]; have := HRN.out; exact this
                          · rw [tps_snoc, List.length_append, HTN.out]; have h7 := HO'.out; rw [← HEN.out] at h7; exact h7
                          · obtain ⟨N0, hN0⟩ := HM.out
                            refine ⟨N0, ?_⟩
                            rw [List.map_append, HTT.out]
                            have := everK_all T E z
                            rw [HEN.out] at this
                            exact (this ▸ hN0).fr hG (fun e => by have := (hol _ e).1; omega)
                          · intro t ht
                            rcases List.mem_append.1 ht with ht | ht
                            · exact ElOk.fr (ElOk.fr (HEL.out t ht) HF.out (fun x hx => .inr (.inr (.inl hx))) (.inl rfl)) hG (fun x hx => .inr (.inr (.inr hx))) HA'.out
                            · rw [List.mem_singleton] at ht
                              subst ht
                              exact ElOk.fr (ElOk.fr HNEW.out HF.out (fun x hx => .inr (.inr (.inl hx))) (.inl rfl)) hG (fun x hx => .inr (.inr (.inr hx))) HA'.out
                        case measure => simp [intOf]; omega
              · have he1 : (nxE E != 0) = true := by simpa using he
                have e2 : nxL kind nums L E = L := by rw [nxL, if_neg he]
                rw [e2] at HNX
                generalize nxE E = ee at *
                generalize nxT kind nums L E = tt at *
                clear e2 he
                go_wp2_with fail
                refine HNX.out.mono ?_
                rintro e w2' ⟨rfl, hs2⟩
                have HS2 := Lib.hid hs2.1
                have HF2 := Lib.hid hs2.2
                have hml := HRL.out
                have HM2 := Lib.hid (show ∃ N, Mp w2' mb N (everK T [] 0) by obtain ⟨N0, h0⟩ := HMW.out; exact ⟨N0, h0.fr hs2.2 (fun hx => by rcases hx with hx | hx <;> omega)⟩)
                have HO2 := Lib.hid (own_fr (own_fr HOW.out (Fr.of_below HB5.out (fun _ => False)) (fun _ _ h => h)) hs2.2 (fun x hx e => by have := (own_lt HP.out.own x hx).1; rcases e with e | e <;> omega))
                have HSZ2 := Lib.hid (show mb + 1 ≤ w2'.heap.size by have := HP.out.size; have := HB5.out.size; have := hs2.2.size; omega)
                have HW2 := Lib.hid (Fr.below (below_step HP.out.below HB5.out) hs2.2 (fun x hx => hx.elim (fun e => e ▸ HRR.out.1) (fun e => e ▸ HRR.out.2)))
                have HEL := Lib.hid (fun t ht => ElOk.fr (ElOk.fr (HP.out.el t ht) (Fr.of_below HB5.out (fun _ => False)) (fun _ h => h.elim) (.inl rfl)) hs2.2 (fun x hx => hx.elim .inl (fun e => .inr (.inl e))) (.inl rfl))
                clear hs2 hml HNX HMW HR5 HB5
                go_wp2_with fail
                go_roundw
                case rel => exact ⟨k + 1, L, tp, _, by omega, by omega, by have := HTN.out; omega, rfl, by go_num, Lib.hid ⟨HS2.out, HW2.out, HSZ2.out, HP.out.ran, by rw [HTN.out]; exact HO2.out, by rw [HTT.out]; exact HM2.out, HEL.out⟩⟩
                case measure => simp [intOf]; omega
            · have hkn : k = lm := by omega
              subst hkn
              have hrun := HP.out.ran.ok (by rw [List.length_map, HTN.out]; omega)
              obtain ⟨pr, cr, hv, _, _, hrd, _⟩ := own_form HP.out.own
              injection hv with hv1 hv2 hv3
              subst hv1 hv3
              have ht := (⟨hrd, fun t ht => ⟨(HP.out.el t ht).1, by have := (HP.out.el t ht).2.1; omega⟩⟩ : TR wr wr.heap.size pv tp)
              have HTR := Lib.hid ht
              have HWo := Lib.hid (worst_any pv cv tp ht (by rw [HTN.out]; omega))
              have HFa := Lib.hid (fun (w' : World) (hb : Below wr.heap.size wr w') => fair_any pv cv tp bound (TR.kept HTR.out hb) (by rw [HTN.out]; omega))
              have HMN := Lib.hid (fun (h : kind = 2 ∨ kind = 4) (h0 : 0 < tn) => HP.out.ran.many h (by rw [List.length_map, HTN.out]; exact h0))
              have HFW := Lib.hid (fair_worst (T := tp.map Tp.tn) HBD1.out)
              have HMP := Lib.hid HP.out.mp
              have HBW := Lib.hid HP.out.below
              rw [HTN.out] at HWo HFa
              rw [List.length_map, HTN.out] at HFW
              obtain ⟨T, hT⟩ : ∃ T, tp.map Tp.tn = T := ⟨_, rfl⟩
              rw [hT] at hrun HWo HFa HMN HFW HMP
              have e1 : woT T = (worstF T).1 := if_pos hrun
              have e2 : woN T = (worstF T).2 := if_pos hrun
              have e3 : faI T bound = fairF T bound := by rw [faI, if_pos hrun, if_neg (by have := HBD1.out; omega)]
              have e4 : faE T bound = 0 := by rw [faE, if_pos hrun, if_neg (by have := HBD1.out; omega)]
              rw [e1, e2, hrun] at HWo
              rw [e3, e4] at HFa
              generalize fairF T bound = at_ at *
              obtain ⟨wtn, hwtn⟩ : ∃ x, worstF T = x := ⟨_, rfl⟩
              rw [hwtn] at HWo HMN HFW
              obtain ⟨wt, wn⟩ := wtn
              simp only at HWo HMN HFW
              clear hrun hrd ht hT e1 e2 e3 e4 hwtn hv2 HTR HP HOW HTN
              go_wp2_with fail
              refine HWo.out.mono ?_
              rintro e w3 ⟨rfl, hb3⟩
              have HB3 := Lib.hid hb3
              clear hb3
              go_wp2_with fail
              refine (HFa.out w3 HB3.out).mono ?_
              rintro e w4 ⟨rfl, hb4⟩
              have HB34 := Lib.hid (below_step HB3.out hb4)
              have HB4 := Lib.hid (below_step HBW.out HB34.out)
              clear hb4
              obtain ⟨N0, hm0⟩ := HMP.out
              obtain ⟨s, hs, _, hsl⟩ := (hm0.kept HB34.out).count (P := Try.prog) under48 3
              have HMY := Lib.hid (fun (h : kind = 2 ∨ kind = 4) (h0 : 0 < tn) => (by
                obtain ⟨ll, h1, h2, h3⟩ := HMN.out h h0
                have := hsl ll h1 (fun i hi => everK_some (h3 i hi))
                omega : wn + 1 ≤ s))
              clear hm0 hsl
              rcases HFW.out with ⟨hA, rfl⟩ | ⟨hA, kf, hkf, rfl⟩
              · have hat : decide ((tn : Int) ≤ -1) = false := by simp; omega
                by_cases hk2 : kind = 2
                · have hk3 : (kind == 2) = true := by simpa using hk2
                  have hk6 := HMY.out (.inl hk2)
                  clear hk2
                  by_cases ht0 : 0 < tn
                  · have ht1 : (0 : Int) < (tn : Int) := by omega
                    have hs2 : decide (s ≤ wn) = false := by have := hk6 ht0; simp; omega
                    clear hk6
                    go_wp2_with fail
                    refine (HK.out _).mono ?_
                    rintro e wk ⟨rfl, hbk⟩
                    have HBk := Lib.hid (below_step HB4.out hbk)
                    clear hbk
                    go_wp2_with fail
                    go_ret
                    exact ⟨rfl, HBk.out⟩
                  · have ht1 : decide (0 < tn) = false := by simpa using ht0
                    clear hk6
                    go_wp2_with fail
                    refine (HK.out _).mono ?_
                    rintro e wk ⟨rfl, hbk⟩
                    have HBk := Lib.hid (below_step HB4.out hbk)
                    clear hbk
                    go_wp2_with fail
                    go_ret
                    exact ⟨rfl, HBk.out⟩
                · have hk3 : (kind == 2) = false := by simpa using hk2
                  by_cases hk4 : kind = 4
                  · have hk5 : (kind == 4) = true := by simpa using hk4
                    have hk6 := HMY.out (.inr hk4)
                    clear hk2 hk4
                    by_cases ht0 : 0 < tn
                    · have ht1 : (0 : Int) < (tn : Int) := by omega
                      have hs2 : decide (s ≤ wn) = false := by have := hk6 ht0; simp; omega
                      clear hk6
                      go_wp2_with fail
                      refine (HK.out _).mono ?_
                      rintro e wk ⟨rfl, hbk⟩
                      have HBk := Lib.hid (below_step HB4.out hbk)
                      clear hbk
                      go_wp2_with fail
                      go_ret
                      exact ⟨rfl, HBk.out⟩
                    · have ht1 : decide (0 < tn) = false := by simpa using ht0
                      clear hk6
                      go_wp2_with fail
                      refine (HK.out _).mono ?_
                      rintro e wk ⟨rfl, hbk⟩
                      have HBk := Lib.hid (below_step HB4.out hbk)
                      clear hbk
                      go_wp2_with fail
                      go_ret
                      exact ⟨rfl, HBk.out⟩
                  · have hk5 : (kind == 4) = false := by simpa using hk4
                    clear hk2 hk4
                    go_wp2_with fail
                    refine (HK.out _).mono ?_
                    rintro e wk ⟨rfl, hbk⟩
                    have HBk := Lib.hid (below_step HB4.out hbk)
                    clear hbk
                    go_wp2_with fail
                    go_ret
                    exact ⟨rfl, HBk.out⟩
              · have hA2 : decide ((wn : Int) < bound) = false := by simp; omega
                have hat : decide (tn ≤ kf) = false := by simp; omega
                clear hA hkf
                by_cases hk2 : kind = 2
                · have hk3 : (kind == 2) = true := by simpa using hk2
                  have hk6 := HMY.out (.inl hk2)
                  clear hk2
                  by_cases ht0 : 0 < tn
                  · have ht1 : (0 : Int) < (tn : Int) := by omega
                    have hs2 : decide (s ≤ wn) = false := by have := hk6 ht0; simp; omega
                    clear hk6
                    go_wp2_with fail
                    refine (HK.out _).mono ?_
                    rintro e wk ⟨rfl, hbk⟩
                    have HBk := Lib.hid (below_step HB4.out hbk)
                    clear hbk
                    go_wp2_with fail
                    go_ret
                    exact ⟨rfl, HBk.out⟩
                  · have ht1 : decide (0 < tn) = false := by simpa using ht0
                    clear hk6
                    go_wp2_with fail
                    refine (HK.out _).mono ?_
                    rintro e wk ⟨rfl, hbk⟩
                    have HBk := Lib.hid (below_step HB4.out hbk)
                    clear hbk
                    go_wp2_with fail
                    go_ret
                    exact ⟨rfl, HBk.out⟩
                · have hk3 : (kind == 2) = false := by simpa using hk2
                  by_cases hk4 : kind = 4
                  · have hk5 : (kind == 4) = true := by simpa using hk4
                    have hk6 := HMY.out (.inr hk4)
                    clear hk2 hk4
                    by_cases ht0 : 0 < tn
                    · have ht1 : (0 : Int) < (tn : Int) := by omega
                      have hs2 : decide (s ≤ wn) = false := by have := hk6 ht0; simp; omega
                      clear hk6
                      go_wp2_with fail
                      refine (HK.out _).mono ?_
                      rintro e wk ⟨rfl, hbk⟩
                      have HBk := Lib.hid (below_step HB4.out hbk)
                      clear hbk
                      go_wp2_with fail
                      go_ret
                      exact ⟨rfl, HBk.out⟩
                    · have ht1 : decide (0 < tn) = false := by simpa using ht0
                      clear hk6
                      go_wp2_with fail
                      refine (HK.out _).mono ?_
                      rintro e wk ⟨rfl, hbk⟩
                      have HBk := Lib.hid (below_step HB4.out hbk)
                      clear hbk
                      go_wp2_with fail
                      go_ret
                      exact ⟨rfl, HBk.out⟩
                  · have hk5 : (kind == 4) = false := by simpa using hk4
                    clear hk2 hk4
                    go_wp2_with fail
                    refine (HK.out _).mono ?_
                    rintro e wk ⟨rfl, hbk⟩
                    have HBk := Lib.hid (below_step HB4.out hbk)
                    clear hbk
                    go_wp2_with fail
                    go_ret
                    exact ⟨rfl, HBk.out⟩
        · have hxe := hx1 hr0
          have hr2 : (newE kind nums == 0) = false := by simpa using hr0
          have hr3 : (newE kind nums != 0) = true := by simpa using hr0
          generalize newE kind nums = r at *
          subst hxe
          clear hx1 hx0 hb2
          go_wp2_with fail
          refine (HK.out _).mono ?_
          rintro e wk ⟨rfl, hbk⟩
          have HBk := Lib.hid (below_step HB2.out hbk)
          clear hbk
          go_wp2_with fail
          go_ret
          exact ⟨rfl, HBk.out⟩
end Go.Proofs.Ytfidnecdojgkjaa
