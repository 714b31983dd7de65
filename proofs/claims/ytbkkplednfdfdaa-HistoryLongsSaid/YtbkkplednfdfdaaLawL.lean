/- HistoryLongs, walked. Printed by hist_ad.py. -/
import Derived.Test.YtbkkplednfdfdaaPlainG
import Derived.Test.YtbkkplednfdfdaaMkA
import Derived.Test.YtbkkplednfdfdaaSame
import Derived.Test.YtbkkplednfdfdaaKnown
namespace Go.Proofs.Ytbkkplednfdfdaa
open Go.RowKit Go.Maps
set_option linter.unusedVariables false

/-- The rest of the statement, behind the first list. -/
theorem zl_rel (m n : Nat) {R : Rdr} (hR : ∀ t, R t none []) (j : Nat) (d : Di) (q : PD) (hd : ((zl m n).map Zd.di)[j]? = some d) (hq : ((zl m n).map Zd.pd)[j]? = some q) : DiR R d q ∧ q.c.ok ∧ q.a.ok := by
  rw [List.getElem?_map] at hd hq
  cases hz : (zl m n)[j]? with
  | none => rw [hz] at hd; cases hd
  | some z =>
    rw [hz] at hd hq
    injection hd with hd
    injection hq with hq
    subst hd hq
    exact ⟨z.r hR, z.ok⟩
theorem zl_aok (m n : Nat) : ∀ d ∈ (zl m n).map Zd.pd, d.a.ok := by
  intro d hd
  simp only [List.mem_map] at hd
  obtain ⟨z, -, rfl⟩ := hd
  exact z.ok.2
theorem pofR_aok' {l : List PD} (h : ∀ d ∈ l, d.a.ok) : ∀ x ∈ pofR l, x.a.ok := by
  have prc_ok : ∀ (lk : Bool) (l : List PD) (k : Nat) (x : PE), (∀ d ∈ l, d.a.ok) → x.a.ok → (prc lk k l x).a.ok := by
    intro lk l
    induction l with
    | nil => intro k x _ h; exact h
    | cons d l ih =>
      intro k x hl h
      rw [prc]
      have hl2 : ∀ e ∈ l, e.a.ok := fun e he => hl e (by simp [he])
      split
      · split
        · exact h
        · refine ih (k + 1) _ hl2 ?_
          have hd := hl d (by simp)
          unfold pup2 pup1
          split <;> split <;> assumption
      · exact ih (k + 1) x hl2 h
  have revs_ok : ∀ (l : List PD) (k : Nat), (∀ d ∈ l, d.a.ok) → ∀ x ∈ revs k l, x.a.ok := by
    intro l
    induction l with
    | nil => intro k _ x hx; simp [revs] at hx
    | cons d l ih =>
      intro k hl x hx
      rw [revs, List.mem_append] at hx
      have hl2 : ∀ e ∈ l, e.a.ok := fun e he => hl e (by simp [he])
      rcases hx with hx | hx
      · split at hx
        · simp at hx
          subst hx
          rw [prl, if_pos (show d.task = (pnew k d (decide (d.step = 7))).task from rfl), if_neg (by omega), prl_prc _ _ _ _ _ (Nat.lt_succ_self k)]
          refine prc_ok _ l (k + 1) _ hl2 ?_
          have hd := hl d (by simp)
          have h0 : (pnew k d (decide (d.step = 7))).a.ok := PA.zero_ok
          unfold pup2 pup1
          split <;> split <;> assumption
        · cases hx
      · exact ih (k + 1) hl2 x hx
  rw [pofR_revs]
  exact revs_ok l 0 h
set_option maxRecDepth 100000 in
set_option maxHeartbeats 8000000 in
theorem historyLongs_walk (more many : Int) (W : World) : Calls Try.prog 5 #[.int .i64 more, .int .i64 many] W fun e w' => e = .returned (.bool true) ∧ Below W.heap.size W w' := by
  have HK := Lib.hid known_any
  by_cases h1 : more < -2
  · have h1' : decide (more < -2) = true := by simpa using h1
    go_enter Try.func5, Try.ntmps5
    go_wp2_with fail
    refine (HK.out _).mono ?_
    rintro e w1 ⟨rfl, hb1⟩
    have HB := Lib.hid hb1
    clear hb1
    go_wp2_with fail
    go_ret
    exact ⟨rfl, HB.out⟩
  · have h1' : decide (more < -2) = false := by simpa using h1
    by_cases h2 : 2 < more
    · have h2' : decide (2 < more) = true := by simpa using h2
      go_enter Try.func5, Try.ntmps5
      go_wp2_with fail
      refine (HK.out _).mono ?_
      rintro e w1 ⟨rfl, hb1⟩
      have HB := Lib.hid hb1
      clear hb1
      go_wp2_with fail
      go_ret
      exact ⟨rfl, HB.out⟩
    · have h2' : decide (2 < more) = false := by simpa using h2
      by_cases h3 : many < 1
      · have h3' : decide (many < 1) = true := by simpa using h3
        go_enter Try.func5, Try.ntmps5
        go_wp2_with fail
        refine (HK.out _).mono ?_
        rintro e w1 ⟨rfl, hb1⟩
        have HB := Lib.hid hb1
        clear hb1
        go_wp2_with fail
        go_ret
        exact ⟨rfl, HB.out⟩
      · have h3' : decide (many < 1) = false := by simpa using h3
        by_cases h4 : 3 < many
        · have h4' : decide (3 < many) = true := by simpa using h4
          go_enter Try.func5, Try.ntmps5
          go_wp2_with fail
          refine (HK.out _).mono ?_
          rintro e w1 ⟨rfl, hb1⟩
          have HB := Lib.hid hb1
          clear hb1
          go_wp2_with fail
          go_ret
          exact ⟨rfl, HB.out⟩
        · have h4' : decide (3 < many) = false := by simpa using h4
          obtain ⟨m, rfl⟩ : ∃ m : Nat, many = m := ⟨many.toNat, by omega⟩
          obtain ⟨n, hn⟩ : ∃ n : Nat, 4096 + more = n := ⟨(4096 + more).toNat, by omega⟩
          have hnb : 4094 ≤ n ∧ n ≤ 4098 := by omega
          have hni : (n : Int) ≤ 4098 := by omega
          have hmb : 1 ≤ m ∧ m ≤ 3 := by omega
          have hmi : (m : Int) ≤ 3 := by omega
          have hmi1 : (1 : Int) ≤ (m : Int) := by omega
          have hwk : wrap64 (4096 + more) = n := by unfold wrap64; omega
          have HNB := Lib.hid hnb
          have HMB := Lib.hid hmb
          have HNM := Lib.hid hn
          have hmk := mk_dids n (by omega)
          have HI := Lib.hid is_any
          have HMD := Lib.hid made17_any
          clear h1 h2 h3 h4 hn hnb hmb
          go_enter Try.func5, Try.ntmps5
          go_upto_region 4 with fail
          have HG := Lib.hid (Blk.new W 51 (dis (List.replicate n d0)))
          have HB := Lib.hid (below_al (Below.refl W.heap.size W) (.cells (dis (List.replicate n d0)).toArray 51))
          obtain ⟨b, hb⟩ : ∃ b, W.heap.size = b := ⟨_, rfl⟩
          have HBE := Lib.hid hb
          rw [hb] at HG ⊢
          generalize W.alloc (.cells (dis (List.replicate n d0)).toArray 51) = w1 at *
          clear hb hmk hwk
          go_wp2_with fail
          go_loopw [6] (fun i wr => ∃ (k : Nat) (L : List Di), k ≤ n ∧ i = .int .i64 k ∧ Hid (Fill L (fun i => (zf m i).di) n k ∧ Blk wr b 51 (dis L) ∧ Below W.heap.size W wr)) (fun i _ => n - (intOf i).toNat)
          case atStart => exact ⟨0, List.replicate n d0, Nat.zero_le _, rfl, Lib.hid ⟨⟨by simp, fun i hi => absurd hi (by omega)⟩, HG.out, HB.out⟩⟩
          case round =>
            clear HG HB
            obtain ⟨k, L, hk, rfl, HL⟩ := hrel
            by_cases hlt : k < n
            · have hki : (k : Int) < (n : Int) := by omega
              have hkL : k < L.length := by have := HL.out.1.1; omega
              have HP1 := Lib.hid (dis_put hkL ⟨1, 7, -1, false, -1, none, 0, 0, false, 0, ⟨#[]⟩, ⟨#[]⟩, ⟨#[]⟩, 0, none, 0, 0, 0, 0, 0, none, 0, 0, none, 0, 0⟩)
              have HKL := Lib.hid hkL
              clear hkL
              go_wp2_with fail
              refine (HI.out _ 1 7).mono ?_
              rintro e w2 ⟨rfl, hb2⟩
              have HG2 := Lib.hid (HL.out.2.1.kept hb2)
              have HB2 := Lib.hid (HL.out.2.2.trans (hb2.mono HL.out.2.2.size))
              clear hb2
              have hrem : Int.tmod (k : Int) ((m : Int) + 1) = ((k % (m + 1) : Nat) : Int) := by
                rw [show ((m : Int) + 1) = ((m + 1 : Nat) : Int) by omega, Int.tmod_eq_emod_of_nonneg (by omega)]
                omega
              have hrl : k % (m + 1) ≤ 3 := by have := Nat.mod_lt k (show 0 < m + 1 by omega); omega
              obtain ⟨rr, hrr⟩ : ∃ rr, k % (m + 1) = rr := ⟨_, rfl⟩
              have HRR := Lib.hid hrr
              rw [hrr] at hrem hrl
              clear hrr
              go_upto_region 8 with (refine wpList_stE rfl rfl 51 (.tmp 39) (.tmp 38) rfl b (k * 18) rfl #[.int .i64 1, .int .i64 7, .int .i64 (-1), .bool false, .int .i64 (-1), .slice none 0 0, .bool false, .int .i64 0, .string ⟨#[]⟩, .string ⟨#[]⟩, .string ⟨#[]⟩, .int .i64 0, .slice none 0 0, .int .i64 0, .int .i64 0, .int .i64 0, .slice none 0 0, .slice none 0 0] rfl 51 _ _ HG2.out (by have := HKL.out; rw [dis_len]; simp; omega) info51 (by rfl) HP1.out ?_; intro w3 hb3 hf3)
              have HG3 := Lib.hid hb3
              have HB3 := Lib.hid (Fr.below HB2.out hf3 (fun x hx => by have hx : x = b := hx; have := HBE.out; omega))
              clear hb3 hf3 HP1 HG2 HB2
              by_cases hrm : rr = m
              · subst hrm
                have hkL2 : k < (L.set k ⟨1, 7, -1, false, -1, none, 0, 0, false, 0, ⟨#[]⟩, ⟨#[]⟩, ⟨#[]⟩, 0, none, 0, 0, 0, 0, 0, none, 0, 0, none, 0, 0⟩).length := by rw [List.length_set]; exact HKL.out
                have HP2 := Lib.hid (dis_put hkL2 ⟨1, 4, -1, false, -1, none, 0, 0, true, 10, ⟨#[]⟩, ⟨#[]⟩, ⟨#[]⟩, 0, none, 0, 0, 10, 0, 1, none, 0, 0, none, 0, 0⟩)
                have HKL2 := Lib.hid hkL2
                clear hkL2
                go_wp2_with fail
                refine (HMD.out _ 1 4 10).mono ?_
                rintro e w4 ⟨rfl, hb4⟩
                have HG4 := Lib.hid (HG3.out.kept hb4)
                have HB4 := Lib.hid (HB3.out.trans (hb4.mono HB3.out.size))
                clear hb4
                go_wp2_with (refine wpList_stE rfl rfl 51 (.tmp 49) (.tmp 48) rfl b (k * 18) rfl #[.int .i64 1, .int .i64 4, .int .i64 (-1), .bool false, .int .i64 (-1), .slice none 0 0, .bool true, .int .i64 10, .string ⟨#[]⟩, .string ⟨#[]⟩, .string ⟨#[]⟩, .int .i64 0, .slice none 0 0, .int .i64 10, .int .i64 0, .int .i64 1, .slice none 0 0, .slice none 0 0] rfl 51 _ _ HG4.out (by have := HKL2.out; rw [dis_len]; simp at this ⊢; omega) info51 (by rfl) HP2.out ?_; intro w5 hb5 hf5)
                have HG5 := Lib.hid hb5
                have HB5 := Lib.hid (Fr.below HB4.out hf5 (fun x hx => by have hx : x = b := hx; have := HBE.out; omega))
                clear hb5 hf5 HP2 HG4 HB4
                have HF5 := Lib.hid (show Fill ((L.set k ⟨1, 7, -1, false, -1, none, 0, 0, false, 0, ⟨#[]⟩, ⟨#[]⟩, ⟨#[]⟩, 0, none, 0, 0, 0, 0, 0, none, 0, 0, none, 0, 0⟩).set k ⟨1, 4, -1, false, -1, none, 0, 0, true, 10, ⟨#[]⟩, ⟨#[]⟩, ⟨#[]⟩, 0, none, 0, 0, 10, 0, 1, none, 0, 0, none, 0, 0⟩) (fun i => (zf rr i).di) n (k + 1) by
                  rw [List.set_set]
                  exact HL.out.1.set hlt _ (by simp [zf, HRR.out, Zd.di]))
                clear hrem hrl
                go_roundw
                case rel => exact ⟨k + 1, _, by omega, by go_num, Lib.hid ⟨HF5.out, HG5.out, HB5.out⟩⟩
                case measure => simp [intOf]; omega
              · have hrm' : ((rr : Int) == (m : Int)) = false := by simp; omega
                have HF5 := Lib.hid (show Fill (L.set k ⟨1, 7, -1, false, -1, none, 0, 0, false, 0, ⟨#[]⟩, ⟨#[]⟩, ⟨#[]⟩, 0, none, 0, 0, 0, 0, 0, none, 0, 0, none, 0, 0⟩) (fun i => (zf m i).di) n (k + 1) from HL.out.1.set hlt _ (by simp [zf, HRR.out, hrm, Zd.di]))
                clear hrm
                go_wp2_with fail
                clear hrem hrl hrm'
                go_roundw
                case rel => exact ⟨k + 1, _, by omega, by go_num, Lib.hid ⟨HF5.out, HG3.out, HB3.out⟩⟩
                case measure => simp [intOf]; omega
            · have hkn : k = n := by omega
              subst hkn
              have HZ := Lib.hid (show L = (zl m k).map Zd.di by rw [HL.out.1.all, zl, List.map_map]; rfl)
              have HBW := Lib.hid HL.out.2.2
              have HGW := Lib.hid (show Blk wr b 51 (dis ((zl m k).map Zd.di)) by rw [← HZ.out]; exact HL.out.2.1)
              clear HL HZ
              have HOF := Lib.hid (show Calls Try.prog 9 #[.slice (some ⟨b, 0, none⟩) k k] wr (RetOf wr ((zl m k).map Zd.pd)) by
                have h := of_any wr (some ⟨b, 0, none⟩) k ((zl m k).map Zd.di) ((zl m k).map Zd.pd) (Rd.of_blk HGW.out (List.prefix_refl _)) (by simp) (by simp [zl_len]) (by simp [zl_len]; have := HNB.out; omega) (zl_rel m k (fun _ => Rd.nil _ _ _))
                rw [List.length_map, zl_len] at h
                exact h)
              have HRO := Lib.hid (show ∀ w', Below wr.heap.size wr w' → Calls Try.prog 12 #[.slice (some ⟨b, 0, none⟩) k k] w' (RetO w' (RdW wr wr.heap.size) (pofR ((zl m k).map Zd.pd))) from fun w' hb => by
                have h := refOf_any w' (RdW wr wr.heap.size) (fun _ => Rd.nil _ _ _) (some ⟨b, 0, none⟩) k ((zl m k).map Zd.di) ((zl m k).map Zd.pd) ((Rd.of_blk HGW.out (List.prefix_refl _)).kept hb) (by simp) (by simp [zl_len]) (by simp [zl_len]; have := HNB.out; omega) (fun j d q hd hq => (zl_rel m k (fun _ => Rd.nil _ _ _) j d q hd hq).1)
                rw [List.length_map, zl_len] at h
                exact h)
              have HPL := Lib.hid (show (pofR ((zl m k).map Zd.pd)).length ≤ 4098 by have h1 := pofU_len ((zl m k).map Zd.pd) ((zl m k).map Zd.pd).length; have h2 := HNB.out; simp [zl_len] at h1; unfold pofR; simp [zl_len]; omega)
              have HAOK := Lib.hid (pofR_aok' (zl_aok m k))
              have hmk := mk_evs k (by have := HNB.out; omega)
              have hwk : wrap64 (4096 + more) = k := by have := HNM.out; unfold wrap64; omega
              clear hlt HGW hk
              go_wp2_with fail
              refine HOF.out.mono ?_
              rintro e w2 ⟨hb2, q2, c2, es, rfl, hown2, hlen2, hev2⟩
              have HB2 := Lib.hid (HBW.out.trans (hb2.mono HBW.out.size))
              have HB2w := Lib.hid hb2
              by_cases hmo : 0 < more
              · have hmo' : decide (0 < more) = true := by simpa using hmo
                have hk5 : 4096 < k := by have := HNM.out; omega
                rw [pof_long (l := (zl m k).map Zd.pd) (by simpa [zl_len] using hk5)] at hlen2 ⊢
                have hes : es = [] := List.eq_nil_of_length_eq_zero hlen2
                subst hes
                have HK5 := Lib.hid hk5
                clear hb2 hown2 hlen2 hev2 HOF HRO hmo hk5 HAOK HPL
                go_upto_region 17 with fail
                have HG8 := Lib.hid (Blk.new w2 41 (evs (List.replicate k e0)))
                have HB8 := Lib.hid (HB2.out.trans ((below_al (Below.refl w2.heap.size w2) (.cells (evs (List.replicate k e0)).toArray 41)).mono HB2.out.size))
                obtain ⟨g, hg⟩ : ∃ g, w2.heap.size = g := ⟨_, rfl⟩
                have HGE : Hid (W.heap.size ≤ g) := Lib.hid (by have := HB2.out.size; omega)
                rw [hg] at HG8 ⊢
                generalize w2.alloc (.cells (evs (List.replicate k e0)).toArray 41) = w8 at *
                clear hg hmk hwk HB2
                go_wp2_with fail
                go_loopw [10] (fun i wr => ∃ (k2 : Nat) (L : List Ev), k2 ≤ k ∧ i = .int .i64 k2 ∧ Hid (Fill L ev k k2 ∧ Blk wr g 41 (evs L) ∧ Below W.heap.size W wr)) (fun i _ => k - (intOf i).toNat)
                case atStart => exact ⟨0, List.replicate k e0, Nat.zero_le _, rfl, Lib.hid ⟨⟨by simp, fun i hi => absurd hi (by omega)⟩, HG8.out, HB8.out⟩⟩
                case round =>
                  clear HG8 HB8
                  obtain ⟨k2, L, hk2, rfl, HL⟩ := hrel
                  by_cases hlt : k2 < k
                  · have hki : (k2 : Int) < (k : Int) := by omega
                    have hkL : k2 < L.length := by have := HL.out.1.1; omega
                    have HP1 := Lib.hid (evs_put hkL (ev k2))
                    have HKL := Lib.hid hkL
                    have HGX := Lib.hid HL.out.2.1
                    clear hkL
                    go_wp2_with (refine wpList_stE rfl rfl 41 (.tmp 89) (.tmp 88) rfl g (k2 * 15) rfl #[.int .i64 k2, .int .i64 0, .string ⟨#[]⟩, .string ⟨#[]⟩, .string ⟨#[]⟩, .int .i64 0, .slice none 0 0, .int .i64 0, .int .i64 0, .int .i64 0, .slice none 0 0, .slice none 0 0, .int .i64 k2, .int .i64 k2, .int .i64 k2] rfl 41 _ _ HGX.out (by have := HKL.out; rw [evs_len]; simp; omega) info41 (by rfl) HP1.out ?_; intro w3 hb3 hf3)
                    have HG3 := Lib.hid hb3
                    have HB3 := Lib.hid (Fr.below HL.out.2.2 hf3 (fun x hx => by have hx : x = g := hx; have := HGE.out; omega))
                    have HF3 := Lib.hid (HL.out.1.set hlt (ev k2) rfl)
                    clear hb3 hf3 HP1 HGX HL
                    go_roundw
                    case rel => exact ⟨k2 + 1, _, by omega, by go_num, Lib.hid ⟨HF3.out, HG3.out, HB3.out⟩⟩
                    case measure => simp [intOf]; omega
                  · have hkn : k2 = k := by omega
                    subst hkn
                    have HZ := Lib.hid (show L = el k2 from HL.out.1.all)
                    have HBW2 := Lib.hid HL.out.2.2
                    have HRD := Lib.hid (show Rd wr wr.heap.size (some ⟨g, 0, none⟩) (evs (el k2)) by rw [← HZ.out]; exact Rd.of_blk HL.out.2.1 (List.prefix_refl _))
                    have HVL := Lib.hid (show ∀ w', Below wr.heap.size wr w' → Calls Try.prog 18 #[.slice (some ⟨g, 0, none⟩) k2 k2] w' fun e w'' => e = .returned (.bool false) ∧ Below w'.heap.size w' w'' from fun w' hb => by
                      have h := valid_any w' (some ⟨g, 0, none⟩) k2 (el k2) (HRD.out.kept hb) (by rw [el_len]; exact Nat.le_refl _) (by rw [el_len]; have := HNB.out; omega) (fun x hx => by
                        simp only [el, List.mem_map, List.mem_range] at hx
                        obtain ⟨i, hi, rfl⟩ := hx
                        have := HNB.out
                        simp only [ev]
                        omega)
                      rw [el_len, el_long HK5.out] at h
                      exact h)
                    have HOV := Lib.hid (overlaps_long (w := wr) (some ⟨g, 0, none⟩) k2 k2 HK5.out (by have := HNB.out; omega))
                    clear hlt HL HZ
                    go_wp2_with fail
                    refine HOV.out.mono ?_
                    rintro e9 w9 ⟨rfl, hb9⟩
                    have HB9 := Lib.hid (HBW2.out.trans (hb9.mono HBW2.out.size))
                    have HB9w := Lib.hid hb9
                    clear hb9 HOV
                    go_wp2_with fail
                    refine (HVL.out _ HB9w.out).mono ?_
                    rintro e10 w10 ⟨rfl, hb10⟩
                    have HB10 := Lib.hid (HB9.out.trans (hb10.mono HB9.out.size))
                    clear hb10 HVL HRD HB9w
                    go_wp2_with fail
                    refine (HK.out _).mono ?_
                    rintro e11 w11 ⟨rfl, hb11⟩
                    have HB11 := Lib.hid (HB10.out.trans (hb11.mono HB10.out.size))
                    clear hb11
                    go_wp2_with fail
                    go_ret
                    exact ⟨rfl, HB11.out⟩
              · have hmo' : decide (0 < more) = false := by simpa using hmo
                have hk5 : k ≤ 4096 := by have := HNM.out; omega
                have HPOF := Lib.hid (pof_ok (l := (zl m k).map Zd.pd) (by simpa [zl_len] using hk5) (zl_ok HMB.out.1))
                rw [HPOF.out] at hlen2 hev2 ⊢
                have HE2 := Lib.hid (show EvL (RdW w2 w2.heap.size) es (pofR ((zl m k).map Zd.pd)) from ⟨hlen2, fun i x r hx hr => (hev2 i x r hx hr).imp (fun _ _ _ h => h.rd)⟩)
                have HO2 := Lib.hid hown2
                obtain ⟨-, hcc2, -, -⟩ := own_form' hown2
                have HCC := Lib.hid hcc2
                obtain ⟨m2, hm2⟩ : ∃ m2, es.length = m2 := ⟨_, rfl⟩
                have HM2 := Lib.hid hm2
                rw [hm2] at HO2 HCC ⊢
                have HK5 := Lib.hid hk5
                clear hb2 hown2 hlen2 hev2 hm2 hcc2 HOF hmo hk5
                go_wp2_with fail
                refine (HRO.out _ HB2w.out).mono ?_
                rintro e6 w6 ⟨q6, c6, es6, rfl, hown6, hel6, hb6⟩
                have HB6 := Lib.hid (HB2.out.trans (hb6.mono HB2.out.size))
                have HB6w := Lib.hid (HB2w.out.trans (hb6.mono HB2w.out.size))
                have HS6 := Lib.hid (show Calls Try.prog 11 #[.slice q2 m2 c2, .slice q6 es6.length c6] w6 fun e w' => e = .returned (.bool true) ∧ Below w6.heap.size w6 w' by
                  obtain ⟨-, hcc6, -, -⟩ := own_form' hown6
                  have h := same_ok w6 q2 q6 c2 c6 es es6 (pofR ((zl m k).map Zd.pd)) ((Rd.of_own HO2.out).kept hb6) (Rd.of_own hown6) (by rw [HM2.out]; exact HCC.out) hcc6 (by have := HPL.out; omega) (HE2.out.imp (fun _ _ _ h => Rd.kept h hb6)) (hel6.imp (fun _ _ _ h => Rd.kept h HB6w.out)) HAOK.out
                  rw [HM2.out] at h
                  exact h)
                generalize es6.length = m6 at *
                clear hown6 hel6 hb6
                go_wp2_with fail
                refine HS6.out.mono ?_
                rintro e7 w7 ⟨rfl, hb7⟩
                have HB7 := Lib.hid (HB6.out.trans (hb7.mono HB6.out.size))
                clear hb7 HS6 HB6w HB6 HB2w HB2 HE2 HO2 HRO HAOK HPL
                go_upto_region 17 with fail
                have HG8 := Lib.hid (Blk.new w7 41 (evs (List.replicate k e0)))
                have HB8 := Lib.hid (HB7.out.trans ((below_al (Below.refl w7.heap.size w7) (.cells (evs (List.replicate k e0)).toArray 41)).mono HB7.out.size))
                obtain ⟨g, hg⟩ : ∃ g, w7.heap.size = g := ⟨_, rfl⟩
                have HGE : Hid (W.heap.size ≤ g) := Lib.hid (by have := HB7.out.size; omega)
                rw [hg] at HG8 ⊢
                generalize w7.alloc (.cells (evs (List.replicate k e0)).toArray 41) = w8 at *
                clear hg hmk hwk HB7
                go_wp2_with fail
                go_loopw [10] (fun i wr => ∃ (k2 : Nat) (L : List Ev), k2 ≤ k ∧ i = .int .i64 k2 ∧ Hid (Fill L ev k k2 ∧ Blk wr g 41 (evs L) ∧ Below W.heap.size W wr)) (fun i _ => k - (intOf i).toNat)
                case atStart => exact ⟨0, List.replicate k e0, Nat.zero_le _, rfl, Lib.hid ⟨⟨by simp, fun i hi => absurd hi (by omega)⟩, HG8.out, HB8.out⟩⟩
                case round =>
                  clear HG8 HB8
                  obtain ⟨k2, L, hk2, rfl, HL⟩ := hrel
                  by_cases hlt : k2 < k
                  · have hki : (k2 : Int) < (k : Int) := by omega
                    have hkL : k2 < L.length := by have := HL.out.1.1; omega
                    have HP1 := Lib.hid (evs_put hkL (ev k2))
                    have HKL := Lib.hid hkL
                    have HGX := Lib.hid HL.out.2.1
                    clear hkL
                    go_wp2_with (refine wpList_stE rfl rfl 41 (.tmp 89) (.tmp 88) rfl g (k2 * 15) rfl #[.int .i64 k2, .int .i64 0, .string ⟨#[]⟩, .string ⟨#[]⟩, .string ⟨#[]⟩, .int .i64 0, .slice none 0 0, .int .i64 0, .int .i64 0, .int .i64 0, .slice none 0 0, .slice none 0 0, .int .i64 k2, .int .i64 k2, .int .i64 k2] rfl 41 _ _ HGX.out (by have := HKL.out; rw [evs_len]; simp; omega) info41 (by rfl) HP1.out ?_; intro w3 hb3 hf3)
                    have HG3 := Lib.hid hb3
                    have HB3 := Lib.hid (Fr.below HL.out.2.2 hf3 (fun x hx => by have hx : x = g := hx; have := HGE.out; omega))
                    have HF3 := Lib.hid (HL.out.1.set hlt (ev k2) rfl)
                    clear hb3 hf3 HP1 HGX HL
                    go_roundw
                    case rel => exact ⟨k2 + 1, _, by omega, by go_num, Lib.hid ⟨HF3.out, HG3.out, HB3.out⟩⟩
                    case measure => simp [intOf]; omega
                  · have hkn : k2 = k := by omega
                    subst hkn
                    have HZ := Lib.hid (show L = el k2 from HL.out.1.all)
                    have HBW2 := Lib.hid HL.out.2.2
                    have HRD := Lib.hid (show Rd wr wr.heap.size (some ⟨g, 0, none⟩) (evs (el k2)) by rw [← HZ.out]; exact Rd.of_blk HL.out.2.1 (List.prefix_refl _))
                    have HVL := Lib.hid (show ∀ w', Below wr.heap.size wr w' → Calls Try.prog 18 #[.slice (some ⟨g, 0, none⟩) k2 k2] w' fun e w'' => e = .returned (.bool true) ∧ Below w'.heap.size w' w'' from fun w' hb => by
                      have h := valid_any w' (some ⟨g, 0, none⟩) k2 (el k2) (HRD.out.kept hb) (by rw [el_len]; exact Nat.le_refl _) (by rw [el_len]; have := HNB.out; omega) (fun x hx => by
                        simp only [el, List.mem_map, List.mem_range] at hx
                        obtain ⟨i, hi, rfl⟩ := hx
                        have := HNB.out
                        simp only [ev]
                        omega)
                      rw [el_len, el_valid HK5.out] at h
                      exact h)
                    have HOV := Lib.hid (show Calls Try.prog 14 #[.slice (some ⟨g, 0, none⟩) k2 k2] wr fun e w' => e = .returned (.tuple #[.int .i64 0, .int .i64 0]) ∧ Below wr.heap.size wr w' by
                      have h := overlaps_any (w := wr) (some ⟨g, 0, none⟩) k2 (el k2) HRD.out (by rw [el_len]; exact Nat.le_refl _) (by rw [el_len]; exact HK5.out) (by have := HK5.out; unfold maxLen; omega)
                      rw [el_len, el_ov] at h
                      exact h)
                    clear hlt HL HZ
                    go_wp2_with fail
                    refine HOV.out.mono ?_
                    rintro e9 w9 ⟨rfl, hb9⟩
                    have HB9 := Lib.hid (HBW2.out.trans (hb9.mono HBW2.out.size))
                    have HB9w := Lib.hid hb9
                    clear hb9 HOV
                    go_wp2_with fail
                    refine (HVL.out _ HB9w.out).mono ?_
                    rintro e10 w10 ⟨rfl, hb10⟩
                    have HB10 := Lib.hid (HB9.out.trans (hb10.mono HB9.out.size))
                    clear hb10 HVL HRD HB9w
                    go_wp2_with fail
                    refine (HK.out _).mono ?_
                    rintro e11 w11 ⟨rfl, hb11⟩
                    have HB11 := Lib.hid (HB10.out.trans (hb11.mono HB10.out.size))
                    clear hb11
                    go_wp2_with fail
                    go_ret
                    exact ⟨rfl, HB11.out⟩
end Go.Proofs.Ytbkkplednfdfdaa
