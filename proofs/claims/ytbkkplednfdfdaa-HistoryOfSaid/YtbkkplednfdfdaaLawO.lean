/- HistoryOf, walked. Printed by hist_ac.py. -/
import Derived.Test.YtbkkplednfdfdaaMut
namespace Go.Proofs.Ytbkkplednfdfdaa
open Go.RowKit Go.Maps

theorem pofR_len (l : List PD) : (pofR l).length ≤ l.length := pofU_len l l.length
set_option maxRecDepth 100000 in
set_option maxHeartbeats 8000000 in
theorem historyOf_walk (p : Option Addr) (c : Nat) (ds : List Di) (W : World) (hr : Rd W W.heap.size p (dis ds)) (hc : ds.length ≤ c) (hm : c ≤ maxLen) (hok : ∀ x ∈ ds, DiOk W x) :
    Calls Try.prog 3 #[.slice p ds.length c] W fun e w' => e = .returned (.bool true) ∧ Below W.heap.size W w' := by
  obtain ⟨l, hl, hrel⟩ := choose_list hok
  have hn2 : ds.length ≤ 9223372036854775807 := by unfold maxLen at hm; omega
  have HS := Lib.hid (light_any W p c ds l hr hl hn2 (fun j x q hx hq => (hrel j x q hx hq).1))
  have HK := Lib.hid known_any
  have HW := Lib.hid (fun w' (hb : Below W.heap.size W w') => wrong_any w' p c ds l (hr.kept hb) hl hc hn2 (fun j d q hd hq => ⟨(hrel j d q hd hq).1.task, (hrel j d q hd hq).1.step, (hrel j d q hd hq).1.made⟩))
  have HREL := Lib.hid hrel
  have HR := Lib.hid hr
  have HL := Lib.hid hl
  have HC := Lib.hid hc
  have HDL := Lib.hid (dis_len ds)
  have HONE := Lib.hid (dis_one ds)
  clear hr hm hok hrel hc
  obtain ⟨n, hn⟩ : ∃ n, ds.length = n := ⟨_, rfl⟩
  have HN := Lib.hid hn
  rw [hn] at HS HW HDL hn2 ⊢
  have HOWN0 := Lib.hid (World.ownsRow_nil W W.heap.size 51 18)
  clear hn hl
  go_enter Try.func3, Try.ntmps3
  go_wp2_with fail
  refine HS.out.mono ?_
  rintro e w2 ⟨r, rfl, hw2, hx⟩
  rw [hw2]
  clear HS hw2
  cases r with
  | false =>
    clear hx HW HREL HR HOWN0
    go_wp2_with fail
    refine (HK.out _).mono ?_
    rintro e w3 ⟨rfl, hb⟩
    have HB := Lib.hid hb
    clear hb
    go_wp2_with fail
    go_ret
    exact ⟨rfl, HB.out⟩
  | true =>
    have HOK := Lib.hid (hx rfl)
    have hn120 : n ≤ 120 := by have h1 := (hx rfl).1; have h2 := HL.out; have h3 := HN.out; omega
    have HPL := Lib.hid (show (pofR l).length ≤ 120 by have h1 := (hx rfl).1; have := pofR_len l; omega)
    have HAOK := Lib.hid (pofR_aok (fun d hd => ((hx rfl).2 d hd).2))
    have HCOK := Lib.hid (pofR_cok (fun d hd => ((hx rfl).2 d hd).1))
    clear hx hn2
    go_upto_region 4 with (at_builtin; refine wpList_appM rfl (.const (.slice none 0 0)) (.tmp 15) 22 rfl W.heap.size 51 _ 18 232 Try.underlying22 did_info rfl (by omega) (.slice none 0 0) 0 [] rfl HOWN0.out W.heap.size p n c (dis ds) rfl HDL.out HR.out HONE.out (by omega) (by omega) (Nat.le_refl _) ?_; intro v3 w3 hown3 hb3 _ _)
    rw [Nat.zero_add, List.nil_append] at hown3
    obtain ⟨q3, c3, rfl, hc3, -⟩ := own_shape hown3
    have HO3 := Lib.hid hown3
    have HB3 := Lib.hid hb3
    have HOF := Lib.hid (show ∀ w', Below w3.heap.size w3 w' → Calls Try.prog 9 #[.slice q3 n c3] w' (RetOf w' l) from fun w' hb => by
      have hbw : Below W.heap.size W w' := HB3.out.trans (hb.mono HB3.out.size)
      have h := of_any w' q3 c3 ds l ((Rd.of_own HO3.out).kept hb) HL.out (by rw [HN.out]; exact hc3) (by have := HOK.out.1; omega) (fun j d q hd hq => ⟨(HREL.out j d q hd hq).1.imp (fun _ _ _ h => Rd.kept h hbw), HOK.out.2 q (List.mem_of_getElem? hq)⟩)
      rw [HN.out] at h
      exact h)
    have HRO := Lib.hid (show ∀ w', Below W.heap.size W w' → Calls Try.prog 12 #[.slice p n c] w' (RetO w' (RdW W W.heap.size) (pofR l)) from fun w' hb => by
      have h := refOf_any w' (RdW W W.heap.size) (fun _ => Rd.nil _ _ _) p c ds l (HR.out.kept hb) HL.out HC.out (by have := HOK.out.1; have := HL.out; omega) (fun j d q hd hq => (HREL.out j d q hd hq).1)
      rw [HN.out] at h
      exact h)
    clear hown3 hb3 HOWN0 HDL HONE
    go_wp2_with fail
    refine (HOF.out _ (Below.refl _ _)).mono ?_
    rintro e w4 ⟨hb4, q4, c4, es, rfl, hown4, hlen4, hev4⟩
    have HB4 := Lib.hid (HB3.out.trans (hb4.mono HB3.out.size))
    have HB34 := Lib.hid hb4
    by_cases hwok : WOK l
    · have HPOF := Lib.hid (pof_ok (by have := HOK.out.1; omega) hwok)
      have HWO := Lib.hid hwok
      rw [HPOF.out] at hlen4 hev4 ⊢
      have HE4 := Lib.hid (show EvL (RdW w4 w4.heap.size) es (pofR l) from ⟨hlen4, fun i x r hx hr => (hev4 i x r hx hr).imp (fun _ _ _ h => h.rd)⟩)
      have HO4 := Lib.hid hown4
      have HEV4 := Lib.hid hev4
      have HLE4 := Lib.hid hlen4
      obtain ⟨-, hcc4, -, -⟩ := own_form' hown4
      have HCP := Lib.hid hcc4
      obtain ⟨m, hm⟩ : ∃ m, es.length = m := ⟨_, rfl⟩
      have HNE := Lib.hid hm
      rw [hm] at HO4 hcc4 HCP ⊢
      have hm120 : m ≤ 120 := by have h1 := HPL.out; have h2 : es.length = (pofR l).length := HLE4.out; have h3 : es.length = m := HNE.out; omega
      have hmi : (m : Int) ≤ 120 := by omega
      clear hb4 hown4 hlen4 hev4 hm hwok
      go_wp2_with fail
      refine (HW.out _ HB4.out).mono ?_
      rintro e w5 ⟨no, rfl, hno, hb5⟩
      have hno0 : no = 0 := by
        rcases hno with ⟨h, -⟩ | ⟨-, ⟨-, h⟩ | ⟨h, -⟩⟩
        · exact absurd h (by have := HOK.out.1; omega)
        · exact h
        · exact absurd HWO.out h
      subst hno0
      have HB5 := Lib.hid (HB4.out.trans (hb5.mono HB4.out.size))
      have HB35 := Lib.hid (show Below w4.heap.size w4 w5 from hb5)
      clear hno hb5
      go_wp2_with fail
      refine (HRO.out _ HB5.out).mono ?_
      rintro e6 w6 ⟨q6, c6, es6, rfl, hown6, hel6, hb6⟩
      have HB6 := Lib.hid (HB5.out.trans (hb6.mono HB5.out.size))
      have HB46 := Lib.hid (show Below w4.heap.size w4 w6 from HB35.out.trans (hb6.mono HB35.out.size))
      have HS6 := Lib.hid (show Calls Try.prog 11 #[.slice q4 m c4, .slice q6 es6.length c6] w6 fun e w' => e = .returned (.bool true) ∧ Below w6.heap.size w6 w' by
        obtain ⟨-, hcc6, -, -⟩ := own_form' hown6
        have h := same_ok w6 q4 q6 c4 c6 es es6 (pofR l) ((Rd.of_own HO4.out).kept HB46.out) (Rd.of_own hown6) (by rw [HNE.out]; exact hcc4) hcc6 (by have := HPL.out; omega) (HE4.out.imp (fun _ _ _ h => Rd.kept h HB46.out)) (hel6.imp (fun _ _ _ h => Rd.kept h HB6.out)) HAOK.out
        rw [HNE.out] at h
        exact h)
      generalize es6.length = m6 at *
      clear hown6 hel6 hb6
      go_wp2_with fail
      refine HS6.out.mono ?_
      rintro e7 w7 ⟨rfl, hb7⟩
      have HB47 := Lib.hid (HB46.out.trans (hb7.mono HB46.out.size))
      have HB37 := Lib.hid (show Below w3.heap.size w3 w7 from HB34.out.trans (HB47.out.mono HB34.out.size))
      have HMU := Lib.hid (show Mut w3 w7 w3.heap.size q4 m c4 es from ⟨own_fr HO4.out (Fr.of_below HB47.out (fun _ => False)) (fun _ _ h => h), fun x hx => by
          obtain ⟨i, hi, rfl⟩ := List.getElem_of_mem hx
          have h := HEV4.out i _ _ (List.getElem?_eq_getElem hi) (List.getElem?_eq_getElem (by rw [← HLE4.out]; exact hi))
          have h9 := (HAOK.out _ (List.getElem_mem (by rw [← HLE4.out]; exact hi))).1
          rw [h.a.len]
          exact ⟨LnD.of (h.a.rd.kept HB47.out), by rw [← h.a.len]; exact h.a.cap, Nat.le_trans h9 (by omega)⟩, fun x hx => by
          obtain ⟨i, hi, rfl⟩ := List.getElem_of_mem hx
          have h := HEV4.out i _ _ (List.getElem?_eq_getElem hi) (List.getElem?_eq_getElem (by rw [← HLE4.out]; exact hi))
          have h9 := HCOK.out _ (List.getElem_mem (by rw [← HLE4.out]; exact hi))
          rw [h.c.len]
          exact ⟨ByD.of (h.c.rd.kept HB47.out), by rw [← h.c.len]; exact h.c.cap, Nat.le_trans h9 (by omega)⟩, HB37.out⟩)
      have HB3B := Lib.hid HB3.out.size
      obtain ⟨B, hB⟩ : ∃ B, w3.heap.size = B := ⟨_, rfl⟩
      have HBE := Lib.hid hB
      rw [hB] at HMU HOF HB3B
      generalize hw0 : w3 = w0 at *
      clear hw0
      have HOF2 := Lib.hid (show ∀ w', Below B w0 w' → Calls Try.prog 9 #[.slice q3 n c3] w' (RetOf w' l) from HOF.out)
      clear hb7 HS6 HB47 HB37 HB46 HB35 HB34 HB6 HB5 HB4 HE4 HEV4 HLE4 HO4 HOF HO3 hB
      generalize q4 = q at *
      generalize c4 = c' at *
      clear hcc4
      go_wp2_with fail
      go_loopw [7] (fun i wr => ∃ k : Nat, k ≤ m ∧ i = .int .i64 k ∧ Hid (Mut w0 wr B q m c' es)) (fun i _ => m - (intOf i).toNat)
      case atStart => exact ⟨0, Nat.zero_le _, rfl, HMU⟩
      case round =>
        clear HMU
        obtain ⟨k, hk, rfl, HM⟩ := hrel
        by_cases hlt : k < m
        · have hki : (k : Int) < (m : Int) := by omega
          have hk2 : k < es.length := by rw [HNE.out]; exact hlt
          obtain ⟨g, rfl, -⟩ := HM.out.at_ hk2
          have hcap : m ≤ c' := HCP.out
          have HXM := Lib.hid (List.getElem_mem hk2)
          have HCL := Lib.hid (show ∀ w', Mut w0 w' B (some ⟨g, 0, none⟩) m c' es → ∀ i u, (es[k]).cells[i]? = some u → w'.cell? ⟨g, k * 15 + i, none⟩ = some u from fun w' hm i u hu => by
            obtain ⟨g', e, h⟩ := hm.at_ hk2
            injection e with e
            injection e with e
            subst e
            exact h i u hu)
          obtain ⟨x, hx⟩ : ∃ x, es[k] = x := ⟨_, rfl⟩
          rw [hx] at HXM HCL
          clear hx hk2
          obtain ⟨xt, xa, xm, xn, xop, xkey, xoth, xitem, xqty, xdq, xdn, xdc, xaop, xaerr, xacnt, xlq, xln, xlc, xbq, xbn, xbc⟩ := x
          go_wp2_with fail
          go_loopw [8] (fun i wq => ∃ j : Nat, j ≤ xln ∧ i = .int .i64 j ∧ Hid (Mut w0 wq B (some ⟨g, 0, none⟩) m c' es)) (fun i _ => xln - (intOf i).toNat)
          case atStart => exact ⟨0, Nat.zero_le _, rfl, HM⟩
          case round =>
            clear HM
            obtain ⟨j, hj, rfl, HM⟩ := hrel
            have HLY := Lib.hid (HM.out.ln _ (HXM.out))
            have t10 := HCL.out _ HM.out 10 _ rfl
            by_cases hjt : j < xln
            · have hji : (j : Int) < (xln : Int) := by omega
              obtain ⟨b, cs, hp, hB, hb, hcs⟩ : ∃ b cs, xlq = some ⟨b, 0, none⟩ ∧ B ≤ b ∧ Blk wr b 43 cs ∧ ∀ j, j < xln → ∃ v : Int, cs[j * 2 + 1]? = some (.int .i64 v) := by
                rcases HLY.out.1 with h | h
                · have h : xln = 0 := h
                  omega
                · exact h
              subst hp
              have hnc : xln ≤ xlc := HLY.out.2.1
              have hnb : xln ≤ 1000 := HLY.out.2.2
              obtain ⟨v, hv⟩ := hcs j hjt
              have t1 := hb.got _ _ hv
              have t2 := hb.free (j * 2 + 1)
              have HBL := Lib.hid hb
              have HBB := Lib.hid hB
              obtain ⟨v2, hv2⟩ : ∃ v2, wrap64 (v + 1) = v2 := ⟨_, rfl⟩
              clear hB hb hcs hv HLY
              go_wp2_with fail
              have HM2 := Lib.hid (HM.out.setL (i := j) HBL.out HBB.out v2)
              clear t10 t1 t2 HM HBL HBB hv2
              go_roundw
              case rel => exact ⟨j + 1, by omega, by go_num, HM2⟩
              case measure => simp [intOf]; omega
            · have hje : j = xln := by omega
              clear HLY
              subst hje
              go_wp2_with fail
              clear t10
              go_loopw [9] (fun i wq => ∃ j : Nat, j ≤ xdn ∧ i = .int .i64 j ∧ Hid (Mut w0 wq B (some ⟨g, 0, none⟩) m c' es)) (fun i _ => xdn - (intOf i).toNat)
              case atStart => exact ⟨0, Nat.zero_le _, rfl, HM⟩
              case round =>
                clear HM
                obtain ⟨j, hj, rfl, HM⟩ := hrel
                have HLY := Lib.hid (HM.out.by_ _ (HXM.out))
                have t10 := HCL.out _ HM.out 6 _ rfl
                by_cases hjt : j < xdn
                · have hji : (j : Int) < (xdn : Int) := by omega
                  obtain ⟨b, cs, hp, hB, hb, hcs⟩ : ∃ b cs, xdq = some ⟨b, 0, none⟩ ∧ B ≤ b ∧ Blk wr b 5 cs ∧ ∀ j, j < xdn → ∃ v : Int, cs[j]? = some (.int .u8 v) := by
                    rcases HLY.out.1 with h | h
                    · have h : xdn = 0 := h
                      omega
                    · exact h
                  subst hp
                  have hnc : xdn ≤ xdc := HLY.out.2.1
                  have hnb : xdn ≤ 1000 := HLY.out.2.2
                  obtain ⟨v, hv⟩ := hcs j hjt
                  have t1 := hb.got _ _ hv
                  have t2 := hb.free (j)
                  have HBL := Lib.hid hb
                  have HBB := Lib.hid hB
                  obtain ⟨v2, hv2⟩ : ∃ v2, IntKind.u8.wrap (v + 1) = v2 := ⟨_, rfl⟩
                  clear hB hb hcs hv HLY
                  go_wp2_with fail
                  have HM2 := Lib.hid (HM.out.setB (i := j) HBL.out HBB.out v2)
                  clear t10 t1 t2 HM HBL HBB hv2
                  go_roundw
                  case rel => exact ⟨j + 1, by omega, by go_num, HM2⟩
                  case measure => simp [intOf]; omega
                · have hje : j = xdn := by omega
                  clear HLY
                  subst hje
                  go_wp2_with fail
                  clear t10
                  go_roundw
                  case rel => exact ⟨k + 1, by omega, by go_num, HM⟩
                  case measure => simp [intOf]; omega
        · have hkm : k = m := by omega
          have HBM := Lib.hid HM.out.below
          clear HM
          subst hkm
          go_wp2_with fail
          refine (HOF2.out _ HBM.out).mono ?_
          rintro e5 w5 ⟨hb5, q5, c5, es5, rfl, hown5, hlen5, hev5⟩
          rw [HPOF.out] at hlen5 hev5 ⊢
          have HE5 := Lib.hid (show EvL (RdW w5 w5.heap.size) es5 (pofR l) from ⟨hlen5, fun i x r hx hr => (hev5 i x r hx hr).imp (fun _ _ _ h => h.rd)⟩)
          have HO5 := Lib.hid hown5
          have HB5 := Lib.hid (show Below W.heap.size W w5 from (HB3.out.trans (HBM.out.mono HB3B.out)).trans (hb5.mono (by have h1 := HB3B.out; have h2 := HBM.out.size; have h3 := HBE.out; omega)))
          obtain ⟨-, hcc5, -, -⟩ := own_form' hown5
          obtain ⟨m5, hm5⟩ : ∃ m5, es5.length = m5 := ⟨_, rfl⟩
          have HM5 := Lib.hid hm5
          rw [hm5] at HO5 hcc5 ⊢
          clear hb5 hown5 hlen5 hev5 hm5
          go_wp2_with fail
          refine (HRO.out _ HB5.out).mono ?_
          rintro e6 w6 ⟨q6, c6, es6, rfl, hown6, hel6, hb6⟩
          have HB6 := Lib.hid (HB5.out.trans (hb6.mono HB5.out.size))
          have HS6 := Lib.hid (show Calls Try.prog 11 #[.slice q5 m5 c5, .slice q6 es6.length c6] w6 fun e w' => e = .returned (.bool true) ∧ Below w6.heap.size w6 w' by
            obtain ⟨-, hcc6, -, -⟩ := own_form' hown6
            have h := same_ok w6 q5 q6 c5 c6 es5 es6 (pofR l) ((Rd.of_own HO5.out).kept hb6) (Rd.of_own hown6) (by rw [HM5.out]; exact hcc5) hcc6 (by have := HPL.out; omega) (HE5.out.imp (fun _ _ _ h => Rd.kept h hb6)) (hel6.imp (fun _ _ _ h => Rd.kept h HB6.out)) HAOK.out
            rw [HM5.out] at h
            exact h)
          generalize es6.length = m6 at *
          clear hown6 hel6 hb6
          go_wp2_with fail
          refine HS6.out.mono ?_
          rintro e7 w7 ⟨rfl, hb7⟩
          have HB7 := Lib.hid (HB6.out.trans (hb7.mono HB6.out.size))
          clear hb7 HS6
          go_wp2_with fail
          refine (HK.out _).mono ?_
          rintro e8 w8 ⟨rfl, hb8⟩
          have HB8 := Lib.hid (HB7.out.trans (hb8.mono HB7.out.size))
          clear hb8
          go_wp2_with fail
          go_ret
          exact ⟨rfl, HB8.out⟩
    · have HPOF := Lib.hid (pof_bad (by have := HOK.out.1; omega) hwok)
      have HWO := Lib.hid hwok
      rw [HPOF.out] at hlen4 ⊢
      have hes : es = [] := List.eq_nil_of_length_eq_zero hlen4
      subst hes
      clear hb4 hown4 hlen4 hev4 hwok HOF HRO HREL HR
      go_wp2_with fail
      refine (HW.out _ HB4.out).mono ?_
      rintro e w5 ⟨no, rfl, hno, hb5⟩
      have hno2 : no = 2 := by
        rcases hno with ⟨h, -⟩ | ⟨-, ⟨h, -⟩ | ⟨-, h⟩⟩
        · exact absurd h (by have := HOK.out.1; omega)
        · exact absurd h HWO.out
        · exact h
      subst hno2
      have HB5 := Lib.hid (HB4.out.trans (hb5.mono HB4.out.size))
      clear hno hb5
      go_wp2_with fail
      refine (HK.out _).mono ?_
      rintro e w6 ⟨rfl, hb6⟩
      have HB6 := Lib.hid (HB5.out.trans (hb6.mono HB5.out.size))
      clear hb6
      go_wp2_with fail
      go_ret
      exact ⟨rfl, HB6.out⟩
end Go.Proofs.Ytbkkplednfdfdaa
