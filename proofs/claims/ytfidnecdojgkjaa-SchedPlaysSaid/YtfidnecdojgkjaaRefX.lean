/- The reference's Next. -/
import Derived.Test.YtfidnecdojgkjaaRefN
namespace Go.Proofs.Ytfidnecdojgkjaa
open Go.RowKit
set_option maxRecDepth 100000 in
set_option maxHeartbeats 4000000 in
theorem refNext_any {w : World} {kind : Int} (hkk : 1 ≤ kind ∧ kind ≤ 4) (qn : Option Addr) (cn : Nat) (nums : List Int) (qp : Option Addr) (cp : Nat) (L : List Int) (ql : Option Addr) (cl : Nat) (l : List Int)
    (hn : Rd w w.heap.size qn (ints nums)) (hp : Rd w w.heap.size qp (ints L)) (hl : Rd w w.heap.size ql (ints l)) (hqp : ∀ a, qp = some a → a.block < w.heap.size) (h1 : l.length ≤ 1000000) (hL : L.length ≤ 1000000)
    (hone : kind = 1 → 0 < nums.length) (hpos : ∀ x ∈ nums, 0 ≤ x) (hnl : nums.length ≤ 1000000) :
    Calls Try.prog 26 #[.agg #[.int .i64 kind, .slice qn nums.length cn, .slice qp L.length cp], .slice ql l.length cl] w fun e w' => ∃ q2 c2, e = .returned (.tuple #[.agg #[.int .i64 kind, .slice qn nums.length cn, .slice q2 (nxL kind nums L l).length c2], .int .i64 (nxT kind nums L l), .int .i64 (nxE l)]) ∧
      Rd w' w'.heap.size q2 (ints (nxL kind nums L l)) ∧ (∀ a, q2 = some a → a.block < w'.heap.size) ∧ Below w.heap.size w w' ∧ (q2 = qp ∨ ∀ a, q2 = some a → w.heap.size ≤ a.block) := by
  obtain ⟨wa, hwa⟩ : ∃ wa, (w.alloc (.cells #[.int .i64 kind, .slice qn nums.length cn, .slice qp L.length cp] 30)).alloc (.cells #[.int .i64 0, .slice none 0 0, .slice none 0 0] 30) = wa := ⟨_, rfl⟩
  have hB0 : Below w.heap.size w wa := by rw [← hwa]; exact ((Below.refl _ _).alloc (Nat.le_refl _) _).alloc (by simp) _
  have HB0 := Lib.hid hB0
  have HBk := Lib.hid (show Blk wa w.heap.size 30 [.int .i64 kind, .slice qn nums.length cn, .slice qp L.length cp] by rw [← hwa]; exact (Blk.new w 30 _).alloc _)
  have HBm := Lib.hid (show Blk wa (w.heap.size + 1) 30 [.int .i64 0, .slice none 0 0, .slice none 0 0] by rw [← hwa]; exact Blk.new' _ 30 _ (by simp))
  have HRn := Lib.hid (hn.kept hB0)
  have HRp := Lib.hid (hp.kept hB0)
  have HRl := Lib.hid (hl.kept hB0)
  have HEn := Lib.hid (refEnabled_any ql cl l wa (hl.kept hB0) h1)
  have HQ := Lib.hid hqp
  have hPK := Lib.hid fun (hE : enB l = true) (h0 : 0 < l.length) (w' : World) (hb : Below wa.heap.size wa w') => pick_any hkk qn cn nums qp cp L ql cl l (HRn.out.kept hb) (HRp.out.kept hb) (HRl.out.kept hb) hE h0 h1 hL hone hpos hnl
  have HPK := Lib.hid hPK.out
  clear hPK hB0 hn hp hl hqp hone hpos hnl hkk
  obtain ⟨n, hnn⟩ : ∃ n, nums.length = n := ⟨_, rfl⟩
  obtain ⟨T, hTT⟩ : ∃ n, L.length = n := ⟨_, rfl⟩
  have HTT := Lib.hid hTT
  rw [hnn, hTT] at HBk hwa HPK
  rw [hnn, hTT]
  have hT6 : T ≤ 1000000 := by omega
  clear hnn
  cases hE : enB l with
  | false =>
    have e0 := nxE_bad hE
    have e1 : nxT kind nums L l = 0 := by rw [nxT, e0]; rfl
    have e2 : nxL kind nums L l = L := by rw [nxL, e0]; rfl
    rw [e0, e1, e2, hTT]
    rw [hE] at HEn
    clear e0 e1 e2 hE h1 hL hTT HPK HRn HRl
    generalize l.length = m at *
    go_enter Try.func26, Try.ntmps26
    go_upto_region 1 with fail
    clear hwa
    go_wp2_with fail
    refine HEn.out.mono ?_
    rintro e w1 ⟨rfl, hb1⟩
    have HB1 := Lib.hid hb1
    clear hb1
    have c0 := (HBk.out.kept HB1.out).cell 0
    have c1 := (HBk.out.kept HB1.out).cell 1
    have c2 := (HBk.out.kept HB1.out).cell 2
    simp only [List.getElem?_cons_zero, List.getElem?_cons_succ] at c0 c1 c2
    have d0 := (HBm.out.kept HB1.out).cell 0
    have d1 := (HBm.out.kept HB1.out).cell 1
    have d2 := (HBm.out.kept HB1.out).cell 2
    have f0 := (HBm.out.kept HB1.out).free 0
    have f1 := (HBm.out.kept HB1.out).free 1
    have f2 := (HBm.out.kept HB1.out).free 2
    simp only [List.getElem?_cons_zero, List.getElem?_cons_succ] at d0 d1 d2
    go_wp2_with fail
    try simp only [Exit.inBlock, Exit.then]
    have hZ := (((HBm.out.kept HB1.out).set_ 0 (.int .i64 kind)).set_ 1 (.slice qn n cn)).set_ 2 (.slice qp T cp)
    have hZD : Blk _ (w.heap.size + 1) 30 [.int .i64 kind, .slice qn n cn, (.slice qp T cp)] := hZ
    refine bodyPost_ret (results_trio rfl _ _ (w.heap.size + 1) 30 _ (0, 0) _ _ _ (by rfl) hZD Try.underlying30 (by rfl) (by kernel_rfl) (by rfl) (by rfl)) rfl ?_
    have hF : Fr (fun x => x = w.heap.size + 1) w1 (((w1.setCell ⟨w.heap.size + 1, 0, none⟩ (.int .i64 kind)).setCell ⟨w.heap.size + 1, 1, none⟩ (.slice qn n cn)).setCell ⟨w.heap.size + 1, 2, none⟩ (.slice qp T cp)) :=
      (((Fr.refl (fun x => x = w.heap.size + 1) _).set ⟨w.heap.size + 1, 0, none⟩ _ (.inl rfl)).set ⟨w.heap.size + 1, 1, none⟩ _ (.inl rfl)).set ⟨w.heap.size + 1, 2, none⟩ _ (.inl rfl)
    have hB := below_step HB0.out HB1.out
    exact ⟨qp, cp, rfl, (HRp.out.kept HB1.out).fr hF (fun a ha hx => by have := HQ.out a ha; omega), fun a ha => by have := HQ.out a ha; have := hB.size; have := hF.size; omega, (Fr.below hB hF (fun x hx => by omega)), .inl rfl⟩
  | true =>
    by_cases h00 : l.length = 0
    · have e0 := nxE_none h00
      have e1 : nxT kind nums L l = 0 := by rw [nxT, e0]; rfl
      have e2 : nxL kind nums L l = L := by rw [nxL, e0]; rfl
      rw [e0, e1, e2, hTT]
      rw [hE] at HEn
      rw [h00] at HEn ⊢
      clear e0 e1 e2 hE h1 hL hTT h00 HPK HRn HRl
      go_enter Try.func26, Try.ntmps26
      go_upto_region 1 with fail
      clear hwa
      go_wp2_with fail
      refine HEn.out.mono ?_
      rintro e w1 ⟨rfl, hb1⟩
      have HB1 := Lib.hid hb1
      clear hb1
      have c0 := (HBk.out.kept HB1.out).cell 0
      have c1 := (HBk.out.kept HB1.out).cell 1
      have c2 := (HBk.out.kept HB1.out).cell 2
      simp only [List.getElem?_cons_zero, List.getElem?_cons_succ] at c0 c1 c2
      have d0 := (HBm.out.kept HB1.out).cell 0
      have d1 := (HBm.out.kept HB1.out).cell 1
      have d2 := (HBm.out.kept HB1.out).cell 2
      have f0 := (HBm.out.kept HB1.out).free 0
      have f1 := (HBm.out.kept HB1.out).free 1
      have f2 := (HBm.out.kept HB1.out).free 2
      simp only [List.getElem?_cons_zero, List.getElem?_cons_succ] at d0 d1 d2
      go_wp2_with fail
      try simp only [Exit.inBlock, Exit.then]
      have hZ := (((HBm.out.kept HB1.out).set_ 0 (.int .i64 kind)).set_ 1 (.slice qn n cn)).set_ 2 (.slice qp T cp)
      have hZD : Blk _ (w.heap.size + 1) 30 [.int .i64 kind, .slice qn n cn, (.slice qp T cp)] := hZ
      refine bodyPost_ret (results_trio rfl _ _ (w.heap.size + 1) 30 _ (0, 0) _ _ _ (by rfl) hZD Try.underlying30 (by rfl) (by kernel_rfl) (by rfl) (by rfl)) rfl ?_
      have hF : Fr (fun x => x = w.heap.size + 1) w1 (((w1.setCell ⟨w.heap.size + 1, 0, none⟩ (.int .i64 kind)).setCell ⟨w.heap.size + 1, 1, none⟩ (.slice qn n cn)).setCell ⟨w.heap.size + 1, 2, none⟩ (.slice qp T cp)) :=
        (((Fr.refl (fun x => x = w.heap.size + 1) _).set ⟨w.heap.size + 1, 0, none⟩ _ (.inl rfl)).set ⟨w.heap.size + 1, 1, none⟩ _ (.inl rfl)).set ⟨w.heap.size + 1, 2, none⟩ _ (.inl rfl)
      have hB := below_step HB0.out HB1.out
      exact ⟨qp, cp, rfl, (HRp.out.kept HB1.out).fr hF (fun a ha hx => by have := HQ.out a ha; omega), fun a ha => by have := HQ.out a ha; have := hB.size; have := hF.size; omega, (Fr.below hB hF (fun x hx => by omega)), .inl rfl⟩
    · have h0 : 0 < l.length := by omega
      have hxE := nxE_ok hE h0
      obtain ⟨z, hz⟩ : ∃ z, pickF kind nums L l = z := ⟨_, rfl⟩
      have e1 : nxT kind nums L l = z := by rw [nxT, if_pos hxE, hz]
      have e2 : nxL kind nums L l = L ++ [z] := by rw [nxL, if_pos hxE, hz]
      have HP := Lib.hid (HPK.out hE h0)
      rw [hz] at HP
      rw [hxE, e1, e2, List.length_append, hTT]
      rw [hE] at HEn
      obtain ⟨m, hm⟩ : ∃ n, l.length = n := ⟨_, rfl⟩
      rw [hm] at HEn HP ⊢
      have hm0i : ((m : Int) == 0) = false := by rw [beq_eq_false_iff_ne]; omega
      clear hm e1 e2 hE h1 hL hTT HPK h00 HRn HRl hxE hz h0
      go_enter Try.func26, Try.ntmps26
      go_upto_region 1 with fail
      clear hwa
      go_wp2_with fail
      refine HEn.out.mono ?_
      rintro e w1 ⟨rfl, hb1⟩
      have HB1 := Lib.hid hb1
      have c0 := (HBk.out.kept hb1).cell 0
      have c1 := (HBk.out.kept hb1).cell 1
      have c2 := (HBk.out.kept hb1).cell 2
      simp only [List.getElem?_cons_zero, List.getElem?_cons_succ] at c0 c1 c2
      clear hb1
      go_wp2_with fail
      refine (HP.out _ HB1.out).mono ?_
      rintro e w2 ⟨rfl, hb2⟩
      have HB2 := Lib.hid (below_step HB1.out hb2)
      clear hb2 c0 c1 c2
      have c0 := (HBk.out.kept HB2.out).cell 0
      have c1 := (HBk.out.kept HB2.out).cell 1
      have c2 := (HBk.out.kept HB2.out).cell 2
      simp only [List.getElem?_cons_zero, List.getElem?_cons_succ] at c0 c1 c2
      have hr2 := HRp.out.kept HB2.out
      have HW := Lib.hid (show w.heap.size + 2 ≤ w2.heap.size by have := HBm.out.lt; have := HB2.out.size; omega)
      go_wp2_with (at_builtin; first
        | (refine wpList_appM rfl (.tmp 21) (.tmp 23) 23 rfl w2.heap.size 3 _ 1 8 Try.underlying23 int_info rfl (by omega) _ T (ints L) rfl (own_fr HO3.out (Fr.alloc (Fr.refl (fun _ => False) _) _) (fun _ _ h => h)) _ (some ⟨w3.heap.size, 0, none⟩) 1 1 (ints [z]) rfl (by rw [ints_len]; rfl) (Rd.of_blk (Blk.new w3 3 [.int .i64 z]) (List.prefix_refl _)) (ints_one _) (by omega) (by omega) (by have := HB3.out.size; simp; omega) ?_; intro v4 w4 hown4 hb4 _ _; obtain ⟨q4, c4, rfl, _, _⟩ := own_shape hown4; have HO4 := Lib.hid hown4; have HB4 := Lib.hid ((HB3.out.alloc HB3.out.size (.cells #[.int .i64 z] 3)).trans hb4); clear hown4 hb4 c0 c1 c2; have hBk4 := (HBk.out.kept HB2.out).kept HB4.out; have hBm4 := (HBm.out.kept HB2.out).kept HB4.out; have c0 := hBk4.cell 0; have c1 := hBk4.cell 1; have c2 := hBk4.cell 2; have f2 := hBk4.free 2; have d0 := hBm4.cell 0; have d1 := hBm4.cell 1; have d2 := hBm4.cell 2; have g0 := hBm4.free 0; have g1 := hBm4.free 1; have g2 := hBm4.free 2; have HBm4 := Lib.hid hBm4; have HBk4 := Lib.hid hBk4; clear hBk4 hBm4; simp only [List.getElem?_cons_zero, List.getElem?_cons_succ] at c0 c1 c2 d0 d1 d2)
        | (refine wpList_appM rfl (.const (.slice none 0 0)) (.tmp 20) 23 rfl w2.heap.size 3 _ 1 8 Try.underlying23 int_info rfl (by omega) _ 0 [] rfl (World.ownsRow_nil _ _ _ _) w2.heap.size qp T cp (ints L) rfl (by rw [ints_len, HTT.out, Nat.mul_one]) hr2 (ints_one _) (by omega) (by omega) (Nat.le_refl _) ?_; intro v3 w3 hown3 hb3 _ _; rw [Nat.zero_add, List.nil_append] at hown3; obtain ⟨q3, c3, rfl, _, _⟩ := own_shape hown3; have HO3 := Lib.hid hown3; have HB3 := Lib.hid hb3; clear hown3 hb3))
      try simp only [Exit.inBlock, Exit.then]
      have hZ := ((((HBm4.out.far (p := ⟨w.heap.size, 2, none⟩) (by simp only; omega) (.slice q4 (T + 1) c4)).set_ 0 (.int .i64 kind)).set_ 1 (.slice qn n cn)).set_ 2 (.slice q4 (T + 1) c4))
      have hZD : Blk _ (w.heap.size + 1) 30 [.int .i64 kind, .slice qn n cn, .slice q4 (T + 1) c4] := hZ
      refine bodyPost_ret (results_trio rfl _ _ (w.heap.size + 1) 30 _ (0, 0) _ _ _ (by rfl) hZD Try.underlying30 (by rfl) (by kernel_rfl) (by rfl) (by rfl)) rfl ?_
      have hF : Fr (fun x => x = w.heap.size ∨ x = w.heap.size + 1) w4 ((((w4.setCell ⟨w.heap.size, 2, none⟩ (.slice q4 (T + 1) c4)).setCell ⟨w.heap.size + 1, 0, none⟩ (.int .i64 kind)).setCell ⟨w.heap.size + 1, 1, none⟩ (.slice qn n cn)).setCell ⟨w.heap.size + 1, 2, none⟩ (.slice q4 (T + 1) c4)) :=
        ((((Fr.refl _ _).set _ _ (.inl (.inl rfl))).set _ _ (.inl (.inr rfl))).set _ _ (.inl (.inr rfl))).set _ _ (.inl (.inr rfl))
      have hB := below_step (below_step HB0.out HB2.out) HB4.out
      have hO := own_fr HO4.out hF (fun c hc hx => by have := (own_lt HO4.out c hc).1; have := HW.out; omega)
      refine ⟨q4, c4, rfl, ?_, fun a ha => ?_, Fr.below hB hF (fun x hx => by omega), .inr fun a ha => ?_⟩
      · have := own_rd hO
        rw [show ints L ++ ints [z] = ints (L ++ [z]) by simp [ints]] at this
        exact this
      · subst ha
        exact (own_lt hO a.block rfl).2
      · subst ha
        have := (own_lt hO a.block rfl).1
        have := HW.out
        omega
end Go.Proofs.Ytfidnecdojgkjaa
