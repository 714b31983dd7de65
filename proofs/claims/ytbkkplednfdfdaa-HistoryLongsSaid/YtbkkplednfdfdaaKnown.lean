/- known returns true. Printed by hist_p.py. -/
import Derived.Test.YtbkkplednfdfdaaAt
import Derived.Test.YtbkkplednfdfdaaMkA
import Derived.Test.YtbkkplednfdfdaaValid
import Derived.Test.YtbkkplednfdfdaaEvsB
import Derived.Test.YtbkkplednfdfdaaSt
namespace Go.Proofs.Ytbkkplednfdfdaa
open Go.RowKit Go.Maps

def kz : List Zd := [⟨2, 1, false, 0, 0⟩, ⟨3, 1, false, 0, 0⟩, ⟨3, 4, true, 4, 1⟩, ⟨2, 4, true, 1, 1⟩, ⟨3, 6, false, 0, 0⟩, ⟨0, 7, false, 0, 0⟩]
theorem len3 {α : Type} : ∀ {l : List α}, l.length = 3 → ∃ x y z, l = [x, y, z]
  | [x, y, z], _ => ⟨x, y, z, rfl⟩
theorem kz_no : (pof (kz.map Zd.pd)).2 = 0 := by rfl
theorem kz_list : ∃ p0 p1 p2 : PE, (pof (kz.map Zd.pd)).1 = [p0, p1, p2] ∧ (p0.task = 2 ∧ p0.asked = 0 ∧ p0.made = 3 ∧ p0.ans = -1) ∧ (p1.task = 3 ∧ p1.asked = 1 ∧ p1.made = 2 ∧ p1.ans = 4) ∧ (p2.task = 0 ∧ p2.asked = 5 ∧ p2.made = -1 ∧ p2.ans = -1) :=
  ⟨_, _, _, rfl, ⟨rfl, rfl, rfl, rfl⟩, ⟨rfl, rfl, rfl, rfl⟩, ⟨rfl, rfl, rfl, rfl⟩⟩
theorem k1_of : pof ([⟨2, 4, false, 0, 0⟩].map Zd.pd) = ([], 2) := by rfl
theorem k2_of : pof ([⟨2, 1, false, 0, 0⟩, ⟨2, 6, false, 0, 0⟩].map Zd.pd) = ([], 2) := by rfl
theorem k3_of : pof ([⟨2, 1, false, 0, 0⟩, ⟨2, 1, false, 0, 0⟩].map Zd.pd) = ([], 2) := by rfl
theorem k4_of : pof (([] : List Zd).map Zd.pd) = ([], 0) := by rfl
set_option maxRecDepth 100000 in
set_option maxHeartbeats 8000000 in
theorem known_any (w : World) : Calls Try.prog 8 #[] w fun e w' => e = .returned (.bool true) ∧ Below w.heap.size w w' := by
  have HI := Lib.hid is_any
  have HM := Lib.hid made17_any
  go_enter Try.func8, Try.ntmps8
  go_wp2_with fail
  refine (HI.out _ 2 1).mono ?_
  rintro e w1 ⟨rfl, hb⟩
  have HB1 := Lib.hid hb
  clear hb
  go_wp2_with fail
  refine (HI.out _ 3 1).mono ?_
  rintro e w2 ⟨rfl, hb⟩
  have HB2 := Lib.hid (below_step HB1.out hb)
  clear hb HB1
  go_wp2_with fail
  refine (HM.out _ 3 4 4).mono ?_
  rintro e w3 ⟨rfl, hb⟩
  have HB3 := Lib.hid (below_step HB2.out hb)
  clear hb HB2
  go_wp2_with fail
  refine (HM.out _ 2 4 1).mono ?_
  rintro e w4 ⟨rfl, hb⟩
  have HB4 := Lib.hid (below_step HB3.out hb)
  clear hb HB3
  go_wp2_with fail
  refine (HI.out _ 3 6).mono ?_
  rintro e w5 ⟨rfl, hb⟩
  have HB5 := Lib.hid (below_step HB4.out hb)
  clear hb HB4
  go_wp2_with fail
  refine (HI.out _ 0 7).mono ?_
  rintro e w6 ⟨rfl, hb⟩
  have HB6 := Lib.hid (below_step HB5.out hb)
  clear hb HB5
  go_upto_region 2 with fail
  have hwk : w6.alloc (.cells #[.int .i64 2, .int .i64 1, .int .i64 (-1), .bool false, .int .i64 (-1), .slice none 0 0, .bool false, .int .i64 0, .string ⟨#[]⟩, .string ⟨#[]⟩, .string ⟨#[]⟩, .int .i64 0, .slice none 0 0, .int .i64 0, .int .i64 0, .int .i64 0, .slice none 0 0, .slice none 0 0, .int .i64 3, .int .i64 1, .int .i64 (-1), .bool false, .int .i64 (-1), .slice none 0 0, .bool false, .int .i64 0, .string ⟨#[]⟩, .string ⟨#[]⟩, .string ⟨#[]⟩, .int .i64 0, .slice none 0 0, .int .i64 0, .int .i64 0, .int .i64 0, .slice none 0 0, .slice none 0 0, .int .i64 3, .int .i64 4, .int .i64 (-1), .bool false, .int .i64 (-1), .slice none 0 0, .bool true, .int .i64 4, .string ⟨#[]⟩, .string ⟨#[]⟩, .string ⟨#[]⟩, .int .i64 0, .slice none 0 0, .int .i64 4, .int .i64 0, .int .i64 1, .slice none 0 0, .slice none 0 0, .int .i64 2, .int .i64 4, .int .i64 (-1), .bool false, .int .i64 (-1), .slice none 0 0, .bool true, .int .i64 1, .string ⟨#[]⟩, .string ⟨#[]⟩, .string ⟨#[]⟩, .int .i64 0, .slice none 0 0, .int .i64 1, .int .i64 0, .int .i64 1, .slice none 0 0, .slice none 0 0, .int .i64 3, .int .i64 6, .int .i64 (-1), .bool false, .int .i64 (-1), .slice none 0 0, .bool false, .int .i64 0, .string ⟨#[]⟩, .string ⟨#[]⟩, .string ⟨#[]⟩, .int .i64 0, .slice none 0 0, .int .i64 0, .int .i64 0, .int .i64 0, .slice none 0 0, .slice none 0 0, .int .i64 0, .int .i64 7, .int .i64 (-1), .bool false, .int .i64 (-1), .slice none 0 0, .bool false, .int .i64 0, .string ⟨#[]⟩, .string ⟨#[]⟩, .string ⟨#[]⟩, .int .i64 0, .slice none 0 0, .int .i64 0, .int .i64 0, .int .i64 0, .slice none 0 0, .slice none 0 0] 51) = w6.alloc (.cells (dis (kz.map Zd.di)).toArray 51) := rfl
  rw [hwk]
  have HK := Lib.hid (Blk.new w6 51 (dis (kz.map Zd.di)))
  have HB7 := Lib.hid (below_al HB6.out (.cells (dis (kz.map Zd.di)).toArray 51))
  generalize w6.alloc (.cells (dis (kz.map Zd.di)).toArray 51) = w7 at *
  clear hwk HB6
  have HO := Lib.hid (show Calls Try.prog 9 #[.slice (some ⟨w6.heap.size, 0, none⟩) 6 6] w7 (RetOf w7 (kz.map Zd.pd)) from of_any w7 _ 6 (kz.map Zd.di) (kz.map Zd.pd) (Rd.of_blk HK.out (List.prefix_refl _)) (by simp) (by decide) (by decide) (fun j d q hd hq => by
      rw [List.getElem?_map] at hd hq
      cases hz : kz[j]? with
      | none => rw [hz] at hd; cases hd
      | some z =>
        rw [hz] at hd hq
        injection hd with hd
        injection hq with hq
        subst hd hq
        exact ⟨z.r (fun t => Rd.nil _ _ _), z.ok⟩))
  clear HK
  go_wp2_with fail
  refine HO.out.mono ?_
  rintro e w8 ⟨hb, q, c', es, rfl, hown, hlen, hev⟩
  have HB8 := Lib.hid (below_step HB7.out hb)
  clear hb HO HB7
  rw [kz_no]
  obtain ⟨p0, p1, p2, hp, h0, h1, h2⟩ := kz_list
  rw [hp] at hlen hev
  obtain ⟨x, y, z, rfl⟩ := len3 hlen
  have hx := hev 0 x p0 rfl rfl
  have hy := hev 1 y p1 rfl rfl
  have hz := hev 2 z p2 rfl rfl
  have hx4 := And.intro hx.task (And.intro hx.asked (And.intro hx.made hx.ans))
  have hy4 := And.intro hy.task (And.intro hy.asked (And.intro hy.made hy.ans))
  have hz4 := And.intro hz.task (And.intro hz.asked (And.intro hz.made hz.ans))
  rw [h0.1, h0.2.1, h0.2.2.1, h0.2.2.2] at hx4
  rw [h1.1, h1.2.1, h1.2.2.1, h1.2.2.2] at hy4
  rw [h2.1, h2.2.1, h2.2.2.1, h2.2.2.2] at hz4
  clear hev hp h0 h1 h2 hx hy hz
  obtain ⟨x_t, x_a, x_m, x_n, x_op, x_key, x_oth, x_item, x_qty, x_dq, x_dn, x_dc, x_aop, x_aerr, x_acnt, x_lq, x_ln, x_lc, x_bq, x_bn, x_bc⟩ := x
  obtain ⟨y_t, y_a, y_m, y_n, y_op, y_key, y_oth, y_item, y_qty, y_dq, y_dn, y_dc, y_aop, y_aerr, y_acnt, y_lq, y_ln, y_lc, y_bq, y_bn, y_bc⟩ := y
  obtain ⟨z_t, z_a, z_m, z_n, z_op, z_key, z_oth, z_item, z_qty, z_dq, z_dn, z_dc, z_aop, z_aerr, z_acnt, z_lq, z_ln, z_lc, z_bq, z_bn, z_bc⟩ := z
  simp only at hx4 hy4 hz4
  obtain ⟨rfl, rfl, rfl, rfl⟩ := hx4
  obtain ⟨rfl, rfl, rfl, rfl⟩ := hy4
  obtain ⟨rfl, rfl, rfl, rfl⟩ := hz4
  obtain ⟨g, rfl⟩ := own_some hown (by simp)
  obtain ⟨-, hcap, hcm, -⟩ := own_form' hown
  have HR := Lib.hid (Rd.of_own hown)
  simp only [List.length_cons, List.length_nil, Nat.zero_add, Nat.reduceAdd] at hcap ⊢
  clear hown hlen
  have HE := Lib.hid (show ∀ (w' : World), Below w8.heap.size w8 w' → g < w'.heap.size ∧ w'.rangeAt g 0 [.int .i64 2, .int .i64 x_op, .string x_key, .string x_oth, .string x_item, .int .i64 x_qty, .slice x_dq x_dn x_dc, .int .i64 x_aop, .int .i64 x_aerr, .int .i64 x_acnt, .slice x_lq x_ln x_lc, .slice x_bq x_bn x_bc, .int .i64 0, .int .i64 3, .int .i64 (-1)] ∧ w'.rangeAt g 15 [.int .i64 3, .int .i64 y_op, .string y_key, .string y_oth, .string y_item, .int .i64 y_qty, .slice y_dq y_dn y_dc, .int .i64 y_aop, .int .i64 y_aerr, .int .i64 y_acnt, .slice y_lq y_ln y_lc, .slice y_bq y_bn y_bc, .int .i64 1, .int .i64 2, .int .i64 4] ∧ w'.rangeAt g 30 [.int .i64 0, .int .i64 z_op, .string z_key, .string z_oth, .string z_item, .int .i64 z_qty, .slice z_dq z_dn z_dc, .int .i64 z_aop, .int .i64 z_aerr, .int .i64 z_acnt, .slice z_lq z_ln z_lc, .slice z_bq z_bn z_bc, .int .i64 5, .int .i64 (-1), .int .i64 (-1)] from fun w' hb => by
    have hr := HR.out.kept hb
    obtain ⟨b, o, e1, hlt, hc0⟩ := evs_rd hr (k := 0) (by simp)
    injection e1 with e1
    injection e1 with e1 e2
    subst e1 e2
    obtain ⟨b, o, e1, -, hc1⟩ := evs_rd hr (k := 1) (by simp)
    injection e1 with e1
    injection e1 with e1 e2
    subst e1 e2
    obtain ⟨b, o, e1, -, hc2⟩ := evs_rd hr (k := 2) (by simp)
    injection e1 with e1
    injection e1 with e1 e2
    subst e1 e2
    exact ⟨hlt, fun j v hv => hc0 j v hv, fun j v hv => hc1 j v hv, fun j v hv => hc2 j v hv⟩)
  have HX := Lib.hid (HE.out w8 (Below.refl _ _)).2.1
  have HA := Lib.hid (fun w => at_ok w ⟨2, 0, 3, (-1), x_op, x_key, x_oth, x_item, x_qty, x_dq, x_dn, x_dc, x_aop, x_aerr, x_acnt, x_lq, x_ln, x_lc, x_bq, x_bn, x_bc⟩ 2 0 3 (-1) rfl rfl rfl rfl)
  have HAY := Lib.hid (fun w => at_ok w ⟨3, 1, 2, 4, y_op, y_key, y_oth, y_item, y_qty, y_dq, y_dn, y_dc, y_aop, y_aerr, y_acnt, y_lq, y_ln, y_lc, y_bq, y_bn, y_bc⟩ 3 1 2 4 rfl rfl rfl rfl)
  have HAZ := Lib.hid (fun w => at_ok w ⟨0, 5, (-1), (-1), z_op, z_key, z_oth, z_item, z_qty, z_dq, z_dn, z_dc, z_aop, z_aerr, z_acnt, z_lq, z_ln, z_lc, z_bq, z_bn, z_bc⟩ 0 5 (-1) (-1) rfl rfl rfl rfl)
  simp only [Ev.agg] at HA HAY HAZ
  go_wp2_with (refine wpList_ldg (by rfl) 41 (.tmp 26) rfl g 0 rfl #[.int .i64 2, .int .i64 x_op, .string x_key, .string x_oth, .string x_item, .int .i64 x_qty, .slice x_dq x_dn x_dc, .int .i64 x_aop, .int .i64 x_aerr, .int .i64 x_acnt, .slice x_lq x_ln x_lc, .slice x_bq x_bn x_bc, .int .i64 0, .int .i64 3, .int .i64 (-1)] [.int .i64 2, .int .i64 x_op, .string x_key, .string x_oth, .string x_item, .int .i64 x_qty, .slice x_dq x_dn x_dc, .int .i64 x_aop, .int .i64 x_aerr, .int .i64 x_acnt, .slice x_lq x_ln x_lc, .slice x_bq x_bn x_bc, .int .i64 0, .int .i64 3, .int .i64 (-1)] rfl _ HX.out Try.underlying41 rfl info41 ?_)
  refine (HA.out _).mono ?_
  rintro e w9 ⟨rfl, hb9⟩
  have HB9 := Lib.hid hb9
  have HY := Lib.hid (HE.out w9 HB9.out).2.2.1
  clear hb9 HX HA
  go_wp2_with (refine wpList_ldg (by rfl) 41 (.tmp 33) rfl g 15 rfl #[.int .i64 3, .int .i64 y_op, .string y_key, .string y_oth, .string y_item, .int .i64 y_qty, .slice y_dq y_dn y_dc, .int .i64 y_aop, .int .i64 y_aerr, .int .i64 y_acnt, .slice y_lq y_ln y_lc, .slice y_bq y_bn y_bc, .int .i64 1, .int .i64 2, .int .i64 4] [.int .i64 3, .int .i64 y_op, .string y_key, .string y_oth, .string y_item, .int .i64 y_qty, .slice y_dq y_dn y_dc, .int .i64 y_aop, .int .i64 y_aerr, .int .i64 y_acnt, .slice y_lq y_ln y_lc, .slice y_bq y_bn y_bc, .int .i64 1, .int .i64 2, .int .i64 4] rfl _ HY.out Try.underlying41 rfl info41 ?_)
  refine (HAY.out _).mono ?_
  rintro e w10 ⟨rfl, hb10⟩
  have HB10 := Lib.hid (below_step HB9.out hb10)
  have HZ := Lib.hid (HE.out w10 HB10.out).2.2.2
  clear hb10 HY HAY HB9
  go_wp2_with (refine wpList_ldg (by rfl) 41 (.tmp 40) rfl g 30 rfl #[.int .i64 0, .int .i64 z_op, .string z_key, .string z_oth, .string z_item, .int .i64 z_qty, .slice z_dq z_dn z_dc, .int .i64 z_aop, .int .i64 z_aerr, .int .i64 z_acnt, .slice z_lq z_ln z_lc, .slice z_bq z_bn z_bc, .int .i64 5, .int .i64 (-1), .int .i64 (-1)] [.int .i64 0, .int .i64 z_op, .string z_key, .string z_oth, .string z_item, .int .i64 z_qty, .slice z_dq z_dn z_dc, .int .i64 z_aop, .int .i64 z_aerr, .int .i64 z_acnt, .slice z_lq z_ln z_lc, .slice z_bq z_bn z_bc, .int .i64 5, .int .i64 (-1), .int .i64 (-1)] rfl _ HZ.out Try.underlying41 rfl info41 ?_)
  refine (HAZ.out _).mono ?_
  rintro e w11 ⟨rfl, hb11⟩
  have HB11 := Lib.hid (below_step HB10.out hb11)
  clear hb11 HZ HAZ HB10
  have HOV := Lib.hid (show ∀ w', Below w8.heap.size w8 w' → Calls Try.prog 14 #[.slice (some ⟨g, 0, none⟩) 3 c'] w' fun e w'' => e = .returned (.tuple #[.int .i64 2, .int .i64 0]) ∧ Below w'.heap.size w' w'' from fun w' hb => by
    have h := overlaps_any (some ⟨g, 0, none⟩) c' _ (HR.out.kept hb) (by simpa using hcap) (by simp) hcm
    exact h)
  have HVL := Lib.hid (show ∀ w', Below w8.heap.size w8 w' → Calls Try.prog 18 #[.slice (some ⟨g, 0, none⟩) 3 c'] w' fun e w'' => e = .returned (.bool true) ∧ Below w'.heap.size w' w'' from fun w' hb => by
    have h := valid_any w' (some ⟨g, 0, none⟩) c' _ (HR.out.kept hb) (by simpa using hcap) (by simp) (by simp)
    exact h)
  go_wp2_with fail
  refine (HOV.out _ HB11.out).mono ?_
  rintro e w12 ⟨rfl, hb12⟩
  have HB12 := Lib.hid (below_step HB11.out hb12)
  clear hb12 HB11 HOV
  go_upto_region 6 with fail
  obtain ⟨glt, RX, RY, RZ⟩ := HE.out w12 HB12.out
  have HBF := Lib.hid (show ∀ (w' : World) (pp : Value) (uu : Bool), ((pp = .agg #[.int .i64 3, .int .i64 y_op, .string y_key, .string y_oth, .string y_item, .int .i64 y_qty, .slice y_dq y_dn y_dc, .int .i64 y_aop, .int .i64 y_aerr, .int .i64 y_acnt, .slice y_lq y_ln y_lc, .slice y_bq y_bn y_bc, .int .i64 1, .int .i64 2, .int .i64 4] ∧ uu = true) ∨ (pp = .agg #[.int .i64 2, .int .i64 x_op, .string x_key, .string x_oth, .string x_item, .int .i64 x_qty, .slice x_dq x_dn x_dc, .int .i64 x_aop, .int .i64 x_aerr, .int .i64 x_acnt, .slice x_lq x_ln x_lc, .slice x_bq x_bn x_bc, .int .i64 0, .int .i64 3, .int .i64 (-1)] ∧ uu = false)) → Calls Try.prog 22 #[pp, .agg #[.int .i64 0, .int .i64 z_op, .string z_key, .string z_oth, .string z_item, .int .i64 z_qty, .slice z_dq z_dn z_dc, .int .i64 z_aop, .int .i64 z_aerr, .int .i64 z_acnt, .slice z_lq z_ln z_lc, .slice z_bq z_bn z_bc, .int .i64 5, .int .i64 (-1), .int .i64 (-1)]] w' fun e w'' => e = .returned (.bool uu) ∧ Below w'.heap.size w' w'' from fun w' pp uu h => by
    rcases h with ⟨rfl, rfl⟩ | ⟨rfl, rfl⟩
    · exact before_any w' ⟨3, 1, 2, 4, y_op, y_key, y_oth, y_item, y_qty, y_dq, y_dn, y_dc, y_aop, y_aerr, y_acnt, y_lq, y_ln, y_lc, y_bq, y_bn, y_bc⟩ ⟨0, 5, (-1), (-1), z_op, z_key, z_oth, z_item, z_qty, z_dq, z_dn, z_dc, z_aop, z_aerr, z_acnt, z_lq, z_ln, z_lc, z_bq, z_bn, z_bc⟩
    · exact before_any w' ⟨2, 0, 3, (-1), x_op, x_key, x_oth, x_item, x_qty, x_dq, x_dn, x_dc, x_aop, x_aerr, x_acnt, x_lq, x_ln, x_lc, x_bq, x_bn, x_bc⟩ ⟨0, 5, (-1), (-1), z_op, z_key, z_oth, z_item, z_qty, z_dq, z_dn, z_dc, z_aop, z_aerr, z_acnt, z_lq, z_ln, z_lc, z_bq, z_bn, z_bc⟩)

  have HRX := Lib.hid RX
  have HRY := Lib.hid RY
  have HRZ := Lib.hid RZ
  have HGL := Lib.hid glt
  clear RX RY RZ glt
  refine wp_region_grows (by kernel_rfl) (by kernel_rfl) ?_
  repeat (first | (go_big_quiet_want; refine quiet_ld 41 (.tmp 58) rfl g 15 rfl #[.int .i64 3, .int .i64 y_op, .string y_key, .string y_oth, .string y_item, .int .i64 y_qty, .slice y_dq y_dn y_dc, .int .i64 y_aop, .int .i64 y_aerr, .int .i64 y_acnt, .slice y_lq y_ln y_lc, .slice y_bq y_bn y_bc, .int .i64 1, .int .i64 2, .int .i64 4] [.int .i64 3, .int .i64 y_op, .string y_key, .string y_oth, .string y_item, .int .i64 y_qty, .slice y_dq y_dn y_dc, .int .i64 y_aop, .int .i64 y_aerr, .int .i64 y_acnt, .slice y_lq y_ln y_lc, .slice y_bq y_bn y_bc, .int .i64 1, .int .i64 2, .int .i64 4] rfl _ HGL.out HRY.out Try.underlying41 rfl info41 ?_; simp only [Act.put, List.setIfInBounds_toArray, List.set_cons_zero, List.set_cons_succ]; go_big_quiet_on) | (go_big_quiet_want; refine quiet_ld 41 (.tmp 61) rfl g 30 rfl #[.int .i64 0, .int .i64 z_op, .string z_key, .string z_oth, .string z_item, .int .i64 z_qty, .slice z_dq z_dn z_dc, .int .i64 z_aop, .int .i64 z_aerr, .int .i64 z_acnt, .slice z_lq z_ln z_lc, .slice z_bq z_bn z_bc, .int .i64 5, .int .i64 (-1), .int .i64 (-1)] [.int .i64 0, .int .i64 z_op, .string z_key, .string z_oth, .string z_item, .int .i64 z_qty, .slice z_dq z_dn z_dc, .int .i64 z_aop, .int .i64 z_aerr, .int .i64 z_acnt, .slice z_lq z_ln z_lc, .slice z_bq z_bn z_bc, .int .i64 5, .int .i64 (-1), .int .i64 (-1)] rfl _ HGL.out HRZ.out Try.underlying41 rfl info41 ?_; simp only [Act.put, List.setIfInBounds_toArray, List.set_cons_zero, List.set_cons_succ]; go_big_quiet_on) | (go_big_quiet_want; refine quiet_ld 41 (.tmp 68) rfl g 0 rfl #[.int .i64 2, .int .i64 x_op, .string x_key, .string x_oth, .string x_item, .int .i64 x_qty, .slice x_dq x_dn x_dc, .int .i64 x_aop, .int .i64 x_aerr, .int .i64 x_acnt, .slice x_lq x_ln x_lc, .slice x_bq x_bn x_bc, .int .i64 0, .int .i64 3, .int .i64 (-1)] [.int .i64 2, .int .i64 x_op, .string x_key, .string x_oth, .string x_item, .int .i64 x_qty, .slice x_dq x_dn x_dc, .int .i64 x_aop, .int .i64 x_aerr, .int .i64 x_acnt, .slice x_lq x_ln x_lc, .slice x_bq x_bn x_bc, .int .i64 0, .int .i64 3, .int .i64 (-1)] rfl _ HGL.out HRX.out Try.underlying41 rfl info41 ?_; simp only [Act.put, List.setIfInBounds_toArray, List.set_cons_zero, List.set_cons_succ]; go_big_quiet_on) | (go_big_quiet_want; refine quiet_ld 41 (.tmp 71) rfl g 30 rfl #[.int .i64 0, .int .i64 z_op, .string z_key, .string z_oth, .string z_item, .int .i64 z_qty, .slice z_dq z_dn z_dc, .int .i64 z_aop, .int .i64 z_aerr, .int .i64 z_acnt, .slice z_lq z_ln z_lc, .slice z_bq z_bn z_bc, .int .i64 5, .int .i64 (-1), .int .i64 (-1)] [.int .i64 0, .int .i64 z_op, .string z_key, .string z_oth, .string z_item, .int .i64 z_qty, .slice z_dq z_dn z_dc, .int .i64 z_aop, .int .i64 z_aerr, .int .i64 z_acnt, .slice z_lq z_ln z_lc, .slice z_bq z_bn z_bc, .int .i64 5, .int .i64 (-1), .int .i64 (-1)] rfl _ HGL.out HRZ.out Try.underlying41 rfl info41 ?_; simp only [Act.put, List.setIfInBounds_toArray, List.set_cons_zero, List.set_cons_succ]; go_big_quiet_on) | go_big_quiet_step ((first | (go_at_call 22; exact Calls.gr _ (HBF.out _ _ _ (by first | exact .inl ⟨rfl, rfl⟩ | exact .inr ⟨rfl, rfl⟩))) | (go_at_call 18; exact Calls.gr _ (HVL.out _ (below_step HB12.out (Gr.h _)))))))
  refine wpQuiet_nil ?_
  rintro _ ⟨g', rfl⟩
  have hb := g'.h
  generalize g'.w = w13 at hb ⊢
  have HB13 := Lib.hid (below_step HB8.out (below_step HB12.out hb))
  clear hb HGL HRX HRY HRZ HB12 HE HVL HBF HR
  clear g'
  go_wp2_with fail
  refine (HI.out _ 2 4).mono ?_
  rintro e w14 ⟨rfl, hb⟩
  have HB14 := Lib.hid (below_step HB13.out hb)
  clear hb HB13
  go_wp2_with fail
  refine (wrong_ok _ (some ⟨w14.heap.size, 0, none⟩) 1 1 2 [⟨2, 4, false, 0, 0⟩] (Rd.of_blk (Blk.new w14 51 (dis (([⟨2, 4, false, 0, 0⟩] : List Zd).map Zd.di))) (List.prefix_refl _)) rfl (Nat.le_refl _) (by decide) k1_of).mono ?_
  rintro e w15 ⟨rfl, hb⟩
  have HB15 := Lib.hid (below_step (below_al HB14.out (.cells (dis (([⟨2, 4, false, 0, 0⟩] : List Zd).map Zd.di)).toArray 51)) hb)
  clear hb HB14
  go_wp2_with fail
  refine (HI.out _ 2 1).mono ?_
  rintro e w16 ⟨rfl, hb⟩
  have HB16 := Lib.hid (below_step HB15.out hb)
  clear hb HB15
  go_wp2_with fail
  refine (HI.out _ 2 6).mono ?_
  rintro e w17 ⟨rfl, hb⟩
  have HB17 := Lib.hid (below_step HB16.out hb)
  clear hb HB16
  go_wp2_with fail
  refine (wrong_ok _ (some ⟨w17.heap.size, 0, none⟩) 2 2 2 [⟨2, 1, false, 0, 0⟩, ⟨2, 6, false, 0, 0⟩] (Rd.of_blk (Blk.new w17 51 (dis (([⟨2, 1, false, 0, 0⟩, ⟨2, 6, false, 0, 0⟩] : List Zd).map Zd.di))) (List.prefix_refl _)) rfl (Nat.le_refl _) (by decide) k2_of).mono ?_
  rintro e w18 ⟨rfl, hb⟩
  have HB18 := Lib.hid (below_step (below_al HB17.out (.cells (dis (([⟨2, 1, false, 0, 0⟩, ⟨2, 6, false, 0, 0⟩] : List Zd).map Zd.di)).toArray 51)) hb)
  clear hb HB17
  go_wp2_with fail
  refine (HI.out _ 2 1).mono ?_
  rintro e w19 ⟨rfl, hb⟩
  have HB19 := Lib.hid (below_step HB18.out hb)
  clear hb HB18
  go_wp2_with fail
  refine (HI.out _ 2 1).mono ?_
  rintro e w20 ⟨rfl, hb⟩
  have HB20 := Lib.hid (below_step HB19.out hb)
  clear hb HB19
  go_wp2_with fail
  refine (wrong_ok _ (some ⟨w20.heap.size, 0, none⟩) 2 2 2 [⟨2, 1, false, 0, 0⟩, ⟨2, 1, false, 0, 0⟩] (Rd.of_blk (Blk.new w20 51 (dis (([⟨2, 1, false, 0, 0⟩, ⟨2, 1, false, 0, 0⟩] : List Zd).map Zd.di))) (List.prefix_refl _)) rfl (Nat.le_refl _) (by decide) k3_of).mono ?_
  rintro e w21 ⟨rfl, hb⟩
  have HB21 := Lib.hid (below_step (below_al HB20.out (.cells (dis (([⟨2, 1, false, 0, 0⟩, ⟨2, 1, false, 0, 0⟩] : List Zd).map Zd.di)).toArray 51)) hb)
  clear hb HB20
  go_wp2_with fail
  refine (wrong_ok _ none 0 0 0 [] (Rd.nil _ _ _) rfl (Nat.le_refl _) (by decide) k4_of).mono ?_
  rintro e w22 ⟨rfl, hb⟩
  have HB22 := Lib.hid (below_step HB21.out hb)
  clear hb HB21
  go_wp2_with fail
  go_ret
  exact ⟨rfl, HB22.out⟩
end Go.Proofs.Ytbkkplednfdfdaa
