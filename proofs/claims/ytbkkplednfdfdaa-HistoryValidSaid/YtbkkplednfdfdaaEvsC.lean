/- The reference's Overlaps. Printed by hist_c.py. -/
import Derived.Test.YtbkkplednfdfdaaEvsB
namespace Go.Proofs.Ytbkkplednfdfdaa
open Go.RowKit

/-- The cells of an event, those in the middle unnamed. -/
theorem Ev.mid (x : Ev) : ∃ m1 m2 m3 m4 m5 m6 m7 m8 m9 m10 m11 : Value, x.cells = [.int .i64 x.task, m1, m2, m3, m4, m5, m6, m7, m8, m9, m10, m11, .int .i64 x.asked, .int .i64 x.made, .int .i64 x.ans] := ⟨_, _, _, _, _, _, _, _, _, _, _, rfl⟩
theorem Ev.agg_eq (x : Ev) : x.agg = .agg x.cells.toArray := rfl
set_option maxRecDepth 100000 in
set_option maxHeartbeats 4000000 in
theorem refOverlaps_any {w : World} (p : Option Addr) (c : Nat) (l : List Ev) (h : Rd w w.heap.size p (evs l)) (hl : l.length ≤ 4096) :
    Calls Try.prog 15 #[.slice p l.length c] w fun e w' => e = .returned (.int .i64 (ovL l)) ∧ Below w.heap.size w w' := by
  have HR := Lib.hid h
  have HBF := Lib.hid refBefore_any
  have hle := ovL_le l
  have hle2 : l.length * l.length ≤ 4096 * 4096 := Nat.mul_le_mul hl hl
  have HD := Lib.hid (fun (k : Nat) (hk : k < l.length) => ovL_drop hk)
  have HFD := Lib.hid (fun (x : Ev) (j : Nat) (hj : j < l.length) => filter_drop (a := x) hj)
  have HF0 := Lib.hid (fun (x : Ev) => (show ((l.drop l.length).filter (ovB x)).length = 0 by rw [List.drop_length]; rfl))
  have HD0 := Lib.hid (show (0 : Nat) + ovL (l.drop 0) = ovL l by simp)
  have HDL := Lib.hid (show ovL (l.drop l.length) = 0 by rw [List.drop_length]; rfl)
  obtain ⟨r, hr⟩ : ∃ r, ovL l = r := ⟨_, rfl⟩
  have hrb : r ≤ 16777216 := by omega
  rw [hr] at HD0 ⊢
  obtain ⟨n, hn⟩ : ∃ n, l.length = n := ⟨_, rfl⟩
  rw [hn] at hl HDL HF0 ⊢
  have HN := Lib.hid hn
  have hli : (n : Int) ≤ 4096 := by omega
  clear h hle hle2 hr hn
  go_enter Try.func15, Try.ntmps15
  go_wp2_with fail
  go_loopw [3, 4] (fun m i wr => ∃ (k a : Nat), k ≤ n ∧ a ≤ 16777216 ∧ i = .int .i64 k ∧ m = .int .i64 a ∧ Hid (a + ovL (l.drop k) = r) ∧ Hid (Below w.heap.size w wr)) (fun _ i _ => n - (intOf i).toNat)
  case atStart => exact ⟨0, 0, Nat.zero_le _, by omega, rfl, rfl, HD0, Lib.hid (Below.refl _ _)⟩
  case round =>
    obtain ⟨k, a, hk, ha, rfl, rfl, HA, HB⟩ := hrel
    by_cases hlt : k < n
    · have hki : (k : Int) < (n : Int) := by omega
      have hki1 : (k : Int) + 1 ≤ (n : Int) := by omega
      have hlt2 : k < l.length := by rw [HN.out]; exact hlt
      obtain ⟨b, o, rfl, hb, hc9⟩ := evs_rd HR.out hlt2
      have HA2 := Lib.hid (show a + ((l.drop (k + 1)).filter (ovB l[k])).length + ovL (l.drop (k + 1)) = r by rw [Nat.add_assoc, ← HD.out k hlt2]; exact HA.out)
      obtain ⟨x, hx⟩ : ∃ x, l[k] = x := ⟨_, rfl⟩
      rw [hx] at hc9 HA2
      have HX0 := Lib.hid hc9
      have HBW := Lib.hid hb
      have HF0x := Lib.hid (HF0.out x)
      have HFx := Lib.hid (HFD.out x)
      have HBX := Lib.hid (fun (w' : World) (y : Ev) => HBF.out w' x y)
      have HBY := Lib.hid (fun (w' : World) (y : Ev) => HBF.out w' y x)
      have HXB := Lib.hid (show ∀ y, ovB x y = (!befB x y && !befB y x) from fun _ => rfl)
      clear hx hc9 hlt2 HA hb
      obtain ⟨x1, x2, x3, x4, x5, x6, x7, x8, x9, x10, x11, hmx⟩ := x.mid
      rw [hmx] at HX0
      have HMX := Lib.hid hmx
      obtain ⟨xt, hxt⟩ : ∃ v, x.task = v := ⟨_, rfl⟩
      obtain ⟨xa, hxa⟩ : ∃ v, x.asked = v := ⟨_, rfl⟩
      obtain ⟨xm, hxm⟩ : ∃ v, x.made = v := ⟨_, rfl⟩
      obtain ⟨xn, hxn⟩ : ∃ v, x.ans = v := ⟨_, rfl⟩
      rw [hxt, hxa, hxm, hxn] at HX0 HMX
      clear hmx hxt hxa hxm hxn
      go_wp2_with fail
      go_loopw [3, 5] (fun m i wq => ∃ (j a : Nat), k + 1 ≤ j ∧ j ≤ n ∧ a ≤ 16777216 ∧ i = .int .i64 j ∧ m = .int .i64 a ∧ Hid (a + ((l.drop j).filter (ovB x)).length + ovL (l.drop (k + 1)) = r) ∧ Hid (Below w.heap.size w wq)) (fun _ i _ => n - (intOf i).toNat)
      case atStart => exact ⟨k + 1, a, Nat.le_refl _, by omega, by omega, by go_num, rfl, HA2, HB⟩
      case round =>
        clear HA2
        obtain ⟨j, a, hkj, hj, ha, rfl, rfl, HA, HBq⟩ := hrel
        by_cases hjt : j < n
        · have hji : (j : Int) < (n : Int) := by omega
          have hj2 : j < l.length := by rw [HN.out]; exact hjt
          obtain ⟨b9, o9, hp9, hb9, hc9⟩ := evs_rd HR.out hj2
          injection hp9 with hp9
          injection hp9 with e1 e2
          subst e1 e2
          have HFj := Lib.hid (HFx.out j hj2)
          obtain ⟨y, hy⟩ : ∃ y, l[j] = y := ⟨_, rfl⟩
          rw [hy] at hc9 HFj
          have hbq : b < wr.heap.size := Nat.lt_of_lt_of_le hb9 HBq.out.size
          have HY := Lib.hid (show ∀ i u, y.cells[i]? = some u → wr.cell? ⟨b, o + j * 15 + i, none⟩ = some u from fun i u hu => (HBq.out.cell (p := ⟨b, o + j * 15 + i, none⟩) hb9).trans (hc9 i u hu))
          have HX := Lib.hid (fun i u hu => (HBq.out.cell (p := ⟨b, o + k * 15 + i, none⟩) hb9).trans (HX0.out i u hu))
          have HB1 := Lib.hid (fun w' => HBX.out w' y)
          have HB2 := Lib.hid (fun w' => HBY.out w' y)
          have HXY := Lib.hid (HXB.out y)
          clear hy hc9 hj2 hb9
          obtain ⟨u1, hu1⟩ : ∃ u, befB x y = u := ⟨_, rfl⟩
          obtain ⟨u2, hu2⟩ : ∃ u, befB y x = u := ⟨_, rfl⟩
          rw [HXY.out, hu1, hu2] at HFj
          obtain ⟨y1, y2, y3, y4, y5, y6, y7, y8, y9, y10, y11, hmy⟩ := y.mid
          rw [hmy] at HY
          have HBG := Lib.hid (show ∀ (w' : World) (pp qq : Value) (uu : Bool), ((pp = x.agg ∧ qq = y.agg ∧ uu = u1) ∨ (pp = y.agg ∧ qq = x.agg ∧ uu = u2)) → Calls Try.prog 23 #[pp, qq] w' fun e w'' => e = .returned (.bool uu) ∧ Below w'.heap.size w' w'' from fun w' pp qq uu h => by
            rcases h with ⟨rfl, rfl, rfl⟩ | ⟨rfl, rfl, rfl⟩
            · rw [← hu1]; exact HB1.out w'
            · rw [← hu2]; exact HB2.out w')
          rw [Ev.agg_eq x, Ev.agg_eq y, HMX.out, hmy] at HBG
          generalize y.task = yt at *
          generalize y.asked = ya at *
          generalize y.made = ym at *
          generalize y.ans = yn at *
          clear hu1 hu2 HXY HB1 HB2 hmy
          have p0 := fun g => Gr.at_ hbq (HY.out 0 _ rfl) g
          have p1 := fun g => Gr.at_ hbq (HY.out 1 _ rfl) g
          have p2 := fun g => Gr.at_ hbq (HY.out 2 _ rfl) g
          have p3 := fun g => Gr.at_ hbq (HY.out 3 _ rfl) g
          have p4 := fun g => Gr.at_ hbq (HY.out 4 _ rfl) g
          have p5 := fun g => Gr.at_ hbq (HY.out 5 _ rfl) g
          have p6 := fun g => Gr.at_ hbq (HY.out 6 _ rfl) g
          have p7 := fun g => Gr.at_ hbq (HY.out 7 _ rfl) g
          have p8 := fun g => Gr.at_ hbq (HY.out 8 _ rfl) g
          have p9 := fun g => Gr.at_ hbq (HY.out 9 _ rfl) g
          have p10 := fun g => Gr.at_ hbq (HY.out 10 _ rfl) g
          have p11 := fun g => Gr.at_ hbq (HY.out 11 _ rfl) g
          have p12 := fun g => Gr.at_ hbq (HY.out 12 _ rfl) g
          have p13 := fun g => Gr.at_ hbq (HY.out 13 _ rfl) g
          have p14 := fun g => Gr.at_ hbq (HY.out 14 _ rfl) g

          have q0 := fun g => Gr.at_ hbq (HX.out 0 _ rfl) g
          have q1 := fun g => Gr.at_ hbq (HX.out 1 _ rfl) g
          have q2 := fun g => Gr.at_ hbq (HX.out 2 _ rfl) g
          have q3 := fun g => Gr.at_ hbq (HX.out 3 _ rfl) g
          have q4 := fun g => Gr.at_ hbq (HX.out 4 _ rfl) g
          have q5 := fun g => Gr.at_ hbq (HX.out 5 _ rfl) g
          have q6 := fun g => Gr.at_ hbq (HX.out 6 _ rfl) g
          have q7 := fun g => Gr.at_ hbq (HX.out 7 _ rfl) g
          have q8 := fun g => Gr.at_ hbq (HX.out 8 _ rfl) g
          have q9 := fun g => Gr.at_ hbq (HX.out 9 _ rfl) g
          have q10 := fun g => Gr.at_ hbq (HX.out 10 _ rfl) g
          have q11 := fun g => Gr.at_ hbq (HX.out 11 _ rfl) g
          have q12 := fun g => Gr.at_ hbq (HX.out 12 _ rfl) g
          have q13 := fun g => Gr.at_ hbq (HX.out 13 _ rfl) g
          have q14 := fun g => Gr.at_ hbq (HX.out 14 _ rfl) g

          simp only [Nat.add_zero] at p0 q0
          cases u1 with
          | true =>
            have HC := Lib.hid (show ((l.drop j).filter (ovB x)).length = ((l.drop (j + 1)).filter (ovB x)).length by rw [HFj.out]; simp)
            as_aux_lemma =>
              go_upto_region 8 with fail
              refine wp_region_grows (by kernel_rfl) (by kernel_rfl) ?_
              repeat (go_big_quiet_step ((first | (go_at_call 23; exact Calls.gr _ (HBG.out _ _ _ _ (by first | exact .inl ⟨rfl, rfl, rfl⟩ | exact .inr ⟨rfl, rfl, rfl⟩))))))
              refine wpQuiet_nil ?_
              rintro _ ⟨g, rfl⟩
              have hb9 := g.h
              generalize g.w = w2 at hb9 ⊢
              have HB9 := Lib.hid (below_step HBq.out hb9)
              clear hb9 q0 p0 q1 p1 q2 p2 q3 p3 q4 p4 q5 p5 q6 p6 q7 p7 q8 p8 q9 p9 q10 p10 q11 p11 q12 p12 q13 p13 q14 p14
              go_wp2_with fail
              go_roundw
              case rel => exact ⟨j + 1, a, by omega, by omega, by omega, by go_num, rfl, by rw [← HC.out]; exact HA, HB9⟩
              case measure => simp [intOf]; omega

          | false =>
            cases u2 with
            | true =>
              have HC := Lib.hid (show ((l.drop j).filter (ovB x)).length = ((l.drop (j + 1)).filter (ovB x)).length by rw [HFj.out]; simp)
              as_aux_lemma =>
                go_upto_region 8 with fail
                refine wp_region_grows (by kernel_rfl) (by kernel_rfl) ?_
                repeat (go_big_quiet_step ((first | (go_at_call 23; exact Calls.gr _ (HBG.out _ _ _ _ (by first | exact .inl ⟨rfl, rfl, rfl⟩ | exact .inr ⟨rfl, rfl, rfl⟩))))))
                refine wpQuiet_nil ?_
                rintro _ ⟨g, rfl⟩
                have hb9 := g.h
                generalize g.w = w2 at hb9 ⊢
                have HB9 := Lib.hid (below_step HBq.out hb9)
                clear hb9 q0 p0 q1 p1 q2 p2 q3 p3 q4 p4 q5 p5 q6 p6 q7 p7 q8 p8 q9 p9 q10 p10 q11 p11 q12 p12 q13 p13 q14 p14
                go_wp2_with fail
                go_roundw
                case rel => exact ⟨j + 1, a, by omega, by omega, by omega, by go_num, rfl, by rw [← HC.out]; exact HA, HB9⟩
                case measure => simp [intOf]; omega

            | false =>
              have HC := Lib.hid (show a + 1 + ((l.drop (j + 1)).filter (ovB x)).length + ovL (l.drop (k + 1)) = r by
                have h1 := HA.out
                rw [HFj.out] at h1
                simp at h1
                omega)
              as_aux_lemma =>
                go_upto_region 8 with fail
                refine wp_region_grows (by kernel_rfl) (by kernel_rfl) ?_
                repeat (go_big_quiet_step ((first | (go_at_call 23; exact Calls.gr _ (HBG.out _ _ _ _ (by first | exact .inl ⟨rfl, rfl, rfl⟩ | exact .inr ⟨rfl, rfl, rfl⟩))))))
                refine wpQuiet_nil ?_
                rintro _ ⟨g, rfl⟩
                have hb9 := g.h
                generalize g.w = w2 at hb9 ⊢
                have HB9 := Lib.hid (below_step HBq.out hb9)
                clear hb9 q0 p0 q1 p1 q2 p2 q3 p3 q4 p4 q5 p5 q6 p6 q7 p7 q8 p8 q9 p9 q10 p10 q11 p11 q12 p12 q13 p13 q14 p14
                go_wp2_with fail
                go_roundw
                case rel => exact ⟨j + 1, a + 1, by omega, by omega, by have := HC.out; omega, by go_num, by go_num, HC, HB9⟩
                case measure => simp [intOf]; omega

        · have hje : j = n := by omega
          subst hje
          have HE := Lib.hid (show a + ovL (l.drop (k + 1)) = r by
            have h1 := HA.out
            have h2 := HF0x.out
            omega)
          go_wp2_with fail
          go_roundw
          case rel => exact ⟨k + 1, a, by omega, by omega, by go_num, rfl, HE, HBq⟩
          case measure => simp [intOf]; omega
    · have hkn : k = n := by omega
      subst hkn
      have HF := Lib.hid (show a = r by have := HA.out; rw [HDL.out] at this; omega)
      go_wp2_with fail
      go_ret
      exact ⟨by rw [HF.out]; rfl, HB.out⟩
end Go.Proofs.Ytbkkplednfdfdaa
