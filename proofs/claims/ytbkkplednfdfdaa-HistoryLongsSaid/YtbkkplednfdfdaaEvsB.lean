/- Overlaps. Printed by hist_b.py. -/
import Derived.Test.YtbkkplednfdfdaaEvsA
namespace Go.Proofs.Ytbkkplednfdfdaa
open Go.RowKit

def ovB (a b : Ev) : Bool := !befB a b && !befB b a
def ovL : List Ev → Nat
  | [] => 0
  | a :: l => (l.filter (ovB a)).length + ovL l
theorem ovL_le : ∀ l : List Ev, ovL l ≤ l.length * l.length
  | [] => Nat.le_refl _
  | a :: l => by
    have h1 := ovL_le l
    have h2 := List.length_filter_le (ovB a) l
    rw [ovL, List.length_cons, Nat.succ_mul, Nat.mul_succ]
    omega
theorem ovL_drop {l : List Ev} {k : Nat} (hk : k < l.length) : ovL (l.drop k) = ((l.drop (k + 1)).filter (ovB l[k])).length + ovL (l.drop (k + 1)) := by
  rw [List.drop_eq_getElem_cons hk, ovL]
theorem filter_drop {a : Ev} {l : List Ev} {j : Nat} (hj : j < l.length) : ((l.drop j).filter (ovB a)).length = (if ovB a l[j] then 1 else 0) + ((l.drop (j + 1)).filter (ovB a)).length := by
  rw [List.drop_eq_getElem_cons hj, List.filter_cons]
  split <;> simp <;> omega
theorem Blk.get {w : World} {g : Nat} {t : TypeId} {cs : List Value} (h : Blk w g t cs) (i : Nat) (u : Value) (hu : cs[i]? = some u) : w.cell? ⟨g, i, none⟩ = some u := by rw [h.cell]; exact hu
set_option maxRecDepth 100000 in
set_option maxHeartbeats 4000000 in
theorem overlaps_any {w : World} (p : Option Addr) (c : Nat) (l : List Ev) (h : Rd w w.heap.size p (evs l)) (hc : l.length ≤ c) (hl : l.length ≤ 4096) (hcm : c ≤ maxLen) :
    Calls Try.prog 14 #[.slice p l.length c] w fun e w' => e = .returned (.tuple #[.int .i64 (ovL l), .int .i64 0]) ∧ Below w.heap.size w w' := by
  have HR := Lib.hid h
  have HBF := Lib.hid before_any
  have hle := ovL_le l
  have hle2 : l.length * l.length ≤ 4096 * 4096 := Nat.mul_le_mul hl hl
  have HD := Lib.hid (fun (k : Nat) (hk : k < l.length) => ovL_drop hk)
  have HD0 := Lib.hid (show (0 : Nat) + ovL (l.drop 0) = ovL l by simp)
  have HDL := Lib.hid (show ovL (l.drop l.length) = 0 by rw [List.drop_length]; rfl)
  obtain ⟨r, hr⟩ : ∃ r, ovL l = r := ⟨_, rfl⟩
  have hrb : r ≤ 16777216 := by omega
  rw [hr] at HD0 ⊢
  obtain ⟨n, hn⟩ : ∃ n, l.length = n := ⟨_, rfl⟩
  rw [hn] at hl hc HDL ⊢
  have HN := Lib.hid hn
  have hli : (n : Int) ≤ 4096 := by omega
  have hcx : c ≤ 9223372036854775807 := by unfold maxLen at hcm; omega
  clear h hle hle2 hr hn hcm
  go_enter Try.func14, Try.ntmps14
  go_wp2_with fail
  go_loopw [4, 14] (fun m i wr => ∃ (k a : Nat), k ≤ n ∧ a ≤ 16777216 ∧ i = .int .i64 k ∧ m = .int .i64 a ∧ Hid (a + ovL (l.drop k) = r) ∧ Hid (Below w.heap.size w wr)) (fun _ i _ => n - (intOf i).toNat)
  case atStart => exact ⟨0, 0, Nat.zero_le _, by omega, rfl, rfl, HD0, Lib.hid (Below.refl _ _)⟩
  case round =>
    obtain ⟨k, a, hk, ha, rfl, rfl, HA, HB⟩ := hrel
    by_cases hlt : k < n
    · have hki : (k : Int) < (n : Int) := by omega
      have hki1 : (k : Int) + 1 ≤ (n : Int) := by omega
      have hlt2 : k < l.length := by rw [HN.out]; exact hlt
      obtain ⟨b, o, rfl, hb, hc9⟩ := evs_rd HR.out hlt2
      have HDk := Lib.hid (HD.out k hlt2)
      have HEL : Hid (∀ j (hj : j < (l.drop (k + 1)).length), (l.drop (k + 1))[j] = l[k + 1 + j]'(by rw [List.length_drop] at hj; omega)) := Lib.hid (fun j hj => by rw [List.getElem_drop])
      have HDP : Hid ((l.drop (k + 1)).length = n - (k + 1)) := Lib.hid (by rw [List.length_drop, HN.out])
      have HA2 := Lib.hid (show a + (((l.drop (k + 1)).drop 0).filter (ovB l[k])).length + ovL (l.drop (k + 1)) = r by rw [List.drop_zero, Nat.add_assoc, ← HDk.out]; exact HA.out)
      obtain ⟨x, hx⟩ : ∃ x, l[k] = x := ⟨_, rfl⟩
      rw [hx] at hc9 HDk HA2
      have HX := Lib.hid (show ∀ i u, x.cells[i]? = some u → wr.cell? ⟨b, o + k * 15 + i, none⟩ = some u from fun i u hu => (HB.out.cell (p := ⟨b, o + k * 15 + i, none⟩) hb).trans (hc9 i u hu))
      clear hx hc9
      obtain ⟨R1, hR1⟩ : ∃ R1, l.drop (k + 1) = R1 := ⟨_, rfl⟩
      have HR1 := Lib.hid hR1
      have HRL := Lib.hid (show R1.length = n - (k + 1) by rw [← hR1]; exact HDP.out)
      rw [hR1] at HDk HA2
      have HFD := Lib.hid (fun (j : Nat) (hj : j < R1.length) => filter_drop (a := x) hj)
      have HF0 := Lib.hid (show ((R1.drop R1.length).filter (ovB x)).length = 0 by rw [List.drop_length]; rfl)
      have HR1E : Hid (∀ j (hj : j < R1.length) (hj' : k + 1 + j < l.length), R1[j] = l[k + 1 + j]) := Lib.hid (fun j hj hj' => by subst hR1; exact HEL.out j hj)
      clear hR1 HEL HDP HA hlt2
      have HBX := Lib.hid (fun (w' : World) (y : Ev) => HBF.out w' x y)
      have HBY := Lib.hid (fun (w' : World) (y : Ev) => HBF.out w' y x)
      have HXB := Lib.hid (show ∀ y, ovB x y = (!befB x y && !befB y x) from fun _ => rfl)
      have HBK := Lib.hid (Blk.new wr 41 x.cells)
      obtain ⟨xt, xa, xm, xn, xop, xkey, xoth, xitem, xqty, xdq, xdn, xdc, xaop, xaerr, xacnt, xlq, xln, xlc, xbq, xbn, xbc⟩ := x
      simp only [Ev.agg, Ev.cells] at HX HBX HBY HBK
      have q0 := HX.out 0 _ rfl
      have q1 := HX.out 1 _ rfl
      have q2 := HX.out 2 _ rfl
      have q3 := HX.out 3 _ rfl
      have q4 := HX.out 4 _ rfl
      have q5 := HX.out 5 _ rfl
      have q6 := HX.out 6 _ rfl
      have q7 := HX.out 7 _ rfl
      have q8 := HX.out 8 _ rfl
      have q9 := HX.out 9 _ rfl
      have q10 := HX.out 10 _ rfl
      have q11 := HX.out 11 _ rfl
      have q12 := HX.out 12 _ rfl
      have q13 := HX.out 13 _ rfl
      have q14 := HX.out 14 _ rfl

      simp only [Nat.add_zero] at q0
      obtain ⟨z, hz⟩ : ∃ z, wr.heap.size = z := ⟨_, rfl⟩
      have HZ := Lib.hid (show Blk (wr.alloc (.cells #[.int .i64 xt, .int .i64 xop, .string xkey, .string xoth, .string xitem, .int .i64 xqty, .slice xdq xdn xdc, .int .i64 xaop, .int .i64 xaerr, .int .i64 xacnt, .slice xlq xln xlc, .slice xbq xbn xbc, .int .i64 xa, .int .i64 xm, .int .i64 xn] 41)) z 41 [.int .i64 xt, .int .i64 xop, .string xkey, .string xoth, .string xitem, .int .i64 xqty, .slice xdq xdn xdc, .int .i64 xaop, .int .i64 xaerr, .int .i64 xacnt, .slice xlq xln xlc, .slice xbq xbn xbc, .int .i64 xa, .int .i64 xm, .int .i64 xn] by rw [← hz]; exact HBK.out)
      have HB0 := Lib.hid (below_al HB.out (.cells #[.int .i64 xt, .int .i64 xop, .string xkey, .string xoth, .string xitem, .int .i64 xqty, .slice xdq xdn xdc, .int .i64 xaop, .int .i64 xaerr, .int .i64 xacnt, .slice xlq xln xlc, .slice xbq xbn xbc, .int .i64 xa, .int .i64 xm, .int .i64 xn] 41))
      clear HBK
      by_cases hck : c = k + 1
      · have hnk : n = k + 1 := by omega
        have HE := Lib.hid (show a + ovL R1 = r by
          have h1 := HA2.out
          have h2 := HF0.out
          rw [HRL.out, show n - (k + 1) = 0 by omega] at h2
          omega)
        subst hck hnk
        clear hz
        go_wp2_with fail
        go_loopw [4, 24] (fun m i wq => m = .int .i64 a ∧ i = .int .i64 0 ∧ Hid (Below w.heap.size w wq)) (fun _ _ _ => 0)
        case atStart => exact ⟨rfl, rfl, HB0⟩
        case round =>
          obtain ⟨rfl, rfl, HBq⟩ := hrel
          go_wp2_with fail
          go_roundw
          case rel => exact ⟨k + 1, a, by omega, by omega, by go_num, rfl, by rw [HR1.out]; exact HE, HBq⟩
          case measure => simp [intOf]
      · have hkc : k + 1 < c := by omega
        obtain ⟨d, hd⟩ : ∃ d, n - (k + 1) = d := ⟨_, rfl⟩
        have hd1 : d ≤ 4096 := by omega
        have hdk : d + (k + 1) = n := by omega
        rw [hd] at HRL
        clear hd hck
        go_wp2_with fail
        clear hz
        generalize wr.alloc (.cells #[.int .i64 xt, .int .i64 xop, .string xkey, .string xoth, .string xitem, .int .i64 xqty, .slice xdq xdn xdc, .int .i64 xaop, .int .i64 xaerr, .int .i64 xacnt, .slice xlq xln xlc, .slice xbq xbn xbc, .int .i64 xa, .int .i64 xm, .int .i64 xn] 41) = wq0 at *
        go_loopw [4, 24] (fun m i wq => ∃ (j a : Nat), j ≤ d ∧ a ≤ 16777216 ∧ i = .int .i64 j ∧ m = .int .i64 a ∧ Hid (a + ((R1.drop j).filter (ovB ⟨xt, xa, xm, xn, xop, xkey, xoth, xitem, xqty, xdq, xdn, xdc, xaop, xaerr, xacnt, xlq, xln, xlc, xbq, xbn, xbc⟩)).length + ovL R1 = r) ∧ Hid (Blk wq z 41 [.int .i64 xt, .int .i64 xop, .string xkey, .string xoth, .string xitem, .int .i64 xqty, .slice xdq xdn xdc, .int .i64 xaop, .int .i64 xaerr, .int .i64 xacnt, .slice xlq xln xlc, .slice xbq xbn xbc, .int .i64 xa, .int .i64 xm, .int .i64 xn]) ∧ Hid (Below w.heap.size w wq)) (fun _ i _ => d - (intOf i).toNat)
        case atStart => exact ⟨0, a, Nat.zero_le _, by omega, rfl, rfl, HA2, HZ, HB0⟩
        case round =>
          clear HA2 HZ HB0 q0 q1 q2 q3 q4 q5 q6 q7 q8 q9 q10 q11 q12 q13 q14 HX
          obtain ⟨j, a, hj, ha, rfl, rfl, HA, HZ, HBq⟩ := hrel
          by_cases hjt : j < d
          · have hji : (j : Int) < (d : Int) := by omega
            have hj2 : j < R1.length := by rw [HRL.out]; exact hjt
            have hj3 : k + 1 + j < l.length := by rw [HN.out]; omega
            obtain ⟨b9, o9, hp9, hb9, hc9⟩ := evs_rd HR.out hj3
            injection hp9 with hp9
            injection hp9 with e1 e2
            subst e1 e2
            have HFj := Lib.hid (HFD.out j hj2)
            have hre := HR1E.out j hj2 hj3
            obtain ⟨y, hy⟩ : ∃ y, l[k + 1 + j] = y := ⟨_, rfl⟩
            rw [hy] at hc9 hre
            rw [hre] at HFj
            have HY := Lib.hid (show ∀ i u, y.cells[i]? = some u → wr.cell? ⟨b, o + (k + 1) * 15 + j * 15 + i, none⟩ = some u from fun i u hu => by
              have h9 := (HBq.out.cell (p := ⟨b, o + (k + 1 + j) * 15 + i, none⟩) hb9).trans (hc9 i u hu)
              rw [show o + (k + 1 + j) * 15 + i = o + (k + 1) * 15 + j * 15 + i by omega] at h9
              exact h9)
            have HB1 := Lib.hid (fun w' => HBX.out w' y)
            have HB2 := Lib.hid (fun w' => HBY.out w' y)
            have HXY := Lib.hid (HXB.out y)
            have HBK := Lib.hid (Blk.new wr 41 y.cells)
            have HB3 := Lib.hid (below_al HBq.out (.cells y.cells.toArray 41))
            have HZ3 := Lib.hid (HZ.out.alloc (.cells y.cells.toArray 41))
            clear hy hc9 hj2 hj3 hre
            generalize befB _ y = u1 at HB1 HXY
            generalize befB y _ = u2 at HB2 HXY
            rw [HXY.out] at HFj
            obtain ⟨yt, ya, ym, yn, yop, ykey, yoth, yitem, yqty, ydq, ydn, ydc, yaop, yaerr, yacnt, ylq, yln, ylc, ybq, ybn, ybc⟩ := y
            simp only [Ev.cells] at HY HB1 HB2 HBK HB3 HZ3
            have p0 := HY.out 0 _ rfl
            have p1 := HY.out 1 _ rfl
            have p2 := HY.out 2 _ rfl
            have p3 := HY.out 3 _ rfl
            have p4 := HY.out 4 _ rfl
            have p5 := HY.out 5 _ rfl
            have p6 := HY.out 6 _ rfl
            have p7 := HY.out 7 _ rfl
            have p8 := HY.out 8 _ rfl
            have p9 := HY.out 9 _ rfl
            have p10 := HY.out 10 _ rfl
            have p11 := HY.out 11 _ rfl
            have p12 := HY.out 12 _ rfl
            have p13 := HY.out 13 _ rfl
            have p14 := HY.out 14 _ rfl

            simp only [Nat.add_zero] at p0
            have q0 := HZ.out.get 0 _ rfl
            have q1 := HZ.out.get 1 _ rfl
            have q2 := HZ.out.get 2 _ rfl
            have q3 := HZ.out.get 3 _ rfl
            have q4 := HZ.out.get 4 _ rfl
            have q5 := HZ.out.get 5 _ rfl
            have q6 := HZ.out.get 6 _ rfl
            have q7 := HZ.out.get 7 _ rfl
            have q8 := HZ.out.get 8 _ rfl
            have q9 := HZ.out.get 9 _ rfl
            have q10 := HZ.out.get 10 _ rfl
            have q11 := HZ.out.get 11 _ rfl
            have q12 := HZ.out.get 12 _ rfl
            have q13 := HZ.out.get 13 _ rfl
            have q14 := HZ.out.get 14 _ rfl

            have hzl := HZ.out.lt
            have hzn : z ≠ wr.heap.size := by omega
            have hzm : wr.heap.size ≠ z := by omega
            cases u1 with
            | true =>
              have HC := Lib.hid (show ((R1.drop j).filter (ovB ⟨xt, xa, xm, xn, xop, xkey, xoth, xitem, xqty, xdq, xdn, xdc, xaop, xaerr, xacnt, xlq, xln, xlc, xbq, xbn, xbc⟩)).length = ((R1.drop (j + 1)).filter (ovB ⟨xt, xa, xm, xn, xop, xkey, xoth, xitem, xqty, xdq, xdn, xdc, xaop, xaerr, xacnt, xlq, xln, xlc, xbq, xbn, xbc⟩)).length by rw [HFj.out]; simp)
              go_wp2_with fail
              refine (HB1.out _).mono ?_
              rintro e w2 ⟨rfl, hb2⟩
              have HZ4 := Lib.hid (HZ3.out.kept hb2)
              have HB4 := Lib.hid (below_step HB3.out hb2)
              clear hb2 q0 p0 q1 p1 q2 p2 q3 p3 q4 p4 q5 p5 q6 p6 q7 p7 q8 p8 q9 p9 q10 p10 q11 p11 q12 p12 q13 p13 q14 p14
              go_wp2_with fail
              go_roundw
              case rel => exact ⟨j + 1, a, by omega, by omega, by go_num, rfl, by rw [← HC.out]; exact HA, HZ4, HB4⟩
              case measure => simp [intOf]; omega
            | false =>
              go_wp2_with fail
              refine (HB1.out _).mono ?_
              rintro e w2 ⟨rfl, hb2⟩
              have HZ4 := Lib.hid (HZ3.out.kept hb2)
              have HK4 := Lib.hid (HBK.out.kept hb2)
              have HB4 := Lib.hid (below_step HB3.out hb2)
              clear hb2 q0 p0 q1 p1 q2 p2 q3 p3 q4 p4 q5 p5 q6 p6 q7 p7 q8 p8 q9 p9 q10 p10 q11 p11 q12 p12 q13 p13 q14 p14
              have q0 := HZ4.out.get 0 _ rfl
              have q1 := HZ4.out.get 1 _ rfl
              have q2 := HZ4.out.get 2 _ rfl
              have q3 := HZ4.out.get 3 _ rfl
              have q4 := HZ4.out.get 4 _ rfl
              have q5 := HZ4.out.get 5 _ rfl
              have q6 := HZ4.out.get 6 _ rfl
              have q7 := HZ4.out.get 7 _ rfl
              have q8 := HZ4.out.get 8 _ rfl
              have q9 := HZ4.out.get 9 _ rfl
              have q10 := HZ4.out.get 10 _ rfl
              have q11 := HZ4.out.get 11 _ rfl
              have q12 := HZ4.out.get 12 _ rfl
              have q13 := HZ4.out.get 13 _ rfl
              have q14 := HZ4.out.get 14 _ rfl

              have p0 := HK4.out.get 0 _ rfl
              have p1 := HK4.out.get 1 _ rfl
              have p2 := HK4.out.get 2 _ rfl
              have p3 := HK4.out.get 3 _ rfl
              have p4 := HK4.out.get 4 _ rfl
              have p5 := HK4.out.get 5 _ rfl
              have p6 := HK4.out.get 6 _ rfl
              have p7 := HK4.out.get 7 _ rfl
              have p8 := HK4.out.get 8 _ rfl
              have p9 := HK4.out.get 9 _ rfl
              have p10 := HK4.out.get 10 _ rfl
              have p11 := HK4.out.get 11 _ rfl
              have p12 := HK4.out.get 12 _ rfl
              have p13 := HK4.out.get 13 _ rfl
              have p14 := HK4.out.get 14 _ rfl

              cases u2 with
              | true =>
                have HC := Lib.hid (show ((R1.drop j).filter (ovB ⟨xt, xa, xm, xn, xop, xkey, xoth, xitem, xqty, xdq, xdn, xdc, xaop, xaerr, xacnt, xlq, xln, xlc, xbq, xbn, xbc⟩)).length = ((R1.drop (j + 1)).filter (ovB ⟨xt, xa, xm, xn, xop, xkey, xoth, xitem, xqty, xdq, xdn, xdc, xaop, xaerr, xacnt, xlq, xln, xlc, xbq, xbn, xbc⟩)).length by rw [HFj.out]; simp)
                go_wp2_with fail
                refine (HB2.out _).mono ?_
                rintro e w3 ⟨rfl, hb3⟩
                have HZ5 := Lib.hid (HZ4.out.kept hb3)
                have HB5 := Lib.hid (below_step HB4.out hb3)
                clear hb3 q0 p0 q1 p1 q2 p2 q3 p3 q4 p4 q5 p5 q6 p6 q7 p7 q8 p8 q9 p9 q10 p10 q11 p11 q12 p12 q13 p13 q14 p14
                go_wp2_with fail
                go_roundw
                case rel => exact ⟨j + 1, a, by omega, by omega, by go_num, rfl, by rw [← HC.out]; exact HA, HZ5, HB5⟩
                case measure => simp [intOf]; omega
              | false =>
                have HC := Lib.hid (show a + 1 + ((R1.drop (j + 1)).filter (ovB ⟨xt, xa, xm, xn, xop, xkey, xoth, xitem, xqty, xdq, xdn, xdc, xaop, xaerr, xacnt, xlq, xln, xlc, xbq, xbn, xbc⟩)).length + ovL R1 = r by
                  have h1 := HA.out
                  rw [HFj.out] at h1
                  simp at h1
                  omega)
                go_wp2_with fail
                refine (HB2.out _).mono ?_
                rintro e w3 ⟨rfl, hb3⟩
                have HZ5 := Lib.hid (HZ4.out.kept hb3)
                have HB5 := Lib.hid (below_step HB4.out hb3)
                clear hb3 q0 p0 q1 p1 q2 p2 q3 p3 q4 p4 q5 p5 q6 p6 q7 p7 q8 p8 q9 p9 q10 p10 q11 p11 q12 p12 q13 p13 q14 p14
                go_wp2_with fail
                go_roundw
                case rel => exact ⟨j + 1, a + 1, by omega, by have := HC.out; omega, by go_num, by go_num, HC, HZ5, HB5⟩
                case measure => simp [intOf]; omega
          · have hje : j = d := by omega
            subst hje
            have HE := Lib.hid (show a + ovL R1 = r by
              have h1 := HA.out
              have h2 := HF0.out
              rw [HRL.out] at h2
              omega)
            go_wp2_with fail
            go_roundw
            case rel => exact ⟨k + 1, a, by omega, by omega, by go_num, rfl, by rw [HR1.out]; exact HE, HBq⟩
            case measure => simp [intOf]; omega
    · have hkn : k = n := by omega
      subst hkn
      have HF := Lib.hid (show a = r by have := HA.out; rw [HDL.out] at this; omega)
      go_wp2_with fail
      go_ret2
      exact ⟨by rw [HF.out]; rfl, HB.out⟩
end Go.Proofs.Ytbkkplednfdfdaa
