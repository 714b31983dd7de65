/- BytesNil. -/
import Derived.Test.YtmhkbchbglnbpaaNilR
import Derived.Test.YtmhkbchbglnbpaaArgs
namespace Go.Proofs.Ytmhkbchbglnbpaa
open Go.RowKit

theorem npost {w : World} (F : List Int) (e : Ending) (w' : World) (h : e = .returned (.tuple #[]) ∧ Below w.heap.size w w') : e = .returned (.tuple #[]) := h.1
theorem nE_nil (n : Nat) : nE [] n = 4 ∧ nV [] n = 0 ∧ nS [] n = 0 := by
  have h : nE [] n = 4 := by rw [nE, show readE [] = 4 from by decide]; rfl
  exact ⟨h, by rw [nV, h]; rfl, by rw [nS, h]; rfl⟩
set_option maxRecDepth 100000 in
theorem nil_any (n : Nat) (most : Int) (p : Option Addr) (c : Nat) (l : List Int) (W : World) (hn : n < 18446744073709551616) (hr : Rd W W.heap.size p (bys l)) (hs : Bs l) :
    Calls Try.prog 7 #[.int .u64 n, .int .i64 most, .slice p l.length c] W fun e w' => e = .returned (.bool true) ∧ Below W.heap.size W w' := by
  have HR := Lib.hid hr
  have HS := Lib.hid hs
  have HQ := Lib.hid hn
  obtain ⟨m, hm⟩ : ∃ m, l.length = m := ⟨_, rfl⟩
  rw [hm]
  have HM := Lib.hid hm
  clear hr hs hn hm
  by_cases hbig : 100 < m
  · have h1 : (100 : Int) < (m : Int) := by omega
    go_enter Try.func7, Try.ntmps7
    go_wp2_with fail
    refine (known_any _).mono ?_
    rintro e w1 ⟨rfl, hb⟩
    go_wp2_with fail
    go_ret
    exact ⟨rfl, hb⟩
  · have h1 : decide (100 < m) = false := by simpa using hbig
    go_enter Try.func7, Try.ntmps7
    go_wp2_with fail
    have hB1 : Below W.heap.size W ((W.alloc (.cells #[.bool false, .slice none 0 0, .int .i64 0] 63)).alloc (.cells #[.pointer none, .pointer (some ⟨W.heap.size, 0, none⟩)] 27)) := ((Below.refl _ _).alloc (Nat.le_refl _) _).alloc (by simp) _
    have hK0 : Blk ((W.alloc (.cells #[.bool false, .slice none 0 0, .int .i64 0] 63)).alloc (.cells #[.pointer none, .pointer (some ⟨W.heap.size, 0, none⟩)] 27)) W.heap.size 63 [.bool false, .slice none 0 0, .int .i64 0] := (Blk.new W 63 [.bool false, .slice none 0 0, .int .i64 0]).alloc _
    have hK1 : Blk ((W.alloc (.cells #[.bool false, .slice none 0 0, .int .i64 0] 63)).alloc (.cells #[.pointer none, .pointer (some ⟨W.heap.size, 0, none⟩)] 27)) (W.heap.size + 1) 27 [.pointer none, .pointer (some ⟨W.heap.size, 0, none⟩)] := Blk.new' _ 27 _ (by simp)
    generalize hWW : ((W.alloc (.cells #[.bool false, .slice none 0 0, .int .i64 0] 63)).alloc (.cells #[.pointer none, .pointer (some ⟨W.heap.size, 0, none⟩)] 27)) = W1 at *
    clear hWW
    have HB1 := Lib.hid hB1
    have HK := Lib.hid fun (wr : World) (hb : Below W1.heap.size W1 wr) (k : Nat) (hk : k < 2) => (by
      have a0 := (hK0.kept hb).cell 0
      have a1 := (hK1.kept hb).cell k
      have a2 := (hK0.kept hb).lt
      match k, hk with
      | 0, _ => exact ⟨none, a1, .inl rfl⟩
      | 1, _ => exact ⟨_, a1, .inr ⟨_, rfl, a2, a0⟩⟩ : ∃ q, wr.cell? ⟨W.heap.size + 1, k, none⟩ = some (.pointer q) ∧ ZR wr q)
    clear hK0 hK1 hB1
    go_loopw [21] (fun i wr => ∃ k : Nat, k ≤ 2 ∧ i = .int .i64 k ∧ Below W1.heap.size W1 wr) (fun i _ => 2 - (intOf i).toNat)
    case atStart => exact ⟨0, by omega, rfl, Below.refl _ _⟩
    case round =>
      obtain ⟨k, hk, rfl, hb⟩ := hrel
      by_cases hlt : k < 2
      · have hki : (k : Int) < 2 := by omega
        obtain ⟨q, hc, hz⟩ := HK.out wr hb k hlt
        have HZ0 := Lib.hid hz
        have HBk := Lib.hid hb
        clear hz hb
        go_wp2_with fail
        refine (reads_nil _ HZ0.out).mono ?_
        rintro e w' ⟨rfl, rfl⟩
        go_wp2_with fail
        refine (hears_nil _ HZ0.out).mono ?_
        rintro e w2 ⟨rfl, hb2⟩
        have HZ2 := Lib.hid (HZ0.out.kept hb2)
        have HB2 := Lib.hid (below_step HBk.out hb2)
        clear hb2
        go_wp2_with fail
        refine (takes_nil _ HZ2.out).mono ?_
        rintro e w' ⟨rfl, rfl⟩
        go_wp2_with fail
        refine (Left_nil HZ2.out).mono ?_
        rintro e w' ⟨rfl, rfl⟩
        go_wp2_with fail
        refine (At_nil HZ2.out).mono ?_
        rintro e w' ⟨rfl, rfl⟩
        go_wp2_with fail
        refine (End_nil HZ2.out).mono ?_
        rintro e w' ⟨rfl, rfl⟩
        go_wp2_with fail
        refine (Copy_nil HZ2.out).mono ?_
        rintro e w' ⟨rfl, rfl⟩
        go_wp2_with fail
        go_roundw
        case rel => exact ⟨k + 1, by omega, by go_num, HB2.out⟩
        case measure => simp [intOf]; omega
      · have hk2 : k = 2 := by omega
        subst hk2
        have HB2 := Lib.hid (below_step HB1.out hb)
        clear hb
        go_wp2_with fail
        refine (WNum_any n HQ.out (WrT.nil _ 10) (.inl rfl) npost).mono ?_
        rintro e w3 ⟨rfl, hb3⟩
        have HB3 := Lib.hid (below_step HB2.out hb3)
        have hcv := conv_any (HR.out.kept HB3.out) c
        rw [HM.out] at hcv
        clear hb3
        go_wp2_with fail
        refine (WString_any (strOfNums l) (by rw [strOfNums_size, HM.out]; omega) (WrT.nil _ _) (.inl rfl) npost).mono ?_
        rintro e w4 ⟨rfl, hb4⟩
        have HB4 := Lib.hid (below_step HB3.out hb4)
        have HP := Lib.hid (WPut_any p c l (WrT.nil w4 m) (HR.out.kept HB4.out) (by rw [HM.out]; exact Nat.le_refl _) (.inl rfl) npost)
        rw [HM.out] at HP
        clear hb4 hcv
        go_wp2_with fail
        refine HP.out.mono ?_
        rintro e w5 ⟨rfl, hb5⟩
        have HB5 := Lib.hid (below_step HB4.out hb5)
        clear hb5
        go_wp2_with fail
        refine (new_any none 0 [] w5 (Rd.nil _ _ _) (by simp) Bs.nil).mono ?_
        rintro e w6 ⟨R, q, d, rfl, hr, hR, _, hb6⟩
        have HB6 := Lib.hid (below_step HB5.out hb6)
        have HR6 := Lib.hid hr
        have HRw := Lib.hid (show W.heap.size ≤ R by have := HB5.out.size; omega)
        clear hb6 hr hR
        go_wp2_with fail
        refine (WLen_nil _).mono ?_
        rintro e w' ⟨rfl, rfl⟩
        go_wp2_with fail
        refine (WBytes_nil _).mono ?_
        rintro e w' ⟨rfl, rfl⟩
        go_wp2_with fail
        refine (end_is 0 HR6.out (by decide)).mono ?_
        rintro e w7 ⟨rfl, hb7⟩
        have HB7 := Lib.hid (below_step HB6.out hb7)
        have HR7 := Lib.hid (HR6.out.kept hb7)
        clear hb7
        go_wp2_with fail
        refine (left_any HR7.out).mono ?_
        rintro e w8 ⟨rfl, hb8⟩
        have HB8 := Lib.hid (below_step HB7.out hb8)
        have HR8 := Lib.hid (HR7.out.kept hb8)
        clear hb8
        simp only [List.length_nil, Nat.zero_sub]
        go_wp2_with fail
        refine (reads_is n 0 4 HR8.out (nE_nil n).2.1 (nE_nil n).1).mono ?_
        rintro e w9 ⟨rfl, hr⟩
        have HB9 := Lib.hid (Fr.below HB8.out hr.2 (fun b hb => by subst hb; exact HRw.out))
        clear hr
        go_wp2_with fail
        refine (known_any _).mono ?_
        rintro e w10 ⟨rfl, hb10⟩
        go_wp2_with fail
        go_ret
        exact ⟨rfl, below_step HB9.out hb10⟩
theorem bytesNil_walk (n most : Int) (p : Option Addr) (c : Nat) (l : List Int) (hn : (Lit.int .u64 n).wf = true) (W : World) (hr : Rd W W.heap.size p (l.map (Value.int .u8))) (hs : ∀ x ∈ l, (Lit.int .u8 x).wf = true) :
    Calls Try.prog 7 #[.int .u64 n, .int .i64 most, .slice p l.length c] W fun e w' => e = .returned (.bool true) ∧ Below W.heap.size W w' := by
  have h := wf_u64 hn
  obtain ⟨k, rfl⟩ : ∃ k : Nat, n = k := ⟨n.toNat, by omega⟩
  exact nil_any k most p c l W (by omega) hr fun x hx => wf_u8 (hs x hx)
end Go.Proofs.Ytmhkbchbglnbpaa
