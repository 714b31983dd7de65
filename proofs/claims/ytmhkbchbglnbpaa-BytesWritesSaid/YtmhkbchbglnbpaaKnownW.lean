/- known, the walk. -/
import Derived.Test.YtmhkbchbglnbpaaKnown
namespace Go.Proofs.Ytmhkbchbglnbpaa
open Go.RowKit

theorem ab_any {w : World} : Calls Try.prog 18 #[.pointer (some ⟨w.heap.size, 0, none⟩), .string ⟨#[97, 98]⟩] (w.alloc (.cells #[.slice none 0 0] 38)) fun e w' => e = .returned (.tuple #[]) ∧ Made (Wr w.heap.size [2, 97, 98]) w w' := by
  have hb0 := (Below.refl w.heap.size w).alloc (Nat.le_refl _) (.cells #[.slice none 0 0] 38)
  obtain ⟨S, hW, _, hS⟩ := Wr.made (X := w.heap.size) hb0 (Blk.new w 38 [.slice none 0 0]) (Nat.le_refl _)
  have h := WString_any ⟨#[97, 98]⟩ (by decide) (WrT.of (B := 12) hW (by simp)) (.inr ⟨_, rfl⟩) wpost
  refine h.mono ?_
  rintro e w' ⟨rfl, S', h1, h2, h3⟩
  have e1 : ([] : List Int) ++ (numB (ByteArray.mk #[97, 98]).size ++ strB ⟨#[97, 98]⟩) = [2, 97, 98] := by
    rw [show (ByteArray.mk #[97, 98]).size = 2 from rfl, numB_2]; rfl
  rw [e1] at h1
  exact ⟨rfl, S', h1, Fr.below hb0 h2 hS, fun b hb => by
    rcases h3 b hb with h | h
    · exact hS b h
    · simp at h; omega⟩

set_option maxRecDepth 100000 in
theorem known_any (w : World) : Calls Try.prog 15 #[] w fun e w' => e = .returned (.bool true) ∧ Below w.heap.size w w' := by
  have N0 := Lib.hid fun w => num_is 0 _ ⟨#[0]⟩ numB_0 rfl w (by decide)
  have N127 := Lib.hid fun w => num_is 127 _ ⟨#[127]⟩ numB_127 rfl w (by decide)
  have N128 := Lib.hid fun w => num_is 128 _ ⟨#[128, 1]⟩ numB_128 rfl w (by decide)
  have N300 := Lib.hid fun w => num_is 300 _ ⟨#[172, 2]⟩ numB_300 rfl w (by decide)
  have NMX := Lib.hid fun w => num_is 18446744073709551615 _ ⟨#[255, 255, 255, 255, 255, 255, 255, 255, 255, 1]⟩ numB_max rfl w (by decide)
  go_enter Try.func15, Try.ntmps15
  go_wp2_with fail
  refine ab_any.mono ?_
  rintro e w1 ⟨rfl, hM⟩
  have HM1 := Lib.hid hM
  clear hM
  go_wp2_with fail
  refine (N0.out _).mono ?_
  rintro e w2 ⟨rfl, hb⟩
  have HM2 := Lib.hid (HM1.out.then_ (Wr.good _ _) hb)
  clear hb
  go_wp2_with fail
  refine (N127.out _).mono ?_
  rintro e w3 ⟨rfl, hb⟩
  have HM3 := Lib.hid (HM2.out.then_ (Wr.good _ _) hb)
  clear hb
  go_wp2_with fail
  refine (N128.out _).mono ?_
  rintro e w4 ⟨rfl, hb⟩
  have HM4 := Lib.hid (HM3.out.then_ (Wr.good _ _) hb)
  clear hb
  go_wp2_with fail
  refine (N300.out _).mono ?_
  rintro e w5 ⟨rfl, hb⟩
  have HM5 := Lib.hid (HM4.out.then_ (Wr.good _ _) hb)
  clear hb
  go_wp2_with fail
  refine (NMX.out _).mono ?_
  rintro e w6 ⟨rfl, hb⟩
  have HM6 := Lib.hid (HM5.out.then_ (Wr.good _ _) hb)
  clear hb
  go_wp2_with fail
  refine (nines_any 1 _).mono ?_
  rintro e w7 ⟨rfl, hw⟩
  have hcv : (convert 23 9 (.slice (some ⟨w6.heap.size, 0, none⟩) 10 10)).run Try.prog w7 = .ok (.string ⟨#[255, 255, 255, 255, 255, 255, 255, 255, 255, 1]⟩) w7 := by
    subst hw
    exact conv_any (l := [255, 255, 255, 255, 255, 255, 255, 255, 255, 1]) (Rd.of_blk (Blk.new w6 5 (bys [255, 255, 255, 255, 255, 255, 255, 255, 255, 1])) (List.prefix_refl _)) 10
  have HM7 := Lib.hid (HM6.out.then_ (Wr.good _ _) (show Below w6.heap.size w6 w7 by subst hw; exact (Below.refl _ _).alloc (Nat.le_refl _) _))
  clear hw
  go_wp2_with fail
  have HW := Lib.hid fun (S : Nat → Prop) (w' : World) (h : Wr w.heap.size [2, 97, 98] w' S) => WBytes_any h (by simp)
  obtain ⟨S7, hW7, hb7, _⟩ := HM7.out
  refine (HW.out _ _ hW7).mono ?_
  rintro e w8 ⟨v, rfl, hown, hb⟩
  obtain ⟨q, d, rfl, _⟩ := own_form hown
  have hcv8 : (convert 23 9 (.slice q 3 d)).run Try.prog w8 = .ok (.string ⟨#[2, 97, 98]⟩) w8 := conv_any (l := [2, 97, 98]) (own_rd hown) d
  have HB8 := Lib.hid (below_step hb7 hb)
  clear hown hW7 hb7 hb hcv
  simp only [List.length_cons, List.length_nil, Nat.zero_add, Nat.reduceAdd]
  go_wp2_with fail
  refine (new_blk 3 (Blk.new w8 5 (bys [172, 2, 5])) rfl (by decide) (by decide)).mono ?_
  rintro e w9 ⟨R, p, c, rfl, hr, hR, _, hb⟩
  have HB9 := Lib.hid (below_step HB8.out (((Below.refl w8.heap.size w8).alloc (Nat.le_refl _) (.cells #[.int .u8 172, .int .u8 2, .int .u8 5] 5)).trans (hb.mono (by simp))))
  have hRw : w.heap.size ≤ R := by have := HB8.out.size; simp at hR; omega
  have HRw := Lib.hid hRw
  have HR9 := Lib.hid hr
  clear hr hR hb hcv8 hRw
  go_wp2_with fail
  refine (reads_is 1000 300 0 HR9.out (by decide) (by decide)).mono ?_
  rintro e w10 ⟨rfl, hr⟩
  have HR10 := Lib.hid (show RS w10 R p c [172, 2, 5] 2 from hr.1)
  have HB10 := Lib.hid (Fr.below HB9.out hr.2 (fun b hb => by subst hb; exact HRw.out))
  clear hr
  go_wp2_with fail
  refine (at_any HR10.out).mono ?_
  rintro e w' ⟨rfl, rfl⟩
  go_wp2_with fail
  refine (reads_is 4 0 3 HR10.out (by decide) (by decide)).mono ?_
  rintro e w11 ⟨rfl, hr⟩
  have HR11 := Lib.hid (show RS w11 R p c [172, 2, 5] 2 from hr.1)
  have HB11 := Lib.hid (Fr.below HB10.out hr.2 (fun b hb => by subst hb; exact HRw.out))
  clear hr
  go_wp2_with fail
  refine (reads_is 5 5 0 HR11.out (by decide) (by decide)).mono ?_
  rintro e w12 ⟨rfl, hr⟩
  have HR12 := Lib.hid (show RS w12 R p c [172, 2, 5] 3 from hr.1)
  have HB12 := Lib.hid (Fr.below HB11.out hr.2 (fun b hb => by subst hb; exact HRw.out))
  clear hr
  go_wp2_with fail
  refine (end_is 0 HR12.out (by decide)).mono ?_
  rintro e w13 ⟨rfl, hb⟩
  have HB13 := Lib.hid (below_step HB12.out hb)
  clear hb
  go_wp2_with fail
  refine (first_blk 1 4 (Blk.new w13 5 (bys [128])) rfl (by decide) (by decide) (by decide) (by decide)).mono ?_
  rintro e w14 ⟨rfl, hb⟩
  have HB14 := Lib.hid (below_step HB13.out (((Below.refl w13.heap.size w13).alloc (Nat.le_refl _) (.cells #[.int .u8 128] 5)).trans (hb.mono (by simp))))
  clear hb
  go_wp2_with fail
  refine (first_blk 2 12 (Blk.new w14 5 (bys [128, 0])) rfl (by decide) (by decide) (by decide) (by decide)).mono ?_
  rintro e w15 ⟨rfl, hb⟩
  have HB15 := Lib.hid (below_step HB14.out (((Below.refl w14.heap.size w14).alloc (Nat.le_refl _) (.cells #[.int .u8 128, .int .u8 0] 5)).trans (hb.mono (by simp))))
  clear hb
  go_wp2_with fail
  refine (nines_any 255 _).mono ?_
  rintro e w16 ⟨rfl, hw⟩
  have hB9 : Blk w16 w15.heap.size 5 (bys [255, 255, 255, 255, 255, 255, 255, 255, 255, 255]) := by subst hw; exact Blk.new w15 5 (bys [255, 255, 255, 255, 255, 255, 255, 255, 255, 255])
  have HB16 := Lib.hid (below_step HB15.out (show Below w15.heap.size w15 w16 by subst hw; exact (Below.refl _ _).alloc (Nat.le_refl _) _))
  clear hw
  go_wp2_with fail
  refine (first_blk 10 12 hB9 rfl (by decide) (by decide) (by decide) (by decide)).mono ?_
  rintro e w17 ⟨rfl, hb⟩
  have HB17 := Lib.hid (below_step HB16.out hb)
  clear hb hB9
  go_wp2_with fail
  refine (nines_any 2 _).mono ?_
  rintro e w18 ⟨rfl, hw⟩
  have hB9 : Blk w18 w17.heap.size 5 (bys [255, 255, 255, 255, 255, 255, 255, 255, 255, 2]) := by subst hw; exact Blk.new w17 5 (bys [255, 255, 255, 255, 255, 255, 255, 255, 255, 2])
  have HB18 := Lib.hid (below_step HB17.out (show Below w17.heap.size w17 w18 by subst hw; exact (Below.refl _ _).alloc (Nat.le_refl _) _))
  clear hw
  go_wp2_with fail
  refine (first_blk 10 12 hB9 rfl (by decide) (by decide) (by decide) (by decide)).mono ?_
  rintro e w19 ⟨rfl, hb⟩
  have HB19 := Lib.hid (below_step HB18.out hb)
  clear hb hB9
  go_wp2_with fail
  refine (first_ok 0 [] 4 (Rd.nil w19 _ none) (by decide) (by decide) (by decide) (by decide)).mono ?_
  rintro e w20 ⟨rfl, hb⟩
  have HB20 := Lib.hid (below_step HB19.out hb)
  clear hb
  go_wp2_with fail
  refine (new_blk 3 (Blk.new w20 5 (bys [2, 97, 98])) rfl (by decide) (by decide)).mono ?_
  rintro e w21 ⟨Rx, px, cx, rfl, hr, hR, hP, hb⟩
  have hbs := ((Below.refl w20.heap.size w20).alloc (Nat.le_refl _) (.cells #[.int .u8 2, .int .u8 97, .int .u8 98] 5)).trans (hb.mono (by simp))
  have HB21 := Lib.hid (below_step HB20.out hbs)
  have Hx21 := Lib.hid hr
  have HRx := Lib.hid (show w20.heap.size ≤ Rx by simp at hR; omega)
  have HPx := Lib.hid (show ∀ a, px = some a → w20.heap.size ≤ a.block from fun a ha => by have := hP a ha; simp at this; omega)
  have HSx := Lib.hid (show w.heap.size ≤ Rx by have := HB20.out.size; simp at hR; omega)
  clear hr hR hP hb hbs
  go_wp2_with fail
  refine (new_blk 3 (Blk.new w21 5 (bys [2, 97, 98])) rfl (by decide) (by decide)).mono ?_
  rintro e w22 ⟨Ry, py, cy, rfl, hr, hR, hP, hb⟩
  have hbs := ((Below.refl w21.heap.size w21).alloc (Nat.le_refl _) (.cells #[.int .u8 2, .int .u8 97, .int .u8 98] 5)).trans (hb.mono (by simp))
  have HB22 := Lib.hid (below_step HB21.out hbs)
  have Hy22 := Lib.hid hr
  have HRy := Lib.hid (show w21.heap.size ≤ Ry by simp at hR; omega)
  have HPy := Lib.hid (show ∀ a, py = some a → w21.heap.size ≤ a.block from fun a ha => by have := hP a ha; simp at this; omega)
  have HSy := Lib.hid (show w.heap.size ≤ Ry by have := HB21.out.size; simp at hR; omega)
  have Hx22 := Lib.hid (Hx21.out.kept hbs)
  have HLxy := Lib.hid (show Rx < w21.heap.size from Hx21.out.blk.lt)
  clear hr hR hP hb hbs
  go_wp2_with fail
  refine (new_blk 2 (Blk.new w22 5 (bys [2, 97])) rfl (by decide) (by decide)).mono ?_
  rintro e w23 ⟨Rz, pz, cz, rfl, hr, hR, hP, hb⟩
  have hbs := ((Below.refl w22.heap.size w22).alloc (Nat.le_refl _) (.cells #[.int .u8 2, .int .u8 97] 5)).trans (hb.mono (by simp))
  have HB23 := Lib.hid (below_step HB22.out hbs)
  have Hz23 := Lib.hid hr
  have HRz := Lib.hid (show w22.heap.size ≤ Rz by simp at hR; omega)
  have HPz := Lib.hid (show ∀ a, pz = some a → w22.heap.size ≤ a.block from fun a ha => by have := hP a ha; simp at this; omega)
  have HSz := Lib.hid (show w.heap.size ≤ Rz by have := HB22.out.size; simp at hR; omega)
  have Hx23 := Lib.hid (Hx22.out.kept hbs)
  have HLxz := Lib.hid (show Rx < w22.heap.size from Hx22.out.blk.lt)
  have Hy23 := Lib.hid (Hy22.out.kept hbs)
  have HLyz := Lib.hid (show Ry < w22.heap.size from Hy22.out.blk.lt)
  clear hr hR hP hb hbs
  go_wp2_with fail
  refine (new_blk 2 (Blk.new w23 5 (bys [7, 8])) rfl (by decide) (by decide)).mono ?_
  rintro e w24 ⟨Rt, pt, ct, rfl, hr, hR, hP, hb⟩
  have hbs := ((Below.refl w23.heap.size w23).alloc (Nat.le_refl _) (.cells #[.int .u8 7, .int .u8 8] 5)).trans (hb.mono (by simp))
  have HB24 := Lib.hid (below_step HB23.out hbs)
  have Ht24 := Lib.hid hr
  have HRt := Lib.hid (show w23.heap.size ≤ Rt by simp at hR; omega)
  have HPt := Lib.hid (show ∀ a, pt = some a → w23.heap.size ≤ a.block from fun a ha => by have := hP a ha; simp at this; omega)
  have HSt := Lib.hid (show w.heap.size ≤ Rt by have := HB23.out.size; simp at hR; omega)
  have Hx24 := Lib.hid (Hx23.out.kept hbs)
  have HLxt := Lib.hid (show Rx < w23.heap.size from Hx23.out.blk.lt)
  have Hy24 := Lib.hid (Hy23.out.kept hbs)
  have HLyt := Lib.hid (show Ry < w23.heap.size from Hy23.out.blk.lt)
  have Hz24 := Lib.hid (Hz23.out.kept hbs)
  have HLzt := Lib.hid (show Rz < w23.heap.size from Hz23.out.blk.lt)
  clear hr hR hP hb hbs
  go_wp2_with fail
  refine (hears_is 5 (by decide) (by decide) ⟨#[97, 98]⟩ 0 Hx24.out (by rfl) (by decide)).mono ?_
  rintro e w25 ⟨rfl, hr⟩
  have Hx25 := Lib.hid (show RS w25 Rx px cx [2, 97, 98] 3 from hr.1)
  have HB25 := Lib.hid (Fr.below HB24.out hr.2 (fun b hb => by subst hb; exact HSx.out))
  have Hy25 := Lib.hid (RS.other Hy24.out (by have := HLxy.out; have := HRy.out; omega) hr.2 (fun a ha => by have := HLxy.out; have := HPy.out a ha; omega))
  have Hz25 := Lib.hid (RS.other Hz24.out (by have := HLxz.out; have := HRz.out; omega) hr.2 (fun a ha => by have := HLxz.out; have := HPz.out a ha; omega))
  have Ht25 := Lib.hid (RS.other Ht24.out (by have := HLxt.out; have := HRt.out; omega) hr.2 (fun a ha => by have := HLxt.out; have := HPt.out a ha; omega))
  clear hr
  go_wp2_with fail
  refine (hears_is 1 (by decide) (by decide) ⟨#[]⟩ 5 Hy25.out (by rfl) (by decide)).mono ?_
  rintro e w26 ⟨rfl, hr⟩
  have Hy26 := Lib.hid (show RS w26 Ry py cy [2, 97, 98] 0 from hr.1)
  have HB26 := Lib.hid (Fr.below HB25.out hr.2 (fun b hb => by subst hb; exact HSy.out))
  have Hz26 := Lib.hid (RS.other Hz25.out (by have := HLyz.out; have := HRz.out; omega) hr.2 (fun a ha => by have := HLyz.out; have := HPz.out a ha; omega))
  have Ht26 := Lib.hid (RS.other Ht25.out (by have := HLyt.out; have := HRt.out; omega) hr.2 (fun a ha => by have := HLyt.out; have := HPt.out a ha; omega))
  clear hr
  go_wp2_with fail
  refine (hears_is 5 (by decide) (by decide) ⟨#[]⟩ 4 Hz26.out (by rfl) (by decide)).mono ?_
  rintro e w27 ⟨rfl, hr⟩
  have Hz27 := Lib.hid (show RS w27 Rz pz cz [2, 97] 0 from hr.1)
  have HB27 := Lib.hid (Fr.below HB26.out hr.2 (fun b hb => by subst hb; exact HSz.out))
  have Ht27 := Lib.hid (RS.other Ht26.out (by have := HLzt.out; have := HRt.out; omega) hr.2 (fun a ha => by have := HLzt.out; have := HPt.out a ha; omega))
  clear hr
  go_wp2_with fail
  refine (takes_is 1 (by decide) (by decide) ⟨#[7]⟩ 0 Ht27.out (by rfl) (by decide)).mono ?_
  rintro e w28 ⟨rfl, hr⟩
  have Ht28 := Lib.hid (show RS w28 Rt pt ct [7, 8] 1 from hr.1)
  have HB28 := Lib.hid (Fr.below HB27.out hr.2 (fun b hb => by subst hb; exact HSt.out))
  clear hr
  go_wp2_with fail
  refine (end_is 12 Ht28.out (by decide)).mono ?_
  rintro e w29 ⟨rfl, hb⟩
  have HB29 := Lib.hid (below_step HB28.out hb)
  clear hb
  go_wp2_with fail
  go_ret
  exact ⟨rfl, HB29.out⟩
end Go.Proofs.Ytmhkbchbglnbpaa
