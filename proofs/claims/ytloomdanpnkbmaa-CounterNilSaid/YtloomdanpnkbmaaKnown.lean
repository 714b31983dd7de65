/- The law's examples: known returns true. -/
import Derived.Test.YtloomdanpnkbmaaLaw
namespace Go.Proofs.Ytloomdanpnkbmaa
open Go.RowKit

set_option maxHeartbeats 2000000 in
theorem known_any (w : World) : Calls Try.prog 9 #[] w fun e w' => e = .returned (.bool true) ∧ Below w.heap.size w w' := by
  go_enter Try.func9, Try.ntmps9
  go_wp2_with fail
  refine (new_yes 7 0 _ (by decide)).mono ?_
  rintro e w1 ⟨c, rfl, hc, hC, hb⟩
  go_wp2_with fail
  refine (gives_any c 7 0 7 1 0 _ hC (by decide) (by decide) (by decide) (by decide) (by decide) (by decide)).mono ?_
  rintro e w2 ⟨rfl, hC2, hg2⟩
  rw [show nextNew 0 = 1 from by decide] at hC2
  have hb2 := below_gb hb hg2 hc
  clear hC hb hg2
  have hC := hC2
  have hb := hb2
  clear hC2 hb2
  go_wp2_with fail
  refine (peeks_any c 7 1 2 _ _ [(7, 2), (7, 3)] 0 _ (by rfl) _ (Cnt.kept hC ((Below.refl _ _).alloc (Nat.le_refl _) _)) (by decide) (by decide) (by decide) (Rd.of_blk (Blk.new' _ 30 (dotCells [(7, 2), (7, 3)]) rfl) (List.prefix_refl _)) (by decide) (by decide)).mono ?_
  rintro e w3 ⟨rfl, hb3⟩
  have hC3 := (Cnt.kept (Cnt.kept hC ((Below.refl _ _).alloc (Nat.le_refl _) _)) hb3)
  have hbb3 := (hb.alloc hb.size _).trans (hb3.mono (by have := hb.size; simp; omega))
  clear hC hb hb3
  have hC := hC3
  have hb := hbb3
  clear hC3 hbb3
  go_wp2_with fail
  refine (gives_any c 7 1 7 2 0 _ hC (by decide) (by decide) (by decide) (by decide) (by decide) (by decide)).mono ?_
  rintro e w4 ⟨rfl, hC4, hg4⟩
  rw [show nextNew 1 = 2 from by decide] at hC4
  have hb4 := below_gb hb hg4 hc
  clear hC hb hg4
  have hC := hC4
  have hb := hb4
  clear hC4 hb4
  go_wp2_with fail
  refine (last_any c 52 7 2 _ hC (by decide)).mono ?_
  rintro e w' ⟨rfl, rfl⟩
  go_wp2_with fail
  refine (left_any c 52 7 2 _ hC (by decide) (by decide) (by decide)).mono ?_
  rintro e w' ⟨rfl, rfl⟩
  go_wp2_with fail
  refine (new_yes 3 4294967294 _ (by decide)).mono ?_
  rintro e w5 ⟨d, rfl, hd, hC5, hb5⟩
  have hd' := Nat.le_trans hb.size hd
  have hbb5 := below_step hb hb5
  clear hC hb hb5 hd
  have hC := hC5
  have hb := hbb5
  have hd := hd'
  clear hC5 hbb5 hd'
  go_wp2_with fail
  refine (peeks_any d 3 4294967294 2 none 0 [] 15 0 (by rfl) _ hC (by decide) (by decide) (by decide) (Rd.nil _ _ _) (by decide) (by decide)).mono ?_
  rintro e w6 ⟨rfl, hb6⟩
  have hC6 := hC.kept hb6
  have hbb6 := below_step hb hb6
  clear hC hb hb6
  have hC := hC6
  have hb := hbb6
  clear hC6 hbb6
  go_wp2_with fail
  refine (gives_any d 3 4294967294 3 4294967295 0 _ hC (by decide) (by decide) (by decide) (by decide) (by decide) (by decide)).mono ?_
  rintro e w7 ⟨rfl, hC7, hg7⟩
  rw [show nextNew 4294967294 = 4294967295 from by decide] at hC7
  have hb7 := below_gb hb hg7 hd
  clear hC hb hg7
  have hC := hC7
  have hb := hb7
  clear hC7 hb7
  go_wp2_with fail
  refine (gives_any d 3 4294967295 0 0 15 _ hC (by decide) (by decide) (by decide) (by decide) (by decide) (by decide)).mono ?_
  rintro e w8 ⟨rfl, hC8, hg8⟩
  rw [show nextNew 4294967295 = 4294967295 from by decide] at hC8
  have hb8 := below_gb hb hg8 hd
  clear hC hb hg8
  have hC := hC8
  have hb := hb8
  clear hC8 hb8
  go_wp2_with fail
  refine (peeks_any d 3 4294967295 0 none 0 [] 0 0 (by rfl) _ hC (by decide) (by decide) (by decide) (Rd.nil _ _ _) (by decide) (by decide)).mono ?_
  rintro e w9 ⟨rfl, hb9⟩
  have hC9 := hC.kept hb9
  have hbb9 := below_step hb hb9
  clear hC hb hb9
  have hC := hC9
  have hb := hbb9
  clear hC9 hbb9
  go_wp2_with fail
  refine (use_any d 52 3 4294967295 (1) _ hC (by decide) (by decide) (by decide)).mono ?_
  rintro e w10 ⟨rfl, hC10, hg10⟩
  rw [show useNew 4294967295 (1) = 4294967295 from by decide] at hC10
  rw [show useErr 4294967295 (1) = 15 from by decide]
  have hb10 := below_gb hb hg10 hd
  clear hC hb hg10
  have hC := hC10
  have hb := hb10
  clear hC10 hb10
  go_wp2_with fail
  refine (use_any d 52 3 4294967295 (0) _ hC (by decide) (by decide) (by decide)).mono ?_
  rintro e w11 ⟨rfl, hC11, hg11⟩
  rw [show useNew 4294967295 (0) = 4294967295 from by decide] at hC11
  rw [show useErr 4294967295 (0) = 0 from by decide]
  have hb11 := below_gb hb hg11 hd
  clear hC hb hg11
  have hC := hC11
  have hb := hb11
  clear hC11 hb11
  go_wp2_with fail
  refine (last_any d 52 3 4294967295 _ hC (by decide)).mono ?_
  rintro e w' ⟨rfl, rfl⟩
  go_wp2_with fail
  refine (new_yes 1 0 _ (by decide)).mono ?_
  rintro e w12 ⟨c2, rfl, hd, hC12, hb12⟩
  have hd' := Nat.le_trans hb.size hd
  have hbb12 := below_step hb hb12
  clear hC hb hb12 hd
  have hC := hC12
  have hb := hbb12
  have hd := hd'
  clear hC12 hbb12 hd'
  go_wp2_with fail
  refine (fails_any 0 0 _ (by decide)).mono ?_
  rintro e w13 ⟨rfl, hb13⟩
  have hC13 := hC.kept hb13
  have hbb13 := below_step hb hb13
  clear hC hb hb13
  have hC := hC13
  have hb := hbb13
  clear hC13 hbb13
  go_wp2_with fail
  refine (fails_any 1 4294967296 _ (by decide)).mono ?_
  rintro e w14 ⟨rfl, hb14⟩
  have hC14 := hC.kept hb14
  have hbb14 := below_step hb hb14
  clear hC hb hb14
  have hC := hC14
  have hb := hbb14
  clear hC14 hbb14
  go_wp2_with fail
  refine (peeks_any c2 1 0 4097 none 0 [] 2 0 (by rfl) _ hC (by decide) (by decide) (by decide) (Rd.nil _ _ _) (by decide) (by decide)).mono ?_
  rintro e w15 ⟨rfl, hb15⟩
  have hC15 := hC.kept hb15
  have hbb15 := below_step hb hb15
  clear hC hb hb15
  have hC := hC15
  have hb := hbb15
  clear hC15 hbb15
  go_wp2_with fail
  refine (use_any c2 52 1 0 (-1) _ hC (by decide) (by decide) (by decide)).mono ?_
  rintro e w16 ⟨rfl, hC16, hg16⟩
  rw [show useNew 0 (-1) = 0 from by decide] at hC16
  rw [show useErr 0 (-1) = 2 from by decide]
  have hb16 := below_gb hb hg16 hd
  clear hC hb hg16
  have hC := hC16
  have hb := hb16
  clear hC16 hb16
  go_wp2_with fail
  go_ret
  exact ⟨rfl, hb⟩
end Go.Proofs.Ytloomdanpnkbmaa
