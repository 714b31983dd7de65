/- The law's examples: known returns true. -/
import Derived.Test.YthjakgjpnijmlaaLaw
namespace Go.Proofs.Ythjakgjpnijmlaa
open Go.RowKit

theorem ints_two (p : Option Addr) (c d : Nat) (q : Option Addr) (w : World) (hx : Rd w w.heap.size p (ints [0, 2])) (hy : Rd w w.heap.size q (ints [0, 2])) :
    Calls Try.prog 25 #[.slice p 2 c, .slice q 2 d] w fun e w' => e = .returned (.bool true) ∧ Below w.heap.size w w' := ints_any p q c d [0, 2] [0, 2] w hx hy (by decide) (by decide)
set_option maxRecDepth 100000 in
set_option maxHeartbeats 4000000 in
theorem known_any (w : World) : Calls Try.prog 8 #[] w fun e w' => e = .returned (.bool true) ∧ Below w.heap.size w w' := by
  go_enter Try.func8, Try.ntmps8
  go_wp2_with fail
  refine (new_yes 3 _ (by decide) (by decide)).mono ?_
  rintro e w1 ⟨c, rfl, hN⟩
  replace hN : NewW w c [[], [], []] w1 := hN
  go_wp2_with fail
  refine (asksN 5 0 true 0 hN (by decide) (by decide) (by decide) (show _ = [[5], [], []] by decide)).mono ?_
  rintro e w2 ⟨rfl, hN2⟩
  replace hN := hN2
  clear hN2
  go_wp2_with fail
  refine (asksN 6 0 false 0 hN (by decide) (by decide) (by decide) (show _ = [[5, 6], [], []] by decide)).mono ?_
  rintro e w3 ⟨rfl, hN3⟩
  replace hN := hN3
  clear hN3
  go_wp2_with fail
  refine (asksN 7 0 false 0 hN (by decide) (by decide) (by decide) (show _ = [[5, 6, 7], [], []] by decide)).mono ?_
  rintro e w4 ⟨rfl, hN4⟩
  replace hN := hN4
  clear hN4
  go_wp2_with fail
  refine (asksN 5 2 true 0 hN (by decide) (by decide) (by decide) (show _ = [[5, 6, 7], [], [5]] by decide)).mono ?_
  rintro e w5 ⟨rfl, hN5⟩
  replace hN := hN5
  clear hN5
  go_wp2_with fail
  refine (holdsN 0 5 _ 2 _ [6, 7] 0 (hN.kept ((Below.refl _ _).alloc (Nat.le_refl _) _)) (by decide) (by decide) (by decide) (by decide) (Rd.of_blk (Blk.new' _ 3 (ints [6, 7]) rfl) (List.prefix_refl _)) rfl (by decide)).mono ?_
  rintro e w6 ⟨rfl, hN6⟩
  replace hN := hN6
  clear hN6
  go_wp2_with fail
  refine (heldN 5 [0, 2] hN (by decide)).mono ?_
  rintro e w7 ⟨p, d, rfl, hr, hN7, _, _⟩
  replace hN := hN7
  clear hN7
  go_wp2_with fail
  refine (ints_two p _ _ _ _ (hr.kept ((Below.refl _ _).alloc (Nat.le_refl _) _)) (Rd.of_blk (Blk.new' _ 3 (ints [0, 2]) rfl) (List.prefix_refl _))).mono ?_
  rintro e w7a ⟨rfl, hb7⟩
  replace hN := (hN.kept ((Below.refl _ _).alloc (Nat.le_refl _) _)).kept hb7
  clear hb7 hr
  go_wp2_with fail
  refine (forN 7 (0) hN (by decide) (by decide)).mono ?_
  rintro e w8 ⟨rfl, hN8⟩
  replace hN := hN8
  clear hN8
  go_wp2_with fail
  refine (asksN 5 1 false 8 hN (by decide) (by decide) (by decide) (show _ = [[5, 6, 7], [], [5]] by decide)).mono ?_
  rintro e w9 ⟨rfl, hN9⟩
  replace hN := hN9
  clear hN9
  go_wp2_with fail
  refine (asksN 6 1 false 8 hN (by decide) (by decide) (by decide) (show _ = [[5, 6, 7], [], [5]] by decide)).mono ?_
  rintro e w10 ⟨rfl, hN10⟩
  replace hN := hN10
  clear hN10
  go_wp2_with fail
  refine (freesN 6 0 0 8 hN (by decide) (by decide) (by decide) (show _ = [[5, 6, 7], [], [5]] by decide)).mono ?_
  rintro e w11 ⟨rfl, hN11⟩
  replace hN := hN11
  clear hN11
  go_wp2_with fail
  refine (freesN 5 0 6 0 hN (by decide) (by decide) (by decide) (show _ = [[6, 7], [], [5]] by decide)).mono ?_
  rintro e w12 ⟨rfl, hN12⟩
  replace hN := hN12
  clear hN12
  go_wp2_with fail
  refine (holdsN 0 6 _ 1 _ [7] 0 (hN.kept ((Below.refl _ _).alloc (Nat.le_refl _) _)) (by decide) (by decide) (by decide) (by decide) (Rd.of_blk (Blk.new' _ 3 (ints [7]) rfl) (List.prefix_refl _)) rfl (by decide)).mono ?_
  rintro e w13 ⟨rfl, hN13⟩
  replace hN := hN13
  clear hN13
  go_wp2_with fail
  refine (forN 6 (-1) hN (by decide) (by decide)).mono ?_
  rintro e w14 ⟨rfl, hN14⟩
  replace hN := hN14
  clear hN14
  go_wp2_with fail
  refine (asksN 6 2 false 0 hN (by decide) (by decide) (by decide) (show _ = [[6, 7], [], [5, 6]] by decide)).mono ?_
  rintro e w15 ⟨rfl, hN15⟩
  replace hN := hN15
  clear hN15
  go_wp2_with fail
  refine (new_no 0 _ (by decide)).mono ?_
  rintro e w' ⟨rfl, rfl⟩
  go_wp2_with fail
  refine (freesN 5 2 6 0 hN (by decide) (by decide) (by decide) (show _ = [[6, 7], [], [6]] by decide)).mono ?_
  rintro e w16 ⟨rfl, hN16⟩
  replace hN := hN16
  clear hN16
  go_wp2_with fail
  refine (freesN 6 0 7 0 hN (by decide) (by decide) (by decide) (show _ = [[7], [], [6]] by decide)).mono ?_
  rintro e w17 ⟨rfl, hN17⟩
  replace hN := hN17
  clear hN17
  go_wp2_with fail
  refine (freesN 6 2 0 0 hN (by decide) (by decide) (by decide) (show _ = [[7], [], []] by decide)).mono ?_
  rintro e w18 ⟨rfl, hN18⟩
  replace hN := hN18
  clear hN18
  go_wp2_with fail
  refine (holdsN 2 0 none 0 0 [] 0 hN (by decide) (by decide) (by decide) (by decide) (Rd.nil _ _ _) rfl (by decide)).mono ?_
  rintro e w19 ⟨rfl, hN19⟩
  replace hN := hN19
  clear hN19
  go_wp2_with fail
  refine (asksN 0 0 false 2 hN (by decide) (by decide) (by decide) (show _ = [[7], [], []] by decide)).mono ?_
  rintro e w20 ⟨rfl, hN20⟩
  replace hN := hN20
  clear hN20
  go_wp2_with fail
  refine (asksN 1 3 false 2 hN (by decide) (by decide) (by decide) (show _ = [[7], [], []] by decide)).mono ?_
  rintro e w21 ⟨rfl, hN21⟩
  replace hN := hN21
  clear hN21
  go_wp2_with fail
  go_ret
  exact ⟨rfl, hN.below⟩
end Go.Proofs.Ythjakgjpnijmlaa
