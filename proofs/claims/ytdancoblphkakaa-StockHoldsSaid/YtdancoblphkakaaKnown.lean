/- The law's examples: known returns true. -/
import Derived.Test.YtdancoblphkakaaAlike
namespace Go.Proofs.Ytdancoblphkakaa
open Go.RowKit

section
variable {w0 w : World} {l : List Ob} {o : Ob}
/-- The calls of one of several stocks. -/
theorem restK (h : Obs w0 w l) (i : Nat) (hi : l[i]? = some o) (p u e0 : Int) (G' : List (List Int)) (he : restE o.G p u = e0) (hG : restG o.G p u = G') : Calls Try.prog 18 #[.pointer (some ⟨o.X, 0, none⟩), .int .i64 p, .int .i64 u] w fun e w' => e = .returned (.int .i64 e0) ∧ ∃ S', Obs w0 w' (l.set i ⟨o.X, S', G', o.D⟩) := by
  refine (restock_any p u (h.at_ hi)).mono ?_
  rintro e w' ⟨rfl, hs⟩
  rw [hG] at hs
  obtain ⟨S', h1, _⟩ := h.step hi hs
  exact ⟨by rw [he], S', h1⟩
theorem giveK (h : Obs w0 w l) (i : Nat) (hi : l[i]? = some o) (p t u e0 : Int) (G' : List (List Int)) (he : giveE o.G o.D p t u = e0) (hG : giveG o.G o.D p t u = G') : Calls Try.prog 19 #[.pointer (some ⟨o.X, 0, none⟩), .int .i64 p, .int .i64 t, .int .i64 u] w fun e w' => e = .returned (.int .i64 e0) ∧ ∃ S', Obs w0 w' (l.set i ⟨o.X, S', G', o.D⟩) := by
  refine (give_any p t u (h.at_ hi)).mono ?_
  rintro e w' ⟨rfl, hs⟩
  rw [hG] at hs
  obtain ⟨S', h1, _⟩ := h.step hi hs
  exact ⟨by rw [he], S', h1⟩
theorem sellK (h : Obs w0 w l) (i : Nat) (hi : l[i]? = some o) (p u e0 : Int) (D' : List Int) (he : sellE o.G o.D p u = e0) (hD : sellD o.G o.D p u = D') : Calls Try.prog 20 #[.pointer (some ⟨o.X, 0, none⟩), .int .i64 p, .int .i64 u] w fun e w' => e = .returned (.int .i64 e0) ∧ ∃ S', Obs w0 w' (l.set i ⟨o.X, S', o.G, D'⟩) := by
  refine (sell_any p u (h.at_ hi)).mono ?_
  rintro e w' ⟨rfl, hs⟩
  rw [hD] at hs
  obtain ⟨S', h1, _⟩ := h.step hi hs
  exact ⟨by rw [he], S', h1⟩
theorem joinK {o2 : Ob} (h : Obs w0 w l) (i j : Nat) (hi : l[i]? = some o) (hj : l[j]? = some o2) (e0 : Int) (G' : List (List Int)) (D' : List Int) (he : joinE o.G o.D o2.G o2.D = e0) (hG : afterG o.G o.D o2.G o2.D = G') (hD : afterD o.G o.D o2.G o2.D = D') :
    Calls Try.prog 15 #[.pointer (some ⟨o.X, 0, none⟩), .pointer (some ⟨o2.X, 0, none⟩)] w fun e w' => e = .returned (.int .i64 e0) ∧ ∃ S', Obs w0 w' (l.set i ⟨o.X, S', G', D'⟩) := by
  refine (join_any (h.at_ hi) (h.at_ hj)).mono ?_
  rintro e w' ⟨rfl, hs⟩
  rw [hG, hD] at hs
  obtain ⟨S', h1, _⟩ := h.step hi hs
  exact ⟨by rw [he], S', h1⟩
theorem sharesK (h : Obs w0 w l) (i : Nat) (hi : l[i]? = some o) (p n e0 : Int) (hn : shareN o.G o.D p = n) (he : shareE o.G p = e0) : Calls Try.prog 21 #[.pointer (some ⟨o.X, 0, none⟩), .int .i64 p, .int .i64 n, .int .i64 e0] w fun e w' => e = .returned (.bool true) ∧ Obs w0 w' l :=
  (shares_any p n e0 (h.at_ hi) hn he).mono fun _ _ ⟨a, b⟩ => ⟨a, h.kept b⟩
theorem leftK (h : Obs w0 w l) (i : Nat) (hi : l[i]? = some o) (n : Int) (hn : leftAcc o.G o.D o.G.length = n) : Calls Try.prog 23 #[.pointer (some ⟨o.X, 0, none⟩)] w fun e w' => e = .returned (.int .i64 n) ∧ Obs w0 w' l :=
  (left_any (h.at_ hi)).mono fun _ _ ⟨a, b⟩ => ⟨by rw [a, hn], h.kept b⟩
theorem soldK (h : Obs w0 w l) (i : Nat) (hi : l[i]? = some o) (n : Int) (hn : soldAcc o.D o.G.length = n) : Calls Try.prog 24 #[.pointer (some ⟨o.X, 0, none⟩)] w fun e w' => e = .returned (.int .i64 n) ∧ Obs w0 w' l :=
  (sold_any (h.at_ hi)).mono fun _ _ ⟨a, b⟩ => ⟨by rw [a, hn], by rw [b]; exact h⟩
theorem copyK (h : Obs w0 w l) (i : Nat) (hi : l[i]? = some o) : Calls Try.prog 13 #[.pointer (some ⟨o.X, 0, none⟩)] w fun e w' => ∃ X' S', e = .returned (.pointer (some ⟨X', 0, none⟩)) ∧ Obs w0 w' (⟨X', S', o.G, o.D⟩ :: l) := by
  refine (copy_any (h.at_ hi)).mono ?_
  rintro e w' ⟨X', rfl, hn⟩
  obtain ⟨S', h1⟩ := h.add hn
  exact ⟨X', S', rfl, h1⟩
theorem newK (h : Obs w0 w l) (n : Nat) (h1 : 1 ≤ n) (h2 : n ≤ 16) : Calls Try.prog 17 #[.int .i64 n] w fun e w' => ∃ X' S', e = .returned (.tuple #[.pointer (some ⟨X', 0, none⟩), .int .i64 0]) ∧ Obs w0 w' (⟨X', S', zerG n, zer n⟩ :: l) := by
  refine (new_yes n w h1 h2).mono ?_
  rintro e w' ⟨X', rfl, hn⟩
  obtain ⟨S', h1⟩ := h.add hn
  exact ⟨X', S', rfl, h1⟩
/-- Of a state that is not right. -/
theorem ofK (h : Obs w0 w l) : Calls Try.prog 11 #[.agg #[.slice (some ⟨w.heap.size + 1, 0, none⟩) 1 1, .slice (some ⟨w.heap.size + 1 + 1, 0, none⟩) 1 1]] (((w.alloc (.cells #[.int .i64 1] 3)).alloc (.cells #[.slice (some ⟨w.heap.size, 0, none⟩) 1 1] 23)).alloc (.cells #[.int .i64 2] 3)) fun e w' => e = .returned (.tuple #[.pointer none, .int .i64 2]) ∧ Obs w0 w' l := by
  generalize hW : (World.alloc _ _) = W
  have hb : Below w.heap.size w W := by rw [← hW]; exact (((Below.refl _ _).alloc (Nat.le_refl _) _).alloc (by simp) _).alloc (by simp <;> omega) _
  have b1 : Blk W w.heap.size 3 (ints [1]) := by rw [← hW]; exact ((Blk.new w 3 _).alloc _).alloc _
  have b2 : Blk W (w.heap.size + 1) 23 [.slice (some ⟨w.heap.size, 0, none⟩) 1 1] := by rw [← hW]; exact (Blk.new' _ 23 _ (by simp)).alloc _
  have b3 : Blk W (w.heap.size + 1 + 1) 3 (ints [2]) := by rw [← hW]; exact Blk.new' _ 3 (ints [2]) (by simp)
  have hM : MR W (some ⟨w.heap.size + 1, 0, none⟩) [[1]] := ⟨[.slice (some ⟨w.heap.size, 0, none⟩) 1 1], Rd.of_blk b2 (List.prefix_refl _), rfl, fun i hi hi2 => by
    have e : i = 0 := by simp at hi; exact hi
    subst e
    exact ⟨_, 1, rfl, Rd.of_blk b1 (List.prefix_refl _)⟩⟩
  have hD : Rd W W.heap.size (some ⟨w.heap.size + 1 + 1, 0, none⟩) (ints [2]) := Rd.of_blk b3 (List.prefix_refl _)
  have hN : Num [[1]] [2] := by
    refine ⟨fun i k => ?_, fun i => ?_⟩
    · match i, k with
      | 0, 0 => decide
      | 0, k + 1 => simp [ga]
      | i + 1, k => simp [ga]
    · match i with
      | 0 => decide
      | i + 1 => simp [da]
  have hl : ∀ i (_ : i < ([[1]] : List (List Int)).length), (([[1]] : List (List Int))[i]).length = ([[1]] : List (List Int)).length := by
    intro i hi
    have e : i = 0 := by simp at hi; exact hi
    subst e
    rfl
  have hg : ∀ i (_ : i < ([[1]] : List (List Int)).length), (([[1]] : List (List Int))[i]).any bad = false := by
    intro i hi
    have e : i = 0 := by simp at hi; exact hi
    subst e
    rfl
  refine (of_any (G := [[1]]) (D := [2]) _ _ 1 1 hM hD hN (by decide) (by decide) hl rfl (by decide) hg).mono ?_
  rintro e w' (⟨hr, _⟩ | ⟨_, rfl, hb2⟩)
  · exact absurd hr (by decide)
  · exact ⟨rfl, (h.kept hb).kept hb2⟩
end
set_option maxRecDepth 100000 in
set_option maxHeartbeats 4000000 in
theorem known_any (w : World) : Calls Try.prog 10 #[] w fun e w' => e = .returned (.bool true) ∧ Below w.heap.size w w' := by
  go_enter Try.func10, Try.ntmps10
  go_wp2_with fail
  refine (newK (Obs.nil _) 3 (by decide) (by decide)).mono ?_
  rintro e w1 ⟨S, S1, rfl, hO1⟩
  replace hO : Obs w w1 [⟨S, S1, [[0, 0, 0], [0, 0, 0], [0, 0, 0]], [0, 0, 0]⟩] := hO1
  clear hO1
  go_wp2_with fail
  refine (copyK hO 0 rfl).mono ?_
  rintro e w2 ⟨T, S2, rfl, hO2⟩
  replace hO : Obs w w2 [⟨T, S2, [[0, 0, 0], [0, 0, 0], [0, 0, 0]], [0, 0, 0]⟩, ⟨S, S1, [[0, 0, 0], [0, 0, 0], [0, 0, 0]], [0, 0, 0]⟩] := hO2
  clear hO2
  go_wp2_with fail
  refine (restK hO 1 rfl 0 10 0 [[10, 0, 0], [0, 0, 0], [0, 0, 0]] (by dsimp only; decide) (by dsimp only; decide)).mono ?_
  rintro e w3 ⟨rfl, S3, hO3⟩
  replace hO : Obs w w3 [⟨T, S2, [[0, 0, 0], [0, 0, 0], [0, 0, 0]], [0, 0, 0]⟩, ⟨S, S3, [[10, 0, 0], [0, 0, 0], [0, 0, 0]], [0, 0, 0]⟩] := hO3
  clear hO3
  go_wp2_with fail
  refine (giveK hO 1 rfl 0 1 4 0 [[10, 4, 0], [0, 0, 0], [0, 0, 0]] (by dsimp only; decide) (by dsimp only; decide)).mono ?_
  rintro e w4 ⟨rfl, S4, hO4⟩
  replace hO : Obs w w4 [⟨T, S2, [[0, 0, 0], [0, 0, 0], [0, 0, 0]], [0, 0, 0]⟩, ⟨S, S4, [[10, 4, 0], [0, 0, 0], [0, 0, 0]], [0, 0, 0]⟩] := hO4
  clear hO4
  go_wp2_with fail
  refine (sellK hO 1 rfl 0 7 9 [0, 0, 0] (by dsimp only; decide) (by dsimp only; decide)).mono ?_
  rintro e w5 ⟨rfl, S5, hO5⟩
  replace hO : Obs w w5 [⟨T, S2, [[0, 0, 0], [0, 0, 0], [0, 0, 0]], [0, 0, 0]⟩, ⟨S, S5, [[10, 4, 0], [0, 0, 0], [0, 0, 0]], [0, 0, 0]⟩] := hO5
  clear hO5
  go_wp2_with fail
  refine (sellK hO 1 rfl 0 6 0 [6, 0, 0] (by dsimp only; decide) (by dsimp only; decide)).mono ?_
  rintro e w6 ⟨rfl, S6, hO6⟩
  replace hO : Obs w w6 [⟨T, S2, [[0, 0, 0], [0, 0, 0], [0, 0, 0]], [0, 0, 0]⟩, ⟨S, S6, [[10, 4, 0], [0, 0, 0], [0, 0, 0]], [6, 0, 0]⟩] := hO6
  clear hO6
  go_wp2_with fail
  refine (sharesK hO 1 rfl 0 0 0 (by dsimp only; decide) (by dsimp only; decide)).mono ?_
  rintro e w7 ⟨rfl, hO7⟩
  replace hO : Obs w w7 [⟨T, S2, [[0, 0, 0], [0, 0, 0], [0, 0, 0]], [0, 0, 0]⟩, ⟨S, S6, [[10, 4, 0], [0, 0, 0], [0, 0, 0]], [6, 0, 0]⟩] := hO7
  clear hO7
  go_wp2_with fail
  refine (sharesK hO 1 rfl 1 4 0 (by dsimp only; decide) (by dsimp only; decide)).mono ?_
  rintro e w8 ⟨rfl, hO8⟩
  replace hO : Obs w w8 [⟨T, S2, [[0, 0, 0], [0, 0, 0], [0, 0, 0]], [0, 0, 0]⟩, ⟨S, S6, [[10, 4, 0], [0, 0, 0], [0, 0, 0]], [6, 0, 0]⟩] := hO8
  clear hO8
  go_wp2_with fail
  refine (leftK hO 1 rfl 4 (by dsimp only; decide)).mono ?_
  rintro e w9 ⟨rfl, hO9⟩
  replace hO : Obs w w9 [⟨T, S2, [[0, 0, 0], [0, 0, 0], [0, 0, 0]], [0, 0, 0]⟩, ⟨S, S6, [[10, 4, 0], [0, 0, 0], [0, 0, 0]], [6, 0, 0]⟩] := hO9
  clear hO9
  go_wp2_with fail
  refine (soldK hO 1 rfl 6 (by dsimp only; decide)).mono ?_
  rintro e w10 ⟨rfl, hO10⟩
  replace hO : Obs w w10 [⟨T, S2, [[0, 0, 0], [0, 0, 0], [0, 0, 0]], [0, 0, 0]⟩, ⟨S, S6, [[10, 4, 0], [0, 0, 0], [0, 0, 0]], [6, 0, 0]⟩] := hO10
  clear hO10
  go_wp2_with fail
  refine (sellK hO 0 rfl 1 1 9 [0, 0, 0] (by dsimp only; decide) (by dsimp only; decide)).mono ?_
  rintro e w11 ⟨rfl, S11, hO11⟩
  replace hO : Obs w w11 [⟨T, S11, [[0, 0, 0], [0, 0, 0], [0, 0, 0]], [0, 0, 0]⟩, ⟨S, S6, [[10, 4, 0], [0, 0, 0], [0, 0, 0]], [6, 0, 0]⟩] := hO11
  clear hO11
  go_wp2_with fail
  refine (joinK hO 0 1 rfl rfl 0 [[10, 4, 0], [0, 0, 0], [0, 0, 0]] [6, 0, 0] (by dsimp only; decide) (by dsimp only; decide) (by dsimp only; decide)).mono ?_
  rintro e w12 ⟨rfl, S12, hO12⟩
  replace hO : Obs w w12 [⟨T, S12, [[10, 4, 0], [0, 0, 0], [0, 0, 0]], [6, 0, 0]⟩, ⟨S, S6, [[10, 4, 0], [0, 0, 0], [0, 0, 0]], [6, 0, 0]⟩] := hO12
  clear hO12
  go_wp2_with fail
  refine (sellK hO 0 rfl 1 3 0 [6, 3, 0] (by dsimp only; decide) (by dsimp only; decide)).mono ?_
  rintro e w13 ⟨rfl, S13, hO13⟩
  replace hO : Obs w w13 [⟨T, S13, [[10, 4, 0], [0, 0, 0], [0, 0, 0]], [6, 3, 0]⟩, ⟨S, S6, [[10, 4, 0], [0, 0, 0], [0, 0, 0]], [6, 0, 0]⟩] := hO13
  clear hO13
  go_wp2_with fail
  refine (restK hO 0 rfl 2 5 0 [[10, 4, 0], [0, 0, 0], [0, 0, 5]] (by dsimp only; decide) (by dsimp only; decide)).mono ?_
  rintro e w14 ⟨rfl, S14, hO14⟩
  replace hO : Obs w w14 [⟨T, S14, [[10, 4, 0], [0, 0, 0], [0, 0, 5]], [6, 3, 0]⟩, ⟨S, S6, [[10, 4, 0], [0, 0, 0], [0, 0, 0]], [6, 0, 0]⟩] := hO14
  clear hO14
  go_wp2_with fail
  refine (leftK hO 0 rfl 6 (by dsimp only; decide)).mono ?_
  rintro e w15 ⟨rfl, hO15⟩
  replace hO : Obs w w15 [⟨T, S14, [[10, 4, 0], [0, 0, 0], [0, 0, 5]], [6, 3, 0]⟩, ⟨S, S6, [[10, 4, 0], [0, 0, 0], [0, 0, 0]], [6, 0, 0]⟩] := hO15
  clear hO15
  go_wp2_with fail
  refine (joinK hO 1 0 rfl rfl 0 [[10, 4, 0], [0, 0, 0], [0, 0, 5]] [6, 3, 0] (by dsimp only; decide) (by dsimp only; decide) (by dsimp only; decide)).mono ?_
  rintro e w16 ⟨rfl, S16, hO16⟩
  replace hO : Obs w w16 [⟨T, S14, [[10, 4, 0], [0, 0, 0], [0, 0, 5]], [6, 3, 0]⟩, ⟨S, S16, [[10, 4, 0], [0, 0, 0], [0, 0, 5]], [6, 3, 0]⟩] := hO16
  clear hO16
  go_wp2_with fail
  refine (leftK hO 1 rfl 6 (by dsimp only; decide)).mono ?_
  rintro e w17 ⟨rfl, hO17⟩
  replace hO : Obs w w17 [⟨T, S14, [[10, 4, 0], [0, 0, 0], [0, 0, 5]], [6, 3, 0]⟩, ⟨S, S16, [[10, 4, 0], [0, 0, 0], [0, 0, 5]], [6, 3, 0]⟩] := hO17
  clear hO17
  go_wp2_with fail
  refine (soldK hO 1 rfl 9 (by dsimp only; decide)).mono ?_
  rintro e w18 ⟨rfl, hO18⟩
  replace hO : Obs w w18 [⟨T, S14, [[10, 4, 0], [0, 0, 0], [0, 0, 5]], [6, 3, 0]⟩, ⟨S, S16, [[10, 4, 0], [0, 0, 0], [0, 0, 5]], [6, 3, 0]⟩] := hO18
  clear hO18
  go_wp2_with fail
  refine (newK hO 2 (by decide) (by decide)).mono ?_
  rintro e w19 ⟨TWO, S19, rfl, hO19⟩
  replace hO : Obs w w19 [⟨TWO, S19, [[0, 0], [0, 0]], [0, 0]⟩, ⟨T, S14, [[10, 4, 0], [0, 0, 0], [0, 0, 5]], [6, 3, 0]⟩, ⟨S, S16, [[10, 4, 0], [0, 0, 0], [0, 0, 5]], [6, 3, 0]⟩] := hO19
  clear hO19
  go_wp2_with fail
  refine (new_no 0 _ (by decide)).mono ?_
  rintro e w' ⟨rfl, rfl⟩
  go_wp2_with fail
  refine (ofK hO).mono ?_
  rintro e w20 ⟨rfl, hO20⟩
  replace hO : Obs w w20 [⟨TWO, S19, [[0, 0], [0, 0]], [0, 0]⟩, ⟨T, S14, [[10, 4, 0], [0, 0, 0], [0, 0, 5]], [6, 3, 0]⟩, ⟨S, S16, [[10, 4, 0], [0, 0, 0], [0, 0, 5]], [6, 3, 0]⟩] := hO20
  clear hO20
  go_wp2_with fail
  refine (giveK hO 2 rfl 1 1 0 2 [[10, 4, 0], [0, 0, 0], [0, 0, 5]] (by dsimp only; decide) (by dsimp only; decide)).mono ?_
  rintro e w21 ⟨rfl, S21, hO21⟩
  replace hO : Obs w w21 [⟨TWO, S19, [[0, 0], [0, 0]], [0, 0]⟩, ⟨T, S14, [[10, 4, 0], [0, 0, 0], [0, 0, 5]], [6, 3, 0]⟩, ⟨S, S21, [[10, 4, 0], [0, 0, 0], [0, 0, 5]], [6, 3, 0]⟩] := hO21
  clear hO21
  go_wp2_with fail
  refine (sharesK hO 2 rfl 3 0 2 (by dsimp only; decide) (by dsimp only; decide)).mono ?_
  rintro e w22 ⟨rfl, hO22⟩
  replace hO : Obs w w22 [⟨TWO, S19, [[0, 0], [0, 0]], [0, 0]⟩, ⟨T, S14, [[10, 4, 0], [0, 0, 0], [0, 0, 5]], [6, 3, 0]⟩, ⟨S, S21, [[10, 4, 0], [0, 0, 0], [0, 0, 5]], [6, 3, 0]⟩] := hO22
  clear hO22
  go_wp2_with fail
  refine (joinK hO 2 0 rfl rfl 3 [[10, 4, 0], [0, 0, 0], [0, 0, 5]] [6, 3, 0] (by dsimp only; decide) (by dsimp only; decide) (by dsimp only; decide)).mono ?_
  rintro e w23 ⟨rfl, S23, hO23⟩
  replace hO : Obs w w23 [⟨TWO, S19, [[0, 0], [0, 0]], [0, 0]⟩, ⟨T, S14, [[10, 4, 0], [0, 0, 0], [0, 0, 5]], [6, 3, 0]⟩, ⟨S, S23, [[10, 4, 0], [0, 0, 0], [0, 0, 5]], [6, 3, 0]⟩] := hO23
  clear hO23
  have HB := Lib.hid hO.b
  clear hO
  go_wp2_with fail
  go_ret
  exact ⟨rfl, HB.out⟩
end Go.Proofs.Ytdancoblphkakaa
