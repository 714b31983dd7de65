/- StockJoins: the walk. -/
import Derived.Test.YtdancoblphkakaaAll
namespace Go.Proofs.Ytdancoblphkakaa
open Go.RowKit

section
variable {w : World} {U : Nat → Prop} {v u : Value} {G H : List (List Int)} {D E : List Int}
set_option maxRecDepth 100000 in
set_option maxHeartbeats 8000000 in
theorem stockJoins_walk (hx : VS w U v G D) (hy : VS w U u H E) : Calls Try.prog 3 #[v, u] w fun e w' => e = .returned (.bool true) ∧ Below w.heap.size w w' := by
  have HX := Lib.hid hx
  have HY := Lib.hid hy
  obtain ⟨pg, cg, qd, cd, rfl⟩ := hx.shape
  obtain ⟨ph, ch, qe, ce, rfl⟩ := hy.shape
  clear hx hy
  go_enter Try.func3, Try.ntmps3
  go_wp2_with fail
  generalize hW : (World.alloc _ _) = W
  have hb1 : Below w.heap.size w (w.alloc (.cells #[.slice pg G.length cg, .slice qd D.length cd] 25)) := (Below.refl _ _).alloc (Nat.le_refl _) _
  have hA1 := ((((All.nil w).arg HY.out).arg HX.out).box hb1 (Blk.new w 25 [.slice pg G.length cg, .slice qd D.length cd]) (Nat.le_refl _)).box (w' := W) (by rw [← hW]; exact (Below.refl _ _).alloc (Nat.le_refl _) _) (N := w.heap.size + 1) (t := 25) (cs := [.slice ph H.length ch, .slice qe E.length ce]) (by rw [← hW]; exact Blk.new' _ 25 _ (by simp)) (by simp)
  obtain ⟨Na, hNa⟩ : ∃ n, w.heap.size = n := ⟨_, rfl⟩
  obtain ⟨Nb, hNb⟩ : ∃ n, Na + 1 = n := ⟨_, rfl⟩
  rw [hNa] at hA1 ⊢
  rw [hNb] at hA1 ⊢
  clear hW hNa hNb hb1
  have HA := Lib.hid hA1
  have c0 := (hA1.blk (i := 1) rfl).cell 0
  have c1 := (hA1.blk (i := 1) rfl).cell 1
  have d0 := (hA1.blk (i := 0) rfl).cell 0
  have d1 := (hA1.blk (i := 0) rfl).cell 1
  clear hA1
  by_cases s1 : Small G D
  case neg =>
    go_wp2_with fail
    refine (small_f (HA.out.ro (i := 0) rfl) s1).mono ?_
    rintro e w2 ⟨rfl, hb2⟩
    replace HA := Lib.hid (HA.out.kept hb2)
    clear c0 c1 d0 d1
    have c0 := (HA.out.blk (i := 1) rfl).cell 0
    have c1 := (HA.out.blk (i := 1) rfl).cell 1
    have d0 := (HA.out.blk (i := 0) rfl).cell 0
    have d1 := (HA.out.blk (i := 0) rfl).cell 1
    clear hb2
    go_wp2_with fail
    refine (known_any _).mono ?_
    rintro e w9 ⟨rfl, hb9⟩
    have HO := Lib.hid (HA.out.kept hb9).b
    clear hb9
    clear c0 c1 d0 d1
    go_wp2_with fail
    go_ret
    exact ⟨rfl, HO.out⟩
  go_wp2_with fail
  refine (small_t (HA.out.ro (i := 0) rfl) s1).mono ?_
  rintro e w2 ⟨rfl, hb2⟩
  replace HA := Lib.hid (HA.out.kept hb2)
  clear c0 c1 d0 d1
  have c0 := (HA.out.blk (i := 1) rfl).cell 0
  have c1 := (HA.out.blk (i := 1) rfl).cell 1
  have d0 := (HA.out.blk (i := 0) rfl).cell 0
  have d1 := (HA.out.blk (i := 0) rfl).cell 1
  clear hb2
  by_cases s2 : Small H E
  case neg =>
    go_wp2_with fail
    refine (small_f (HA.out.ro (i := 1) rfl) s2).mono ?_
    rintro e w2 ⟨rfl, hb2⟩
    replace HA := Lib.hid (HA.out.kept hb2)
    clear c0 c1 d0 d1
    have c0 := (HA.out.blk (i := 1) rfl).cell 0
    have c1 := (HA.out.blk (i := 1) rfl).cell 1
    have d0 := (HA.out.blk (i := 0) rfl).cell 0
    have d1 := (HA.out.blk (i := 0) rfl).cell 1
    clear hb2
    go_wp2_with fail
    refine (known_any _).mono ?_
    rintro e w9 ⟨rfl, hb9⟩
    have HO := Lib.hid (HA.out.kept hb9).b
    clear hb9
    clear c0 c1 d0 d1
    go_wp2_with fail
    go_ret
    exact ⟨rfl, HO.out⟩
  go_wp2_with fail
  refine (small_t (HA.out.ro (i := 1) rfl) s2).mono ?_
  rintro e w2 ⟨rfl, hb2⟩
  replace HA := Lib.hid (HA.out.kept hb2)
  clear c0 c1 d0 d1
  have c0 := (HA.out.blk (i := 1) rfl).cell 0
  have c1 := (HA.out.blk (i := 1) rfl).cell 1
  have d0 := (HA.out.blk (i := 0) rfl).cell 0
  have d1 := (HA.out.blk (i := 0) rfl).cell 1
  clear hb2
  by_cases v1 : Valid G D
  case neg =>
    go_wp2_with fail
    refine (valid_f (HA.out.ro (i := 0) rfl) v1).mono ?_
    rintro e w2 ⟨rfl, hb2⟩
    replace HA := Lib.hid (HA.out.kept hb2)
    clear c0 c1 d0 d1
    have c0 := (HA.out.blk (i := 1) rfl).cell 0
    have c1 := (HA.out.blk (i := 1) rfl).cell 1
    have d0 := (HA.out.blk (i := 0) rfl).cell 0
    have d1 := (HA.out.blk (i := 0) rfl).cell 1
    clear hb2
    go_wp2_with fail
    refine (known_any _).mono ?_
    rintro e w9 ⟨rfl, hb9⟩
    have HO := Lib.hid (HA.out.kept hb9).b
    clear hb9
    clear c0 c1 d0 d1
    go_wp2_with fail
    go_ret
    exact ⟨rfl, HO.out⟩
  go_wp2_with fail
  refine (valid_t (HA.out.ro (i := 0) rfl) v1).mono ?_
  rintro e w2 ⟨rfl, hb2⟩
  replace HA := Lib.hid (HA.out.kept hb2)
  clear c0 c1 d0 d1
  have c0 := (HA.out.blk (i := 1) rfl).cell 0
  have c1 := (HA.out.blk (i := 1) rfl).cell 1
  have d0 := (HA.out.blk (i := 0) rfl).cell 0
  have d1 := (HA.out.blk (i := 0) rfl).cell 1
  clear hb2
  by_cases v2 : Valid H E
  case neg =>
    go_wp2_with fail
    refine (valid_f (HA.out.ro (i := 1) rfl) v2).mono ?_
    rintro e w2 ⟨rfl, hb2⟩
    replace HA := Lib.hid (HA.out.kept hb2)
    clear c0 c1 d0 d1
    have c0 := (HA.out.blk (i := 1) rfl).cell 0
    have c1 := (HA.out.blk (i := 1) rfl).cell 1
    have d0 := (HA.out.blk (i := 0) rfl).cell 0
    have d1 := (HA.out.blk (i := 0) rfl).cell 1
    clear hb2
    go_wp2_with fail
    refine (known_any _).mono ?_
    rintro e w9 ⟨rfl, hb9⟩
    have HO := Lib.hid (HA.out.kept hb9).b
    clear hb9
    clear c0 c1 d0 d1
    go_wp2_with fail
    go_ret
    exact ⟨rfl, HO.out⟩
  go_wp2_with fail
  refine (valid_t (HA.out.ro (i := 1) rfl) v2).mono ?_
  rintro e w2 ⟨rfl, hb2⟩
  replace HA := Lib.hid (HA.out.kept hb2)
  clear c0 c1 d0 d1
  have c0 := (HA.out.blk (i := 1) rfl).cell 0
  have c1 := (HA.out.blk (i := 1) rfl).cell 1
  have d0 := (HA.out.blk (i := 0) rfl).cell 0
  have d1 := (HA.out.blk (i := 0) rfl).cell 1
  clear hb2
  have s1 := Lib.hid s1
  have s2 := Lib.hid s2
  have v1 := Lib.hid v1
  have v2 := Lib.hid v2
  go_wp2_with fail
  refine (own_vs (HA.out.ro (i := 0) rfl) s1.out).mono ?_
  rintro e w2 ⟨v2', rfl, hv2, hb2⟩
  replace HA := Lib.hid (HA.out.kept hb2)
  clear c0 c1 d0 d1
  have c0 := (HA.out.blk (i := 1) rfl).cell 0
  have c1 := (HA.out.blk (i := 1) rfl).cell 1
  have d0 := (HA.out.blk (i := 0) rfl).cell 0
  have d1 := (HA.out.blk (i := 0) rfl).cell 1
  clear hb2
  have HV2 := Lib.hid hv2
  clear hv2
  go_wp2_with fail
  refine (ofA HA.out HV2.out v1.out).mono ?_
  rintro e w2 ⟨X, SX, rfl, hA⟩
  replace HA := Lib.hid hA
  clear hA
  clear c0 c1 d0 d1
  have c0 := (HA.out.blk (i := 1) rfl).cell 0
  have c1 := (HA.out.blk (i := 1) rfl).cell 1
  have d0 := (HA.out.blk (i := 0) rfl).cell 0
  have d1 := (HA.out.blk (i := 0) rfl).cell 1
  clear HV2
  go_wp2_with fail
  refine (own_vs (HA.out.ro (i := 1) rfl) s2.out).mono ?_
  rintro e w2 ⟨v2', rfl, hv2, hb2⟩
  replace HA := Lib.hid (HA.out.kept hb2)
  clear c0 c1 d0 d1
  have c0 := (HA.out.blk (i := 1) rfl).cell 0
  have c1 := (HA.out.blk (i := 1) rfl).cell 1
  have d0 := (HA.out.blk (i := 0) rfl).cell 0
  have d1 := (HA.out.blk (i := 0) rfl).cell 1
  clear hb2
  have HV2 := Lib.hid hv2
  clear hv2
  go_wp2_with fail
  refine (ofA HA.out HV2.out v2.out).mono ?_
  rintro e w2 ⟨Y, SY, rfl, hA⟩
  replace HA := Lib.hid hA
  clear hA
  clear c0 c1 d0 d1
  have c0 := (HA.out.blk (i := 1) rfl).cell 0
  have c1 := (HA.out.blk (i := 1) rfl).cell 1
  have d0 := (HA.out.blk (i := 0) rfl).cell 0
  have d1 := (HA.out.blk (i := 0) rfl).cell 1
  clear HV2
  go_wp2_with fail
  refine (copyA HA.out 1 rfl).mono ?_
  rintro e w2 ⟨Z, SZ, rfl, hA⟩
  replace HA := Lib.hid hA
  clear hA
  clear c0 c1 d0 d1
  have c0 := (HA.out.blk (i := 1) rfl).cell 0
  have c1 := (HA.out.blk (i := 1) rfl).cell 1
  have d0 := (HA.out.blk (i := 0) rfl).cell 0
  have d1 := (HA.out.blk (i := 0) rfl).cell 1
  obtain ⟨ea, hea⟩ : ∃ z, joinE G D H E = z := ⟨_, rfl⟩
  obtain ⟨Ga, hGa⟩ : ∃ z, afterG G D H E = z := ⟨_, rfl⟩
  obtain ⟨Da, hDa⟩ : ∃ z, afterD G D H E = z := ⟨_, rfl⟩
  obtain ⟨eb, heb⟩ : ∃ z, joinE H E G D = z := ⟨_, rfl⟩
  obtain ⟨Gb, hGb⟩ : ∃ z, afterG H E G D = z := ⟨_, rfl⟩
  obtain ⟨Db, hDb⟩ : ∃ z, afterD H E G D = z := ⟨_, rfl⟩
  have HVa := Lib.hid (show Valid Ga Da by rw [← hGa, ← hDa]; exact valid_after v1.out v2.out.1)
  have hea := Lib.hid hea
  have hGa := Lib.hid hGa
  have hDa := Lib.hid hDa
  have heb := Lib.hid heb
  have hGb := Lib.hid hGb
  have hDb := Lib.hid hDb
  go_wp2_with fail
  refine (joinedN HA.out 0 1 rfl rfl v1.out.1 v2.out.1 hea.out hGa.out hDa.out).mono ?_
  rintro e w2 ⟨pa, ga, qa, da, rfl, hA⟩
  replace HA := Lib.hid hA
  clear hA
  clear c0 c1 d0 d1
  have c0 := (HA.out.blk (i := 1) rfl).cell 0
  have c1 := (HA.out.blk (i := 1) rfl).cell 1
  have d0 := (HA.out.blk (i := 0) rfl).cell 0
  have d1 := (HA.out.blk (i := 0) rfl).cell 1
  go_upto_region 9 with fail
  generalize hW : (World.alloc _ _) = W
  replace HA := Lib.hid (HA.out.box (w' := W) (by rw [← hW]; exact (Below.refl _ _).alloc (Nat.le_refl _) _) (N := w2.heap.size) (t := 25) (cs := [.slice pa Ga.length ga, .slice qa Da.length da]) (by rw [← hW]; exact Blk.new w2 25 _) (Nat.le_refl _))
  obtain ⟨Na, hNa⟩ : ∃ n, w2.heap.size = n := ⟨_, rfl⟩
  rw [hNa] at HA ⊢
  clear hW hNa
  clear c0 c1 d0 d1
  have c0 := (HA.out.blk (i := 2) rfl).cell 0
  have c1 := (HA.out.blk (i := 2) rfl).cell 1
  have d0 := (HA.out.blk (i := 1) rfl).cell 0
  have d1 := (HA.out.blk (i := 1) rfl).cell 1
  have a0 := (HA.out.blk (i := 0) rfl).cell 0
  have a1 := (HA.out.blk (i := 0) rfl).cell 1
  go_wp2_with fail
  refine (joinedN HA.out 2 1 rfl rfl v2.out.1 v1.out.1 heb.out hGb.out hDb.out).mono ?_
  rintro e w2 ⟨pb, gb, qb, db, rfl, hA⟩
  replace HA := Lib.hid hA
  clear hA
  clear c0 c1 d0 d1 a0 a1
  have c0 := (HA.out.blk (i := 2) rfl).cell 0
  have c1 := (HA.out.blk (i := 2) rfl).cell 1
  have d0 := (HA.out.blk (i := 1) rfl).cell 0
  have d1 := (HA.out.blk (i := 1) rfl).cell 1
  have a0 := (HA.out.blk (i := 0) rfl).cell 0
  have a1 := (HA.out.blk (i := 0) rfl).cell 1
  go_upto_region 10 with fail
  generalize hW : (World.alloc _ _) = W
  replace HA := Lib.hid (HA.out.box (w' := W) (by rw [← hW]; exact (Below.refl _ _).alloc (Nat.le_refl _) _) (N := w2.heap.size) (t := 25) (cs := [.slice pb Gb.length gb, .slice qb Db.length db]) (by rw [← hW]; exact Blk.new w2 25 _) (Nat.le_refl _))
  obtain ⟨Nb, hNb⟩ : ∃ n, w2.heap.size = n := ⟨_, rfl⟩
  rw [hNb] at HA ⊢
  clear hW hNb
  clear c0 c1 d0 d1 a0 a1
  have c0 := (HA.out.blk (i := 3) rfl).cell 0
  have c1 := (HA.out.blk (i := 3) rfl).cell 1
  have d0 := (HA.out.blk (i := 2) rfl).cell 0
  have d1 := (HA.out.blk (i := 2) rfl).cell 1
  have a0 := (HA.out.blk (i := 1) rfl).cell 0
  have a1 := (HA.out.blk (i := 1) rfl).cell 1
  have b0 := (HA.out.blk (i := 0) rfl).cell 0
  have b1 := (HA.out.blk (i := 0) rfl).cell 1
  go_wp2_with fail
  refine (joinN HA.out 2 1 rfl rfl hea.out hGa.out hDa.out).mono ?_
  rintro e w2 ⟨rfl, SX2, hA⟩
  replace HA := Lib.hid hA
  clear hA
  clear c0 c1 d0 d1 a0 a1 b0 b1
  have c0 := (HA.out.blk (i := 3) rfl).cell 0
  have c1 := (HA.out.blk (i := 3) rfl).cell 1
  have d0 := (HA.out.blk (i := 2) rfl).cell 0
  have d1 := (HA.out.blk (i := 2) rfl).cell 1
  have a0 := (HA.out.blk (i := 1) rfl).cell 0
  have a1 := (HA.out.blk (i := 1) rfl).cell 1
  have b0 := (HA.out.blk (i := 0) rfl).cell 0
  have b1 := (HA.out.blk (i := 0) rfl).cell 1
  go_wp2_with fail
  refine (alikeN HA.out 2 1 rfl rfl).mono ?_
  rintro e w2 ⟨rfl, hA⟩
  replace HA := Lib.hid hA
  clear hA
  clear c0 c1 d0 d1 a0 a1 b0 b1
  have c0 := (HA.out.blk (i := 3) rfl).cell 0
  have c1 := (HA.out.blk (i := 3) rfl).cell 1
  have d0 := (HA.out.blk (i := 2) rfl).cell 0
  have d1 := (HA.out.blk (i := 2) rfl).cell 1
  have a0 := (HA.out.blk (i := 1) rfl).cell 0
  have a1 := (HA.out.blk (i := 1) rfl).cell 1
  have b0 := (HA.out.blk (i := 0) rfl).cell 0
  have b1 := (HA.out.blk (i := 0) rfl).cell 1
  go_wp2_with fail
  refine (alikeN HA.out 1 3 rfl rfl).mono ?_
  rintro e w2 ⟨rfl, hA⟩
  replace HA := Lib.hid hA
  clear hA
  clear c0 c1 d0 d1 a0 a1 b0 b1
  have c0 := (HA.out.blk (i := 3) rfl).cell 0
  have c1 := (HA.out.blk (i := 3) rfl).cell 1
  have d0 := (HA.out.blk (i := 2) rfl).cell 0
  have d1 := (HA.out.blk (i := 2) rfl).cell 1
  have a0 := (HA.out.blk (i := 1) rfl).cell 0
  have a1 := (HA.out.blk (i := 1) rfl).cell 1
  have b0 := (HA.out.blk (i := 0) rfl).cell 0
  have b1 := (HA.out.blk (i := 0) rfl).cell 1
  go_wp2_with fail
  refine (joinN HA.out 1 0 rfl rfl heb.out hGb.out hDb.out).mono ?_
  rintro e w2 ⟨rfl, SY2, hA⟩
  replace HA := Lib.hid hA
  clear hA
  clear c0 c1 d0 d1 a0 a1 b0 b1
  have c0 := (HA.out.blk (i := 3) rfl).cell 0
  have c1 := (HA.out.blk (i := 3) rfl).cell 1
  have d0 := (HA.out.blk (i := 2) rfl).cell 0
  have d1 := (HA.out.blk (i := 2) rfl).cell 1
  have a0 := (HA.out.blk (i := 1) rfl).cell 0
  have a1 := (HA.out.blk (i := 1) rfl).cell 1
  have b0 := (HA.out.blk (i := 0) rfl).cell 0
  have b1 := (HA.out.blk (i := 0) rfl).cell 1
  go_wp2_with fail
  refine (alikeN HA.out 1 0 rfl rfl).mono ?_
  rintro e w2 ⟨rfl, hA⟩
  replace HA := Lib.hid hA
  clear hA
  clear c0 c1 d0 d1 a0 a1 b0 b1
  have c0 := (HA.out.blk (i := 3) rfl).cell 0
  have c1 := (HA.out.blk (i := 3) rfl).cell 1
  have d0 := (HA.out.blk (i := 2) rfl).cell 0
  have d1 := (HA.out.blk (i := 2) rfl).cell 1
  have a0 := (HA.out.blk (i := 1) rfl).cell 0
  have a1 := (HA.out.blk (i := 1) rfl).cell 1
  have b0 := (HA.out.blk (i := 0) rfl).cell 0
  have b1 := (HA.out.blk (i := 0) rfl).cell 1
  go_wp2_with fail
  refine (alikeN HA.out 0 2 rfl rfl).mono ?_
  rintro e w2 ⟨rfl, hA⟩
  replace HA := Lib.hid hA
  clear hA
  clear c0 c1 d0 d1 a0 a1 b0 b1
  have c0 := (HA.out.blk (i := 3) rfl).cell 0
  have c1 := (HA.out.blk (i := 3) rfl).cell 1
  have d0 := (HA.out.blk (i := 2) rfl).cell 0
  have d1 := (HA.out.blk (i := 2) rfl).cell 1
  have a0 := (HA.out.blk (i := 1) rfl).cell 0
  have a1 := (HA.out.blk (i := 1) rfl).cell 1
  have b0 := (HA.out.blk (i := 0) rfl).cell 0
  have b1 := (HA.out.blk (i := 0) rfl).cell 1
  go_wp2_with fail
  refine (joinN HA.out 2 2 rfl rfl (joinE_self HVa.out) (after_self HVa.out).1 (after_self HVa.out).2).mono ?_
  rintro e w2 ⟨rfl, SX3, hA⟩
  replace HA := Lib.hid hA
  clear hA
  clear c0 c1 d0 d1 a0 a1 b0 b1
  have c0 := (HA.out.blk (i := 3) rfl).cell 0
  have c1 := (HA.out.blk (i := 3) rfl).cell 1
  have d0 := (HA.out.blk (i := 2) rfl).cell 0
  have d1 := (HA.out.blk (i := 2) rfl).cell 1
  have a0 := (HA.out.blk (i := 1) rfl).cell 0
  have a1 := (HA.out.blk (i := 1) rfl).cell 1
  have b0 := (HA.out.blk (i := 0) rfl).cell 0
  have b1 := (HA.out.blk (i := 0) rfl).cell 1
  go_wp2_with fail
  refine (alikeN HA.out 2 1 rfl rfl).mono ?_
  rintro e w2 ⟨rfl, hA⟩
  replace HA := Lib.hid hA
  clear hA
  clear c0 c1 d0 d1 a0 a1 b0 b1
  have c0 := (HA.out.blk (i := 3) rfl).cell 0
  have c1 := (HA.out.blk (i := 3) rfl).cell 1
  have d0 := (HA.out.blk (i := 2) rfl).cell 0
  have d1 := (HA.out.blk (i := 2) rfl).cell 1
  have a0 := (HA.out.blk (i := 1) rfl).cell 0
  have a1 := (HA.out.blk (i := 1) rfl).cell 1
  have b0 := (HA.out.blk (i := 0) rfl).cell 0
  have b1 := (HA.out.blk (i := 0) rfl).cell 1
  go_wp2_with fail
  refine (known_any _).mono ?_
  rintro e w9 ⟨rfl, hb9⟩
  have HO := Lib.hid (HA.out.kept hb9).b
  clear hb9
  clear c0 c1 d0 d1 a0 a1 b0 b1
  go_wp2_with fail
  go_ret
  exact ⟨rfl, HO.out⟩
end
end Go.Proofs.Ytdancoblphkakaa
