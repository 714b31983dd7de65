/- The document's Unlock. -/
import Derived.Test.YthjakgjpnijmlaaRefOps
namespace Go.Proofs.Ythjakgjpnijmlaa
open Go.RowKit

def refUE (H : List Int) (o s : Int) : Int := if okX H.length o s = true then (if hAt H s = o then 0 else 8) else 2
def refUN (H : List Int) (T : List (List Int)) (o s : Int) : Int := if refUE H o s = 0 then (tAt T s).headD 0 else 0
def refUH (H : List Int) (T : List (List Int)) (o s : Int) : List Int := if refUE H o s = 0 then H.set s.toNat ((tAt T s).headD 0) else H
def refUT (H : List Int) (T : List (List Int)) (o s : Int) : List (List Int) := if refUE H o s = 0 then T.set s.toNat (tAt T s).tail else T
section
variable {w w1 w2 wr : World} {X : Nat} {S : Nat → Prop} {H : List Int} {T : List (List Int)} {hg qg : Nat} {ps : List Value}
theorem RXd.RW2 (hd : RXd w X S H T hg qg ps) (hsz : H.length ≤ 1024) {H' : List Int} {T' : List (List Int)} {ps' : List Value} (hF : Fr (fun b => b = hg ∨ b = qg) w w2) (hd2 : RXd w2 X S H' T' hg qg ps') (hl : H'.length = H.length) : RW w w2 X S H' T' :=
  ⟨S, ⟨by omega, hg, qg, ps', hd2⟩, hF.mono (fun b hb => .inl (by rcases hb with rfl | rfl; exact hd.sH; exact hd.sQ)), fun _ h => .inl h, fun _ h => h⟩
theorem RW.step (h : RW w w1 X S H T) (k : Below w1.heap.size w1 w2) : RW w w2 X S H T := by
  obtain ⟨S', h1, h2, h3, h4⟩ := h
  exact ⟨S', h1.kept k, h2.step k, h3, h4⟩
theorem cell_far {w : World} {a b i j : Nat} {u v : Value} (h : w.cell? ⟨a, i, none⟩ = some u) (hn : a ≠ b) : (w.setCell ⟨b, j, none⟩ v).cell? ⟨a, i, none⟩ = some u := by
  rw [World.cell?_setCell_far _ _ _ _ (fun e => hn e.symm)]; exact h
set_option maxRecDepth 100000 in
set_option maxHeartbeats 8000000 in
theorem refUnlock_any (o s : Int) (h : RX w X S H T) (hs : ∀ t ∈ T, t.length ≤ 100000) :
    Calls Try.prog 22 #[.pointer (some ⟨X, 0, none⟩), .int .i64 o, .int .i64 s] w fun e w' => e = .returned (.tuple #[.int .i64 (refUN H T o s), .int .i64 (refUE H o s)]) ∧ RW w w' X S (refUH H T o s) (refUT H T o s) := by
  have HN := Lib.hid h
  have HS := Lib.hid hs
  clear hs
  by_cases hok : okX H.length o s = true
  · have hoX := (okX_iff _ _ _).1 hok
    obtain ⟨i, rfl⟩ : ∃ i : Nat, s = (i : Int) := ⟨s.toNat, by omega⟩
    have hi : i < H.length := by omega
    have HE0 := Lib.hid (show refUE H o i = if H[i] = o then 0 else 8 by rw [refUE, if_pos hok]; simp [hAt, hi])
    have HR := Lib.hid (right_any o i h)
    rw [hok] at HR
    clear hok hoX
    obtain ⟨hsz, hg, qg, ps, hd⟩ := h
    obtain ⟨hc0, hc1⟩ := hd.cells
    obtain ⟨hh, hhf⟩ := hd.atH hi
    have hi2 : (i : Int) < (H.length : Int) := by omega
    have hTi : i < T.length := by rw [hd.lenT]; exact hi
    by_cases hz : H[i] = o
    · have hz1 : (H[i] != o) = false := by rw [bne_eq_false_iff_eq]; exact hz
      have hE : refUE H o i = 0 := by rw [HE0.out, if_pos hz]
      have e2 : refUN H T o i = (T[i]).headD 0 := by rw [refUN, if_pos hE]; simp [tAt, hTi]
      have e3 : refUH H T o i = H.set i ((T[i]).headD 0) := by rw [refUH, if_pos hE]; simp [tAt, hTi]
      have e4 : refUT H T o i = T.set i (T[i]).tail := by rw [refUT, if_pos hE]; simp [tAt, hTi]
      rw [hE, e2, e3, e4]
      clear hE e2 e3 e4 hz HE0
      have hdA := hd.setH i 0
      obtain ⟨p, d, hps, hq, hf, hr, hd1, hd2, hmx⟩ := hd.atT hi hTi
      have hlt := HS.out T[i] (List.getElem_mem hTi)
      obtain ⟨t, ht⟩ : ∃ t, T[i] = t := ⟨_, rfl⟩
      have HT := Lib.hid ht
      rw [ht] at hps hq hr hd1 hlt ⊢
      clear ht
      have hFA : Fr (fun b => b = hg ∨ b = qg) w (w.setCell ⟨hg, i, none⟩ (.int .i64 0)) := (Fr.refl _ _).set _ _ (.inl (.inl rfl))
      have hqA : (w.setCell ⟨hg, i, none⟩ (.int .i64 0)).cell? ⟨qg, i, none⟩ = some (.slice p t.length d) := cell_far hq hd.ne.2.2.symm
      have HRW := Lib.hid (fun w2 H' T' ps' (a : Fr (fun b => b = hg ∨ b = qg) w w2) (b : RXd w2 X S H' T' hg qg ps') (c : H'.length = H.length) => hd.RW2 hsz a b c)
      have hrA : Rd (w.setCell ⟨hg, i, none⟩ (.int .i64 0)) (w.setCell ⟨hg, i, none⟩ (.int .i64 0)).heap.size p (ints t) := rd_far hr _ _ (fun a ha => (hmx a ha).2.2.1)
      have hhA : (w.setCell ⟨hg, i, none⟩ (.int .i64 0)).cell? ⟨hg, i, none⟩ = some (.int .i64 0) := by
        have := (hdA.atH (i := i) (by simpa using hi)).1
        simpa using this
      go_enter Try.func22, Try.ntmps22
      go_wp2_with fail
      refine HR.out.mono ?_
      rintro e w' ⟨rfl, rfl⟩
      go_upto_region 6 with fail
      generalize hW : (World.setCell _ _ _) = W at *
      clear hW hc0 hc1 hh hhf hq hr
      obtain ⟨hc0, hc1⟩ := hdA.cells
      rw [List.length_set] at hc0 hc1
      cases t with
      | nil =>
        have HP := Lib.hid (HRW.out W _ _ _ hFA hdA (by simp))
        have HTT := Lib.hid (show T.set i [] = T by
          apply List.ext_getElem
          · simp
          · intro j h1 h2
            rw [List.getElem_set]
            split
            · rename_i e; subst e; exact HT.out.symm
            · rfl)
        clear hd hdA
        go_wp2_with fail
        go_ret2
        exact ⟨rfl, by rw [List.tail_nil, HTT.out]; exact HP.out⟩
      | cons y l =>
        obtain ⟨b, o2, rfl, _, hy⟩ := hrA.int (k := 0) (by simp)
        simp only [List.getElem_cons_zero, Nat.add_zero] at hy
        obtain ⟨hbS, hbX, hbh, hbq⟩ := hmx _ rfl
        simp only at hbS hbX hbh hbq
        have hn2 : (0 : Int) < ((y :: l).length : Int) := by simp only [List.length_cons]; omega
        have hn3 : (1 : Int) ≤ ((y :: l).length : Int) := by simp only [List.length_cons]; omega
        have hn4 : ((y :: l).length : Int) ≤ (d : Int) := by omega
        have hn5 : (1 : Int) ≤ (d : Int) := by omega
        have hRt : Rd W W.heap.size (if d = 1 then some ⟨b, o2, none⟩ else some ⟨b, o2 + 1, none⟩) (ints l) := by
          split
          · rename_i h1
            subst h1
            have : l = [] := by simpa using hd1
            subst this
            exact .inl rfl
          · have := hrA.part 1
            simpa [ints] using this
        have hPb : ∀ a, (if d = 1 then some (⟨b, o2, none⟩ : Addr) else some ⟨b, o2 + 1, none⟩) = some a → a.block = b := by
          intro a ha
          split at ha <;> (injection ha with ha; subst ha; rfl)
        obtain ⟨P, hif⟩ : ∃ P : Option Addr, (if d = 1 then some ⟨b, o2, none⟩ else some ⟨b, o2 + 1, none⟩) = P := ⟨_, rfl⟩
        rw [hif] at hRt hPb
        have HL1 := Lib.hid (show (y :: l).length - 1 = l.length by simp)
        have hl1 : l.length ≤ d - 1 := by simp only [List.length_cons] at hd1; omega
        have hmx2 : d - 1 ≤ maxLen := by omega
        unfold maxLen at hd2
        have hiA : i < (H.set i 0).length := by simpa using hi
        have hhfA := (hdA.atH hiA).2
        have hd5 := hdA.setH i y
        have hFB := hFA.set ⟨hg, i, none⟩ (.int .i64 y) (.inl (.inl rfl))
        have hy5 : (W.setCell ⟨hg, i, none⟩ (.int .i64 y)).cell? ⟨b, o2, none⟩ = some (.int .i64 y) := cell_far hy hbh
        have hR5 : Rd (W.setCell ⟨hg, i, none⟩ (.int .i64 y)) (W.setCell ⟨hg, i, none⟩ (.int .i64 y)).heap.size P (ints l) := rd_far hRt _ _ (fun a ha => by rw [hPb a ha]; exact hbh)
        have hd6 := hd5.setQ (i := i) (by simpa using hi) hR5 hl1 hmx2 (fun a ha => by rw [hPb a ha]; exact ⟨hbS, hbX, hbh, hbq⟩)
        have hFC := hFB.set ⟨qg, i, none⟩ (.slice P l.length (d - 1)) (.inl (.inr rfl))
        have hy6 : ((W.setCell ⟨hg, i, none⟩ (.int .i64 y)).setCell ⟨qg, i, none⟩ (.slice P l.length (d - 1))).cell? ⟨b, o2, none⟩ = some (.int .i64 y) := cell_far hy5 hbq
        have hq5 : (W.setCell ⟨hg, i, none⟩ (.int .i64 y)).cell? ⟨qg, i, none⟩ = some (.slice (some ⟨b, o2, none⟩) (y :: l).length d) := cell_far hqA hd.ne.2.2.symm
        have hf5 : (W.setCell ⟨hg, i, none⟩ (.int .i64 y)).frozen? ⟨qg, i, none⟩ = false := hd5.hQ.free i
        have hh6 := (hd6.atH (i := i) (by simpa using hi)).1
        simp only [List.getElem_set_self] at hh6
        obtain ⟨k0, k1⟩ := hd5.cells
        obtain ⟨m0, m1⟩ := hd6.cells
        simp only [List.length_set] at k0 k1 m0 m1
        have HP := Lib.hid (HRW.out _ _ _ _ hFC hd6 (by simp))
        have HSS := Lib.hid (show ((H.set i 0).set i y) = H.set i y by simp)
        clear hd hdA hd5 hd6 hFA hFB hFC hmx hrA hRt hR5 HRW
        generalize hyl : (y :: l).length = yl at *
        have HYL := Lib.hid hyl
        clear hyl
        go_upto_region 8 with fail
        go_cut [] (fun wx => RW w wx X S (H.set i y) (T.set i l) ∧ wx.cell? ⟨X, 0, none⟩ = some (.slice (some ⟨hg, 0, none⟩) H.length H.length) ∧ wx.cell? ⟨hg, i, none⟩ = some (.int .i64 y))
        case first =>
          rw [HSS.out] at HP
          have HP2 := Lib.hid (RW.step HP.out (Below.refl _ _).drew)
          refine wp_region_noPanic ?_
          refine wp_region_held_drew (S := fun w' => w'.cell? ⟨X, 0, none⟩ = some (.slice (some ⟨hg, 0, none⟩) H.length H.length) ∧ w'.cell? ⟨X, 1, none⟩ = some (.slice (some ⟨qg, 0, none⟩) H.length H.length) ∧ w'.cell? ⟨b, o2, none⟩ = some (.int .i64 y)) (by kernel_rfl) (⟨hc0, hc1, hy⟩) (fun hHeld => ?_)
          refine wpAnyH_take (i := 0) (oi := ⟨some 39, _, _, _, _, _⟩) (v := ?_) rfl (by kernel_rfl) (by kernel_rfl) (by kernel_rfl) (fun _ _ _ h => h) (Or.inl ⟨by rfl, ?_⟩) hHeld ?_
          rotate_left
          · (intro w hSw; obtain ⟨s0, s1, s2⟩ := hSw; go_simp; try with_reducible rfl)
          try simp only [Act.put, List.setIfInBounds_toArray, List.set_cons_zero, List.set_cons_succ]
          refine wpAnyH_take (i := 1) (oi := ⟨some 40, _, _, _, _, _⟩) (v := ?_) rfl (by kernel_rfl) (by kernel_rfl) (by kernel_rfl) (fun _ _ _ h => h) (Or.inl ⟨by rfl, ?_⟩) hHeld ?_
          rotate_left
          · (intro w hSw; obtain ⟨s0, s1, s2⟩ := hSw; go_simp; try with_reducible rfl)
          try simp only [Act.put, List.setIfInBounds_toArray, List.set_cons_zero, List.set_cons_succ]
          refine wpAnyH_take (i := 2) (oi := ⟨some 41, _, _, _, _, _⟩) (v := ?_) rfl (by kernel_rfl) (by kernel_rfl) (by kernel_rfl) (fun _ _ _ h => h) (Or.inl ⟨by rfl, ?_⟩) hHeld ?_
          rotate_left
          · (intro w hSw; obtain ⟨s0, s1, s2⟩ := hSw; go_simp; try with_reducible rfl)
          try simp only [Act.put, List.setIfInBounds_toArray, List.set_cons_zero, List.set_cons_succ]
          refine wpAnyH_take (i := 3) (oi := ⟨some 42, _, _, _, _, _⟩) (v := ?_) rfl (by kernel_rfl) (by kernel_rfl) (by kernel_rfl) (fun _ _ _ h => h) (Or.inl ⟨by rfl, ?_⟩) hHeld ?_
          rotate_left
          · (intro w hSw; obtain ⟨s0, s1, s2⟩ := hSw; go_simp; try with_reducible rfl)
          try simp only [Act.put, List.setIfInBounds_toArray, List.set_cons_zero, List.set_cons_succ]
          refine wpAnyH_take (i := 4) (oi := ⟨some 43, _, _, _, _, _⟩) (v := ?_) rfl (by kernel_rfl) (by kernel_rfl) (by kernel_rfl) (fun _ _ _ h => h) (Or.inl ⟨by rfl, ?_⟩) hHeld ?_
          rotate_left
          · (intro w hSw; obtain ⟨s0, s1, s2⟩ := hSw; go_simp; try with_reducible rfl)
          try simp only [Act.put, List.setIfInBounds_toArray, List.set_cons_zero, List.set_cons_succ]
          refine wpAnyH_take (i := 5) (oi := ⟨some 44, _, _, _, _, _⟩) (v := ?_) rfl (by kernel_rfl) (by kernel_rfl) (by kernel_rfl) (fun _ _ _ h => h) (Or.inl ⟨by rfl, ?_⟩) hHeld ?_
          rotate_left
          · (intro w hSw; obtain ⟨s0, s1, s2⟩ := hSw; go_simp; try with_reducible rfl)
          try simp only [Act.put, List.setIfInBounds_toArray, List.set_cons_zero, List.set_cons_succ]
          refine wpAnyH_take (i := 6) (oi := ⟨some 45, _, _, _, _, _⟩) (v := ?_) rfl (by kernel_rfl) (by kernel_rfl) (by kernel_rfl) (fun _ _ _ h => h) (Or.inl ⟨by rfl, ?_⟩) hHeld ?_
          rotate_left
          · (intro w hSw; obtain ⟨s0, s1, s2⟩ := hSw; go_simp; try with_reducible rfl)
          try simp only [Act.put, List.setIfInBounds_toArray, List.set_cons_zero, List.set_cons_succ]
          refine wpAnyH_take (i := 7) (oi := ⟨some 46, _, _, _, _, _⟩) (v := ?_) rfl (by kernel_rfl) (by kernel_rfl) (by kernel_rfl) (fun _ _ _ h => h) (Or.inl ⟨by rfl, ?_⟩) hHeld ?_
          rotate_left
          · (intro w hSw; obtain ⟨s0, s1, s2⟩ := hSw; go_simp; try with_reducible rfl)
          try simp only [Act.put, List.setIfInBounds_toArray, List.set_cons_zero, List.set_cons_succ]
          refine wpAnyH_take (i := 8) (oi := ⟨some 47, _, _, _, _, _⟩) (v := ?_) rfl (by kernel_rfl) (by kernel_rfl) (by kernel_rfl) (fun _ _ _ h => h) (Or.inl ⟨by rfl, ?_⟩) hHeld ?_
          rotate_left
          · (intro w hSw; obtain ⟨s0, s1, s2⟩ := hSw; go_simp; try with_reducible rfl)
          try simp only [Act.put, List.setIfInBounds_toArray, List.set_cons_zero, List.set_cons_succ]
          refine wpAnyH_take (i := 9) (oi := ⟨some 48, _, _, _, _, _⟩) (v := ?_) rfl (by kernel_rfl) (by kernel_rfl) (by kernel_rfl) (fun _ _ _ h => h) (Or.inl ⟨by rfl, ?_⟩) hHeld ?_
          rotate_left
          · (intro w hSw; obtain ⟨s0, s1, s2⟩ := hSw; go_simp; try with_reducible rfl)
          try simp only [Act.put, List.setIfInBounds_toArray, List.set_cons_zero, List.set_cons_succ]
          refine wpAnyH_take (i := 10) (oi := ⟨some 49, _, _, _, _, _⟩) (v := ?_) rfl (by kernel_rfl) (by kernel_rfl) (by kernel_rfl) (fun _ _ _ h => h) (Or.inl ⟨by rfl, ?_⟩) hHeld ?_
          rotate_left
          · (intro w hSw; obtain ⟨s0, s1, s2⟩ := hSw; go_simp; try with_reducible rfl)
          try simp only [Act.put, List.setIfInBounds_toArray, List.set_cons_zero, List.set_cons_succ]
          refine wpAnyH_take (i := 11) (oi := ⟨some 50, _, _, _, _, _⟩) (v := ?_) rfl (by kernel_rfl) (by kernel_rfl) (by kernel_rfl) (fun _ _ _ h => h) (Or.inl ⟨by rfl, ?_⟩) hHeld ?_
          rotate_left
          · (intro w hSw; obtain ⟨s0, s1, s2⟩ := hSw; go_simp; try with_reducible rfl)
          try simp only [Act.put, List.setIfInBounds_toArray, List.set_cons_zero, List.set_cons_succ]
          refine wpAnyH_take (i := 12) (oi := ⟨some 51, _, _, _, _, _⟩) (v := ?_) rfl (by kernel_rfl) (by kernel_rfl) (by kernel_rfl) (fun _ _ _ h => h) (Or.inl ⟨by rfl, ?_⟩) hHeld ?_
          rotate_left
          · (intro w hSw; obtain ⟨s0, s1, s2⟩ := hSw; go_simp; try with_reducible rfl)
          try simp only [Act.put, List.setIfInBounds_toArray, List.set_cons_zero, List.set_cons_succ]
          refine wpAnyH_take (i := 13) (oi := ⟨some 52, _, _, _, _, _⟩) (v := ?_) rfl (by kernel_rfl) (by kernel_rfl) (by kernel_rfl) (fun _ _ _ h => h) (Or.inl ⟨by rfl, ?_⟩) hHeld ?_
          rotate_left
          · (intro w hSw; obtain ⟨s0, s1, s2⟩ := hSw; go_simp; try with_reducible rfl)
          try simp only [Act.put, List.setIfInBounds_toArray, List.set_cons_zero, List.set_cons_succ]
          refine wpAnyH_take (i := 14) (oi := ⟨some 53, _, _, _, _, _⟩) (v := ?_) rfl (by kernel_rfl) (by kernel_rfl) (by kernel_rfl) (fun _ _ _ h => h) (Or.inl ⟨by rfl, ?_⟩) hHeld ?_
          rotate_left
          · (intro w hSw; obtain ⟨s0, s1, s2⟩ := hSw; go_simp; try with_reducible rfl)
          try simp only [Act.put, List.setIfInBounds_toArray, List.set_cons_zero, List.set_cons_succ]
          refine wpAnyH_take (i := 15) (oi := ⟨some 54, _, _, _, _, _⟩) (v := ?_) rfl (by kernel_rfl) (by kernel_rfl) (by kernel_rfl) (fun _ _ _ h => h) (Or.inl ⟨by rfl, ?_⟩) hHeld ?_
          rotate_left
          · (intro w hSw; obtain ⟨s0, s1, s2⟩ := hSw; go_simp; try with_reducible rfl)
          try simp only [Act.put, List.setIfInBounds_toArray, List.set_cons_zero, List.set_cons_succ]
          refine wpAnyH_ready (rs := [16]) (by kernel_rfl) (by simp) ?_
          refine (AllReadyH.cons (o := ⟨none, _, _, _, _, _⟩) rfl (fun K hK => ?_) AllReadyH.nil)
          go_simp
          refine hK.out _ _ (⟨k0, k1, hy5⟩) (fun hHeld => ?_)
          clear hK K
          try simp only [Act.put, List.setIfInBounds_toArray, List.set_cons_zero, List.set_cons_succ]
          refine wpAnyH_take (i := 17) (oi := ⟨some 55, _, _, _, _, _⟩) (v := ?_) rfl (by kernel_rfl) (by kernel_rfl) (by kernel_rfl) (fun _ _ _ h => h) (Or.inl ⟨by rfl, ?_⟩) hHeld ?_
          rotate_left
          · (intro w hSw; obtain ⟨s0, s1, s2⟩ := hSw; go_simp; try with_reducible rfl)
          try simp only [Act.put, List.setIfInBounds_toArray, List.set_cons_zero, List.set_cons_succ]
          refine wpAnyH_ready (rs := [18]) (by kernel_rfl) (by simp) ?_
          refine (AllReadyH.cons (o := ⟨none, _, _, _, _, _⟩) rfl (fun K hK => ?_) AllReadyH.nil)
          rw [HL1.out]
          go_simp
          refine hK.out _ _ (⟨m0, m1, hy6⟩) (fun hHeld => ?_)
          clear hK K
          try simp only [Act.put, List.setIfInBounds_toArray, List.set_cons_zero, List.set_cons_succ]
          refine wpAnyH_done (by kernel_rfl) ?_ _
          refine NoPanic.normal ?_
          go_wp2_with fail
          go_meet
          exact ⟨HP2.out, m0, hh6⟩
        case rest =>
          obtain ⟨hRW, hc0, hh0⟩ := hcut
          have HRWF := Lib.hid hRW
          clear hRW
          go_wp2_with fail
          go_ret2
          exact ⟨rfl, HRWF.out⟩
    · have hz1 : (H[i] != o) = true := by rw [bne_iff_ne]; exact hz
      have hE : refUE H o i = 8 := by rw [HE0.out, if_neg hz]
      have e2 : refUN H T o i = 0 := by rw [refUN, if_neg (by rw [hE]; omega)]
      have e3 : refUH H T o i = H := by rw [refUH, if_neg (by rw [hE]; omega)]
      have e4 : refUT H T o i = T := by rw [refUT, if_neg (by rw [hE]; omega)]
      rw [hE, e2, e3, e4]
      have HP := RW.same HN.out
      clear hE e2 e3 e4 hz hd
      go_enter Try.func22, Try.ntmps22
      go_wp2_with fail
      refine HR.out.mono ?_
      rintro e w' ⟨rfl, rfl⟩
      go_wp2_with fail
      go_ret2
      exact ⟨rfl, HP⟩
  · have hf : okX H.length o s = false := by simpa using hok
    have HR := Lib.hid (right_any o s h)
    rw [hf] at HR
    have e2 : refUE H o s = 2 := by rw [refUE, if_neg hok]
    have e3 : refUN H T o s = 0 := by rw [refUN, e2]; rfl
    have e4 : refUH H T o s = H := by rw [refUH, e2]; rfl
    have e5 : refUT H T o s = T := by rw [refUT, e2]; rfl
    rw [e2, e3, e4, e5]
    have HP := RW.same h
    clear e2 e3 e4 e5 hok hf h
    go_enter Try.func22, Try.ntmps22
    go_wp2_with fail
    refine HR.out.mono ?_
    rintro e w' ⟨rfl, rfl⟩
    go_wp2_with fail
    go_ret2
    exact ⟨rfl, HP⟩
end
end Go.Proofs.Ythjakgjpnijmlaa
