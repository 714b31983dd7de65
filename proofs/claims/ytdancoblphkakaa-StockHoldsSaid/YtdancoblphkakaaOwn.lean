/- own: a state of the caller's own. -/
import Derived.Test.YtdancoblphkakaaOwnW
namespace Go.Proofs.Ytdancoblphkakaa
open Go.RowKit

theorem own_type {w : World} {base size n : Nat} {e : TypeId} {v : Value} {xs : List Value} (h : w.ownsRow base e size v n xs) {k : Nat} (hk : v.ownBlock = some k) : ∃ cur, w.heap[k]? = some (.cells cur e (0, 0)) := by
  rcases h.2 with ⟨h1, _⟩ | ⟨b, cap, cur, hb, _, hh, _⟩
  · rw [h1] at hk; cases hk
  · rw [hb] at hk; injection hk with hk; subst hk; exact ⟨cur, hh⟩
/-- While rows are copied by append. -/
structure OwnP (B : Nat) (w : World) (v1 : Value) (vs : List Value) (k : Nat) (G : List (List Int)) : Prop where
  g : w.ownsRow B 23 1 v1 k vs
  row : ∀ i (_ : i < vs.length) (_ : i < G.length), w.ownsRow B 3 1 vs[i] (G[i]).length (ints G[i])
  dis : ∀ i j (_ : i < vs.length) (_ : j < vs.length), i ≠ j → ∀ b, (vs[i]).ownBlock = some b → (vs[j]).ownBlock ≠ some b
section
variable {w w' wr w3 w4 : World} {B k n : Nat} {v v1 v2 v3 : Value} {vs : List Value} {G : List (List Int)} {D : List Int}
theorem own_kept {base size : Nat} {e : TypeId} {xs : List Value} (h : w.ownsRow base e size v n xs) (k : Below w.heap.size w w') : w'.ownsRow base e size v n xs := own_fr h (Fr.of_below k (fun _ => False)) (fun _ _ h => h)
theorem OwnP.kept (h : OwnP B w v1 vs k G) (hb : Below w.heap.size w w') : OwnP B w' v1 vs k G := ⟨own_kept h.g hb, fun i a b => own_kept (h.row i a b) hb, h.dis⟩
theorem OwnP.len (h : OwnP B w v1 vs k G) : vs.length = k := by have := h.g.1; omega
theorem OwnP.put (h : OwnP B w v1 vs k G) {p : Addr} (hp : p.block < B) (u : Value) : OwnP B (w.setCell p u) v1 vs k G := by
  have hF : Fr (fun b => b = p.block) w (w.setCell p u) := (Fr.refl _ _).set p u (.inl rfl)
  exact ⟨own_fr h.g hF (fun c hc e => by have := (own_lt h.g c hc).1; omega), fun i a b => own_fr (h.row i a b) hF (fun c hc e => by have := (own_lt (h.row i a b) c hc).1; omega), h.dis⟩
theorem OwnP.step (h : OwnP B wr v1 vs k G) (hk : k < G.length) (hB : B ≤ wr.heap.size) {w2 : World} (ho : w2.ownsRow wr.heap.size 3 1 v2 (G[k]).length (ints G[k])) (hb : Below wr.heap.size wr (w2.alloc (.cells #[v2] 23)))
    (h4 : w4.ownsRow B 23 1 v3 (k + 1) (vs ++ [v2])) (hg : (w2.alloc (.cells #[v2] 23)).grownBy w4 v1.ownBlock) : OwnP B w4 v3 (vs ++ [v2]) (k + 1) G := by
  have h3 := h.kept hb
  have hl := h.len
  have hF : Fr (fun c => v1.ownBlock = some c) (w2.alloc (.cells #[v2] 23)) w4 := (Fr.refl _ _).gb hg (fun c hc => .inl hc)
  have ho3 : (w2.alloc (.cells #[v2] 23)).ownsRow wr.heap.size 3 1 v2 (G[k]).length (ints G[k]) := ho.alloc _
  refine ⟨h4, fun i hi hi2 => ?_, fun i j hi hj hij b hb1 hb2 => ?_⟩
  · by_cases e : i < vs.length
    · rw [List.getElem_append_left e]
      refine own_fr (h3.row i e hi2) hF (fun c hc hc2 => ?_)
      obtain ⟨c1, x1⟩ := own_type (h3.row i e hi2) hc
      obtain ⟨c2, x2⟩ := own_type h3.g hc2
      rw [x1] at x2
      injection x2 with x2
      injection x2 with _ x2
      exact absurd x2 (by decide)
    · have e2 : i = k := by simp at hi; omega
      subst e2
      rw [List.getElem_append_right (by omega)]
      simp [hl]
      refine own_mono (own_fr ho3 hF (fun c hc hc2 => ?_)) hB
      have := (own_lt ho3 c hc).1
      have := (own_lt h.g c hc2).2
      omega
  · simp at hi hj
    by_cases ei : i < vs.length
    · by_cases ej : j < vs.length
      · rw [List.getElem_append_left ei] at hb1
        rw [List.getElem_append_left ej] at hb2
        exact h.dis i j ei ej hij b hb1 hb2
      · rw [List.getElem_append_left ei] at hb1
        rw [List.getElem_append_right (by omega)] at hb2
        simp at hb2
        have := (own_lt ho b hb2).1
        have := (own_lt (h.row i ei (by omega)) b hb1).2
        omega
    · by_cases ej : j < vs.length
      · rw [List.getElem_append_left ej] at hb2
        rw [List.getElem_append_right (by omega)] at hb1
        simp at hb1
        have := (own_lt ho b hb1).1
        have := (own_lt (h.row j ej (by omega)) b hb2).2
        omega
      · omega
/-- What own gives. -/
def RetOwnSt (w : World) (G : List (List Int)) (D : List Int) (e : Ending) (w' : World) : Prop := ∃ v1 v2 vs, e = .returned (.agg #[v1, v2]) ∧ OwnSt w.heap.size w' v1 v2 vs G D ∧ Below w.heap.size w w'
theorem OwnP.done {Ob : Nat} (h : OwnP (Ob + 1) wr v1 vs G.length G) (hb : Below Ob w wr) (hlt : Ob < wr.heap.size) (hn : B ≤ Ob) {w2 : World} (h2 : w2.ownsRow wr.heap.size 3 1 v2 D.length (ints D)) (hb2 : Below wr.heap.size wr w2) (w5 : World) (hw5 : Fr (fun b => b < Ob + 1) w2 w5) : OwnSt B w5 v1 v2 vs G D := by
  have h5 := h.kept hb2
  have hl := h.len
  refine ⟨own_mono (own_fr h5.g hw5 (fun c hc e => ?_)) (by omega), fun i a b => own_mono (own_fr (h5.row i a b) hw5 (fun c hc e => ?_)) (by omega), own_mono (own_fr h2 hw5 (fun c hc e => ?_)) (by omega), h.dis, fun i a b hb1 hb2 => ?_⟩
  · have := (own_lt h.g c hc).1; omega
  · have := (own_lt (h.row i a b) c hc).1; omega
  · have := (own_lt h2 c hc).1; omega
  · have := (own_lt h2 b hb2).1
    have := (own_lt (h.row i a (by omega)) b hb1).2
    omega

set_option maxHeartbeats 4000000 in
theorem own_any (pg qd : Option Addr) (cg cd : Nat) (hG : MR w pg G) (hD : Rd w w.heap.size qd (ints D)) (hn : G.length ≤ 1000) (hl : ∀ i (_ : i < G.length), (G[i]).length ≤ 1000) (hlD : D.length ≤ 1000) :
    Calls Try.prog 12 #[.agg #[.slice pg G.length cg, .slice qd D.length cd]] w (RetOwnSt w G D) := by
  have HG := Lib.hid hG
  have HD := Lib.hid hD
  have HL := Lib.hid hl
  clear hG hD hl
  go_enter Try.func12, Try.ntmps12
  go_wp2_with fail
  generalize hW : (World.alloc _ _) = W
  have hWb : Below w.heap.size w W := by rw [← hW]; exact (((Below.refl _ _).alloc (Nat.le_refl _) _).alloc (by simp) _).alloc (by simp <;> omega) _
  have hBN : Blk W w.heap.size 25 [.slice pg G.length cg, .slice qd D.length cd] := by rw [← hW]; exact ((Blk.new w 25 _).alloc _).alloc _
  have hBR : Blk W (w.heap.size + 1) 25 [.slice none 0 0, .slice none 0 0] := by rw [← hW]; exact (Blk.new' _ 25 _ (by simp)).alloc _
  have hBO : Blk W (w.heap.size + 2) 25 [.slice none 0 0, .slice none 0 0] := by rw [← hW]; exact Blk.new' _ 25 _ (by simp)
  have hsz : W.heap.size = w.heap.size + 3 := by rw [← hW]; simp
  obtain ⟨Nb, hNe⟩ : ∃ Nb, w.heap.size = Nb := ⟨_, rfl⟩
  obtain ⟨Ob, hOe⟩ : ∃ Ob, Nb + 2 = Ob := ⟨_, rfl⟩
  have HNW := Lib.hid hNe
  have HNO := Lib.hid (show Nb < Ob by omega)
  have HRO := Lib.hid (show Nb + 1 < Ob by omega)
  have HWO := Lib.hid (show w.heap.size ≤ Ob by omega)
  have HWS := Lib.hid (show W.heap.size = Ob + 1 by omega)
  rw [hNe] at hBN hBR hBO ⊢
  rw [hOe] at hBO ⊢
  have HB := Lib.hid hWb
  have HBN := Lib.hid hBN
  have HBR := Lib.hid hBR
  have hP0 : OwnP (Ob + 1) W (.slice none 0 0) [] 0 G := ⟨World.ownsRow_nil _ _ _ _, fun i h => by simp at h, fun i j h => by simp at h⟩
  have hI : Below Ob W W := Below.refl _ _
  clear hW hNe hOe hsz hWb hBN hBR
  go_wp2_with fail
  go_loopw [4] (fun i wr => ∃ (k : Nat) (v1 : Value) (vs : List Value), k ≤ G.length ∧ i = .int .i64 k ∧ Blk wr Ob 25 [v1, .slice none 0 0] ∧ OwnP (Ob + 1) wr v1 vs k G ∧ Below Ob W wr) (fun i _ => G.length - (intOf i).toNat)
  case atStart => exact ⟨0, _, [], Nat.zero_le _, rfl, hBO, hP0, hI⟩
  case round =>
    clear hBO hP0 hI
    obtain ⟨k, v1, vs, hk, rfl, hBO, hP, hb⟩ := hrel
    have n0 := HBN.out.cell 0
    have hBN := HBN.out.below hb HNO.out
    have c0 := hBN.cell 0
    by_cases hkG : k < G.length
    · have hki : (k : Int) < (G.length : Int) := by omega
      have lN := hBN.lt
      have lO := hBO.lt
      have o1 := hBO.cell 0
      have hMR := HG.out.kept HB.out
      obtain ⟨b, o, q, c, rfl, lb0, y0, r0⟩ := HG.out.at_ hkG
      have lbO : b < Ob := Nat.lt_of_lt_of_le lb0 HWO.out
      have y0 := (HB.out.cell (p := ⟨b, o + k, none⟩) lb0).trans y0
      have y1 := (hb.cell (p := ⟨b, o + k, none⟩) lbO).trans y0
      have lb : b < wr.heap.size := Nat.lt_trans lbO lO
      have r1 : Rd wr wr.heap.size q (ints G[k]) := ((r0.below HB.out).more HWO.out |>.below hb).more (Nat.le_of_lt lO)
      have hll := HL.out k hkG
      have HV := Lib.hid (show vs.length = k from hP.len)
      obtain ⟨l, hl⟩ : ∃ l, G[k] = l := ⟨_, rfl⟩
      have HLE := Lib.hid hl
      rw [hl] at y0 y1 r1 hll
      have hP4 : ∀ (w2 w4 : World) (v2 v3 : Value), w2.ownsRow wr.heap.size 3 1 v2 l.length (ints l) → Below wr.heap.size wr (w2.alloc (.cells #[v2] 23)) → w4.ownsRow (Ob + 1) 23 1 v3 (k + 1) (vs ++ [v2]) → (w2.alloc (.cells #[v2] 23)).grownBy w4 v1.ownBlock → OwnP (Ob + 1) w4 v3 (vs ++ [v2]) (k + 1) G := fun w2 w4 v2 v3 x1 x2 x3 x4 => hP.step hkG lO (by rw [hl]; exact x1) x2 x3 x4
      have HSTEP := Lib.hid hP4
      clear hl hMR r0 lb0 hP4
      go_upto_region 5 with fail
      refine wp_region_noPanic ?_
      refine wp_region_held_drew (S := fun w' => w'.cell? ⟨Nb, 0, none⟩ = some (.slice (some ⟨b, o, none⟩) G.length cg) ∧ w'.cell? ⟨b, o + k, none⟩ = some (.slice q l.length c)) (by kernel_rfl) (⟨c0, y1⟩) (fun hHeld => ?_)
      refine wpAnyH_take (i := 0) (oi := ⟨some 12, _, _, _, _, _⟩) (v := ?_) rfl (by kernel_rfl) (by kernel_rfl) (by kernel_rfl) (fun _ _ _ h => h) (Or.inl ⟨by rfl, ?_⟩) hHeld ?_
      rotate_left
      · (intro w hSw; obtain ⟨s0, s1⟩ := hSw; go_simp; try with_reducible rfl)
      try simp only [Act.put, List.setIfInBounds_toArray, List.set_cons_zero, List.set_cons_succ]
      refine wpAnyH_take (i := 2) (oi := ⟨some 14, _, _, _, _, _⟩) (v := ?_) rfl (by kernel_rfl) (by kernel_rfl) (by kernel_rfl) (fun _ _ _ h => h) (Or.inl ⟨by rfl, ?_⟩) hHeld ?_
      rotate_left
      · (intro w hSw; obtain ⟨s0, s1⟩ := hSw; go_simp; try with_reducible rfl)
      try simp only [Act.put, List.setIfInBounds_toArray, List.set_cons_zero, List.set_cons_succ]
      refine wpAnyH_take (i := 3) (oi := ⟨some 15, _, _, _, _, _⟩) (v := ?_) rfl (by kernel_rfl) (by kernel_rfl) (by kernel_rfl) (fun _ _ _ h => h) (Or.inl ⟨by rfl, ?_⟩) hHeld ?_
      rotate_left
      · (intro w hSw; obtain ⟨s0, s1⟩ := hSw; go_simp; try with_reducible rfl)
      try simp only [Act.put, List.setIfInBounds_toArray, List.set_cons_zero, List.set_cons_succ]
      refine wpAnyH_take (i := 4) (oi := ⟨some 16, _, _, _, _, _⟩) (v := ?_) rfl (by kernel_rfl) (by kernel_rfl) (by kernel_rfl) (fun _ _ _ h => h) (Or.inl ⟨by rfl, ?_⟩) hHeld ?_
      rotate_left
      · (intro w hSw; obtain ⟨s0, s1⟩ := hSw; go_simp; try with_reducible rfl)
      try simp only [Act.put, List.setIfInBounds_toArray, List.set_cons_zero, List.set_cons_succ]
      refine wpAnyH_take (i := 5) (oi := ⟨some 17, _, _, _, _, _⟩) (v := ?_) rfl (by kernel_rfl) (by kernel_rfl) (by kernel_rfl) (fun _ _ _ h => h) (Or.inl ⟨by rfl, ?_⟩) hHeld ?_
      rotate_left
      · (intro w hSw; obtain ⟨s0, s1⟩ := hSw; go_simp; try with_reducible rfl)
      try simp only [Act.put, List.setIfInBounds_toArray, List.set_cons_zero, List.set_cons_succ]
      refine wpAnyH_take (i := 6) (oi := ⟨some 18, _, _, _, _, _⟩) (v := ?_) rfl (by kernel_rfl) (by kernel_rfl) (by kernel_rfl) (fun _ _ _ h => h) (Or.inl ⟨by rfl, ?_⟩) hHeld ?_
      rotate_left
      · (intro w hSw; obtain ⟨s0, s1⟩ := hSw; go_simp; try with_reducible rfl)
      try simp only [Act.put, List.setIfInBounds_toArray, List.set_cons_zero, List.set_cons_succ]
      refine wpAnyH_ready (rs := [1, 7]) (by kernel_rfl) (by simp) ?_
      refine (AllReadyH.cons (o := ⟨some 13, _, _, _, _, _⟩) rfl (fun K hK => ?_) (AllReadyH.cons (o := ⟨some 19, _, _, _, _, _⟩) rfl (fun K hK => ?_) AllReadyH.nil))
      · go_simp
        refine hK.out _ _ (⟨c0, y1⟩) (fun hHeld => ?_)
        clear hK K
        try simp only [Act.put, List.setIfInBounds_toArray, List.set_cons_zero, List.set_cons_succ]
        refine wpAnyH_ready (rs := [7]) (by kernel_rfl) (by simp) ?_
        refine (AllReadyH.cons (o := ⟨some 19, _, _, _, _, _⟩) rfl (fun K hK => ?_) AllReadyH.nil)
        (refine step_appM (by rfl) (.const (.slice none 0 0)) (.tmp 18) 23 (by rfl) wr.heap.size 3 _ 1 8 Try.underlying23 int_info (by rfl) (by omega) _ 0 [] (by rfl) (World.ownsRow_nil _ _ _ _) wr.heap.size q l.length c (ints l) (by rfl) (by rw [ints_len, Nat.mul_one]) (by exact r1) (ints_one l) (by omega) (by omega) (Nat.le_refl _) ?_; intro v2 w2 hown2 hb2 _ _; rw [Nat.zero_add, List.nil_append] at hown2)
        obtain ⟨vp, vc, hv2, _, _⟩ := own_shape hown2
        subst hv2
        have hb2 : Below wr.heap.size wr w2 := ((Below.refl wr.heap.size wr).drew).trans hb2
        have K7 := Lib.hid (And.intro ((hb2.cell (p := ⟨Nb, 0, none⟩) lN).trans c0) ((hb2.cell (p := ⟨b, o + k, none⟩) lb).trans y1))
        have o2 := (hb2.cell (p := ⟨Ob, 0, none⟩) lO).trans o1
        have hb3 : Below wr.heap.size wr (w2.alloc (.cells #[(.slice vp l.length vc)] 23)) := hb2.alloc hb2.size _
        have o3 := (hb3.cell (p := ⟨Ob, 0, none⟩) lO).trans o1
        have K8 := Lib.hid (And.intro ((hb3.cell (p := ⟨Nb, 0, none⟩) lN).trans c0) ((hb3.cell (p := ⟨b, o + k, none⟩) lb).trans y1))
        have HP3 := Lib.hid (hP.kept hb3)
        have HB3 := Lib.hid (Blk.new' w2 23 [(.slice vp l.length vc)] rfl)
        refine hK.out _ _ (⟨K7.out.1, K7.out.2⟩) (fun hHeld => ?_)
        clear hK K
        try simp only [Act.put, List.setIfInBounds_toArray, List.set_cons_zero, List.set_cons_succ]
        refine wpAnyH_ready (rs := [8]) (by kernel_rfl) (by simp) ?_
        refine (AllReadyH.cons (o := ⟨some 20, _, _, _, _, _⟩) rfl (fun K hK => ?_) AllReadyH.nil)
        go_simp
        refine hK.out _ _ (⟨K8.out.1, K8.out.2⟩) (fun hHeld => ?_)
        clear hK K
        try simp only [Act.put, List.setIfInBounds_toArray, List.set_cons_zero, List.set_cons_succ]
        refine wpAnyH_ready (rs := [9]) (by kernel_rfl) (by simp) ?_
        refine (AllReadyH.cons (o := ⟨some 21, _, _, _, _, _⟩) rfl (fun K hK => ?_) AllReadyH.nil)
        (refine step_appS (by rfl) (.tmp 13) (.tmp 20) 22 (by rfl) (Ob + 1) 23 _ 1 24 Try.underlying22 sl_info (by rfl) (by omega) v1 k vs (by rfl) (by exact HP3.out.g) w2.heap.size [(.slice vp l.length vc)] rfl (by exact HB3.out) (fun u hu => by simp at hu; subst hu; rfl) (by rfl) (by omega) (by omega) (by exact Nat.le_trans lO hb3.size) ?_; intro v3 w4 hown4 hb4 _ hg4)
        obtain ⟨vp3, vc3, hv3, _, _⟩ := own_shape hown4
        subst hv3
        have hP4 := HSTEP.out w2 w4 (.slice vp l.length vc) (.slice vp3 (k + 1) vc3) hown2 hb3 hown4 hg4
        have hb5 := (hb.trans (hb3.mono (Nat.le_of_lt lO))).trans (hb4.mono (Nat.le_succ Ob))
        have hO4 := (hBO.kept hb3).below hb4 (Nat.lt_succ_self Ob)
        have hO5 := hO4.set_ 0 (.slice vp3 (k + 1) vc3)
        have hb6 := hb5.setCell (p := ⟨Ob, 0, none⟩) (Nat.le_refl Ob) (.slice vp3 (k + 1) vc3)
        have o4 := hO4.cell 0
        have f4 := hO4.free 0
        have HP5 := Lib.hid (hP4.put (p := ⟨Ob, 0, none⟩) (Nat.lt_succ_self Ob) (.slice vp3 (k + 1) vc3))
        have HO5 := Lib.hid hO5
        have HB6 := Lib.hid hb6
        have K9 := Lib.hid (And.intro ((hb5.cell (p := ⟨Nb, 0, none⟩) (by exact HNO.out)).trans n0) ((hb5.cell (p := ⟨b, o + k, none⟩) lbO).trans y0))
        have K10 := Lib.hid (And.intro ((hb6.cell (p := ⟨Nb, 0, none⟩) (by exact HNO.out)).trans n0) ((hb6.cell (p := ⟨b, o + k, none⟩) lbO).trans y0))
        refine hK.out _ _ (⟨K9.out.1, K9.out.2⟩) (fun hHeld => ?_)
        clear hK K
        try simp only [Act.put, List.setIfInBounds_toArray, List.set_cons_zero, List.set_cons_succ]
        refine wpAnyH_take (i := 10) (oi := ⟨some 22, _, _, _, _, _⟩) (v := ?_) rfl (by kernel_rfl) (by kernel_rfl) (by kernel_rfl) (fun _ _ _ h => h) (Or.inl ⟨by rfl, ?_⟩) hHeld ?_
        rotate_left
        · (intro w hSw; obtain ⟨s0, s1⟩ := hSw; go_simp; try with_reducible rfl)
        try simp only [Act.put, List.setIfInBounds_toArray, List.set_cons_zero, List.set_cons_succ]
        refine wpAnyH_ready (rs := [11]) (by kernel_rfl) (by simp) ?_
        refine (AllReadyH.cons (o := ⟨none, _, _, _, _, _⟩) rfl (fun K hK => ?_) AllReadyH.nil)
        clear hO4 hO5 hP4
        go_simp
        refine hK.out _ _ (⟨K10.out.1, K10.out.2⟩) (fun hHeld => ?_)
        clear hK K
        try simp only [Act.put, List.setIfInBounds_toArray, List.set_cons_zero, List.set_cons_succ]
        refine wpAnyH_done (by kernel_rfl) ?_ _
        refine NoPanic.normal ?_
        clear o2 o3 o4 f4 o1 c0 y1 hb6 hb5 hb4 hb3 hb2 hg4 hown4 hown2 hP hb hBO hBN r1 y0 n0
        go_wp2_with fail
        go_roundw
        case rel => exact ⟨k + 1, _, _, by omega, by go_num, HO5.out, HP5.out, HB6.out⟩
        case measure => simp [intOf]; omega
      · (refine step_appM (by rfl) (.const (.slice none 0 0)) (.tmp 18) 23 (by rfl) wr.heap.size 3 _ 1 8 Try.underlying23 int_info (by rfl) (by omega) _ 0 [] (by rfl) (World.ownsRow_nil _ _ _ _) wr.heap.size q l.length c (ints l) (by rfl) (by rw [ints_len, Nat.mul_one]) (by exact r1) (ints_one l) (by omega) (by omega) (Nat.le_refl _) ?_; intro v2 w2 hown2 hb2 _ _; rw [Nat.zero_add, List.nil_append] at hown2)
        obtain ⟨vp, vc, hv2, _, _⟩ := own_shape hown2
        subst hv2
        have hb2 : Below wr.heap.size wr w2 := ((Below.refl wr.heap.size wr).drew).trans hb2
        have K7 := Lib.hid (And.intro ((hb2.cell (p := ⟨Nb, 0, none⟩) lN).trans c0) ((hb2.cell (p := ⟨b, o + k, none⟩) lb).trans y1))
        have o2 := (hb2.cell (p := ⟨Ob, 0, none⟩) lO).trans o1
        have hb3 : Below wr.heap.size wr (w2.alloc (.cells #[(.slice vp l.length vc)] 23)) := hb2.alloc hb2.size _
        have o3 := (hb3.cell (p := ⟨Ob, 0, none⟩) lO).trans o1
        have K8 := Lib.hid (And.intro ((hb3.cell (p := ⟨Nb, 0, none⟩) lN).trans c0) ((hb3.cell (p := ⟨b, o + k, none⟩) lb).trans y1))
        have HP3 := Lib.hid (hP.kept hb3)
        have HB3 := Lib.hid (Blk.new' w2 23 [(.slice vp l.length vc)] rfl)
        refine hK.out _ _ (⟨K7.out.1, K7.out.2⟩) (fun hHeld => ?_)
        clear hK K
        try simp only [Act.put, List.setIfInBounds_toArray, List.set_cons_zero, List.set_cons_succ]
        refine wpAnyH_ready (rs := [1, 8]) (by kernel_rfl) (by simp) ?_
        refine (AllReadyH.cons (o := ⟨some 13, _, _, _, _, _⟩) rfl (fun K hK => ?_) (AllReadyH.cons (o := ⟨some 20, _, _, _, _, _⟩) rfl (fun K hK => ?_) AllReadyH.nil))
        · go_simp
          refine hK.out _ _ (⟨K7.out.1, K7.out.2⟩) (fun hHeld => ?_)
          clear hK K
          try simp only [Act.put, List.setIfInBounds_toArray, List.set_cons_zero, List.set_cons_succ]
          refine wpAnyH_ready (rs := [8]) (by kernel_rfl) (by simp) ?_
          refine (AllReadyH.cons (o := ⟨some 20, _, _, _, _, _⟩) rfl (fun K hK => ?_) AllReadyH.nil)
          go_simp
          refine hK.out _ _ (⟨K8.out.1, K8.out.2⟩) (fun hHeld => ?_)
          clear hK K
          try simp only [Act.put, List.setIfInBounds_toArray, List.set_cons_zero, List.set_cons_succ]
          refine wpAnyH_ready (rs := [9]) (by kernel_rfl) (by simp) ?_
          refine (AllReadyH.cons (o := ⟨some 21, _, _, _, _, _⟩) rfl (fun K hK => ?_) AllReadyH.nil)
          (refine step_appS (by rfl) (.tmp 13) (.tmp 20) 22 (by rfl) (Ob + 1) 23 _ 1 24 Try.underlying22 sl_info (by rfl) (by omega) v1 k vs (by rfl) (by exact HP3.out.g) w2.heap.size [(.slice vp l.length vc)] rfl (by exact HB3.out) (fun u hu => by simp at hu; subst hu; rfl) (by rfl) (by omega) (by omega) (by exact Nat.le_trans lO hb3.size) ?_; intro v3 w4 hown4 hb4 _ hg4)
          obtain ⟨vp3, vc3, hv3, _, _⟩ := own_shape hown4
          subst hv3
          have hP4 := HSTEP.out w2 w4 (.slice vp l.length vc) (.slice vp3 (k + 1) vc3) hown2 hb3 hown4 hg4
          have hb5 := (hb.trans (hb3.mono (Nat.le_of_lt lO))).trans (hb4.mono (Nat.le_succ Ob))
          have hO4 := (hBO.kept hb3).below hb4 (Nat.lt_succ_self Ob)
          have hO5 := hO4.set_ 0 (.slice vp3 (k + 1) vc3)
          have hb6 := hb5.setCell (p := ⟨Ob, 0, none⟩) (Nat.le_refl Ob) (.slice vp3 (k + 1) vc3)
          have o4 := hO4.cell 0
          have f4 := hO4.free 0
          have HP5 := Lib.hid (hP4.put (p := ⟨Ob, 0, none⟩) (Nat.lt_succ_self Ob) (.slice vp3 (k + 1) vc3))
          have HO5 := Lib.hid hO5
          have HB6 := Lib.hid hb6
          have K9 := Lib.hid (And.intro ((hb5.cell (p := ⟨Nb, 0, none⟩) (by exact HNO.out)).trans n0) ((hb5.cell (p := ⟨b, o + k, none⟩) lbO).trans y0))
          have K10 := Lib.hid (And.intro ((hb6.cell (p := ⟨Nb, 0, none⟩) (by exact HNO.out)).trans n0) ((hb6.cell (p := ⟨b, o + k, none⟩) lbO).trans y0))
          refine hK.out _ _ (⟨K9.out.1, K9.out.2⟩) (fun hHeld => ?_)
          clear hK K
          try simp only [Act.put, List.setIfInBounds_toArray, List.set_cons_zero, List.set_cons_succ]
          refine wpAnyH_take (i := 10) (oi := ⟨some 22, _, _, _, _, _⟩) (v := ?_) rfl (by kernel_rfl) (by kernel_rfl) (by kernel_rfl) (fun _ _ _ h => h) (Or.inl ⟨by rfl, ?_⟩) hHeld ?_
          rotate_left
          · (intro w hSw; obtain ⟨s0, s1⟩ := hSw; go_simp; try with_reducible rfl)
          try simp only [Act.put, List.setIfInBounds_toArray, List.set_cons_zero, List.set_cons_succ]
          refine wpAnyH_ready (rs := [11]) (by kernel_rfl) (by simp) ?_
          refine (AllReadyH.cons (o := ⟨none, _, _, _, _, _⟩) rfl (fun K hK => ?_) AllReadyH.nil)
          clear hO4 hO5 hP4
          go_simp
          refine hK.out _ _ (⟨K10.out.1, K10.out.2⟩) (fun hHeld => ?_)
          clear hK K
          try simp only [Act.put, List.setIfInBounds_toArray, List.set_cons_zero, List.set_cons_succ]
          refine wpAnyH_done (by kernel_rfl) ?_ _
          refine NoPanic.normal ?_
          clear o2 o3 o4 f4 o1 c0 y1 hb6 hb5 hb4 hb3 hb2 hg4 hown4 hown2 hP hb hBO hBN r1 y0 n0
          go_wp2_with fail
          go_roundw
          case rel => exact ⟨k + 1, _, _, by omega, by go_num, HO5.out, HP5.out, HB6.out⟩
          case measure => simp [intOf]; omega
        · go_simp
          refine hK.out _ _ (⟨K8.out.1, K8.out.2⟩) (fun hHeld => ?_)
          clear hK K
          try simp only [Act.put, List.setIfInBounds_toArray, List.set_cons_zero, List.set_cons_succ]
          refine wpAnyH_ready (rs := [1]) (by kernel_rfl) (by simp) ?_
          refine (AllReadyH.cons (o := ⟨some 13, _, _, _, _, _⟩) rfl (fun K hK => ?_) AllReadyH.nil)
          go_simp
          refine hK.out _ _ (⟨K8.out.1, K8.out.2⟩) (fun hHeld => ?_)
          clear hK K
          try simp only [Act.put, List.setIfInBounds_toArray, List.set_cons_zero, List.set_cons_succ]
          refine wpAnyH_ready (rs := [9]) (by kernel_rfl) (by simp) ?_
          refine (AllReadyH.cons (o := ⟨some 21, _, _, _, _, _⟩) rfl (fun K hK => ?_) AllReadyH.nil)
          (refine step_appS (by rfl) (.tmp 13) (.tmp 20) 22 (by rfl) (Ob + 1) 23 _ 1 24 Try.underlying22 sl_info (by rfl) (by omega) v1 k vs (by rfl) (by exact HP3.out.g) w2.heap.size [(.slice vp l.length vc)] rfl (by exact HB3.out) (fun u hu => by simp at hu; subst hu; rfl) (by rfl) (by omega) (by omega) (by exact Nat.le_trans lO hb3.size) ?_; intro v3 w4 hown4 hb4 _ hg4)
          obtain ⟨vp3, vc3, hv3, _, _⟩ := own_shape hown4
          subst hv3
          have hP4 := HSTEP.out w2 w4 (.slice vp l.length vc) (.slice vp3 (k + 1) vc3) hown2 hb3 hown4 hg4
          have hb5 := (hb.trans (hb3.mono (Nat.le_of_lt lO))).trans (hb4.mono (Nat.le_succ Ob))
          have hO4 := (hBO.kept hb3).below hb4 (Nat.lt_succ_self Ob)
          have hO5 := hO4.set_ 0 (.slice vp3 (k + 1) vc3)
          have hb6 := hb5.setCell (p := ⟨Ob, 0, none⟩) (Nat.le_refl Ob) (.slice vp3 (k + 1) vc3)
          have o4 := hO4.cell 0
          have f4 := hO4.free 0
          have HP5 := Lib.hid (hP4.put (p := ⟨Ob, 0, none⟩) (Nat.lt_succ_self Ob) (.slice vp3 (k + 1) vc3))
          have HO5 := Lib.hid hO5
          have HB6 := Lib.hid hb6
          have K9 := Lib.hid (And.intro ((hb5.cell (p := ⟨Nb, 0, none⟩) (by exact HNO.out)).trans n0) ((hb5.cell (p := ⟨b, o + k, none⟩) lbO).trans y0))
          have K10 := Lib.hid (And.intro ((hb6.cell (p := ⟨Nb, 0, none⟩) (by exact HNO.out)).trans n0) ((hb6.cell (p := ⟨b, o + k, none⟩) lbO).trans y0))
          refine hK.out _ _ (⟨K9.out.1, K9.out.2⟩) (fun hHeld => ?_)
          clear hK K
          try simp only [Act.put, List.setIfInBounds_toArray, List.set_cons_zero, List.set_cons_succ]
          refine wpAnyH_take (i := 10) (oi := ⟨some 22, _, _, _, _, _⟩) (v := ?_) rfl (by kernel_rfl) (by kernel_rfl) (by kernel_rfl) (fun _ _ _ h => h) (Or.inl ⟨by rfl, ?_⟩) hHeld ?_
          rotate_left
          · (intro w hSw; obtain ⟨s0, s1⟩ := hSw; go_simp; try with_reducible rfl)
          try simp only [Act.put, List.setIfInBounds_toArray, List.set_cons_zero, List.set_cons_succ]
          refine wpAnyH_ready (rs := [11]) (by kernel_rfl) (by simp) ?_
          refine (AllReadyH.cons (o := ⟨none, _, _, _, _, _⟩) rfl (fun K hK => ?_) AllReadyH.nil)
          clear hO4 hO5 hP4
          go_simp
          refine hK.out _ _ (⟨K10.out.1, K10.out.2⟩) (fun hHeld => ?_)
          clear hK K
          try simp only [Act.put, List.setIfInBounds_toArray, List.set_cons_zero, List.set_cons_succ]
          refine wpAnyH_done (by kernel_rfl) ?_ _
          refine NoPanic.normal ?_
          clear o2 o3 o4 f4 o1 c0 y1 hb6 hb5 hb4 hb3 hb2 hg4 hown4 hown2 hP hb hBO hBN r1 y0 n0
          go_wp2_with fail
          go_roundw
          case rel => exact ⟨k + 1, _, _, by omega, by go_num, HO5.out, HP5.out, HB6.out⟩
          case measure => simp [intOf]; omega
    · have hkn : k = G.length := by omega
      subst hkn
      have c1 := hBN.cell 1
      have lO := hBO.lt
      have hBR := HBR.out.below hb HRO.out
      have hRD : Rd wr wr.heap.size qd (ints D) := ((HD.out.below HB.out).more HWO.out |>.below hb).more (Nat.le_of_lt lO)
      have HLO := Lib.hid lO
      have HBO := Lib.hid hBO
      have HBR2 := Lib.hid hBR
      have HP := Lib.hid hP
      have HBW := Lib.hid (hb)
      obtain ⟨p1, c1', rfl, _, _⟩ := own_shape hP.g
      have hne : Nb + 1 ≠ Ob := by have := HRO.out; omega
      have hne2 : Ob ≠ Nb + 1 := by omega
      clear n0 hP hb hBN hBR hBO lO
      go_wp2_with (at_builtin; refine wpList_appM rfl (.const (.slice none 0 0)) (.tmp 24) 23 rfl wr.heap.size 3 _ 1 8 Try.underlying23 int_info rfl (by omega) _ 0 [] rfl (World.ownsRow_nil _ _ _ _) wr.heap.size qd D.length cd (ints D) rfl (by rw [ints_len, Nat.mul_one]) hRD (ints_one D) (by omega) (by omega) (Nat.le_refl _) ?_; intro v2 w2 hown2 hb2 _ _; rw [Nat.zero_add, List.nil_append] at hown2; obtain ⟨vp, vc, rfl, _, _⟩ := own_shape hown2; have o0 := (HBO.out.kept hb2).cell 0; have o1 := (HBO.out.kept hb2).cell 1; have f1 := (HBO.out.kept hb2).free 1; have r0 := (HBR2.out.kept hb2).cell 0; have r1 := (HBR2.out.kept hb2).cell 1; have g0 := (HBR2.out.kept hb2).free 0; have g1 := (HBR2.out.kept hb2).free 1; have HW2 := Lib.hid hown2; have HB2 := Lib.hid hb2; clear hown2 hb2)
      try simp only [Exit.inBlock, Exit.then]
      have HZC := (((HBR2.out.kept HB2.out).far (p := ⟨Ob, 1, none⟩) hne (.slice vp D.length vc)).set_ 0 (.slice p1 G.length c1')).set_ 1 (.slice vp D.length vc)
      have HZD : Blk _ (Nb + 1) 25 [.slice p1 G.length c1', .slice vp D.length vc] := HZC
      refine bodyPost_ret (results_cell_row rfl _ _ (Nb + 1) 25 _ (0, 0) _ (by rfl) HZD Try.underlying25 (by rfl) (by kernel_rfl)) rfl ?_
      have h1 := HNW.out
      have h2 := HRO.out
      have hF : Fr (fun b => b < Ob + 1) w2 (((w2.setCell ⟨Ob, 1, none⟩ (.slice vp D.length vc)).setCell ⟨Nb + 1, 0, none⟩ (.slice p1 G.length c1')).setCell ⟨Nb + 1, 1, none⟩ (.slice vp D.length vc)) :=
        (((Fr.refl _ _).set _ _ (.inl (Nat.lt_succ_self Ob))).set _ _ (.inl (by simp only; omega))).set _ _ (.inl (by simp only; omega))
      refine ⟨_, _, vs, rfl, HP.out.done HBW.out HLO.out HWO.out HW2.out HB2.out _ hF, ?_⟩
      have hA : Below w.heap.size w wr := HB.out.trans (HBW.out.mono HWO.out)
      exact (((below_step hA HB2.out).setCell (p := ⟨Ob, 1, none⟩) (by simp only; omega) _).setCell (p := ⟨Nb + 1, 0, none⟩) (by simp only; omega) _).setCell (p := ⟨Nb + 1, 1, none⟩) (by simp only; omega) _
end
end Go.Proofs.Ytdancoblphkakaa
