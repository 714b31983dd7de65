/- Copy, State: what has rows of its own. -/
import Derived.Test.YtdancoblphkakaaMake
namespace Go.Proofs.Ytdancoblphkakaa
open Go.RowKit

theorem cloneN_any (p : Option Addr) (n c : Nat) (xs : List Int) (w : World) (h : Rd w w.heap.size p (ints xs)) (hn : xs.length = n) (h0 : 0 < n) (hl : n ≤ 1000000) :
    Calls Try.prog 35 #[.slice p n c] w fun e w' => ∃ g d, e = .returned (.slice (some ⟨g, 0, none⟩) n d) ∧ Row w' g xs ∧ w.heap.size ≤ g ∧ n ≤ d ∧ d ≤ maxLen ∧ Below w.heap.size w w' := by
  subst hn
  exact cloneRow_any p c xs w h h0 hl
section
variable {w w1 w2 w' : World} {X ob n k g d db dc : Nat} {S : Nat → Prop} {G : List (List Int)} {D : List Int} {rs : List (Nat × Nat)}
theorem RowsP.first (hb : Below w.heap.size w w1) (h : RowsP w1 w2 ob n k G rs) : RowsP w w2 ob n k G rs :=
  ⟨below_step hb h.hb, h.hG, h.len, Nat.le_trans hb.size h.lo, h.row, h.bd, h.dis⟩
theorem RowsP.kept (h : RowsP w w1 ob n k G rs) (hb : Below w1.heap.size w1 w2) : RowsP w w2 ob n k G rs :=
  ⟨below_step h.hb hb, h.hG.kept hb, h.len, h.lo, fun i a b => (h.row i a b).kept hb, fun r hr => by have := h.bd r hr; have := hb.size; omega, h.dis⟩
/-- Rows and a list of its own have been made. -/
structure Made (w w2 : World) (G : List (List Int)) (D : List Int) (ob : Nat) (rs : List (Nat × Nat)) (db dc : Nat) : Prop where
  r : RowsP w w2 ob G.length G.length G rs
  hD : Row w2 db D
  lD : D.length = G.length
  lo : w.heap.size ≤ db
  nd : ∀ r ∈ rs, r.1 ≠ db
  cap : G.length ≤ dc ∧ dc ≤ maxLen
theorem made1 (hR : RowsP w w1 ob G.length G.length G rs) (hb : Below w1.heap.size w1 w2) (hrow : Row w2 g D) (hg : w1.heap.size ≤ g) (hl : D.length = G.length) (h1 : G.length ≤ d) (h2 : d ≤ maxLen) : Made w w2 G D ob rs g d :=
  ⟨hR.kept hb, hrow, hl, Nat.le_trans hR.hb.size hg, fun r hr => by have := hR.bd r hr; omega, h1, h2⟩
theorem made2 (hb : Below w.heap.size w w1) (hrow : Row w1 g D) (hg : w.heap.size ≤ g) (hl : D.length = G.length) (h1 : G.length ≤ d) (h2 : d ≤ maxLen) (hR : RowsP w1 w2 ob G.length G.length G rs) : Made w w2 G D ob rs g d :=
  ⟨RowsP.first hb hR, hrow.kept hR.hb, hl, hg, fun r hr => by have := hR.bd r hr; have := hR.lo; have := hrow.lt; omega, h1, h2⟩
/-- A stock that is new. -/
def NewSt (w : World) (X : Nat) (G : List (List Int)) (D : List Int) (w' : World) : Prop := ∃ S : Nat → Prop, ST w' X S G D ∧ Below w.heap.size w w' ∧ ∀ b, S b → w.heap.size ≤ b
theorem Made.obj (h : Made w w2 G D ob rs db dc) (h0 : 1 ≤ G.length) (h1 : G.length ≤ 16) (hN : Num G D) (hl : ∀ i (_ : i < G.length), (G[i]).length = G.length) :
    NewSt w w2.heap.size G D (w2.alloc (.cells #[.slice (some ⟨ob, 0, none⟩) G.length G.length, .slice (some ⟨db, 0, none⟩) G.length dc] 43)) := by
  have hB : Below w2.heap.size w2 (w2.alloc (.cells #[.slice (some ⟨ob, 0, none⟩) G.length G.length, .slice (some ⟨db, 0, none⟩) G.length dc] 43)) := (Below.refl _ _).alloc (Nat.le_refl _) _
  have hR := h.r.kept hB
  have hsz := h.r.hb.size
  have hml : G.length ≤ maxLen := by unfold maxLen; omega
  refine ⟨fun b => w.heap.size ≤ b ∧ b < w2.heap.size + 1, ⟨h0, h1, hN, ob, G.length, db, dc, rs, ?_⟩, below_step h.r.hb hB, fun b hb => hb.1⟩
  refine ⟨Blk.new' _ 43 _ rfl, ⟨_, hR.hG, ?_⟩, h.hD.kept hB, h.lD, hR.len, fun i a b => ⟨hl i b, hR.row i a b⟩, hR.dis, h.nd, ⟨fun r hr => (hR.bd r hr).2.2, Nat.le_refl _, hml, h.cap⟩, ⟨hsz, by omega⟩, ⟨hR.lo, by have := h.r.lt; omega⟩, ⟨h.lo, by have := h.hD.lt; omega⟩, fun r hr => ⟨by have := hR.bd r hr; have := hR.lo; omega, by have := h.r.bd r hr; omega⟩, fun b hb => by simpa using hb.2⟩
  rw [Nat.sub_self]
  simp
theorem STd.mr {gb gc db dc : Nat} {rs : List (Nat × Nat)} (h : STd w X S G D gb gc db dc rs) : MR w (some ⟨gb, 0, none⟩) G := by
  obtain ⟨cs, h1, h2⟩ := h.hG
  refine ⟨rs.map (rowV G.length), Rd.of_blk h1 h2, by simp [h.lR], fun i hi hi2 => ?_⟩
  have hi3 : i < rs.length := by simpa using hi
  obtain ⟨h3, h4⟩ := h.row i hi3 hi2
  exact ⟨_, (rs[i]).2, by simp [rowV, h3], h4.rd⟩
theorem Made.box (h : Made w w2 G D ob rs db dc) (hs : ST w X S G D) : NewSt w w2.heap.size G D (w2.alloc (.cells #[.slice (some ⟨ob, 0, none⟩) G.length G.length, .slice (some ⟨db, 0, none⟩) G.length dc] 43)) := by
  obtain ⟨h0, h1, hN, gb, gc, db', dc', rs', hd⟩ := hs
  exact h.obj h0 h1 hN (fun i hi => hd.rowLen hi)
theorem ST.wide (hs : ST w X S G D) : 1 ≤ G.length ∧ G.length ≤ 16 ∧ Num G D ∧ D.length = G.length ∧ ∀ i (_ : i < G.length), (G[i]).length = G.length := by
  obtain ⟨h0, h1, hN, gb, gc, db', dc', rs', hd⟩ := hs
  exact ⟨h0, h1, hN, hd.lD, fun i hi => hd.rowLen hi⟩

set_option maxHeartbeats 1000000 in
theorem copy_any (h : ST w X S G D) : Calls Try.prog 13 #[.pointer (some ⟨X, 0, none⟩)] w fun e w' => ∃ X', e = .returned (.pointer (some ⟨X', 0, none⟩)) ∧ NewSt w X' G D w' := by
  have HC := Lib.hid (none_any h)
  have HH := Lib.hid h
  have HL := Lib.hid h.wide.2.2.2.2
  have HLD := Lib.hid h.wide.2.2.2.1
  obtain ⟨h0, h1, hN, gb, gc, db, dc, rs, hd⟩ := h
  obtain ⟨hc0, hc1⟩ := hd.cells
  have HXL := Lib.hid (hd.lt X hd.sX)
  have HMR := Lib.hid (fun w' (hb : Below w.heap.size w w') => hd.mr.kept hb)
  have HRD := Lib.hid (fun w' (hb : Below w.heap.size w w') => hd.hD.rd.kept hb)
  clear hd hN
  go_enter Try.func13, Try.ntmps13
  go_wp2_with fail
  refine HC.out.mono ?_
  rintro e w' ⟨rfl, rfl⟩
  go_upto_region 3 with fail
  refine wp_region_noPanic ?_
  refine wp_region_held_drew (S := fun w' => w'.cell? ⟨X, 0, none⟩ = some (.slice (some ⟨gb, 0, none⟩) G.length gc) ∧ w'.cell? ⟨X, 1, none⟩ = some (.slice (some ⟨db, 0, none⟩) G.length dc)) (by kernel_rfl) (⟨hc0, hc1⟩) (fun hHeld => ?_)
  refine wpAnyH_take (i := 0) (oi := ⟨some 5, _, _, _, _, _⟩) (v := ?_) rfl (by kernel_rfl) (by kernel_rfl) (by kernel_rfl) (fun _ _ _ h => h) (Or.inl ⟨by rfl, ?_⟩) hHeld ?_
  rotate_left
  · (intro w hSw; obtain ⟨s0, s1⟩ := hSw; go_simp; try with_reducible rfl)
  try simp only [Act.put, List.setIfInBounds_toArray, List.set_cons_zero, List.set_cons_succ]
  refine wpAnyH_take (i := 1) (oi := ⟨some 6, _, _, _, _, _⟩) (v := ?_) rfl (by kernel_rfl) (by kernel_rfl) (by kernel_rfl) (fun _ _ _ h => h) (Or.inl ⟨by rfl, ?_⟩) hHeld ?_
  rotate_left
  · (intro w hSw; obtain ⟨s0, s1⟩ := hSw; go_simp; try with_reducible rfl)
  try simp only [Act.put, List.setIfInBounds_toArray, List.set_cons_zero, List.set_cons_succ]
  refine wpAnyH_take (i := 2) (oi := ⟨some 7, _, _, _, _, _⟩) (v := ?_) rfl (by kernel_rfl) (by kernel_rfl) (by kernel_rfl) (fun _ _ _ h => h) (Or.inl ⟨by rfl, ?_⟩) hHeld ?_
  rotate_left
  · (intro w hSw; obtain ⟨s0, s1⟩ := hSw; go_simp; try with_reducible rfl)
  try simp only [Act.put, List.setIfInBounds_toArray, List.set_cons_zero, List.set_cons_succ]
  refine wpAnyH_take (i := 3) (oi := ⟨some 8, _, _, _, _, _⟩) (v := ?_) rfl (by kernel_rfl) (by kernel_rfl) (by kernel_rfl) (fun _ _ _ h => h) (Or.inl ⟨by rfl, ?_⟩) hHeld ?_
  rotate_left
  · (intro w hSw; obtain ⟨s0, s1⟩ := hSw; go_simp; try with_reducible rfl)
  try simp only [Act.put, List.setIfInBounds_toArray, List.set_cons_zero, List.set_cons_succ]
  refine wpAnyH_take (i := 5) (oi := ⟨some 10, _, _, _, _, _⟩) (v := ?_) rfl (by kernel_rfl) (by kernel_rfl) (by kernel_rfl) (fun _ _ _ h => h) (Or.inl ⟨by rfl, ?_⟩) hHeld ?_
  rotate_left
  · (intro w hSw; obtain ⟨s0, s1⟩ := hSw; go_simp; try with_reducible rfl)
  try simp only [Act.put, List.setIfInBounds_toArray, List.set_cons_zero, List.set_cons_succ]
  refine wpAnyH_take (i := 6) (oi := ⟨some 11, _, _, _, _, _⟩) (v := ?_) rfl (by kernel_rfl) (by kernel_rfl) (by kernel_rfl) (fun _ _ _ h => h) (Or.inl ⟨by rfl, ?_⟩) hHeld ?_
  rotate_left
  · (intro w hSw; obtain ⟨s0, s1⟩ := hSw; go_simp; try with_reducible rfl)
  try simp only [Act.put, List.setIfInBounds_toArray, List.set_cons_zero, List.set_cons_succ]
  refine wpAnyH_take (i := 7) (oi := ⟨some 12, _, _, _, _, _⟩) (v := ?_) rfl (by kernel_rfl) (by kernel_rfl) (by kernel_rfl) (fun _ _ _ h => h) (Or.inl ⟨by rfl, ?_⟩) hHeld ?_
  rotate_left
  · (intro w hSw; obtain ⟨s0, s1⟩ := hSw; go_simp; try with_reducible rfl)
  try simp only [Act.put, List.setIfInBounds_toArray, List.set_cons_zero, List.set_cons_succ]
  refine wpAnyH_take (i := 8) (oi := ⟨some 13, _, _, _, _, _⟩) (v := ?_) rfl (by kernel_rfl) (by kernel_rfl) (by kernel_rfl) (fun _ _ _ h => h) (Or.inl ⟨by rfl, ?_⟩) hHeld ?_
  rotate_left
  · (intro w hSw; obtain ⟨s0, s1⟩ := hSw; go_simp; try with_reducible rfl)
  try simp only [Act.put, List.setIfInBounds_toArray, List.set_cons_zero, List.set_cons_succ]
  refine wpAnyH_ready (rs := [4]) (by kernel_rfl) (by simp) ?_
  refine (AllReadyH.cons (o := ⟨some 9, _, _, _, _, _⟩) rfl (fun K hK => ?_) AllReadyH.nil)
  go_simp
  (refine (rows_any _ _ (HMR.out _ (Below.refl w.heap.size w).drew) h0 (by omega) HL.out).mono ?_; rintro e w1 ⟨ob, rs, rfl, hR0⟩)
  have hR := RowsP.first (Below.refl w.heap.size w).drew hR0
  refine hK.out _ _ (⟨((hR.hb).cell (p := ⟨X, 0, none⟩) HXL.out).trans hc0, ((hR.hb).cell (p := ⟨X, 1, none⟩) HXL.out).trans hc1⟩) (fun hHeld => ?_)
  clear hK K
  try simp only [Act.put, List.setIfInBounds_toArray, List.set_cons_zero, List.set_cons_succ]
  refine wpAnyH_ready (rs := [9]) (by kernel_rfl) (by simp) ?_
  refine (AllReadyH.cons (o := ⟨some 14, _, _, _, _, _⟩) rfl (fun K hK => ?_) AllReadyH.nil)
  go_simp
  (refine (cloneN_any _ G.length _ D _ (HRD.out _ hR.hb) HLD.out (by omega) (by omega)).mono ?_; rintro e w2 ⟨g, d, rfl, hrow, hg, hd1, hd2, hb2⟩)
  have hM := made1 hR hb2 hrow hg HLD.out hd1 hd2
  refine hK.out _ _ (⟨((hM.r.hb).cell (p := ⟨X, 0, none⟩) HXL.out).trans hc0, ((hM.r.hb).cell (p := ⟨X, 1, none⟩) HXL.out).trans hc1⟩) (fun hHeld => ?_)
  clear hK K
  try simp only [Act.put, List.setIfInBounds_toArray, List.set_cons_zero, List.set_cons_succ]
  refine wpAnyH_take (i := 10) (oi := ⟨some 15, _, _, _, _, _⟩) (v := ?_) rfl (by kernel_rfl) (by kernel_rfl) (by kernel_rfl) (fun _ _ _ h => h) (Or.inl ⟨by rfl, ?_⟩) hHeld ?_
  rotate_left
  · (intro w hSw; obtain ⟨s0, s1⟩ := hSw; go_simp; try with_reducible rfl)
  try simp only [Act.put, List.setIfInBounds_toArray, List.set_cons_zero, List.set_cons_succ]
  refine wpAnyH_ready (rs := [11]) (by kernel_rfl) (by simp) ?_
  refine (AllReadyH.cons (o := ⟨some 16, _, _, _, _, _⟩) rfl (fun K hK => ?_) AllReadyH.nil)
  go_simp
  refine hK.out _ _ (⟨((hM.r.hb.alloc hM.r.hb.size _).cell (p := ⟨X, 0, none⟩) HXL.out).trans hc0, ((hM.r.hb.alloc hM.r.hb.size _).cell (p := ⟨X, 1, none⟩) HXL.out).trans hc1⟩) (fun hHeld => ?_)
  clear hK K
  try simp only [Act.put, List.setIfInBounds_toArray, List.set_cons_zero, List.set_cons_succ]
  refine wpAnyH_take (i := 12) (oi := ⟨some 2, _, _, _, _, _⟩) (v := ?_) rfl (by kernel_rfl) (by kernel_rfl) (by kernel_rfl) (fun _ _ _ h => h) (Or.inl ⟨by rfl, ?_⟩) hHeld ?_
  rotate_left
  · (intro w hSw; obtain ⟨s0, s1⟩ := hSw; go_simp; try with_reducible rfl)
  try simp only [Act.put, List.setIfInBounds_toArray, List.set_cons_zero, List.set_cons_succ]
  refine wpAnyH_done (by kernel_rfl) ?_ _
  refine NoPanic.normal ?_
  clear hc0 hc1
  go_wp2_with fail
  go_ret
  exact ⟨_, rfl, hM.box HH.out⟩
end
end Go.Proofs.Ytdancoblphkakaa
