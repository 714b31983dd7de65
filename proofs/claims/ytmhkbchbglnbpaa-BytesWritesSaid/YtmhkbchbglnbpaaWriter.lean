/- A writer: write, Num, String, Put, Bytes, Len. -/
import Derived.Test.YtmhkbchbglnbpaaConcat
namespace Go.Proofs.Ytmhkbchbglnbpaa
open Go.RowKit

/-- A writer that has written l. -/
def Wr (X : Nat) (l : List Int) : Kd := fun w S => ∃ v, Blk w X 38 [v] ∧ w.ownsRow 0 5 1 v l.length (bys l) ∧ v.ownBlock ≠ some X ∧ ∀ b, S b ↔ b = X ∨ v.ownBlock = some b
theorem Wr.good (X : Nat) (l : List Int) : Good (Wr X l) := by
  refine ⟨?_, ?_⟩
  · rintro w w' S T ⟨v, h1, h2, h3, h4⟩ hf hn
    exact ⟨v, h1.fr hf (fun ht => hn _ ((h4 X).2 (.inl rfl)) ht), own_fr h2 hf (fun c hc ht => hn _ ((h4 c).2 (.inr hc)) ht), h3, h4⟩
  · rintro w S ⟨v, h1, h2, h3, h4⟩ b hb
    rcases (h4 b).1 hb with rfl | hb
    · exact h1.lt
    · exact (own_lt h2 b hb).2

set_option maxRecDepth 100000 in
theorem write_any {w : World} {X : Nat} {l : List Int} {S : Nat → Prop} (h : Wr X l w S) (p : Option Addr) (c : Nat) (G : List (List Int)) (hp : PR w p G) (hg : G.length ≤ 1000) (hl : l.length + G.flatten.length ≤ 1000000) :
    Calls Try.prog 36 #[.pointer (some ⟨X, 0, none⟩), .slice p G.length c] w fun e w' => e = .returned (.tuple #[]) ∧ Step (Wr X (l ++ G.flatten)) w w' S := by
  obtain ⟨v, hB, hown, hx, hS⟩ := h
  obtain ⟨p0, c0, rfl, _, _⟩ := own_shape hown
  have HC := Lib.hid fun (w' : World) (hb : Below w.heap.size w w') => concat_any p c G w' (hp.kept hb) (by omega) hg
  obtain ⟨F, hF⟩ : ∃ F, G.flatten = F := ⟨_, rfl⟩
  rw [hF] at HC hl ⊢
  obtain ⟨n, hn⟩ : ∃ n, l.length = n := ⟨_, rfl⟩
  rw [hn] at hown hB hl hx hS
  have HN := Lib.hid hn
  have HX := Lib.hid hx
  have HS := Lib.hid hS
  have hc0 := hB.cell 0
  simp only [List.getElem?_cons_zero] at hc0
  have HEND : Hid (∀ (w1 w3 : World) (p3 : Option Addr) (d3 : Nat), Below w.heap.size w w1 → w1.grownBy w3 (Value.slice p0 n c0).ownBlock → ((Value.slice p3 (n + F.length) d3).ownBlock = (Value.slice p0 n c0).ownBlock ∨ ∀ k, (Value.slice p3 (n + F.length) d3).ownBlock = some k → w1.heap.size ≤ k) → Blk w3 X 38 [.slice p0 n c0] → w3.ownsRow 0 5 1 (.slice p3 (n + F.length) d3) (n + F.length) (bys l ++ bys F) →
      (Ending.returned (.tuple #[]) = .returned (.tuple #[]) ∧ Step (Wr X (l ++ F)) w (w3.setCell ⟨X, 0, none⟩ (.slice p3 (n + F.length) d3)) S)) := by
    intro w1 w3 p3 d3 hb hg hat hB3 hO3
    have hXlt := hB.lt
    have hne : (Value.slice p3 (n + F.length) d3).ownBlock ≠ some X := by
      rcases hat with hat | hat
      · rw [hat]; exact hx
      · intro e
        have := hat X e
        have := hb.size
        omega
    refine ⟨rfl, fun b => b = X ∨ (Value.slice p3 (n + F.length) d3).ownBlock = some b, ⟨_, hB3.set_ 0 _, ?_, hne, fun _ => Iff.rfl⟩, ?_, ?_⟩
    · rw [bys_app, List.length_append, hn]
      exact own_fr hO3 (S := fun b => b = X) ((Fr.refl _ _).set _ _ (.inl rfl)) (fun c hc e => by subst e; exact hne hc)
    · exact ((Fr.of_below hb S).gb hg (fun c hc => .inl ((hS c).2 (.inr hc)))).set _ _ (.inl ((hS X).2 (.inl rfl)))
    · intro b hb1
      rcases hb1 with rfl | hb1
      · exact .inl ((hS _).2 (.inl rfl))
      · rcases hat with hat | hat
        · exact .inl ((hS b).2 (.inr (by rw [← hat]; exact hb1)))
        · refine .inr ?_
          have := hat b hb1
          have := hb.size
          omega
  clear hn hx hS hF hp
  go_enter Try.func36, Try.ntmps36
  go_wp2_with fail
  refine wp_region_noPanic ?_
  refine wp_region_held_drew (S := fun _ => True) (by kernel_rfl) (trivial) (fun hHeld => ?_)
  refine wpAnyH_take (i := 0) (oi := ⟨some 6, _, _, _, _, _⟩) (v := ?_) rfl (by kernel_rfl) (by kernel_rfl) (by kernel_rfl) (fun _ _ _ h => h) (Or.inl ⟨by rfl, ?_⟩) hHeld ?_
  rotate_left
  · (intro w hSw; go_simp; try with_reducible rfl)
  try simp only [Act.put, List.setIfInBounds_toArray, List.set_cons_zero, List.set_cons_succ]
  refine wpAnyH_take (i := 1) (oi := ⟨some 7, _, _, _, _, _⟩) (v := ?_) rfl (by kernel_rfl) (by kernel_rfl) (by kernel_rfl) (fun _ _ _ h => h) (Or.inl ⟨by rfl, ?_⟩) hHeld ?_
  rotate_left
  · (intro w hSw; go_simp; try with_reducible rfl)
  try simp only [Act.put, List.setIfInBounds_toArray, List.set_cons_zero, List.set_cons_succ]
  refine wpAnyH_take (i := 2) (oi := ⟨some 8, _, _, _, _, _⟩) (v := ?_) rfl (by kernel_rfl) (by kernel_rfl) (by kernel_rfl) (fun _ _ _ h => h) (Or.inl ⟨by rfl, ?_⟩) hHeld ?_
  rotate_left
  · (intro w hSw; go_simp; try with_reducible rfl)
  try simp only [Act.put, List.setIfInBounds_toArray, List.set_cons_zero, List.set_cons_succ]
  refine wpAnyH_take (i := 3) (oi := ⟨some 9, _, _, _, _, _⟩) (v := ?_) rfl (by kernel_rfl) (by kernel_rfl) (by kernel_rfl) (fun _ _ _ h => h) (Or.inl ⟨by rfl, ?_⟩) hHeld ?_
  rotate_left
  · (intro w hSw; go_simp; try with_reducible rfl)
  try simp only [Act.put, List.setIfInBounds_toArray, List.set_cons_zero, List.set_cons_succ]
  refine wpAnyH_take (i := 5) (oi := ⟨some 11, _, _, _, _, _⟩) (v := ?_) rfl (by kernel_rfl) (by kernel_rfl) (by kernel_rfl) (fun _ _ _ h => h) (Or.inl ⟨by rfl, ?_⟩) hHeld ?_
  rotate_left
  · (intro w hSw; go_simp; try with_reducible rfl)
  try simp only [Act.put, List.setIfInBounds_toArray, List.set_cons_zero, List.set_cons_succ]
  refine wpAnyH_ready (rs := [4, 6]) (by kernel_rfl) (by simp) ?_
  refine (AllReadyH.cons (o := ⟨some 10, _, _, _, _, _⟩) rfl (fun K hK => ?_) (AllReadyH.cons (o := ⟨some 12, _, _, _, _, _⟩) rfl (fun K hK => ?_) AllReadyH.nil))
  · go_simp
    refine hK.out _ _ (trivial) (fun hHeld => ?_)
    clear hK K
    try simp only [Act.put, List.setIfInBounds_toArray, List.set_cons_zero, List.set_cons_succ]
    refine wpAnyH_ready (rs := [6]) (by kernel_rfl) (by simp) ?_
    refine (AllReadyH.cons (o := ⟨some 12, _, _, _, _, _⟩) rfl (fun K hK => ?_) AllReadyH.nil)
    go_simp
    (refine (HC.out _ ((Below.refl _ _).drew)).mono ?_; rintro e w1 ⟨v2, rfl, hown2, hb2⟩)
    obtain ⟨p2, d2, rfl, _, _⟩ := own_shape hown2
    have hb3 : Below w.heap.size w w1 := ((Below.refl w.heap.size w).drew).trans hb2
    have hB1 := hB.kept hb3
    have hc1 := hB1.cell 0
    simp only [List.getElem?_cons_zero] at hc1
    have ho1 := own_fr hown (Fr.of_below hb3 (fun _ => False)) (fun _ _ h => h)
    have r2 := own_rd hown2
    refine hK.out _ _ (trivial) (fun hHeld => ?_)
    clear hK K
    try simp only [Act.put, List.setIfInBounds_toArray, List.set_cons_zero, List.set_cons_succ]
    refine wpAnyH_ready (rs := [7]) (by kernel_rfl) (by simp) ?_
    refine (AllReadyH.cons (o := ⟨some 13, _, _, _, _, _⟩) rfl (fun K hK => ?_) AllReadyH.nil)
    (refine step_appM (by rfl) (.tmp 10) (.tmp 12) 23 (by rfl) 0 5 _ 1 1 Try.underlying23 u8_info (by rfl) (by omega) (.slice p0 n c0) n (bys l) (by rfl) ho1 w1.heap.size p2 F.length d2 (bys F) (by rfl) (by rw [bys_len, Nat.mul_one]) r2 (bys_one _) (by omega) (by omega) (Nat.zero_le _) ?_; intro v3 w3 hown3 _ hat3 hg3)
    obtain ⟨p3, d3, hv3, _, _⟩ := own_shape hown3
    subst hv3
    have hB3 := hB1.grown hg3 (fun e => HX.out e.symm)
    have hf3 := hB3.free 0
    have hc3 := hB3.cell 0
    simp only [List.getElem?_cons_zero] at hc3
    have HB3 := Lib.hid hB3
    have HO3 := Lib.hid hown3
    have HA3 := Lib.hid hat3
    have HG3 := Lib.hid hg3
    have HB13 := Lib.hid hb3
    clear hB3 hown3 hat3 hg3 hown2 r2 ho1 hB1 hc1 hb2 hb3
    refine hK.out _ _ (trivial) (fun hHeld => ?_)
    clear hK K
    try simp only [Act.put, List.setIfInBounds_toArray, List.set_cons_zero, List.set_cons_succ]
    refine wpAnyH_take (i := 8) (oi := ⟨some 14, _, _, _, _, _⟩) (v := ?_) rfl (by kernel_rfl) (by kernel_rfl) (by kernel_rfl) (fun _ _ _ h => h) (Or.inl ⟨by rfl, ?_⟩) hHeld ?_
    rotate_left
    · (intro w hSw; go_simp; try with_reducible rfl)
    try simp only [Act.put, List.setIfInBounds_toArray, List.set_cons_zero, List.set_cons_succ]
    refine wpAnyH_take (i := 9) (oi := ⟨some 15, _, _, _, _, _⟩) (v := ?_) rfl (by kernel_rfl) (by kernel_rfl) (by kernel_rfl) (fun _ _ _ h => h) (Or.inl ⟨by rfl, ?_⟩) hHeld ?_
    rotate_left
    · (intro w hSw; go_simp; try with_reducible rfl)
    try simp only [Act.put, List.setIfInBounds_toArray, List.set_cons_zero, List.set_cons_succ]
    refine wpAnyH_ready (rs := [10]) (by kernel_rfl) (by simp) ?_
    refine (AllReadyH.cons (o := ⟨none, _, _, _, _, _⟩) rfl (fun K hK => ?_) AllReadyH.nil)
    go_simp
    refine hK.out _ _ (trivial) (fun hHeld => ?_)
    clear hK K
    try simp only [Act.put, List.setIfInBounds_toArray, List.set_cons_zero, List.set_cons_succ]
    refine wpAnyH_done (by kernel_rfl) ?_ _
    refine NoPanic.normal ?_
    go_wp2_with fail
    go_end0
    exact ⟨rfl, (HEND.out _ _ _ _ HB13.out HG3.out HA3.out HB3.out HO3.out).2⟩
  · go_simp
    (refine (HC.out _ ((Below.refl _ _).drew)).mono ?_; rintro e w1 ⟨v2, rfl, hown2, hb2⟩)
    obtain ⟨p2, d2, rfl, _, _⟩ := own_shape hown2
    have hb3 : Below w.heap.size w w1 := ((Below.refl w.heap.size w).drew).trans hb2
    have hB1 := hB.kept hb3
    have hc1 := hB1.cell 0
    simp only [List.getElem?_cons_zero] at hc1
    have ho1 := own_fr hown (Fr.of_below hb3 (fun _ => False)) (fun _ _ h => h)
    have r2 := own_rd hown2
    refine hK.out _ _ (trivial) (fun hHeld => ?_)
    clear hK K
    try simp only [Act.put, List.setIfInBounds_toArray, List.set_cons_zero, List.set_cons_succ]
    refine wpAnyH_ready (rs := [4]) (by kernel_rfl) (by simp) ?_
    refine (AllReadyH.cons (o := ⟨some 10, _, _, _, _, _⟩) rfl (fun K hK => ?_) AllReadyH.nil)
    go_simp
    refine hK.out _ _ (trivial) (fun hHeld => ?_)
    clear hK K
    try simp only [Act.put, List.setIfInBounds_toArray, List.set_cons_zero, List.set_cons_succ]
    refine wpAnyH_ready (rs := [7]) (by kernel_rfl) (by simp) ?_
    refine (AllReadyH.cons (o := ⟨some 13, _, _, _, _, _⟩) rfl (fun K hK => ?_) AllReadyH.nil)
    (refine step_appM (by rfl) (.tmp 10) (.tmp 12) 23 (by rfl) 0 5 _ 1 1 Try.underlying23 u8_info (by rfl) (by omega) (.slice p0 n c0) n (bys l) (by rfl) ho1 w1.heap.size p2 F.length d2 (bys F) (by rfl) (by rw [bys_len, Nat.mul_one]) r2 (bys_one _) (by omega) (by omega) (Nat.zero_le _) ?_; intro v3 w3 hown3 _ hat3 hg3)
    obtain ⟨p3, d3, hv3, _, _⟩ := own_shape hown3
    subst hv3
    have hB3 := hB1.grown hg3 (fun e => HX.out e.symm)
    have hf3 := hB3.free 0
    have hc3 := hB3.cell 0
    simp only [List.getElem?_cons_zero] at hc3
    have HB3 := Lib.hid hB3
    have HO3 := Lib.hid hown3
    have HA3 := Lib.hid hat3
    have HG3 := Lib.hid hg3
    have HB13 := Lib.hid hb3
    clear hB3 hown3 hat3 hg3 hown2 r2 ho1 hB1 hc1 hb2 hb3
    refine hK.out _ _ (trivial) (fun hHeld => ?_)
    clear hK K
    try simp only [Act.put, List.setIfInBounds_toArray, List.set_cons_zero, List.set_cons_succ]
    refine wpAnyH_take (i := 8) (oi := ⟨some 14, _, _, _, _, _⟩) (v := ?_) rfl (by kernel_rfl) (by kernel_rfl) (by kernel_rfl) (fun _ _ _ h => h) (Or.inl ⟨by rfl, ?_⟩) hHeld ?_
    rotate_left
    · (intro w hSw; go_simp; try with_reducible rfl)
    try simp only [Act.put, List.setIfInBounds_toArray, List.set_cons_zero, List.set_cons_succ]
    refine wpAnyH_take (i := 9) (oi := ⟨some 15, _, _, _, _, _⟩) (v := ?_) rfl (by kernel_rfl) (by kernel_rfl) (by kernel_rfl) (fun _ _ _ h => h) (Or.inl ⟨by rfl, ?_⟩) hHeld ?_
    rotate_left
    · (intro w hSw; go_simp; try with_reducible rfl)
    try simp only [Act.put, List.setIfInBounds_toArray, List.set_cons_zero, List.set_cons_succ]
    refine wpAnyH_ready (rs := [10]) (by kernel_rfl) (by simp) ?_
    refine (AllReadyH.cons (o := ⟨none, _, _, _, _, _⟩) rfl (fun K hK => ?_) AllReadyH.nil)
    go_simp
    refine hK.out _ _ (trivial) (fun hHeld => ?_)
    clear hK K
    try simp only [Act.put, List.setIfInBounds_toArray, List.set_cons_zero, List.set_cons_succ]
    refine wpAnyH_done (by kernel_rfl) ?_ _
    refine NoPanic.normal ?_
    go_wp2_with fail
    go_end0
    exact ⟨rfl, (HEND.out _ _ _ _ HB13.out HG3.out HA3.out HB3.out HO3.out).2⟩
end Go.Proofs.Ytmhkbchbglnbpaa
