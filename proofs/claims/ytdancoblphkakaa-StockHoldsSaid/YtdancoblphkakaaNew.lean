/- New. -/
import Derived.Test.YtdancoblphkakaaState
namespace Go.Proofs.Ytdancoblphkakaa
open Go.RowKit

def zer (n : Nat) : List Int := List.replicate n 0
def zerG (n : Nat) : List (List Int) := List.replicate n (zer n)
theorem zer_ints (n : Nat) : ints (zer n) = List.replicate n (.int .i64 0) := by simp [ints, zer]
theorem num_zer (n : Nat) : Num (zerG n) (zer n) := by
  refine ⟨fun i k => ?_, fun i => ?_⟩
  · unfold ga zerG zer
    rw [List.getD_eq_getElem?_getD, List.getD_eq_getElem?_getD, List.getElem?_replicate]
    split
    · simp only [Option.getD_some]; rw [List.getElem?_replicate]; split <;> simp
    · simp
  · unfold da zer
    rw [List.getD_eq_getElem?_getD, List.getElem?_replicate]; split <;> simp
/-- While a stock is made. -/
structure NewP (w wr : World) (X ob db n k : Nat) (rs : List (Nat × Nat)) : Prop where
  r : RowsP w wr ob n k (zerG n) rs
  hX : Blk wr X 43 [.slice (some ⟨ob, 0, none⟩) n n, .slice (some ⟨db, 0, none⟩) n n]
  hD : Row wr db (zer n)
  lo : w.heap.size ≤ X ∧ w.heap.size ≤ db
  nd : ∀ r ∈ rs, r.1 ≠ db
section
variable {w wr : World} {X ob db n k : Nat} {rs : List (Nat × Nat)}
theorem newp_of {W : World} (hB : Below w.heap.size w W) (hO : Blk W ob 23 (List.replicate n (.slice none 0 0))) (hD : Blk W db 3 (List.replicate n (.int .i64 0))) (hX : Blk W X 43 [.slice (some ⟨ob, 0, none⟩) n n, .slice (some ⟨db, 0, none⟩) n n]) (l1 : w.heap.size ≤ X) (l2 : w.heap.size ≤ ob) (l3 : w.heap.size ≤ db) : NewP w W X ob db n 0 [] :=
  ⟨⟨hB, by simpa using hO, rfl, l2, fun i h => by simp at h, fun r h => by simp at h, fun i j h => by simp at h⟩, hX, Row.of_blk (by rw [zer_ints]; exact hD), ⟨l1, l3⟩, fun r h => by simp at h⟩
theorem newp_a (w : World) (n : Nat) (zs ys : List Value) (hz : List.replicate n (Value.int .i64 0) = zs) (hy : List.replicate n (Value.slice none 0 0) = ys) :
    NewP w (((w.alloc (.cells ys.toArray 23)).alloc (.cells zs.toArray 3)).alloc (.cells #[.slice (some ⟨w.heap.size, 0, none⟩) n n, .slice (some ⟨w.heap.size + 1, 0, none⟩) n n] 43)) (w.heap.size + 2) w.heap.size (w.heap.size + 1) n 0 [] := by
  subst hz hy
  have hB0 : Below w.heap.size w w := Below.refl _ _
  refine newp_of (((hB0.alloc (Nat.le_refl _) _).alloc (by simp <;> omega) _).alloc (by simp <;> omega) _) ?_ ?_ ?_ (by omega) (by omega) (by omega)
  · exact ((Blk.new' w 23 _ rfl).alloc _).alloc _
  · exact (Blk.new' _ 3 _ (by simp <;> omega)).alloc _
  · exact Blk.new' _ 43 _ (by simp <;> omega)
theorem newp_b (w : World) (n : Nat) (zs ys : List Value) (hz : List.replicate n (Value.int .i64 0) = zs) (hy : List.replicate n (Value.slice none 0 0) = ys) :
    NewP w (((w.alloc (.cells zs.toArray 3)).alloc (.cells ys.toArray 23)).alloc (.cells #[.slice (some ⟨w.heap.size + 1, 0, none⟩) n n, .slice (some ⟨w.heap.size, 0, none⟩) n n] 43)) (w.heap.size + 2) (w.heap.size + 1) w.heap.size n 0 [] := by
  subst hz hy
  have hB0 : Below w.heap.size w w := Below.refl _ _
  refine newp_of (((hB0.alloc (Nat.le_refl _) _).alloc (by simp <;> omega) _).alloc (by simp <;> omega) _) ?_ ?_ ?_ (by omega) (by omega) (by omega)
  · exact (Blk.new' _ 23 _ (by simp <;> omega)).alloc _
  · exact ((Blk.new' w 3 _ rfl).alloc _).alloc _
  · exact Blk.new' _ 43 _ (by simp <;> omega)
theorem NewP.drew (h : NewP w wr X ob db n k rs) : NewP w wr.drew X ob db n k rs := by
  have hB : Below wr.heap.size wr wr.drew := (Below.refl _ _).drew
  exact ⟨h.r.kept hB, h.hX.kept hB, h.hD.kept hB, h.lo, h.nd⟩
theorem NewP.spot {w2 : World} (h : NewP w wr X ob db n k rs) (hk : k < n) (hb : Below wr.heap.size wr w2) : ∃ z, w2.cell? ⟨ob, k, none⟩ = some z := by
  rw [(h.r.hG.kept hb).cell k]
  have : k < (rs.map (rowV n) ++ List.replicate (n - k) (Value.slice none 0 0)).length := by have := h.r.len; simp; omega
  exact ⟨_, List.getElem?_eq_getElem this⟩
theorem NewP.step (h : NewP w wr X ob db n k rs) (hk : k < n) (hn : n ≤ 1000) (zs : List Value) (hz : List.replicate n (Value.int .i64 0) = zs) :
    NewP w ((wr.alloc (.cells zs.toArray 3)).drew.setCell ⟨ob, k, none⟩ (.slice (some ⟨wr.heap.size, 0, none⟩) n n)) X ob db n (k + 1) (rs ++ [(wr.heap.size, n)]) := by
  subst hz
  have hB : Below wr.heap.size wr (wr.alloc (.cells (List.replicate n (Value.int .i64 0)).toArray 3)).drew := ((Below.refl _ _).alloc (Nat.le_refl _) _).drew
  have hrow : Row (wr.alloc (.cells (List.replicate n (Value.int .i64 0)).toArray 3)).drew wr.heap.size (zer n) := Row.of_blk (by rw [zer_ints]; exact (Blk.new wr 3 _).kept (Below.refl _ _).drew)
  have hkG : k < (zerG n).length := by simpa [zerG] using hk
  have eG : (zerG n)[k] = zer n := by simp [zerG]
  have hr := h.r.step hkG hk hB (by rw [eG]; exact hrow) (Nat.le_refl _) (Nat.le_refl n) (by unfold maxLen; omega)
  have hX2 := h.hX.kept hB
  have hO2 := h.r.hG.kept hB
  obtain ⟨cs, hD2, hpre⟩ := h.hD.kept hB
  refine ⟨hr, hX2.far (p := ⟨ob, k, none⟩) (type_ne hX2 hO2 (by decide)) _, ⟨cs, hD2.far (p := ⟨ob, k, none⟩) (type_ne hD2 hO2 (by decide)) _, hpre⟩, h.lo, fun r hr2 => ?_⟩
  rw [List.mem_append] at hr2
  rcases hr2 with hr2 | hr2
  · exact h.nd r hr2
  · simp at hr2
    subst hr2
    have := h.hD.lt
    simp; omega
theorem NewP.done (h : NewP w wr X ob db n n rs) (h0 : 1 ≤ n) (h1 : n ≤ 16) : NewSt w X (zerG n) (zer n) wr := by
  have lG : (zerG n).length = n := by simp [zerG]
  have hml : n ≤ maxLen := by unfold maxLen; omega
  have hG := h.r.hG
  rw [Nat.sub_self] at hG
  refine ⟨fun b => w.heap.size ≤ b ∧ b < wr.heap.size, ⟨by omega, by omega, num_zer n, ob, n, db, n, rs, ?_⟩, h.r.hb, fun b hb => hb.1⟩
  refine ⟨by rw [lG]; exact h.hX, ⟨_, hG, by rw [lG]; simp⟩, h.hD, by simp [zerG, zer], by rw [lG]; exact h.r.len, fun i a b => ⟨by simp [zerG, zer], h.r.row i a b⟩, h.r.dis, h.nd, by rw [lG]; exact ⟨fun r hr => (h.r.bd r hr).2.2, Nat.le_refl _, hml, Nat.le_refl _, hml⟩, ⟨h.lo.1, h.hX.lt⟩, ⟨h.r.lo, h.r.lt⟩, ⟨h.lo.2, h.hD.lt⟩, fun r hr => ⟨by have := h.r.bd r hr; have := h.r.lo; omega, (h.r.bd r hr).2.1⟩, fun b hb => hb.2⟩
end
def RetNew (w : World) (n : Nat) (e : Ending) (w' : World) : Prop := ∃ X, e = .returned (.tuple #[.pointer (some ⟨X, 0, none⟩), .int .i64 0]) ∧ NewSt w X (zerG n) (zer n) w'
set_option maxHeartbeats 1000000 in
theorem new_yes (n : Nat) (w : World) (h1 : 1 ≤ n) (h2 : n ≤ 16) : Calls Try.prog 17 #[.int .i64 n] w (RetNew w n) := by
  have hmk := fun w => run_mk (P := Try.prog) 22 23 (.slice none 0 0) 24 Try.underlying22 sl_info rfl .i64 .i64 n (by omega) (by omega) (by omega) w
  have hmk2 := fun w => run_mk (P := Try.prog) 23 3 (.int .i64 0) 8 Try.underlying23 int_info rfl .i64 .i64 n (by omega) (by omega) (by omega) w
  obtain ⟨ys, hy⟩ : ∃ ys, List.replicate n (Value.slice none 0 0) = ys := ⟨_, rfl⟩
  obtain ⟨zs, hz⟩ : ∃ zs, List.replicate n (Value.int .i64 0) = zs := ⟨_, rfl⟩
  rw [Int.toNat_natCast, hy] at hmk
  rw [Int.toNat_natCast, hz] at hmk2
  have HZ := Lib.hid hz
  have HY := Lib.hid hy
  have hn1 : (1 : Int) ≤ (n : Int) := by omega
  have hn2 : (n : Int) ≤ 16 := by omega
  clear hz hy
  go_enter Try.func17, Try.ntmps17
  go_upto_region 3 with fail
  go_cut [4] (fun v W => ∃ X ob db, v = .pointer (some ⟨X, 0, none⟩) ∧ NewP w W X ob db n 0 [])
  case first =>
    refine wp_region_noPanic ?_
    refine wp_region_held_drew (S := fun _ => True) (by kernel_rfl) (trivial) (fun hHeld => ?_)
    refine wpAnyH_take (i := 0) (oi := ⟨some 12, _, _, _, _, _⟩) (v := ?_) rfl (by kernel_rfl) (by kernel_rfl) (by kernel_rfl) (fun _ _ _ h => h) (Or.inl ⟨by rfl, ?_⟩) hHeld ?_
    rotate_left
    · (intro w hSw; go_simp; try with_reducible rfl)
    try simp only [Act.put, List.setIfInBounds_toArray, List.set_cons_zero, List.set_cons_succ]
    refine wpAnyH_take (i := 2) (oi := ⟨some 14, _, _, _, _, _⟩) (v := ?_) rfl (by kernel_rfl) (by kernel_rfl) (by kernel_rfl) (fun _ _ _ h => h) (Or.inl ⟨by rfl, ?_⟩) hHeld ?_
    rotate_left
    · (intro w hSw; go_simp; try with_reducible rfl)
    try simp only [Act.put, List.setIfInBounds_toArray, List.set_cons_zero, List.set_cons_succ]
    refine wpAnyH_ready (rs := [1, 3]) (by kernel_rfl) (by simp) ?_
    refine (AllReadyH.cons (o := ⟨some 13, _, _, _, _, _⟩) rfl (fun K hK => ?_) (AllReadyH.cons (o := ⟨some 15, _, _, _, _, _⟩) rfl (fun K hK => ?_) AllReadyH.nil))
    · go_simp
      refine hK.out _ _ (trivial) (fun hHeld => ?_)
      clear hK K
      try simp only [Act.put, List.setIfInBounds_toArray, List.set_cons_zero, List.set_cons_succ]
      refine wpAnyH_ready (rs := [3]) (by kernel_rfl) (by simp) ?_
      refine (AllReadyH.cons (o := ⟨some 15, _, _, _, _, _⟩) rfl (fun K hK => ?_) AllReadyH.nil)
      go_simp
      refine hK.out _ _ (trivial) (fun hHeld => ?_)
      clear hK K
      try simp only [Act.put, List.setIfInBounds_toArray, List.set_cons_zero, List.set_cons_succ]
      refine wpAnyH_take (i := 4) (oi := ⟨some 16, _, _, _, _, _⟩) (v := ?_) rfl (by kernel_rfl) (by kernel_rfl) (by kernel_rfl) (fun _ _ _ h => h) (Or.inl ⟨by rfl, ?_⟩) hHeld ?_
      rotate_left
      · (intro w hSw; go_simp; try with_reducible rfl)
      try simp only [Act.put, List.setIfInBounds_toArray, List.set_cons_zero, List.set_cons_succ]
      refine wpAnyH_ready (rs := [5]) (by kernel_rfl) (by simp) ?_
      refine (AllReadyH.cons (o := ⟨some 17, _, _, _, _, _⟩) rfl (fun K hK => ?_) AllReadyH.nil)
      go_simp
      refine hK.out _ _ (trivial) (fun hHeld => ?_)
      clear hK K
      try simp only [Act.put, List.setIfInBounds_toArray, List.set_cons_zero, List.set_cons_succ]
      refine wpAnyH_take (i := 6) (oi := ⟨some 4, _, _, _, _, _⟩) (v := ?_) rfl (by kernel_rfl) (by kernel_rfl) (by kernel_rfl) (fun _ _ _ h => h) (Or.inl ⟨by rfl, ?_⟩) hHeld ?_
      rotate_left
      · (intro w hSw; go_simp; try with_reducible rfl)
      try simp only [Act.put, List.setIfInBounds_toArray, List.set_cons_zero, List.set_cons_succ]
      refine wpAnyH_done (by kernel_rfl) ?_ _
      refine NoPanic.normal ?_
      generalize hW : (World.alloc _ _) = W
      have hP : NewP w W (w.heap.size + 2) w.heap.size (w.heap.size + 1) n 0 [] := by
        rw [← hW]
        exact newp_a w n zs ys HZ.out HY.out
      clear hW
      go_wp2_with fail
      go_meet
      exact ⟨_, _, _, rfl, hP.drew⟩
    · go_simp
      refine hK.out _ _ (trivial) (fun hHeld => ?_)
      clear hK K
      try simp only [Act.put, List.setIfInBounds_toArray, List.set_cons_zero, List.set_cons_succ]
      refine wpAnyH_ready (rs := [1]) (by kernel_rfl) (by simp) ?_
      refine (AllReadyH.cons (o := ⟨some 13, _, _, _, _, _⟩) rfl (fun K hK => ?_) AllReadyH.nil)
      go_simp
      refine hK.out _ _ (trivial) (fun hHeld => ?_)
      clear hK K
      try simp only [Act.put, List.setIfInBounds_toArray, List.set_cons_zero, List.set_cons_succ]
      refine wpAnyH_take (i := 4) (oi := ⟨some 16, _, _, _, _, _⟩) (v := ?_) rfl (by kernel_rfl) (by kernel_rfl) (by kernel_rfl) (fun _ _ _ h => h) (Or.inl ⟨by rfl, ?_⟩) hHeld ?_
      rotate_left
      · (intro w hSw; go_simp; try with_reducible rfl)
      try simp only [Act.put, List.setIfInBounds_toArray, List.set_cons_zero, List.set_cons_succ]
      refine wpAnyH_ready (rs := [5]) (by kernel_rfl) (by simp) ?_
      refine (AllReadyH.cons (o := ⟨some 17, _, _, _, _, _⟩) rfl (fun K hK => ?_) AllReadyH.nil)
      go_simp
      refine hK.out _ _ (trivial) (fun hHeld => ?_)
      clear hK K
      try simp only [Act.put, List.setIfInBounds_toArray, List.set_cons_zero, List.set_cons_succ]
      refine wpAnyH_take (i := 6) (oi := ⟨some 4, _, _, _, _, _⟩) (v := ?_) rfl (by kernel_rfl) (by kernel_rfl) (by kernel_rfl) (fun _ _ _ h => h) (Or.inl ⟨by rfl, ?_⟩) hHeld ?_
      rotate_left
      · (intro w hSw; go_simp; try with_reducible rfl)
      try simp only [Act.put, List.setIfInBounds_toArray, List.set_cons_zero, List.set_cons_succ]
      refine wpAnyH_done (by kernel_rfl) ?_ _
      refine NoPanic.normal ?_
      generalize hW : (World.alloc _ _) = W
      have hP : NewP w W (w.heap.size + 2) (w.heap.size + 1) w.heap.size n 0 [] := by
        rw [← hW]
        exact newp_b w n zs ys HZ.out HY.out
      clear hW
      go_wp2_with fail
      go_meet
      exact ⟨_, _, _, rfl, hP.drew⟩
  case rest =>
  obtain ⟨X, ob, db, rfl, hP⟩ := hcut
  have hc0 := hP.hX.cell 0
  go_wp2_with fail
  go_loopw [23] (fun i wr => ∃ (k : Nat) (rs : List (Nat × Nat)), k ≤ n ∧ i = .int .i64 k ∧ NewP w wr X ob db n k rs) (fun i _ => n - (intOf i).toNat)
  case atStart => exact ⟨0, [], Nat.zero_le _, rfl, hP⟩
  case round =>
    clear hP hc0
    obtain ⟨k, rs, hk, rfl, hP⟩ := hrel
    by_cases hlt : k < n
    · have hki : (k : Int) < (n : Int) := by omega
      have hc0 := hP.hX.cell 0
      have hXl := hP.hX.lt
      have hPs := hP.step hlt (by omega) zs HZ.out
      have hB1 : Below wr.heap.size wr (wr.alloc (.cells zs.toArray 3)).drew := ((Below.refl _ _).alloc (Nat.le_refl _) _).drew
      obtain ⟨z, hO2⟩ := hP.spot hlt hB1
      have hf2 := (hP.r.hG.kept hB1).free k
      clear hP
      go_upto_region 7 with fail
      refine wp_region_noPanic ?_
      refine wp_region_held_drew (S := fun w' => w'.cell? ⟨X, 0, none⟩ = some (.slice (some ⟨ob, 0, none⟩) n n)) (by kernel_rfl) (hc0) (fun hHeld => ?_)
      refine wpAnyH_take (i := 0) (oi := ⟨some 26, _, _, _, _, _⟩) (v := ?_) rfl (by kernel_rfl) (by kernel_rfl) (by kernel_rfl) (fun _ _ _ h => h) (Or.inl ⟨by rfl, ?_⟩) hHeld ?_
      rotate_left
      · (intro w hSw; have s0 := hSw; go_simp; try with_reducible rfl)
      try simp only [Act.put, List.setIfInBounds_toArray, List.set_cons_zero, List.set_cons_succ]
      refine wpAnyH_take (i := 1) (oi := ⟨some 27, _, _, _, _, _⟩) (v := ?_) rfl (by kernel_rfl) (by kernel_rfl) (by kernel_rfl) (fun _ _ _ h => h) (Or.inl ⟨by rfl, ?_⟩) hHeld ?_
      rotate_left
      · (intro w hSw; have s0 := hSw; go_simp; try with_reducible rfl)
      try simp only [Act.put, List.setIfInBounds_toArray, List.set_cons_zero, List.set_cons_succ]
      refine wpAnyH_take (i := 2) (oi := ⟨some 28, _, _, _, _, _⟩) (v := ?_) rfl (by kernel_rfl) (by kernel_rfl) (by kernel_rfl) (fun _ _ _ h => h) (Or.inl ⟨by rfl, ?_⟩) hHeld ?_
      rotate_left
      · (intro w hSw; have s0 := hSw; go_simp; try with_reducible rfl)
      try simp only [Act.put, List.setIfInBounds_toArray, List.set_cons_zero, List.set_cons_succ]
      refine wpAnyH_take (i := 3) (oi := ⟨some 29, _, _, _, _, _⟩) (v := ?_) rfl (by kernel_rfl) (by kernel_rfl) (by kernel_rfl) (fun _ _ _ h => h) (Or.inl ⟨by rfl, ?_⟩) hHeld ?_
      rotate_left
      · (intro w hSw; have s0 := hSw; go_simp; try with_reducible rfl)
      try simp only [Act.put, List.setIfInBounds_toArray, List.set_cons_zero, List.set_cons_succ]
      refine wpAnyH_take (i := 4) (oi := ⟨some 30, _, _, _, _, _⟩) (v := ?_) rfl (by kernel_rfl) (by kernel_rfl) (by kernel_rfl) (fun _ _ _ h => h) (Or.inl ⟨by rfl, ?_⟩) hHeld ?_
      rotate_left
      · (intro w hSw; have s0 := hSw; go_simp; try with_reducible rfl)
      try simp only [Act.put, List.setIfInBounds_toArray, List.set_cons_zero, List.set_cons_succ]
      refine wpAnyH_take (i := 5) (oi := ⟨some 31, _, _, _, _, _⟩) (v := ?_) rfl (by kernel_rfl) (by kernel_rfl) (by kernel_rfl) (fun _ _ _ h => h) (Or.inl ⟨by rfl, ?_⟩) hHeld ?_
      rotate_left
      · (intro w hSw; have s0 := hSw; go_simp; try with_reducible rfl)
      try simp only [Act.put, List.setIfInBounds_toArray, List.set_cons_zero, List.set_cons_succ]
      refine wpAnyH_ready (rs := [6]) (by kernel_rfl) (by simp) ?_
      refine (AllReadyH.cons (o := ⟨some 32, _, _, _, _, _⟩) rfl (fun K hK => ?_) AllReadyH.nil)
      go_simp
      refine hK.out _ _ ((hB1.cell (p := ⟨X, 0, none⟩) hXl).trans hc0) (fun hHeld => ?_)
      clear hK K
      try simp only [Act.put, List.setIfInBounds_toArray, List.set_cons_zero, List.set_cons_succ]
      refine wpAnyH_take (i := 7) (oi := ⟨some 33, _, _, _, _, _⟩) (v := ?_) rfl (by kernel_rfl) (by kernel_rfl) (by kernel_rfl) (fun _ _ _ h => h) (Or.inl ⟨by rfl, ?_⟩) hHeld ?_
      rotate_left
      · (intro w hSw; have s0 := hSw; go_simp; try with_reducible rfl)
      try simp only [Act.put, List.setIfInBounds_toArray, List.set_cons_zero, List.set_cons_succ]
      refine wpAnyH_ready (rs := [8]) (by kernel_rfl) (by simp) ?_
      refine (AllReadyH.cons (o := ⟨none, _, _, _, _, _⟩) rfl (fun K hK => ?_) AllReadyH.nil)
      go_simp
      refine hK.out _ _ (hPs.hX.cell 0) (fun hHeld => ?_)
      clear hK K
      try simp only [Act.put, List.setIfInBounds_toArray, List.set_cons_zero, List.set_cons_succ]
      refine wpAnyH_done (by kernel_rfl) ?_ _
      refine NoPanic.normal ?_
      clear hc0 hB1 hO2 hf2
      go_wp2_with fail
      go_roundw
      case rel => exact ⟨k + 1, _, by omega, by go_num, hPs⟩
      case measure => simp [intOf]; omega
    · have hkn : k = n := by omega
      subst hkn
      have HN := Lib.hid (hP.done (by omega) (by omega))
      clear hP
      go_wp2_with fail
      go_ret2
      exact ⟨_, rfl, HN.out⟩
theorem new_no (s : Int) (w : World) (h : ¬ (1 ≤ s ∧ s ≤ 16)) : Calls Try.prog 17 #[.int .i64 s] w fun e w' => e = .returned (.tuple #[.pointer none, .int .i64 2]) ∧ w = w' := by
  by_cases h1 : s < 1
  · clear h
    go_enter Try.func17, Try.ntmps17
    go_wp2_with fail
    go_ret2
    exact ⟨rfl, rfl⟩
  · have h2 : 16 < s := by omega
    have h3 : 1 ≤ s := by omega
    clear h h1
    go_enter Try.func17, Try.ntmps17
    go_wp2_with fail
    go_ret2
    exact ⟨rfl, rfl⟩
end Go.Proofs.Ytdancoblphkakaa
