/- A state of the caller's own: it lies in new blocks and may be written. -/
import Derived.Test.YtdancoblphkakaaObs
namespace Go.Proofs.Ytdancoblphkakaa
open Go.RowKit

/-- A state by value, all of its slices the caller's own. -/
structure OwnSt (B : Nat) (w : World) (v1 v2 : Value) (vs : List Value) (G : List (List Int)) (D : List Int) : Prop where
  g : w.ownsRow B 23 1 v1 G.length vs
  row : ∀ i (_ : i < vs.length) (_ : i < G.length), w.ownsRow B 3 1 vs[i] (G[i]).length (ints G[i])
  d : w.ownsRow B 3 1 v2 D.length (ints D)
  dis : ∀ i j (_ : i < vs.length) (_ : j < vs.length), i ≠ j → ∀ b, (vs[i]).ownBlock = some b → (vs[j]).ownBlock ≠ some b
  nd : ∀ i (_ : i < vs.length) b, (vs[i]).ownBlock = some b → v2.ownBlock ≠ some b
section
variable {w w' w1 w0 : World} {U V T : Nat → Prop} {v v1 v2 : Value} {vs : List Value} {B : Nat} {G G' : List (List Int)} {D D' : List Int}
theorem OwnSt.len (h : OwnSt B w v1 v2 vs G D) : vs.length = G.length := by have := h.g.1; omega
theorem OwnSt.val (h : OwnSt B w v1 v2 vs G D) : VS w (fun b => B ≤ b) (.agg #[v1, v2]) G D := by
  obtain ⟨p, c, rfl, _, _⟩ := own_shape h.g
  obtain ⟨q, d, rfl, _, _⟩ := own_shape h.d
  refine ⟨p, c, q, d, vs, rfl, RdU.of_own h.g (fun b h _ => h), h.len, fun i hi hi2 => ?_, RdU.of_own h.d (fun b h _ => h)⟩
  obtain ⟨q, c, e, _, _⟩ := own_shape (h.row i hi hi2)
  have hr := h.row i hi hi2
  rw [e] at hr
  exact ⟨q, c, e, RdU.of_own hr (fun b h _ => h)⟩
/-- The same with blocks, for a state in which nothing is empty. -/
structure OSt (B : Nat) (w : World) (gb gc db dc : Nat) (rs : List (Nat × Nat)) (G : List (List Int)) (D : List Int) : Prop where
  hG : ∃ cs, Blk w gb 23 cs ∧ rs.map (rowV G.length) <+: cs
  hD : Row w db D
  lD : D.length = G.length
  lR : rs.length = G.length
  row : ∀ i (h : i < rs.length) (h2 : i < G.length), (G[i]).length = G.length ∧ Row w (rs[i]).1 G[i]
  dis : ∀ i j (h : i < rs.length) (h2 : j < rs.length), i ≠ j → (rs[i]).1 ≠ (rs[j]).1
  nd : ∀ r ∈ rs, r.1 ≠ db
  lo : B ≤ gb ∧ B ≤ db ∧ ∀ r ∈ rs, B ≤ r.1
theorem OwnSt.blocks (h : OwnSt B w v1 v2 vs G D) (h0 : 1 ≤ G.length) (hl : ∀ i (_ : i < G.length), (G[i]).length = G.length) (hD : D.length = G.length) :
    ∃ gb gc db dc rs, v1 = .slice (some ⟨gb, 0, none⟩) G.length gc ∧ v2 = .slice (some ⟨db, 0, none⟩) G.length dc ∧ OSt B w gb gc db dc rs G D := by
  have hd := h.d
  rw [hD] at hd
  obtain ⟨db, dc, rfl, e1, e2, _, _⟩ := Row.of_own hd (by omega)
  have hg := h.g
  rcases hg.2 with ⟨_, h2⟩ | ⟨gb, gc, cur, rfl, hb, hh, h1, h2, h3, h4⟩
  · omega
  have each : ∀ i, ∃ r : Nat × Nat, ∀ (hi : i < vs.length) (hi2 : i < G.length), vs[i] = rowV G.length r ∧ B ≤ r.1 ∧ Row w r.1 G[i] := by
    intro i
    by_cases hi : i < vs.length
    · have hi2 : i < G.length := by have := h.len; omega
      have hr := h.row i hi hi2
      rw [hl i hi2] at hr
      obtain ⟨g, c, x1, x2, x3, _, _⟩ := Row.of_own hr (by omega)
      exact ⟨(g, c), fun _ _ => ⟨x1, x2, x3⟩⟩
    · exact ⟨(0, 0), fun h => absurd h hi⟩
  let f : Nat → Nat × Nat := fun i => Classical.choose (each i)
  have hf : ∀ i (hi : i < vs.length) (hi2 : i < G.length), vs[i] = rowV G.length (f i) ∧ B ≤ (f i).1 ∧ Row w (f i).1 G[i] := fun i => Classical.choose_spec (each i)
  have hl2 := h.len
  refine ⟨gb, gc, db, dc, (List.range G.length).map f, rfl, rfl, ⟨cur.toList, by unfold Blk; simpa using hh, ?_⟩, e2, hD, by simp, ?_, ?_, ?_, hb, e1, ?_⟩
  · have e : ((List.range G.length).map f).map (rowV G.length) = vs := by
      refine List.ext_getElem (by simp [hl2]) fun i hi hi2 => ?_
      simp
      exact (hf i hi2 (by omega)).1.symm
    rw [e, ← h4]
    exact List.take_prefix _ _
  · intro i hi hi2
    simp
    exact ⟨hl i hi2, (hf i (by omega) hi2).2.2⟩
  · intro i j hi hj hij e
    simp at hi hj e
    have hi' : i < vs.length := by omega
    have hj' : j < vs.length := by omega
    refine h.dis i j hi' hj' hij (f i).1 ?_ ?_
    · rw [(hf i hi' hi).1]; rfl
    · rw [(hf j hj' hj).1, e]; rfl
  · intro r hr e
    simp at hr
    obtain ⟨i, hi, rfl⟩ := hr
    have hi' : i < vs.length := by omega
    refine h.nd i hi' (f i).1 ?_ ?_
    · rw [(hf i hi' hi).1]; rfl
    · rw [e]; rfl
  · intro r hr
    simp at hr
    obtain ⟨i, hi, rfl⟩ := hr
    exact (hf i (by omega) hi).2.1
section
variable {gb gc db dc : Nat} {rs : List (Nat × Nat)}
theorem OSt.kept (h : OSt B w gb gc db dc rs G D) (k : Below w.heap.size w w') : OSt B w' gb gc db dc rs G D :=
  ⟨by obtain ⟨cs, h1, h2⟩ := h.hG; exact ⟨cs, h1.kept k, h2⟩, h.hD.kept k, h.lD, h.lR, fun i a b => ⟨(h.row i a b).1, (h.row i a b).2.kept k⟩, h.dis, h.nd, h.lo⟩
theorem OSt.atG (h : OSt B w gb gc db dc rs G D) {i : Nat} (hi : i < G.length) : ∃ r c, w.cell? ⟨gb, i, none⟩ = some (.slice (some ⟨r, 0, none⟩) G.length c) ∧ Row w r G[i] ∧ (G[i]).length = G.length ∧ ∃ hr : i < rs.length, rs[i] = (r, c) := by
  have hr : i < rs.length := by rw [h.lR]; exact hi
  obtain ⟨cs, h1, t, rfl⟩ := h.hG
  refine ⟨(rs[i]).1, (rs[i]).2, ?_, (h.row i hr hi).2, (h.row i hr hi).1, hr, rfl⟩
  rw [h1.cell i, List.getElem?_append_left (by simpa using hr), List.getElem?_map, List.getElem?_eq_getElem hr]
  rfl
theorem OSt.neR (h : OSt B w gb gc db dc rs G D) {i : Nat} (hi : i < rs.length) (hG : i < G.length) : (rs[i]).1 ≠ gb := by
  obtain ⟨_, cs, h1, _⟩ := h.row i hi hG
  obtain ⟨ds, h2, _⟩ := h.hG
  exact type_ne h1 h2 (by decide)
theorem OSt.neD (h : OSt B w gb gc db dc rs G D) : db ≠ gb := by
  obtain ⟨cs, h1, _⟩ := h.hD
  obtain ⟨ds, h2, _⟩ := h.hG
  exact type_ne h1 h2 (by decide)
theorem OSt.setG (h : OSt B w gb gc db dc rs G D) {i k : Nat} (hi : i < G.length) (hr : i < rs.length) (hk : k < G.length) (x : Int) :
    OSt B (w.setCell ⟨(rs[i]).1, k, none⟩ (.int .i64 x)) gb gc db dc rs (gset G i k x) D := by
  have n2 := h.neR hr hi
  refine ⟨?_, h.hD.far (fun e => h.nd _ (List.getElem_mem hr) e.symm) _, by rw [gset_len]; exact h.lD, by rw [gset_len]; exact h.lR, ?_, h.dis, h.nd, h.lo⟩
  · obtain ⟨cs, h1, h2⟩ := h.hG
    rw [gset_len]
    exact ⟨cs, h1.far (fun e => n2 e.symm) _, h2⟩
  · intro j hj hj2
    have hj3 : j < G.length := by rw [gset_len] at hj2; exact hj2
    refine ⟨by rw [gset_row G i k x hj2 hj3, gset_len]; exact (h.row j hj hj3).1, ?_⟩
    by_cases hji : j = i
    · subst hji
      have hrow := (h.row j hj hj3).2
      have : (gset G j k x)[j] = (G[j]).set k x := by simp [gset, hj3]
      rw [this]
      exact hrow.set_ (by rw [(h.row j hj hj3).1]; exact hk) x
    · have : (gset G i k x)[j] = G[j] := by simp only [gset]; exact List.getElem_set_ne (fun e => hji e.symm) _
      rw [this]
      exact (h.row j hj hj3).2.far (h.dis j i hj hr hji) _
theorem OSt.setD (h : OSt B w gb gc db dc rs G D) {i : Nat} (hi : i < G.length) (x : Int) :
    OSt B (w.setCell ⟨db, i, none⟩ (.int .i64 x)) gb gc db dc rs G (D.set i x) := by
  have n2 := h.neD
  refine ⟨?_, h.hD.set_ (by rw [h.lD]; exact hi) x, by rw [List.length_set]; exact h.lD, h.lR, ?_, h.dis, h.nd, h.lo⟩
  · obtain ⟨cs, h1, h2⟩ := h.hG
    exact ⟨cs, h1.far (fun e => n2 e.symm) _, h2⟩
  · intro j hj hj2
    exact ⟨(h.row j hj hj2).1, (h.row j hj hj2).2.far (h.nd _ (List.getElem_mem hj)) _⟩
theorem OSt.val (h : OSt B w gb gc db dc rs G D) : VS w (fun b => B ≤ b) (.agg #[.slice (some ⟨gb, 0, none⟩) G.length gc, .slice (some ⟨db, 0, none⟩) G.length dc]) G D := by
  obtain ⟨cs, h1, h2⟩ := h.hG
  have r1 : RdU w (fun b => B ≤ b) (some ⟨gb, 0, none⟩) (rs.map (rowV G.length)) := by
    rcases Rd.of_blk h1 h2 with e | ⟨b, o, hp, hb, hc⟩
    · exact .inl e
    · injection hp with hp; injection hp with e1 e2; subst e1 e2; exact .inr ⟨_, _, rfl, h.lo.1, hb, hc⟩
  have rr : ∀ (g : Nat) (xs : List Int), Row w g xs → B ≤ g → RdU w (fun b => B ≤ b) (some ⟨g, 0, none⟩) (ints xs) := by
    intro g xs hr hB
    rcases hr.rd with e | ⟨b, o, hp, hb, hc⟩
    · exact .inl e
    · injection hp with hp; injection hp with e1 e2; subst e1 e2; exact .inr ⟨_, _, rfl, hB, hb, hc⟩
  refine ⟨_, _, _, _, rs.map (rowV G.length), by rw [h.lD], r1, by simp [h.lR], fun i hi hi2 => ?_, rr _ _ h.hD h.lo.2.1⟩
  have hi3 : i < rs.length := by simpa using hi
  obtain ⟨h3, h4⟩ := h.row i hi3 hi2
  exact ⟨_, (rs[i]).2, by simp [rowV, h3], rr _ _ h4 (h.lo.2.2 _ (List.getElem_mem hi3))⟩
end
end
end Go.Proofs.Ytdancoblphkakaa
