/- Restock, Give and Sell. -/
import Derived.Test.YtdancoblphkakaaReads
namespace Go.Proofs.Ytdancoblphkakaa
open Go.RowKit

/-- One number of a stock is set. -/
def gset (G : List (List Int)) (i k : Nat) (x : Int) : List (List Int) := G.set i ((G.getD i []).set k x)
theorem gset_len (G : List (List Int)) (i k : Nat) (x : Int) : (gset G i k x).length = G.length := by simp [gset]
theorem gset_row (G : List (List Int)) (i k : Nat) (x : Int) {j : Nat} (h : j < (gset G i k x).length) (h2 : j < G.length) : ((gset G i k x)[j]).length = (G[j]).length := by
  simp only [gset]
  rw [List.getElem_set]
  split
  · rename_i e; subst e; simp [h2]
  · rfl
theorem ga_gset {G : List (List Int)} {i k : Nat} {x : Int} (hi : i < G.length) (hk : k < (G[i]).length) (a b : Nat) : ga (gset G i k x) a b = if a = i ∧ b = k then x else ga G a b := by
  unfold ga gset
  by_cases ha : a = i
  · subst ha
    have e : G.getD a [] = G[a] := by simp [hi]
    have e2 : (G.set a ((G.getD a []).set k x)).getD a [] = (G.getD a []).set k x := by simp [hi]
    rw [e2, e]
    by_cases hb : b = k
    · subst hb
      simp [hk]
    · rw [if_neg (by simp [hb])]
      simp [List.getD_eq_getElem?_getD, List.getElem?_set_ne (fun h => hb h.symm)]
  · rw [if_neg (by simp [ha])]
    congr 1
    simp [List.getD_eq_getElem?_getD, List.getElem?_set_ne (fun h => ha h.symm)]
theorem da_set {D : List Int} {i : Nat} {x : Int} (hi : i < D.length) (a : Nat) : da (D.set i x) a = if a = i then x else da D a := by
  unfold da
  by_cases ha : a = i
  · subst ha; simp [hi]
  · rw [if_neg ha]; simp [List.getD_eq_getElem?_getD, List.getElem?_set_ne (fun h => ha h.symm)]
/-- The stock at X has become G', D'. -/
def StW (w w' : World) (X : Nat) (S : Nat → Prop) (G' : List (List Int)) (D' : List Int) : Prop := ∃ S' : Nat → Prop, ST w' X S' G' D' ∧ Fr S w w' ∧ (∀ b, S' b → S b ∨ w.heap.size ≤ b) ∧ ∀ b, S b → S' b
section
variable {w w' : World} {X : Nat} {S T : Nat → Prop} {G : List (List Int)} {D : List Int} {gb gc db dc : Nat} {rs : List (Nat × Nat)}
theorem StW.below (h : StW w w' X S G D) (hS : ∀ b, S b → w.heap.size ≤ b) : Below w.heap.size w w' := by
  obtain ⟨S', _, k, _⟩ := h
  exact k.to_below hS
theorem StW.same (h : ST w X S G D) : StW w w X S G D := ⟨S, h, Fr.refl _ _, fun _ h => .inl h, fun _ h => h⟩
theorem StW.first {w1 : World} (hb : Below w.heap.size w w1) (h : StW w1 w' X S G D) : StW w w' X S G D := by
  obtain ⟨S', k1, k2, k3, k4⟩ := h
  have := hb.size
  exact ⟨S', k1, Fr.first hb k2, fun b hb => (k3 b hb).imp id (by omega), k4⟩
theorem STd.neR (h : STd w X S G D gb gc db dc rs) {i : Nat} (hi : i < rs.length) (hG : i < G.length) : (rs[i]).1 ≠ X ∧ (rs[i]).1 ≠ gb := by
  obtain ⟨_, cs, h1, _⟩ := h.row i hi hG
  obtain ⟨ds, h2, _⟩ := h.hG
  exact ⟨type_ne h1 h.hX (by decide), type_ne h1 h2 (by decide)⟩
theorem STd.neD (h : STd w X S G D gb gc db dc rs) : db ≠ X ∧ db ≠ gb := by
  obtain ⟨cs, h1, _⟩ := h.hD
  obtain ⟨ds, h2, _⟩ := h.hG
  exact ⟨type_ne h1 h.hX (by decide), type_ne h1 h2 (by decide)⟩
theorem STd.setG (h : STd w X S G D gb gc db dc rs) {i k : Nat} (hi : i < G.length) (hr : i < rs.length) (hk : k < G.length) (x : Int) :
    STd (w.setCell ⟨(rs[i]).1, k, none⟩ (.int .i64 x)) X S (gset G i k x) D gb gc db dc rs := by
  obtain ⟨n1, n2⟩ := h.neR hr hi
  have e : G.getD i [] = G[i] := by simp [hi]
  refine ⟨?_, ?_, h.hD.far (fun e => h.nd _ (List.getElem_mem hr) e.symm) _, by rw [gset_len]; exact h.lD, by rw [gset_len]; exact h.lR, ?_, h.dis, h.nd, by rw [gset_len]; exact h.cap, h.sX, h.sG, h.sD, h.sR, fun b hb => by simpa using h.lt b hb⟩
  · rw [gset_len]; exact h.hX.far (fun e => n1 e.symm) _
  · obtain ⟨cs, h1, h2⟩ := h.hG
    rw [gset_len]
    exact ⟨cs, h1.far (fun e => n2 e.symm) _, h2⟩
  · intro j hj hj2
    have hj3 : j < G.length := by rw [gset_len] at hj2; exact hj2
    refine ⟨by rw [gset_row G i k x hj2 hj3, gset_len]; exact (h.row j hj hj3).1, ?_⟩
    by_cases hji : j = i
    · subst hji
      have hrow := (h.row j hj hj3).2
      have : (gset G j k x)[j] = (G[j]).set k x := by simp [gset, hj3]
      rw [this]
      exact hrow.set_ (by rw [(h.row j hj hj3).1]; exact hk) x
    · have : (gset G i k x)[j] = G[j] := by simp only [gset]; exact List.getElem_set_ne (fun e => hji e.symm) _
      rw [this]
      exact (h.row j hj hj3).2.far (h.dis j i hj hr hji) _
theorem STd.setD (h : STd w X S G D gb gc db dc rs) {i : Nat} (hi : i < G.length) (x : Int) :
    STd (w.setCell ⟨db, i, none⟩ (.int .i64 x)) X S G (D.set i x) gb gc db dc rs := by
  obtain ⟨n1, n2⟩ := h.neD
  refine ⟨h.hX.far (fun e => n1 e.symm) _, ?_, h.hD.set_ (by rw [h.lD]; exact hi) x, by rw [List.length_set]; exact h.lD, h.lR, ?_, h.dis, h.nd, h.cap, h.sX, h.sG, h.sD, h.sR, fun b hb => by simpa using h.lt b hb⟩
  · obtain ⟨cs, h1, h2⟩ := h.hG
    exact ⟨cs, h1.far (fun e => n2 e.symm) _, h2⟩
  · intro j hj hj2
    exact ⟨(h.row j hj hj2).1, (h.row j hj hj2).2.far (h.nd _ (List.getElem_mem hj)) _⟩
theorem STd.rowLen (h : STd w X S G D gb gc db dc rs) {i : Nat} (hi : i < G.length) : (G[i]).length = G.length := (h.row i (by rw [h.lR]; exact hi) hi).1
theorem StW.setG (h : ST w X S G D) (hd : STd w X S G D gb gc db dc rs) {i k : Nat} (hi : i < G.length) (hr : i < rs.length) (hk : k < G.length) {x : Int} (h0 : 0 ≤ x) (h1 : x ≤ 1099511627776) :
    StW w (w.setCell ⟨(rs[i]).1, k, none⟩ (.int .i64 x)) X S (gset G i k x) D := by
  obtain ⟨a0, a1, hN, _⟩ := h
  have hk2 : k < (G[i]).length := by rw [hd.rowLen hi]; exact hk
  refine ⟨S, ⟨by rw [gset_len]; exact a0, by rw [gset_len]; exact a1, ⟨fun a b => ?_, hN.d⟩, gb, gc, db, dc, rs, hd.setG hi hr hk x⟩, (Fr.refl _ _).set _ _ (.inl (hd.sR _ (List.getElem_mem hr))), fun _ h => .inl h, fun _ h => h⟩
  rw [ga_gset hi hk2]
  split
  · exact ⟨h0, h1⟩
  · exact hN.g a b
theorem StW.setD (h : ST w X S G D) (hd : STd w X S G D gb gc db dc rs) {i : Nat} (hi : i < G.length) {x : Int} (h0 : 0 ≤ x) (h1 : x ≤ 1099511627776) :
    StW w (w.setCell ⟨db, i, none⟩ (.int .i64 x)) X S G (D.set i x) := by
  obtain ⟨a0, a1, hN, _⟩ := h
  refine ⟨S, ⟨a0, a1, ⟨hN.g, fun a => ?_⟩, gb, gc, db, dc, rs, hd.setD hi x⟩, (Fr.refl _ _).set _ _ (.inl hd.sD), fun _ h => .inl h, fun _ h => h⟩
  rw [da_set (by rw [hd.lD]; exact hi)]
  split
  · exact ⟨h0, h1⟩
  · exact hN.d a
end

section
variable {w : World} {b k : Nat} {v u : Int}
theorem raise_no (hc : w.cell? ⟨b, k, none⟩ = some (.int .i64 v)) (h0 : 0 ≤ v) (h1 : v ≤ 1099511627776) (hu : 1099511627776 - v < u) :
    Calls Try.prog 39 #[.pointer (some ⟨b, k, none⟩), .int .i64 u] w fun e w' => e = .returned (.int .i64 7) ∧ w = w' := by
  go_enter Try.func39, Try.ntmps39
  go_wp2_with fail
  go_ret
  exact ⟨rfl, rfl⟩
theorem raise_yes (hc : w.cell? ⟨b, k, none⟩ = some (.int .i64 v)) (hf : w.frozen? ⟨b, k, none⟩ = false) (h0 : 0 ≤ v) (h1 : v ≤ 1099511627776) (hu0 : 0 ≤ u) (hu : u ≤ 1099511627776 - v) :
    Calls Try.prog 39 #[.pointer (some ⟨b, k, none⟩), .int .i64 u] w fun e w' => e = .returned (.int .i64 0) ∧ w' = w.setCell ⟨b, k, none⟩ (.int .i64 (v + u)) := by
  have h2 : v + u ≤ 1099511627776 := by omega
  go_enter Try.func39, Try.ntmps39
  go_wp2_with fail
  go_ret
  exact ⟨rfl, rfl⟩
end
end Go.Proofs.Ytdancoblphkakaa
