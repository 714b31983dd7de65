/- joined: what holds while numbers are joined. -/
import Derived.Test.YtdancoblphkakaaValid
namespace Go.Proofs.Ytdancoblphkakaa
open Go.RowKit

/-- A state and an error. -/
def RetSE (w : World) (U : Nat → Prop) (G : List (List Int)) (D : List Int) (err : Int) (e : Ending) (w' : World) : Prop :=
  ∃ v, e = .returned (.tuple #[v, .int .i64 err]) ∧ VS w' (fun b => U b ∨ w.heap.size ≤ b) v G D ∧ Below w.heap.size w w'
theorem VS.or {w : World} {U V : Nat → Prop} {v : Value} {G : List (List Int)} {D : List Int} (h : VS w U v G D) : VS w (fun b => U b ∨ V b) v G D := h.mono (fun _ h _ => .inl h)
section
variable {w wr w1 : World} {B Ob gb gc db dc n i k di : Nat} {rs : List (Nat × Nat)} {G H : List (List Int)} {D E : List Int}
/-- The state, while numbers are joined. -/
def MixO (B : Nat) (gb gc db dc : Nat) (rs : List (Nat × Nat)) (n : Nat) (G H : List (List Int)) (D E : List Int) (i k di : Nat) (wr : World) : Prop :=
  ∃ G' D', OSt B wr gb gc db dc rs G' D' ∧ G'.length = n ∧ (∀ a b, a < n → b < n → ga G' a b = mixG G H i k a b) ∧ ∀ a, a < n → da D' a = mixD D E di a
theorem MixO.start (h : OSt B wr gb gc db dc rs G D) (hn : G.length = n) : MixO B gb gc db dc rs n G H D E 0 0 0 wr :=
  ⟨G, D, h, hn, fun a b _ _ => by rw [mixG, if_neg (by omega)], fun a _ => by rw [mixD, if_neg (by omega)]⟩
theorem MixO.kept (h : MixO B gb gc db dc rs n G H D E i k di wr) (hb : Below wr.heap.size wr w1) : MixO B gb gc db dc rs n G H D E i k di w1 := by
  obtain ⟨G', D', h, h1, h2, h3⟩ := h
  exact ⟨G', D', h.kept hb, h1, h2, h3⟩
theorem MixO.next (h : MixO B gb gc db dc rs n G H D E i n di wr) : MixO B gb gc db dc rs n G H D E (i + 1) 0 di wr := by
  obtain ⟨G', D', h, h1, h2, h3⟩ := h
  refine ⟨G', D', h, h1, fun a b ha hb => ?_, h3⟩
  rw [h2 a b ha hb, mixG, mixG]
  by_cases e : a < i ∨ (a = i ∧ b < n)
  · rw [if_pos e, if_pos (by omega)]
  · rw [if_neg e, if_neg (by omega)]
theorem MixO.atD (h : MixO B gb gc db dc rs n G H D E i 0 i wr) (hi : i < n) : (∃ z, wr.cell? ⟨db, i, none⟩ = some z) ∧ wr.frozen? ⟨db, i, none⟩ = false ∧ B ≤ db ∧ MixO B gb gc db dc rs n G H D E i 0 (i + 1) (wr.setCell ⟨db, i, none⟩ (.int .i64 (max (da D i) (da E i)))) := by
  obtain ⟨G', D', h, h1, h2, h3⟩ := h
  have hi2 : i < D'.length := by rw [h.lD]; omega
  refine ⟨⟨_, h.hD.cell hi2⟩, h.hD.free i, h.lo.2.1, G', D'.set i (max (da D i) (da E i)), h.setD (by omega) _, h1, h2, fun a ha => ?_⟩
  rw [da_set hi2]
  by_cases ha2 : a = i
  · subst ha2; rw [if_pos rfl, mixD, if_pos (by omega)]
  · rw [if_neg ha2, h3 a ha, mixD, mixD]
    by_cases e3 : a < i
    · rw [if_pos e3, if_pos (by omega)]
    · rw [if_neg e3, if_neg (by omega)]
theorem MixO.atG (h : MixO B gb gc db dc rs n G H D E i k di wr) (hi : i < n) (hk : k < n) : ∃ r c, wr.cell? ⟨gb, i, none⟩ = some (.slice (some ⟨r, 0, none⟩) n c) ∧ (∃ z, wr.cell? ⟨r, k, none⟩ = some z) ∧ wr.frozen? ⟨r, k, none⟩ = false ∧ B ≤ r ∧ r ≠ gb ∧
    MixO B gb gc db dc rs n G H D E i (k + 1) di (wr.setCell ⟨r, k, none⟩ (.int .i64 (max (ga G i k) (ga H i k)))) := by
  obtain ⟨G', D', h, h1, h2, h3⟩ := h
  have hi2 : i < G'.length := by omega
  obtain ⟨r, c, y1, y2, y3, hr, y4⟩ := h.atG hi2
  have er : (rs[i]).1 = r := by rw [y4]
  have hk3 : k < (G'[i]).length := by rw [y3]; omega
  have n2 := h.neR hr hi2
  rw [er] at n2
  have hs := h.setG hi2 hr (k := k) (by omega) (max (ga G i k) (ga H i k))
  rw [er] at hs
  rw [h1] at y1
  refine ⟨r, c, y1, ⟨_, y2.cell hk3⟩, y2.free k, ?_, n2, _, D', hs, by rw [gset_len, h1], fun a b ha hb' => ?_, h3⟩
  · rw [← er]; exact h.lo.2.2 _ (List.getElem_mem hr)
  · rw [ga_gset hi2 hk3]
    by_cases ha2 : a = i ∧ b = k
    · obtain ⟨rfl, rfl⟩ := ha2; rw [if_pos ⟨rfl, rfl⟩, mixG, if_pos (by omega)]
    · rw [if_neg ha2, h2 a b ha hb', mixG, mixG]
      by_cases e3 : a < i ∨ (a = i ∧ b < k)
      · rw [if_pos e3, if_pos (by omega)]
      · rw [if_neg e3, if_neg (by omega)]
theorem MixO.done (h : MixO B gb gc db dc rs n G H D E n 0 n wr) (hG : G.length = n) : OSt B wr gb gc db dc rs (joinG G H) (joinD D E n) := by
  obtain ⟨G', D', h, h1, h2, h3⟩ := h
  have e1 : G' = joinG G H := by
    refine mat_ext (n := n) h1 (by rw [joinG_len, hG]) (fun i hi => ?_) (fun i hi => by rw [joinG_row, hG]) (fun a b ha hb => ?_)
    · obtain ⟨_, _, _, _, h9, _⟩ := h.atG hi
      rw [h9, h1]
    · rw [h2 a b ha hb, mixG, if_pos (by omega), ga_joinG G H (by omega) (by omega)]
  have e2 : D' = joinD D E n := by
    refine row_ext (n := n) (by rw [h.lD, h1]) (by simp [joinD]) (fun a ha => ?_)
    rw [h3 a ha, mixD, if_pos (by omega), da_joinD D E ha]
  rw [← e1, ← e2]
  exact h
theorem shape_join (h : Shape G D) (k : Shape H E) (hn : H.length = G.length) : Shape (joinG G H) (joinD D E G.length) := by
  refine ⟨by rw [joinG_len]; exact h.1, by rw [joinG_len]; exact h.2.1, by simp [joinD, joinG_len], fun i hi => ?_⟩
  rw [joinG_len] at hi
  refine ⟨fun h2 => by rw [joinG_row, joinG_len], ?_, fun k2 hk2 => ?_⟩
  · rw [da_joinD D E hi]
    have := (h.2.2.2 i hi).2.1
    have := (k.2.2.2 i (by omega)).2.1
    unfold inU at *
    omega
  · rw [joinG_len] at hk2
    rw [ga_joinG G H hi hk2]
    have := (h.2.2.2 i hi).2.2 k2 hk2
    have := (k.2.2.2 i (by omega)).2.2 k2 (by omega)
    unfold inU at *
    omega
end
end Go.Proofs.Ytdancoblphkakaa
