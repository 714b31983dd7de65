/- Join: what holds while the numbers are joined. -/
import Derived.Test.YtdancoblphkakaaJoinA
namespace Go.Proofs.Ytdancoblphkakaa
open Go.RowKit

section
variable {w wr w1 : World} {X' n i k di : Nat} {G H : List (List Int)} {D E : List Int}
/-- The new stock, while numbers are joined: rows before i, in row i the numbers before k; of the sold those before di. -/
def MixP (w : World) (X' n : Nat) (G H : List (List Int)) (D E : List Int) (i k di : Nat) (wr : World) : Prop :=
  ∃ G' D', NewSt w X' G' D' wr ∧ G'.length = n ∧ (∀ a b, a < n → b < n → ga G' a b = mixG G H i k a b) ∧ ∀ a, a < n → da D' a = mixD D E di a
theorem MixP.below (h : MixP w X' n G H D E i k di wr) : Below w.heap.size w wr := by obtain ⟨_, _, h, _⟩ := h; exact h.below
theorem MixP.kept (h : MixP w X' n G H D E i k di wr) (hb : Below wr.heap.size wr w1) : MixP w X' n G H D E i k di w1 := by
  obtain ⟨G', D', h, h1, h2, h3⟩ := h
  exact ⟨G', D', h.kept hb, h1, h2, h3⟩
theorem MixP.start (h : NewSt w X' G D wr) (hn : G.length = n) : MixP w X' n G H D E 0 0 0 wr :=
  ⟨G, D, h, hn, fun a b _ _ => by rw [mixG, if_neg (by omega)], fun a _ => by rw [mixD, if_neg (by omega)]⟩
/-- The next row. -/
theorem MixP.next (h : MixP w X' n G H D E i n di wr) : MixP w X' n G H D E (i + 1) 0 di wr := by
  obtain ⟨G', D', h, h1, h2, h3⟩ := h
  refine ⟨G', D', h, h1, fun a b ha hb => ?_, h3⟩
  rw [h2 a b ha hb, mixG, mixG]
  by_cases e : a < i ∨ (a = i ∧ b < n)
  · rw [if_pos e, if_pos (by omega)]
  · rw [if_neg e, if_neg (by omega)]
/-- The place of the next of the sold. -/
theorem MixP.atD (h : MixP w X' n G H D E i 0 i wr) (hi : i < n) : ∃ db dc, wr.cell? ⟨X', 1, none⟩ = some (.slice (some ⟨db, 0, none⟩) n dc) ∧ wr.cell? ⟨db, i, none⟩ = some (.int .i64 (da D i)) ∧ wr.frozen? ⟨db, i, none⟩ = false ∧
    ∀ w1, Below wr.heap.size wr w1 → (0 ≤ da E i ∧ da E i ≤ 1099511627776) → MixP w X' n G H D E i 0 (i + 1) (w1.setCell ⟨db, i, none⟩ (.int .i64 (max (da D i) (da E i)))) ∧ (w1.setCell ⟨db, i, none⟩ (.int .i64 (max (da D i) (da E i)))).cell? ⟨X', 1, none⟩ = some (.slice (some ⟨db, 0, none⟩) n dc) := by
  obtain ⟨G', D', h, h1, h2, h3⟩ := h
  obtain ⟨S, hS, hb, hS2⟩ := id h
  obtain ⟨_, _, hN, gb, gc, db, dc, rs, hd⟩ := id hS
  have hi2 : i < G'.length := by omega
  have e : da D' i = da D i := by rw [h3 i hi, mixD, if_neg (by omega)]
  have hbd := hN.d i
  rw [e] at hbd
  have hcl := hd.sold hi2
  rw [e] at hcl
  have hc1 := hd.cells.2
  rw [h1] at hc1
  refine ⟨db, dc, hc1, hcl, hd.hD.free i, fun w1 hb1 hE => ⟨?_, ?_⟩⟩
  · refine ⟨G', D'.set i (max (da D i) (da E i)), (h.kept hb1).step (fun S2 hS2' => ?_), h1, h2, fun a ha => ?_⟩
    · obtain ⟨_, _, _, gb2, gc2, db2, dc2, rs2, hd2⟩ := id hS2'
      have e2 := (hd2.cells.2).symm.trans ((hb1.cell (p := ⟨X', 1, none⟩) (hd.lt X' hd.sX)).trans hd.cells.2)
      injection e2 with e2
      injection e2 with e2
      injection e2 with e2
      injection e2 with e2
      subst e2
      exact StW.setD hS2' hd2 hi2 (by omega) (by omega)
    · rw [da_set (by rw [hd.lD]; exact hi2)]
      by_cases ha2 : a = i
      · subst ha2; rw [if_pos rfl, mixD, if_pos (by omega)]
      · rw [if_neg ha2, h3 a ha, mixD, mixD]
        by_cases e3 : a < i
        · rw [if_pos e3, if_pos (by omega)]
        · rw [if_neg e3, if_neg (by omega)]
  · have hX1 := hd.hX.kept hb1
    have hne : X' ≠ db := fun e => hd.neD.1 e.symm
    rw [(hX1.far (p := ⟨db, i, none⟩) hne _).cell 1]
    rw [h1]
    rfl
/-- The place of the next number. -/
theorem MixP.atG (h : MixP w X' n G H D E i k di wr) (hi : i < n) (hk : k < n) : ∃ gb gc r c, wr.cell? ⟨X', 0, none⟩ = some (.slice (some ⟨gb, 0, none⟩) n gc) ∧ wr.cell? ⟨gb, i, none⟩ = some (.slice (some ⟨r, 0, none⟩) n c) ∧ wr.cell? ⟨r, k, none⟩ = some (.int .i64 (ga G i k)) ∧ wr.frozen? ⟨r, k, none⟩ = false ∧
    ∀ w1, Below wr.heap.size wr w1 → (0 ≤ ga H i k ∧ ga H i k ≤ 1099511627776) → MixP w X' n G H D E i (k + 1) di (w1.setCell ⟨r, k, none⟩ (.int .i64 (max (ga G i k) (ga H i k)))) ∧ (w1.setCell ⟨r, k, none⟩ (.int .i64 (max (ga G i k) (ga H i k)))).cell? ⟨X', 0, none⟩ = some (.slice (some ⟨gb, 0, none⟩) n gc) ∧ (w1.setCell ⟨r, k, none⟩ (.int .i64 (max (ga G i k) (ga H i k)))).cell? ⟨gb, i, none⟩ = some (.slice (some ⟨r, 0, none⟩) n c) := by
  obtain ⟨G', D', h, h1, h2, h3⟩ := h
  obtain ⟨S, hS, hb, hS2⟩ := id h
  obtain ⟨_, _, hN, gb, gc, db, dc, rs, hd⟩ := id hS
  have hi2 : i < G'.length := by omega
  have hk2 : k < G'.length := by omega
  have e : ga G' i k = ga G i k := by rw [h2 i k hi hk, mixG, if_neg (by omega)]
  have hbd := hN.g i k
  rw [e] at hbd
  obtain ⟨r, c, y1, y2, y3, hr, y4⟩ := hd.atG hi2
  have er : (rs[i]).1 = r := by rw [y4]
  have hk3 : k < (G'[i]).length := by rw [y3]; exact hk2
  have hcl := y2.cell hk3
  rw [← ga_at hi2 hk3, e] at hcl
  have hc0 := hd.cells.1
  have y0 := y1
  rw [h1] at hc0 y1
  have n1 := (hd.neR hr hi2).1
  have n2 := (hd.neR hr hi2).2
  rw [er] at n1 n2
  refine ⟨gb, gc, r, c, hc0, y1, hcl, y2.free k, fun w1 hb1 hE => ⟨?_, ?_, ?_⟩⟩
  · refine ⟨gset G' i k (max (ga G i k) (ga H i k)), D', (h.kept hb1).step (fun S2 hS2' => ?_), by rw [gset_len, h1], fun a b ha hb' => ?_, h3⟩
    · obtain ⟨_, _, _, gb2, gc2, db2, dc2, rs2, hd2⟩ := id hS2'
      have e2 := (hd2.cells.1).symm.trans ((hb1.cell (p := ⟨X', 0, none⟩) (hd.lt X' hd.sX)).trans hd.cells.1)
      injection e2 with e2
      injection e2 with e2
      injection e2 with e2
      injection e2 with e2
      subst e2
      obtain ⟨r2, c2, z1, z2, z3, hr2, z4⟩ := hd2.atG hi2
      have e5 := z1.symm.trans ((hb1.cell (p := ⟨gb2, i, none⟩) (hd.lt _ hd.sG)).trans y0)
      injection e5 with e5
      injection e5 with e5
      injection e5 with e5
      injection e5 with e5
      subst e5
      have er2 : (rs2[i]).1 = r2 := by rw [z4]
      have := StW.setG hS2' hd2 hi2 hr2 hk2 (x := max (ga G i k) (ga H i k)) (by omega) (by omega)
      rw [er2] at this
      exact this
    · rw [ga_gset hi2 hk3]
      by_cases ha2 : a = i ∧ b = k
      · obtain ⟨rfl, rfl⟩ := ha2; rw [if_pos ⟨rfl, rfl⟩, mixG, if_pos (by omega)]
      · rw [if_neg ha2, h2 a b ha hb', mixG, mixG]
        by_cases e3 : a < i ∨ (a = i ∧ b < k)
        · rw [if_pos e3, if_pos (by omega)]
        · rw [if_neg e3, if_neg (by omega)]
  · have hX1 := hd.hX.kept hb1
    rw [(hX1.far (p := ⟨r, k, none⟩) (fun e => n1 e.symm) _).cell 0, h1]
    rfl
  · obtain ⟨cs, q1, q2⟩ := hd.hG
    have q3 := q1.kept hb1
    rw [(q3.far (p := ⟨r, k, none⟩) (fun e => n2 e.symm) _).cell i, ← q1.cell i]
    exact y1
/-- At the end. -/
theorem MixP.done (h : MixP w X' n G H D E n 0 n wr) (hG : G.length = n) : NewSt w X' (joinG G H) (joinD D E n) wr := by
  obtain ⟨G', D', h, h1, h2, h3⟩ := h
  obtain ⟨_, _, _, lD, lR⟩ := h.wide
  have e1 : G' = joinG G H := by
    refine mat_ext (n := n) h1 (by rw [joinG_len, hG]) (fun i hi => by rw [lR i hi, h1]) (fun i hi => by rw [joinG_row, hG]) (fun a b ha hb => ?_)
    rw [h2 a b ha hb, mixG, if_pos (by omega), ga_joinG G H (by omega) (by omega)]
  have e2 : D' = joinD D E n := by
    refine row_ext (n := n) (by rw [lD, h1]) (by simp [joinD]) (fun a ha => ?_)
    rw [h3 a ha, mixD, if_pos (by omega), da_joinD D E ha]
  rw [← e1, ← e2]
  exact h
end
end Go.Proofs.Ytdancoblphkakaa
