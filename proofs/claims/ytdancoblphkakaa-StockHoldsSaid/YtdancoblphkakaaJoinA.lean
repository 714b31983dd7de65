/- Join: the walk. -/
import Derived.Test.YtdancoblphkakaaJoinW
namespace Go.Proofs.Ytdancoblphkakaa
open Go.RowKit

section
variable {w wr w' : World} {X X' : Nat} {S : Nat → Prop} {G G' : List (List Int)} {D D' : List Int}
theorem NewSt.step (h : NewSt w X G D wr) (k : ∀ S, ST wr X S G D → StW wr w' X S G' D') : NewSt w X G' D' w' := by
  obtain ⟨S, h1, h2, h3⟩ := h
  obtain ⟨S', k1, k2, k3, _⟩ := k S h1
  refine ⟨S', k1, Fr.below h2 k2 h3, fun b hb => ?_⟩
  rcases k3 b hb with h | h
  · exact h3 b h
  · have := h2.size; omega
theorem NewSt.kept (h : NewSt w X G D wr) (k : Below wr.heap.size wr w') : NewSt w X G D w' := by
  obtain ⟨S, h1, h2, h3⟩ := h
  exact ⟨S, h1.kept k, below_step h2 k, h3⟩
theorem NewSt.below (h : NewSt w X G D wr) : Below w.heap.size w wr := by obtain ⟨_, _, h, _⟩ := h; exact h
theorem NewSt.wide (h : NewSt w X G D wr) : 1 ≤ G.length ∧ G.length ≤ 16 ∧ Num G D ∧ D.length = G.length ∧ ∀ i (_ : i < G.length), (G[i]).length = G.length := by obtain ⟨_, h, _⟩ := h; exact h.wide
/-- `*s = *next`: the stock at X takes over what a new one is made of. -/
theorem StW.take (h : ST w X S G D) (hN : NewSt w X' G' D' wr) (gb gc db dc : Nat) (c0 : wr.cell? ⟨X', 0, none⟩ = some (.slice (some ⟨gb, 0, none⟩) G'.length gc)) (c1 : wr.cell? ⟨X', 1, none⟩ = some (.slice (some ⟨db, 0, none⟩) G'.length dc)) :
    StW w ((wr.setCell ⟨X, 0, none⟩ (.slice (some ⟨gb, 0, none⟩) G'.length gc)).setCell ⟨X, 1, none⟩ (.slice (some ⟨db, 0, none⟩) G'.length dc)) X S G' D' := by
  obtain ⟨S', ⟨a0, a1, aN, gb', gc', db', dc', rs, hd⟩, hb, hS⟩ := hN
  obtain ⟨e0, e1⟩ := hd.cells
  rw [c0] at e0
  rw [c1] at e1
  injection e0 with e0
  injection e0 with e0 _ e0'
  injection e0 with e0
  injection e0 with e0
  injection e1 with e1
  injection e1 with e1 _ e1'
  injection e1 with e1
  injection e1 with e1
  subst e0 e1 e0' e1'
  obtain ⟨_, _, _, gbs, gcs, dbs, dcs, rss, hs⟩ := h
  have hX := hs.hX.kept hb
  have hXl := hs.hX.lt
  have hsz := hb.size
  have nf : ∀ b, S' b → b ≠ X := fun b hb2 e => by have := hS b hb2; omega
  refine ⟨fun b => S b ∨ S' b, ⟨a0, a1, aN, gb, gc, db, dc, rs, ?_⟩, ((Fr.of_below hb S).set _ _ (.inl hs.sX)).set _ _ (.inl hs.sX), fun b hb2 => hb2.imp id (hS b), fun b hb2 => .inl hb2⟩
  refine ⟨((hX.set_ 0 _).set_ 1 _), ?_, (hd.hD.far (p := ⟨X, 0, none⟩) (nf _ hd.sD) _).far (p := ⟨X, 1, none⟩) (nf _ hd.sD) _, hd.lD, hd.lR, fun i x y => ⟨(hd.row i x y).1, ((hd.row i x y).2.far (p := ⟨X, 0, none⟩) (nf _ (hd.sR _ (List.getElem_mem x))) _).far (p := ⟨X, 1, none⟩) (nf _ (hd.sR _ (List.getElem_mem x))) _⟩, hd.dis, hd.nd, hd.cap, .inl hs.sX, .inr hd.sG, .inr hd.sD, fun r hr => .inr (hd.sR r hr), fun b hb2 => ?_⟩
  · obtain ⟨cs, h1, h2⟩ := hd.hG
    exact ⟨cs, (h1.far (p := ⟨X, 0, none⟩) (nf _ hd.sG) _).far (p := ⟨X, 1, none⟩) (nf _ hd.sG) _, h2⟩
  · rcases hb2 with hb2 | hb2
    · have := hs.lt b hb2; simp; omega
    · have := hd.lt b hb2; simp; omega
end
end Go.Proofs.Ytdancoblphkakaa
