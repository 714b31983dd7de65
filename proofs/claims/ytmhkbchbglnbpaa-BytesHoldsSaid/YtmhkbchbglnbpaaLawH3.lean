/- BytesHolds: numbers read and written again. -/
import Derived.Test.YtmhkbchbglnbpaaPlainH
namespace Go.Proofs.Ytmhkbchbglnbpaa
open Go.RowKit

/-- A reader stands while others turn. -/
theorem RS.away {w w' : World} {R c k : Nat} {p : Option Addr} {l : List Int} {S : Nat → Prop} (h : RS w R p c l k) (hf : Fr S w w') (hR : ¬ S R) (hp : ∀ a, p = some a → ¬ S a.block) : RS w' R p c l k :=
  ⟨h.blk.fr hf hR, h.rd.fr hf hp, h.ne, h.le, h.cap, h.big, h.bs, fun a ha => Nat.lt_of_lt_of_le (h.lt a ha) hf.size⟩
/-- A reader of b, and a writer that has written what was read. -/
def L3 (W wr : World) (Y R c : Nat) (p : Option Addr) (b : List Int) (k : Nat) : Prop :=
  ∃ S : Nat → Prop, Wr Y (b.take k) wr S ∧ RS wr R p c b k ∧ Below W.heap.size W wr ∧ W.heap.size ≤ R ∧ ∀ x, S x → W.heap.size ≤ x ∧ x ≠ R ∧ ∀ a, p = some a → a.block ≠ x
section
variable {W w w1 w2 : World} {Y R c k : Nat} {p : Option Addr} {b : List Int}
theorem L3.below (h : L3 W w Y R c p b k) : Below W.heap.size W w := by obtain ⟨_, _, _, h, _⟩ := h; exact h
theorem L3.rs (h : L3 W w Y R c p b k) : RS w R p c b k := by obtain ⟨_, _, h, _⟩ := h; exact h
theorem L3.wr (h : L3 W w Y R c p b k) : ∃ S, Wr Y (b.take k) w S := by obtain ⟨S, h, _⟩ := h; exact ⟨S, h⟩
theorem L3.kept (h : L3 W w Y R c p b k) (hb : Below w.heap.size w w1) : L3 W w1 Y R c p b k := by
  obtain ⟨S, h1, h2, h3, h4, h5⟩ := h
  exact ⟨S, (Wr.good _ _).kept h1 hb, h2.kept hb, below_step h3 hb, h4, h5⟩
theorem L3.same (h : L3 W w Y R c p b k) (hr : RStep w w1 R p c b k) : L3 W w1 Y R c p b k := by
  obtain ⟨S, h1, h2, h3, h4, h5⟩ := h
  exact ⟨S, (Wr.good _ _).fr _ _ _ _ h1 hr.2 (fun x hx => (h5 x hx).2.1), hr.1, Fr.below h3 hr.2 (fun x hx => by subst hx; exact h4), h4, h5⟩
theorem L3.step (h : L3 W w Y R c p b k) {j : Nat} (hr : RStep w w1 R p c b j) : ∃ S, Wr Y (b.take k) w1 S ∧ ∀ (w2 : World) (F : List Int), b.take k ++ F = b.take j → Step (Wr Y (b.take k ++ F)) w1 w2 S → L3 W w2 Y R c p b j := by
  obtain ⟨S, h1, h2, h3, h4, h5⟩ := h
  refine ⟨S, (Wr.good _ _).fr _ _ _ _ h1 hr.2 (fun x hx => (h5 x hx).2.1), fun w2 F hF hs => ?_⟩
  rw [hF] at hs
  obtain ⟨S', g1, g2, g3⟩ := hs
  have hb1 : Below W.heap.size W w1 := Fr.below h3 hr.2 (fun x hx => by subst hx; exact h4)
  refine ⟨S', g1, hr.1.away g2 (fun hx => (h5 _ hx).2.1 rfl) (fun a ha hx => (h5 _ hx).2.2 a ha rfl), Fr.below hb1 g2 (fun x hx => (h5 x hx).1), h4, fun x hx => ?_⟩
  rcases g3 x hx with g | g
  · exact h5 x g
  · have hlt := hr.1.blk.lt
    have := hb1.size
    exact ⟨by omega, by omega, fun a ha => by have := hr.1.lt a ha; omega⟩
theorem take_read {b : List Int} {k : Nat} (hb : Bs b) (h : readE (b.drop k) = 0) : b.take k ++ numB (readV (b.drop k)) = b.take (k + readS (b.drop k)) := by
  rw [read_back (hb.drop k) h, List.take_add]
theorem num_max (h : RS w R p c b k) : Calls Try.prog 26 #[.pointer (some ⟨R, 0, none⟩), .int .u64 18446744073709551615] w fun e w' => e = .returned (.tuple #[.int .u64 (readV (b.drop k)), .int .i64 (readE (b.drop k))]) ∧ RStep w w' R p c b (k + readS (b.drop k)) := by
  have h1 := Num_any 18446744073709551615 h
  have e0 := nE_max (h.bs.drop k)
  have e1 : nV (b.drop k) 18446744073709551615 = readV (b.drop k) := by
    rw [nV, e0]; split
    · rfl
    · rename_i h0; rw [readV, if_neg h0]
  have e2 : nS (b.drop k) 18446744073709551615 = readS (b.drop k) := by
    rw [nS, e0]; split
    · rfl
    · rename_i h0; rw [readS, if_neg h0]
  rw [e0, e1, e2] at h1
  exact h1
end
end Go.Proofs.Ytmhkbchbglnbpaa
