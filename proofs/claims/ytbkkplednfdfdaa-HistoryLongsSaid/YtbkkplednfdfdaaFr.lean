/- Frames by sets of blocks: what is not in the set stands as it was. -/
import Derived.Test.YtbkkplednfdfdaaGrow
namespace Go.Proofs.Ytbkkplednfdfdaa
open Go.RowKit

/-- The blocks of w that are not in S stand in w' as they did. -/
structure Fr (S : Nat → Prop) (w w' : World) : Prop where
  os : w'.os = w.os
  tape : w'.tape = w.tape
  output : w'.output = w.output
  size : w.heap.size ≤ w'.heap.size
  block : ∀ i, i < w.heap.size → ¬ S i → w'.heap[i]? = w.heap[i]?
section
variable {S T : Nat → Prop} {w w1 w2 w' : World}
theorem Fr.refl (S : Nat → Prop) (w : World) : Fr S w w := ⟨rfl, rfl, rfl, Nat.le_refl _, fun _ _ _ => rfl⟩
theorem Fr.of_below (h : Below w.heap.size w w') (S : Nat → Prop) : Fr S w w' := ⟨h.os, h.tape, h.output, h.size, fun i hi _ => h.block i hi⟩
theorem Fr.trans (h : Fr S w w1) (k : Fr T w1 w2) (hT : ∀ b, T b → S b ∨ w.heap.size ≤ b) : Fr S w w2 :=
  ⟨k.os.trans h.os, k.tape.trans h.tape, k.output.trans h.output, Nat.le_trans h.size k.size, fun i hi hn => (k.block i (Nat.lt_of_lt_of_le hi h.size) (fun hT' => by
    rcases hT i hT' with h' | h'
    · exact hn h'
    · omega)).trans (h.block i hi hn)⟩
theorem Fr.step (h : Fr S w w1) (k : Below w1.heap.size w1 w2) : Fr S w w2 := h.trans (Fr.of_below k (fun _ => False)) (fun _ h => h.elim)
theorem Fr.first (h : Below w.heap.size w w1) (k : Fr S w1 w2) : Fr S w w2 := (Fr.of_below h S).trans k (fun _ h => .inl h)
theorem Fr.mono (h : Fr S w w1) (hS : ∀ b, S b → T b ∨ w.heap.size ≤ b) : Fr T w w1 := (Fr.refl T w).trans h hS
theorem Fr.set (h : Fr S w w1) (p : Addr) (u : Value) (hp : S p.block ∨ w.heap.size ≤ p.block) : Fr S w (w1.setCell p u) :=
  ⟨h.os, h.tape, h.output, by simpa using h.size, fun k hk hne => (Below.heap_setCell w1 p u k (fun e => by
    subst e
    rcases hp with hp | hp
    · exact hne hp
    · omega)).trans (h.block k hk hne)⟩
theorem Fr.alloc (h : Fr S w w1) (o : Obj) : Fr S w (w1.alloc o) := h.step ((Below.refl _ _).alloc (Nat.le_refl _) _)
theorem Fr.drew (h : Fr S w w1) : Fr S w w1.drew := ⟨h.os, h.tape, h.output, h.size, h.block⟩
theorem Fr.drewN (h : Fr S w w1) (n : Nat) : Fr S w (w1.drewN n) := ⟨h.os, h.tape, h.output, h.size, h.block⟩
theorem Fr.gb (h : Fr S w w1) {row : Option Nat} (k : w1.grownBy w2 row) (hr : ∀ c, row = some c → S c ∨ w.heap.size ≤ c) : Fr S w w2 :=
  h.trans (T := fun c => row = some c) ⟨k.os, k.tape, k.output, k.size, fun i hi hn => k.block i hi (fun e => hn e.symm)⟩ (fun c hc => hr c hc)
/-- An elder frame: all of S is new to it. -/
theorem Fr.below (h : Below w.heap.size w w1) (k : Fr S w1 w2) (hS : ∀ b, S b → w.heap.size ≤ b) : Below w.heap.size w w2 :=
  ⟨k.os.trans h.os, k.tape.trans h.tape, k.output.trans h.output, Nat.le_trans h.size k.size, fun i hi => (k.block i (Nat.lt_of_lt_of_le hi h.size) (fun hs => by have := hS i hs; omega)).trans (h.block i hi)⟩
theorem Fr.to_below (k : Fr S w w2) (hS : ∀ b, S b → w.heap.size ≤ b) : Below w.heap.size w w2 := Fr.below (Below.refl _ _) k hS
theorem Blk.fr {g : Nat} {t : TypeId} {cs : List Value} (h : Blk w g t cs) (k : Fr S w w') (hn : ¬ S g) : Blk w' g t cs := h.same (k.block g h.lt hn)
theorem Rd.fr {p : Option Addr} {xs : List Value} (h : Rd w w.heap.size p xs) (k : Fr S w w') (hn : ∀ a, p = some a → ¬ S a.block) : Rd w' w'.heap.size p xs := by
  rcases h with h | ⟨b, o, hp, hlt, hc⟩
  · exact .inl h
  · refine .inr ⟨b, o, hp, Nat.lt_of_lt_of_le hlt k.size, fun j u hu => ?_⟩
    rw [World.cell?_of_block (w := w) (w' := w') (a := ⟨b, o + j, none⟩) (k.block b hlt (hn _ hp))]
    exact hc j u hu
theorem own_fr {base size n : Nat} {e : TypeId} {v : Value} {xs : List Value} (h : w.ownsRow base e size v n xs) (k : Fr S w w') (hn : ∀ c, v.ownBlock = some c → ¬ S c) : w'.ownsRow base e size v n xs := by
  refine ⟨h.1, ?_⟩
  rcases h.2 with hh | ⟨g, cap, cur, rfl, hb, hg, rest⟩
  · exact .inl hh
  · refine .inr ⟨g, cap, cur, rfl, hb, ?_, rest⟩
    rw [k.block g (Array.getElem?_eq_some_iff.1 hg).1 (hn g rfl)]
    exact hg
theorem own_mono {base base' size n : Nat} {e : TypeId} {v : Value} {xs : List Value} (h : w.ownsRow base e size v n xs) (hb : base' ≤ base) : w.ownsRow base' e size v n xs := by
  refine ⟨h.1, ?_⟩
  rcases h.2 with hh | ⟨g, cap, cur, rfl, hbb, rest⟩
  · exact .inl hh
  · exact .inr ⟨g, cap, cur, rfl, Nat.le_trans hb hbb, rest⟩
/-- A slice of the call's own reads as its list. -/
theorem own_rd {base n c : Nat} {e : TypeId} {p : Option Addr} {xs : List Value} {m : Nat} (h : w.ownsRow base e 1 (.slice p m c) n xs) : Rd w w.heap.size p xs := by
  rcases h.2 with ⟨h1, h2⟩ | ⟨g, cap, cur, hv, hg, hh, hn, hc, hs, ht⟩
  · injection h1 with h1
    have := h.1
    subst h2
    exact .inl (List.eq_nil_of_length_eq_zero (by simpa using this))
  · injection hv with hp hm
    subst hp
    refine .inr ⟨g, 0, rfl, (Array.getElem?_eq_some_iff.1 hh).1, fun j u hu => ?_⟩
    rw [Nat.zero_add, cell_of_row w g j cur e (0, 0) hh]
    rw [← ht, List.getElem?_take] at hu
    split at hu
    · simpa using hu
    · cases hu
/-- What a slice of the call's own looks like. -/
theorem own_shape {base size n : Nat} {e : TypeId} {v : Value} {xs : List Value} (h : w.ownsRow base e size v n xs) : ∃ p c, v = .slice p n c ∧ n ≤ c ∧ c ≤ maxLen := by
  rcases h.2 with ⟨h1, h2⟩ | ⟨g, cap, cur, hv, hg, hh, hn, hc, hs, ht⟩
  · subst h1 h2; exact ⟨none, 0, rfl, Nat.le_refl _, Nat.zero_le _⟩
  · exact ⟨_, cap, hv, hn, hc⟩
theorem own_block_lt {base size n : Nat} {e : TypeId} {v : Value} {xs : List Value} (h : w.ownsRow base e size v n xs) {k : Nat} (hk : v.ownBlock = some k) : k < w.heap.size := (own_lt h k hk).2
end
end Go.Proofs.Ytbkkplednfdfdaa
