/- Things side by side: each one holds of a world and of the blocks that it lies in; they share no block. Nothing of the program stands here. -/
import Derived.Test.YtmhkbchbglnbpaaFr
namespace Go.Proofs.Ytmhkbchbglnbpaa
open Go.RowKit

/-- A thing: what holds of a world, and of the blocks that it lies in. -/
def Kd := World → (Nat → Prop) → Prop
/-- It stands while other blocks turn; its blocks are there. -/
structure Good (k : Kd) : Prop where
  fr : ∀ (w w' : World) (S T : Nat → Prop), k w S → Fr T w w' → (∀ b, S b → ¬ T b) → k w' S
  lt : ∀ (w : World) (S : Nat → Prop), k w S → ∀ b, S b → b < w.heap.size
/-- A thing has become another one: only its own blocks and new ones have turned. -/
def Step (k : Kd) (w w' : World) (S : Nat → Prop) : Prop := ∃ S' : Nat → Prop, k w' S' ∧ Fr S w w' ∧ ∀ b, S' b → S b ∨ w.heap.size ≤ b
/-- A thing has been made. -/
def Made (k : Kd) (w w' : World) : Prop := ∃ S : Nat → Prop, k w' S ∧ Below w.heap.size w w' ∧ ∀ b, S b → w.heap.size ≤ b
section
variable {k k' : Kd} {w w1 w2 w' : World} {S : Nat → Prop}
theorem Good.kept (h : Good k) (hk : k w S) (hb : Below w.heap.size w w') : k w' S := h.fr w w' S (fun _ => False) hk (Fr.of_below hb _) (fun _ _ h => h)
theorem Step.same (h : k w S) : Step k w w S := ⟨S, h, Fr.refl _ _, fun _ h => .inl h⟩
theorem Step.first (hb : Below w.heap.size w w1) (h : Step k w1 w' S) : Step k w w' S := by
  obtain ⟨S', h1, h2, h3⟩ := h
  have := hb.size
  exact ⟨S', h1, Fr.first hb h2, fun b hb => (h3 b hb).imp id (by omega)⟩
theorem Step.then_ (g : Good k) (h : Step k w w1 S) (hb : Below w1.heap.size w1 w') : Step k w w' S := by
  obtain ⟨S', h1, h2, h3⟩ := h
  exact ⟨S', g.kept h1 hb, h2.step hb, h3⟩
theorem Step.below (h : Step k w w' S) (hS : ∀ b, S b → w.heap.size ≤ b) : Below w.heap.size w w' := by
  obtain ⟨_, _, h2, _⟩ := h
  exact h2.to_below hS
theorem Made.below (h : Made k w w') : Below w.heap.size w w' := by obtain ⟨_, _, h, _⟩ := h; exact h
theorem Made.first (hb : Below w.heap.size w w1) (h : Made k w1 w') : Made k w w' := by
  obtain ⟨S, h1, h2, h3⟩ := h
  have := hb.size
  exact ⟨S, h1, below_step hb h2, fun b hb => by have := h3 b hb; omega⟩
theorem Made.then_ (g : Good k) (h : Made k w w1) (hb : Below w1.heap.size w1 w') : Made k w w' := by
  obtain ⟨S, h1, h2, h3⟩ := h
  exact ⟨S, g.kept h1 hb, below_step h2 hb, h3⟩
theorem Made.step (h : Made k w w1) (hs : ∀ S, k w1 S → Step k' w1 w' S) : Made k' w w' := by
  obtain ⟨S, h1, h2, h3⟩ := h
  obtain ⟨S', k1, k2, k3⟩ := hs S h1
  have := h2.size
  exact ⟨S', k1, Fr.below h2 k2 h3, fun b hb => by
    rcases k3 b hb with e | e
    · exact h3 b e
    · omega⟩
end
theorem perm_lift {α β : Type _} (f : α → β) {l l' : List β} (hp : l.Perm l') : ∀ m : List α, m.map f = l → ∃ m' : List α, m'.map f = l' ∧ m.Perm m' := by
  induction hp with
  | nil => exact fun m hm => ⟨m, hm, List.Perm.refl _⟩
  | cons x _ ih =>
    intro m hm
    cases m with
    | nil => simp at hm
    | cons y m =>
      simp at hm
      obtain ⟨e, hm2⟩ := hm
      obtain ⟨m', e1, e2⟩ := ih m hm2
      exact ⟨y :: m', by simp [e1, e], e2.cons y⟩
  | swap x y l =>
    intro m hm
    cases m with
    | nil => simp at hm
    | cons a m =>
      cases m with
      | nil => simp at hm
      | cons c m =>
        simp at hm
        obtain ⟨e1, e2, e3⟩ := hm
        exact ⟨c :: a :: m, by simp [e1, e2, e3], List.Perm.swap c a m⟩
  | trans _ _ ih1 ih2 =>
    intro m hm
    obtain ⟨m1, e1, p1⟩ := ih1 m hm
    obtain ⟨m2, e2, p2⟩ := ih2 m1 e1
    exact ⟨m2, e2, p1.trans p2⟩
/-- Things that are new since w0 and share no block. -/
structure Side (w0 w : World) (l : List Kd) : Prop where
  b : Below w0.heap.size w0 w
  h : ∃ m : List (Kd × (Nat → Prop)), m.map Prod.fst = l ∧ (∀ x ∈ m, x.1 w x.2 ∧ Good x.1 ∧ ∀ b, x.2 b → w0.heap.size ≤ b) ∧ m.Pairwise fun x y => ∀ b, x.2 b → ¬ y.2 b
section
variable {w0 w w1 w' : World} {l l' : List Kd} {k k' : Kd}
theorem Side.nil (w : World) : Side w w [] := ⟨Below.refl _ _, [], rfl, by simp, .nil⟩
theorem Side.kept (h : Side w0 w l) (hb : Below w.heap.size w w') : Side w0 w' l := by
  obtain ⟨b, m, h1, h2, h3⟩ := h
  exact ⟨below_step b hb, m, h1, fun x hx => ⟨(h2 x hx).2.1.kept (h2 x hx).1 hb, (h2 x hx).2⟩, h3⟩
theorem Side.less (h : Side w0 w l) (hs : l'.Sublist l) : Side w0 w l' := by
  obtain ⟨b, m, rfl, h2, h3⟩ := h
  obtain ⟨m', hm, rfl⟩ := List.sublist_map_iff.1 hs
  exact ⟨b, m', rfl, fun x hx => h2 x (hm.subset hx), h3.sublist hm⟩
theorem Side.get (h : Side w0 w l) {i : Nat} (hi : l[i]? = some k) : ∃ S, k w S ∧ Good k ∧ ∀ b, S b → w0.heap.size ≤ b := by
  obtain ⟨b, m, rfl, h2, h3⟩ := h
  rw [List.getElem?_map] at hi
  cases hm : m[i]? with
  | none => rw [hm] at hi; cases hi
  | some x =>
    rw [hm] at hi
    simp at hi
    subst hi
    exact ⟨x.2, h2 x (List.mem_of_getElem? hm)⟩
theorem Side.add (h : Side w0 w l) (g : Good k) (hk : Made k w w') : Side w0 w' (k :: l) := by
  obtain ⟨b, m, rfl, h2, h3⟩ := h
  obtain ⟨S, k1, k2, k3⟩ := hk
  have hsz := b.size
  refine ⟨below_step b k2, (k, S) :: m, rfl, fun x hx => ?_, List.pairwise_cons.2 ⟨fun x hx b hb hs => ?_, h3⟩⟩
  · rcases List.mem_cons.1 hx with rfl | hx
    · exact ⟨k1, g, fun b hb => by have := k3 b hb; omega⟩
    · exact ⟨(h2 x hx).2.1.kept (h2 x hx).1 k2, (h2 x hx).2⟩
  · have := (h2 x hx).2.1.lt w x.2 (h2 x hx).1 b hs
    have := k3 b hb
    omega
theorem Side.step (h : Side w0 w l) {i : Nat} (hi : l[i]? = some k) (g : Good k') (hk : ∀ S, k w S → (∀ b, S b → w0.heap.size ≤ b) → Step k' w w' S) : Side w0 w' (l.set i k') := by
  obtain ⟨b, m, rfl, h2, h3⟩ := h
  rw [List.getElem?_map] at hi
  cases hm : m[i]? with
  | none => rw [hm] at hi; cases hi
  | some x =>
    rw [hm] at hi
    simp at hi
    subst hi
    obtain ⟨hil, hio⟩ := List.getElem?_eq_some_iff.1 hm
    have hmx := List.mem_of_getElem? hm
    obtain ⟨S', k1, k2, k3⟩ := hk x.2 (h2 x hmx).1 (h2 x hmx).2.2
    have hsz := b.size
    have hother : ∀ (j : Nat) (hj : j < m.length), j ≠ i → ∀ b, (m[j]).2 b → ¬ x.2 b := by
      intro j hj hji b hb hb2
      rcases Nat.lt_or_ge j i with e | e
      · exact List.pairwise_iff_getElem.1 h3 j i hj hil e b hb (by rw [hio]; exact hb2)
      · exact List.pairwise_iff_getElem.1 h3 i j hil hj (by omega) b (by rw [hio]; exact hb2) hb
    refine ⟨Fr.below b k2 (h2 x hmx).2.2, m.set i (k', S'), by rw [List.map_set], fun y hy => ?_, ?_⟩
    · obtain ⟨j, hj, rfl⟩ := List.mem_iff_getElem.1 hy
      rw [List.getElem_set]
      split
      · exact ⟨k1, g, fun b hb => by
          rcases k3 b hb with e | e
          · exact (h2 x hmx).2.2 b e
          · omega⟩
      · rename_i hne
        have hj2 : j < m.length := by simpa using hj
        have hmj := h2 _ (List.getElem_mem hj2)
        exact ⟨hmj.2.1.fr w w' _ _ hmj.1 k2 (hother j hj2 (fun e => hne e.symm)), hmj.2⟩
    · rw [List.pairwise_iff_getElem]
      intro a c ha hc hac b hb hb2
      have ha2 : a < m.length := by simpa using ha
      have hc2 : c < m.length := by simpa using hc
      rw [List.getElem_set] at hb hb2
      by_cases ea : i = a
      · subst ea
        rw [if_pos rfl] at hb
        rw [if_neg (by omega)] at hb2
        rcases k3 b hb with e | e
        · exact hother c hc2 (by omega) b hb2 e
        · have := (h2 _ (List.getElem_mem hc2)).2.1.lt w _ (h2 _ (List.getElem_mem hc2)).1 b hb2; omega
      · rw [if_neg ea] at hb
        by_cases ec : i = c
        · subst ec
          rw [if_pos rfl] at hb2
          rcases k3 b hb2 with e | e
          · exact hother a ha2 (by omega) b hb e
          · have := (h2 _ (List.getElem_mem ha2)).2.1.lt w _ (h2 _ (List.getElem_mem ha2)).1 b hb; omega
        · rw [if_neg ec] at hb2
          exact List.pairwise_iff_getElem.1 h3 a c ha2 hc2 hac b hb hb2
theorem Side.perm (h : Side w0 w l) (hp : l.Perm l') : Side w0 w l' := by
  obtain ⟨b, m, rfl, h2, h3⟩ := h
  obtain ⟨m', hm', hp'⟩ := perm_lift Prod.fst hp m rfl
  exact ⟨b, m', hm', fun x hx => h2 x (hp'.mem_iff.2 hx), hp'.pairwise h3 (fun {x y} h b hb hb2 => h b hb2 hb)⟩
/-- A call of one of the things. -/
theorem Side.call {P : Program} {f : FuncId} {args : Array Value} {Q : Ending → Prop} (h : Side w0 w l) (i : Nat) (hi : l[i]? = some k) (g : Good k') (hc : ∀ S, k w S → Calls P f args w fun e w' => Q e ∧ Step k' w w' S) :
    Calls P f args w fun e w' => Q e ∧ Side w0 w' (l.set i k') := by
  obtain ⟨b, m, rfl, h2, h3⟩ := h
  have hi0 := hi
  rw [List.getElem?_map] at hi
  cases hm : m[i]? with
  | none => rw [hm] at hi; cases hi
  | some x =>
    rw [hm] at hi
    simp at hi
    subst hi
    refine (hc x.2 (h2 x (List.mem_of_getElem? hm)).1).mono ?_
    intro e w' ⟨hq, hs⟩
    refine ⟨hq, ?_⟩
    -- the step holds of this very footprint
    obtain ⟨S', k1, k2, k3⟩ := hs
    have hside : Side w0 w ((m.set i ((fun w1 S1 => x.1 w1 S1 ∧ S1 = x.2), x.2)).map Prod.fst) := by
      refine ⟨b, _, rfl, fun y hy => ?_, ?_⟩
      · rcases List.mem_or_eq_of_mem_set hy with e | e
        · exact h2 y e
        · subst e
          have hx := h2 x (List.mem_of_getElem? hm)
          exact ⟨⟨hx.1, rfl⟩, ⟨fun w w' S T hk hf hd => ⟨hx.2.1.fr w w' S T hk.1 hf hd, hk.2⟩, fun w S hk => hx.2.1.lt w S hk.1⟩, hx.2.2⟩
      · rw [List.pairwise_iff_getElem]
        intro a c ha hc hac
        have ha2 : a < m.length := by simpa using ha
        have hc2 : c < m.length := by simpa using hc
        obtain ⟨hil, hio⟩ := List.getElem?_eq_some_iff.1 hm
        have := List.pairwise_iff_getElem.1 h3 a c ha2 hc2 hac
        rw [List.getElem_set, List.getElem_set]
        by_cases ea : i = a
        · subst ea
          rw [if_pos rfl, if_neg (by omega)]
          rw [hio] at this
          exact this
        · rw [if_neg ea]
          by_cases ec : i = c
          · subst ec
            rw [if_pos rfl]
            rw [hio] at this
            exact this
          · rw [if_neg ec]; exact this
    have hst := hside.step (i := i) (k := fun w1 S1 => x.1 w1 S1 ∧ S1 = x.2) (k' := k') (w' := w') (by
      obtain ⟨hil, _⟩ := List.getElem?_eq_some_iff.1 hm
      rw [List.map_set, List.getElem?_set_self (by simpa using hil)]) g (fun S hk _ => ⟨S', k1, by rw [hk.2]; exact k2, by rw [hk.2]; exact k3⟩)
    rw [List.map_set, List.set_set] at hst
    exact hst
/-- A call that makes a thing. -/
theorem Side.make {P : Program} {f : FuncId} {args : Array Value} {Q : Ending → Prop} (h : Side w0 w l) (g : Good k) (hc : Calls P f args w fun e w' => Q e ∧ Made k w w') : Calls P f args w fun e w' => Q e ∧ Side w0 w' (k :: l) :=
  hc.mono fun _ _ ⟨a, b⟩ => ⟨a, h.add g b⟩
end
/-- A block known whole, as a thing. -/
def Bx (N : Nat) (t : TypeId) (cs : List Value) : Kd := fun w S => Blk w N t cs ∧ ∀ b, S b ↔ b = N
theorem Bx.good (N : Nat) (t : TypeId) (cs : List Value) : Good (Bx N t cs) :=
  ⟨fun _ _ _ _ h k hn => ⟨h.1.fr k (hn N ((h.2 N).2 rfl)), h.2⟩, fun _ _ h b hb => by rw [(h.2 b).1 hb]; exact h.1.lt⟩
theorem Bx.made {w w' : World} {N : Nat} {t : TypeId} {cs : List Value} (hb : Below w.heap.size w w') (hB : Blk w' N t cs) (hN : w.heap.size ≤ N) : Made (Bx N t cs) w w' := ⟨fun b => b = N, ⟨hB, fun _ => Iff.rfl⟩, hb, fun b hb => by subst hb; exact hN⟩
theorem Bx.put {w : World} {N : Nat} {t : TypeId} {cs : List Value} {S : Nat → Prop} (h : Bx N t cs w S) (j : Nat) (u : Value) : Step (Bx N t (cs.set j u)) w (w.setCell ⟨N, j, none⟩ u) S :=
  ⟨S, ⟨h.1.set_ j u, h.2⟩, (Fr.refl _ _).set ⟨N, j, none⟩ u (.inl ((h.2 N).2 rfl)), fun _ h => .inl h⟩
section
variable {w0 w w' : World} {l : List Kd} {N : Nat} {t : TypeId} {cs : List Value}
theorem Side.blk (h : Side w0 w l) {i : Nat} (hi : l[i]? = some (Bx N t cs)) : Blk w N t cs := by
  obtain ⟨S, h, _⟩ := h.get hi
  exact h.1
theorem Side.put (h : Side w0 w l) {i : Nat} (hi : l[i]? = some (Bx N t cs)) (j : Nat) (u : Value) : Side w0 (w.setCell ⟨N, j, none⟩ u) (l.set i (Bx N t (cs.set j u))) :=
  h.step hi (Bx.good _ _ _) (fun _ hS _ => hS.put j u)
theorem Side.box (h : Side w0 w l) (hb : Below w.heap.size w w') (hB : Blk w' N t cs) (hN : w.heap.size ≤ N) : Side w0 w' (Bx N t cs :: l) := h.add (Bx.good _ _ _) (Bx.made hb hB hN)
end
end Go.Proofs.Ytmhkbchbglnbpaa
