/- Several stocks side by side, and states that are held by value. -/
import Derived.Test.YtdancoblphkakaaJoinD
namespace Go.Proofs.Ytdancoblphkakaa
open Go.RowKit

/-! ### states by value -/
/-- A slice that reads as a list and lies in U. -/
def RdU (w : World) (U : Nat → Prop) (p : Option Addr) (xs : List Value) : Prop := xs = [] ∨ ∃ b o, p = some ⟨b, o, none⟩ ∧ U b ∧ b < w.heap.size ∧ ∀ (j : Nat) (u : Value), xs[j]? = some u → w.cell? ⟨b, o + j, none⟩ = some u
section
variable {w w' w1 : World} {U V T : Nat → Prop} {p : Option Addr} {xs : List Value}
theorem RdU.rd (h : RdU w U p xs) : Rd w w.heap.size p xs := by
  rcases h with h | ⟨b, o, hp, _, hb, hc⟩
  · exact .inl h
  · exact .inr ⟨b, o, hp, hb, hc⟩
theorem RdU.of_rd (h : Rd w w.heap.size p xs) (hu : ∀ b, b < w.heap.size → U b) : RdU w U p xs := by
  rcases h with h | ⟨b, o, hp, hb, hc⟩
  · exact .inl h
  · exact .inr ⟨b, o, hp, hu b hb, hb, hc⟩
theorem RdU.mono (h : RdU w U p xs) (hu : ∀ b, U b → b < w.heap.size → V b) : RdU w V p xs := by
  rcases h with h | ⟨b, o, hp, h1, hb, hc⟩
  · exact .inl h
  · exact .inr ⟨b, o, hp, hu b h1 hb, hb, hc⟩
theorem RdU.fr (h : RdU w U p xs) (k : Fr T w w') (hn : ∀ b, U b → ¬ T b) : RdU w' U p xs := by
  rcases h with h | ⟨b, o, hp, h1, hb, hc⟩
  · exact .inl h
  · refine .inr ⟨b, o, hp, h1, Nat.lt_of_lt_of_le hb k.size, fun j u hu => ?_⟩
    rw [World.cell?_of_block (w := w) (w' := w') (a := ⟨b, o + j, none⟩) (k.block b hb (hn _ h1))]
    exact hc j u hu
theorem RdU.of_own {base n c m : Nat} {e : TypeId} (h : w.ownsRow base e 1 (.slice p m c) n xs) (hu : ∀ b, base ≤ b → b < w.heap.size → U b) : RdU w U p xs := by
  rcases h.2 with ⟨h1, h2⟩ | ⟨g, cap, cur, hv, hg, hh, hn, hc, hs, ht⟩
  · have := h.1
    subst h2
    exact .inl (List.eq_nil_of_length_eq_zero (by simpa using this))
  · injection hv with hp hm
    subst hp
    have hlt := (Array.getElem?_eq_some_iff.1 hh).1
    refine .inr ⟨g, 0, rfl, hu g hg hlt, hlt, fun j u hu => ?_⟩
    rw [Nat.zero_add, cell_of_row w g j cur e (0, 0) hh]
    rw [← ht, List.getElem?_take] at hu
    split at hu
    · simpa using hu
    · cases hu
end
/-- A value that is a state; what it reads lies in U. -/
def VS (w : World) (U : Nat → Prop) (v : Value) (G : List (List Int)) (D : List Int) : Prop :=
  ∃ pg cg qd cd vs, v = .agg #[.slice pg G.length cg, .slice qd D.length cd] ∧ RdU w U pg vs ∧ vs.length = G.length ∧ (∀ i (_ : i < vs.length) (_ : i < G.length), ∃ q c, vs[i] = .slice q (G[i]).length c ∧ RdU w U q (ints G[i])) ∧ RdU w U qd (ints D)
section
variable {w w' w1 w0 : World} {U V T : Nat → Prop} {v : Value} {G G' : List (List Int)} {D D' : List Int}
theorem VS.reads (h : VS w U v G D) : ∃ pg cg qd cd, v = .agg #[.slice pg G.length cg, .slice qd D.length cd] ∧ MR w pg G ∧ Rd w w.heap.size qd (ints D) := by
  obtain ⟨pg, cg, qd, cd, vs, hv, h1, h2, h3, h4⟩ := h
  refine ⟨pg, cg, qd, cd, hv, ⟨vs, h1.rd, h2, fun i hi hi2 => ?_⟩, h4.rd⟩
  obtain ⟨q, c, e, hr⟩ := h3 i hi hi2
  exact ⟨q, c, e, hr.rd⟩
theorem VS.mono (h : VS w U v G D) (hu : ∀ b, U b → b < w.heap.size → V b) : VS w V v G D := by
  obtain ⟨pg, cg, qd, cd, vs, hv, h1, h2, h3, h4⟩ := h
  refine ⟨pg, cg, qd, cd, vs, hv, h1.mono hu, h2, fun i hi hi2 => ?_, h4.mono hu⟩
  obtain ⟨q, c, e, hr⟩ := h3 i hi hi2
  exact ⟨q, c, e, hr.mono hu⟩
theorem VS.fr (h : VS w U v G D) (k : Fr T w w') (hn : ∀ b, U b → ¬ T b) : VS w' U v G D := by
  obtain ⟨pg, cg, qd, cd, vs, hv, h1, h2, h3, h4⟩ := h
  refine ⟨pg, cg, qd, cd, vs, hv, h1.fr k hn, h2, fun i hi hi2 => ?_, h4.fr k hn⟩
  obtain ⟨q, c, e, hr⟩ := h3 i hi hi2
  exact ⟨q, c, e, hr.fr k hn⟩
theorem VS.kept (h : VS w U v G D) (k : Below w.heap.size w w') : VS w' U v G D := h.fr (T := fun _ => False) (Fr.of_below k _) (fun _ _ h => h)

/-! ### stocks side by side -/
structure Ob where
  X : Nat
  S : Nat → Prop
  G : List (List Int)
  D : List Int
/-- Stocks that are new since w0 and share nothing. -/
structure Obs (w0 w : World) (l : List Ob) : Prop where
  b : Below w0.heap.size w0 w
  st : ∀ o ∈ l, ST w o.X o.S o.G o.D ∧ ∀ b, o.S b → w0.heap.size ≤ b
  ap : l.Pairwise fun a c => ∀ b, a.S b → ¬ c.S b
theorem Obs.nil (w : World) : Obs w w [] := ⟨Below.refl _ _, by simp, .nil⟩
theorem Obs.at_ {l : List Ob} (h : Obs w0 w l) {i : Nat} {o : Ob} (hi : l[i]? = some o) : ST w o.X o.S o.G o.D := (h.st o (List.mem_of_getElem? hi)).1
theorem Obs.kept {l : List Ob} (h : Obs w0 w l) (k : Below w.heap.size w w') : Obs w0 w' l := ⟨below_step h.b k, fun o ho => ⟨(h.st o ho).1.kept k, (h.st o ho).2⟩, h.ap⟩
theorem Obs.drop {l l' : List Ob} (h : Obs w0 w l) (hs : l'.Sublist l) : Obs w0 w l' := ⟨h.b, fun o ho => h.st o (hs.subset ho), h.ap.sublist hs⟩
theorem Obs.add {l : List Ob} {X : Nat} (h : Obs w0 w l) (k : NewSt w X G D w') : ∃ S, Obs w0 w' (⟨X, S, G, D⟩ :: l) := by
  obtain ⟨S, h1, h2, h3⟩ := k
  have hsz := h.b.size
  refine ⟨S, below_step h.b h2, fun o ho => ?_, List.pairwise_cons.2 ⟨fun o ho b hb hs => ?_, h.ap⟩⟩
  · rcases List.mem_cons.1 ho with rfl | ho
    · exact ⟨h1, fun b hb => by have := h3 b hb; omega⟩
    · exact ⟨(h.st o ho).1.kept h2, (h.st o ho).2⟩
  · have := (h.st o ho).1.lt b hs
    have := h3 b hb
    omega
theorem Obs.snoc {l : List Ob} {X : Nat} (h : Obs w0 w l) (k : NewSt w X G D w') : ∃ S, Obs w0 w' (l ++ [⟨X, S, G, D⟩]) := by
  obtain ⟨S, h1⟩ := h.add k
  refine ⟨S, h1.b, fun o ho => h1.st o (by simp at ho ⊢; exact ho.symm), ?_⟩
  rw [List.pairwise_append]
  obtain ⟨h2, h3⟩ := List.pairwise_cons.1 h1.ap
  refine ⟨h3, by simp, fun a ha c hc => ?_⟩
  simp only [List.mem_singleton] at hc
  subst hc
  exact fun b hb hb2 => h2 a ha b hb2 hb
/-- One of the stocks goes on. -/
theorem Obs.step {l : List Ob} (h : Obs w0 w l) {i : Nat} {o : Ob} (hi : l[i]? = some o) (k : StW w w' o.X o.S G' D') :
    ∃ S', Obs w0 w' (l.set i ⟨o.X, S', G', D'⟩) ∧ (∀ b, S' b → o.S b ∨ w.heap.size ≤ b) ∧ ∀ b, o.S b → S' b := by
  obtain ⟨S', k1, k2, k3, k4⟩ := k
  have hm := List.mem_of_getElem? hi
  obtain ⟨hil, hio⟩ := List.getElem?_eq_some_iff.1 hi
  have hsz := h.b.size
  have hS := (h.st o hm).2
  have hother : ∀ (j : Nat) (hj : j < l.length), j ≠ i → ∀ b, (l[j]).S b → ¬ o.S b := by
    intro j hj hji b hb hb2
    rcases Nat.lt_or_ge j i with e | e
    · exact List.pairwise_iff_getElem.1 h.ap j i hj hil e b hb (by rw [hio]; exact hb2)
    · exact List.pairwise_iff_getElem.1 h.ap i j hil hj (by omega) b (by rw [hio]; exact hb2) hb
  refine ⟨S', ⟨Fr.below h.b k2 hS, ?_, ?_⟩, k3, k4⟩
  · intro o2 ho2
    obtain ⟨j, hj, rfl⟩ := List.mem_iff_getElem.1 ho2
    rw [List.getElem_set]
    split
    · exact ⟨k1, fun b hb => by
        rcases k3 b hb with e | e
        · exact hS b e
        · omega⟩
    · rename_i hne
      have hj2 : j < l.length := by simpa using hj
      have hmj := List.getElem_mem hj2
      exact ⟨(h.st _ hmj).1.fr k2 (hother j hj2 (fun e => hne e.symm)), (h.st _ hmj).2⟩
  · rw [List.pairwise_iff_getElem]
    intro a c ha hc hac b hb hb2
    have ha2 : a < l.length := by simpa using ha
    have hc2 : c < l.length := by simpa using hc
    rw [List.getElem_set] at hb hb2
    by_cases ea : i = a
    · subst ea
      rw [if_pos rfl] at hb
      rw [if_neg (by omega)] at hb2
      rcases k3 b hb with e | e
      · exact hother c hc2 (by omega) b hb2 e
      · have := (h.st _ (List.getElem_mem hc2)).1.lt b hb2; omega
    · rw [if_neg ea] at hb
      by_cases ec : i = c
      · subst ec
        rw [if_pos rfl] at hb2
        rcases k3 b hb2 with e | e
        · exact hother a ha2 (by omega) b hb e
        · have := (h.st _ (List.getElem_mem ha2)).1.lt b hb; omega
      · rw [if_neg ec] at hb2
        exact List.pairwise_iff_getElem.1 h.ap a c ha2 hc2 hac b hb hb2
/-- A state that no stock writes into. -/
def Ro (w : World) (l : List Ob) (v : Value) (G : List (List Int)) (D : List Int) : Prop := VS w (fun b => ∀ o ∈ l, ¬ o.S b) v G D
theorem Ro.kept {l : List Ob} (h : Ro w l v G D) (k : Below w.heap.size w w') : Ro w' l v G D := VS.kept h k
theorem Ro.drop {l l' : List Ob} (h : Ro w l v G D) (hs : ∀ o ∈ l', o ∈ l) : Ro w l' v G D := VS.mono h (fun _ h1 _ o ho => h1 o (hs o ho))
theorem Ro.add {l : List Ob} {o : Ob} (h : Ro w l v G D) (hs : ∀ b, o.S b → w.heap.size ≤ b) : Ro w (o :: l) v G D := VS.mono h (fun b h1 h2 o2 ho hb => by
  rcases List.mem_cons.1 ho with rfl | ho
  · have := hs b hb; omega
  · exact h1 o2 ho hb)
/-- The result of a function that makes a state of what it is given and of new memory. -/
theorem Ro.of {l : List Ob} (h : VS w' (fun b => (∀ o ∈ l, ¬ o.S b) ∨ w.heap.size ≤ b) v G D) (ho : Obs w0 w l) : Ro w' l v G D :=
  VS.mono h (fun b h1 _ o hm hb => by
    rcases h1 with h1 | h1
    · exact h1 o hm hb
    · have := (ho.st o hm).1.lt b hb; omega)
/-- The states that stand by, when one of the stocks goes on. -/
theorem Obs.ro {l : List Ob} (h : Obs w0 w l) {i : Nat} {o : Ob} (hi : l[i]? = some o) (k : StW w w' o.X o.S G' D') :
    ∃ S', Obs w0 w' (l.set i ⟨o.X, S', G', D'⟩) ∧ ∀ v G D, Ro w l v G D → Ro w' (l.set i ⟨o.X, S', G', D'⟩) v G D := by
  obtain ⟨S', h1, h2, h3⟩ := h.step hi k
  obtain ⟨_, _, k2, _⟩ := k
  refine ⟨S', h1, fun v G D hv => ?_⟩
  have hm := List.mem_of_getElem? hi
  refine VS.fr (T := o.S) (U := fun b => ∀ o2 ∈ l.set i ⟨o.X, S', G', D'⟩, ¬ o2.S b) (w := w) (VS.mono hv (fun b g1 g2 o2 ho2 hb => ?_)) k2 (fun b hb ho => ?_)
  · rcases List.mem_or_eq_of_mem_set ho2 with e | e
    · exact g1 o2 e hb
    · subst e
      rcases h2 b hb with e | e
      · exact g1 o hm e
      · omega
  · obtain ⟨hil, hio⟩ := List.getElem?_eq_some_iff.1 hi
    exact hb ⟨o.X, S', G', D'⟩ (List.mem_set hil _) (h3 b ho)
theorem Obs.arg {l : List Ob} (h : Obs w0 w l) (hv : VS w0 U v G D) : Ro w l v G D :=
  (VS.mono hv (V := fun b => b < w0.heap.size) (fun b _ hb => hb)).kept h.b |>.mono (fun b hb _ o ho hs => by have := (h.st o ho).2 b hs; omega)
end
end Go.Proofs.Ytdancoblphkakaa
