/- One queue of the locks is replaced: what becomes of the state. -/
import Derived.Test.YthjakgjpnijmlaaReads
namespace Go.Proofs.Ythjakgjpnijmlaa
open Go.RowKit

/-- The locks at L have become Q'; but for S and what is new, all is as it was. -/
def LockW (w w' : World) (L : Nat) (S : Nat → Prop) (Q' : List (List Int)) : Prop := ∃ S' : Nat → Prop, LK w' L S' Q' ∧ Fr S w w' ∧ (∀ b, S' b → S b ∨ w.heap.size ≤ b) ∧ ∀ b, S b → S' b

theorem own_type {w : World} {base size n : Nat} {e : TypeId} {v : Value} {xs : List Value} (h : w.ownsRow base e size v n xs) {k : Nat} (hk : v.ownBlock = some k) : ∃ cur, w.heap[k]? = some (.cells cur e (0, 0)) := by
  rcases h.2 with ⟨h1, _⟩ | ⟨b, cap, cur, hb, _, hh, _⟩
  · rw [h1] at hk; cases hk
  · rw [hb] at hk; injection hk with hk; subst hk; exact ⟨cur, hh⟩
theorem type_ne {w : World} {a b : Nat} {c1 c2 : Array Value} {t1 t2 : TypeId} (h1 : w.heap[a]? = some (.cells c1 t1 (0, 0))) (h2 : w.heap[b]? = some (.cells c2 t2 (0, 0))) (hne : t1 ≠ t2) : a ≠ b := by
  rintro rfl
  rw [h1] at h2
  injection h2 with h2
  injection h2 with _ h2
  exact hne h2
/-- A cell of a row of the call's own is stored into. -/
theorem own_store {w : World} {base : Nat} {e : TypeId} {g n c : Nat} {xs : List Value} (h : w.ownsRow base e 1 (.slice (some ⟨g, 0, none⟩) n c) n xs) (i : Nat) (u : Value) : (w.setCell ⟨g, i, none⟩ u).ownsRow base e 1 (.slice (some ⟨g, 0, none⟩) n c) n (xs.set i u) := by
  rcases h.2 with ⟨h1, _⟩ | ⟨g', cap, cur, hv, hb, hh, hn, hm, hs, ht⟩
  · cases h1
  · injection hv with hv hn' hc'
    injection hv with hv
    injection hv with hv
    subst hv hc'
    refine ⟨by rw [List.length_set]; exact h.1, .inr ⟨g, c, (cur.toList.set i u).toArray, rfl, hb, ?_, hn, hm, by simpa using hs, ?_⟩⟩
    · have hB : Blk w g e cur.toList := by unfold Blk; simpa using hh
      exact hB.set_ i u
    · simp only [List.take_set]
      rw [ht]
theorem own_far {w : World} {base size n : Nat} {e : TypeId} {v : Value} {xs : List Value} (h : w.ownsRow base e size v n xs) (p : Addr) (u : Value) (hn : v.ownBlock ≠ some p.block) : (w.setCell p u).ownsRow base e size v n xs :=
  own_fr h (S := fun b => b = p.block) ((Fr.refl _ _).set p u (.inl rfl)) (fun c hc e => hn (by rw [hc, e]))

section
variable {w w2 : World} {L : Nat} {S : Nat → Prop} {Q : List (List Int)} {g c : Nat} {vs : List Value}
theorem LKd.put (hd : LKd w L S Q g c vs) (hlen : 0 < Q.length ∧ Q.length ≤ 1024) {i : Nat} (hi : i < Q.length) {v : Value} (hv : vs[i]? = some v) (hF : Fr (fun b => v.ownBlock = some b) w w2) {v' : Value} {q' : List Int}
    (hown : w2.ownsRow 0 3 1 v' q'.length (ints q')) (hat : ∀ k, v'.ownBlock = some k → v.ownBlock = some k ∨ w.heap.size ≤ k) : LockW w (w2.setCell ⟨g, i, none⟩ v') L S (Q.set i q') := by
  have hvm : v ∈ vs := List.mem_of_getElem? hv
  have hnL : v.ownBlock ≠ some L := fun e => (hd.ne_q hvm e).1 rfl
  have hng : v.ownBlock ≠ some g := fun e => (hd.ne_q hvm e).2 rfl
  have hL2 : Blk w2 L 54 _ := hd.hL.fr hF hnL
  have hg2 := own_fr hd.hg hF (fun b hb => by injection hb with hb; subst hb; exact hng)
  obtain ⟨gcur, hgcur⟩ := own_type hg2 (k := g) rfl
  have hv'g : v'.ownBlock ≠ some g := fun e => by
    obtain ⟨cur, hc⟩ := own_type hown e
    exact type_ne hc hgcur (by decide) rfl
  have hlt : g < w2.heap.size := Nat.lt_of_lt_of_le (hd.lt g hd.sg) hF.size
  have hFS : Fr S w (w2.setCell ⟨g, i, none⟩ v') := ((Fr.mono hF (T := S) (fun b hb => .inl (hd.sv v hvm b hb))).set _ _ (.inl hd.sg))
  refine ⟨fun b => S b ∨ (w.heap.size ≤ b ∧ b < w2.heap.size), ⟨by simpa using hlen.1, by simpa using hlen.2, g, c, vs.set i v', ?_⟩, hFS, fun b hb => hb.imp id (fun h => h.1), fun b hb => .inl hb⟩
  refine ⟨?_, ?_, ?_, ?_, .inl hd.sL, .inl hd.sg, ?_, ?_⟩
  · rw [List.length_set]
    exact hL2.far hd.ne v'
  · rw [List.length_set]
    exact own_store hg2 i v'
  · intro j u q h1 h2
    by_cases hji : j = i
    · subst hji
      rw [List.getElem?_set_self (by rw [hd.len]; exact hi)] at h1
      rw [List.getElem?_set_self hi] at h2
      injection h1 with h1
      injection h2 with h2
      subst h1 h2
      exact own_far hown _ _ hv'g
    · rw [List.getElem?_set_ne (fun e => hji e.symm)] at h1 h2
      have hu := hd.hv j u q h1 h2
      have hne : ∀ k, u.ownBlock = some k → ¬ v.ownBlock = some k := fun k hk he => hd.hd j i u v k hji h1 hv hk he
      exact own_far (own_fr hu hF hne) _ _ (fun e => (hd.ne_q (List.mem_of_getElem? h1) e).2 rfl)
  · intro a b x y k hab h1 h2 hx hy
    by_cases ha : a = i
    · subst ha
      rw [List.getElem?_set_self (by rw [hd.len]; exact hi)] at h1
      injection h1 with h1
      subst h1
      rw [List.getElem?_set_ne hab] at h2
      rcases hat k hx with e | e
      · exact hd.hd a b v y k hab hv h2 e hy
      · have := hd.lt k (hd.sv y (List.mem_of_getElem? h2) k hy); omega
    · rw [List.getElem?_set_ne (fun e => ha e.symm)] at h1
      by_cases hb : b = i
      · subst hb
        rw [List.getElem?_set_self (by rw [hd.len]; exact hi)] at h2
        injection h2 with h2
        subst h2
        rcases hat k hy with e | e
        · exact hd.hd a b x v k hab h1 hv hx e
        · have := hd.lt k (hd.sv x (List.mem_of_getElem? h1) k hx); omega
      · rw [List.getElem?_set_ne (fun e => hb e.symm)] at h2
        exact hd.hd a b x y k hab h1 h2 hx hy
  · intro u hu k hk
    rcases List.mem_or_eq_of_mem_set hu with h | h
    · exact .inl (hd.sv u h k hk)
    · subst h
      rcases hat k hk with e | e
      · exact .inl (hd.sv v hvm k e)
      · exact .inr ⟨e, own_block_lt hown hk⟩
  · intro b hb
    rcases hb with hb | hb
    · have := hd.lt b hb; have := hF.size; simp; omega
    · simpa using hb.2
theorem LockW.same {L : Nat} {S : Nat → Prop} {Q : List (List Int)} (h : LK w L S Q) : LockW w w L S Q := ⟨S, h, Fr.refl _ _, fun _ h => .inl h, fun _ h => h⟩
end
end Go.Proofs.Ythjakgjpnijmlaa
