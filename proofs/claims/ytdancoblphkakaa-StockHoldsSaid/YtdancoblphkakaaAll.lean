/- Stocks, states and variables side by side; the law's functions over them. -/
import Derived.Test.YtdancoblphkakaaKnown
namespace Go.Proofs.Ytdancoblphkakaa
open Go.RowKit

/-! ### by value -/
section
variable {w : World} {U : Nat → Prop} {v : Value} {G H : List (List Int)} {D E : List Int}
theorem small_vs (h : VS w U v G D) : Calls Try.prog 8 #[v] w (RetB w (Small G D)) := by
  obtain ⟨pg, cg, qd, cd, rfl, hM, hR⟩ := h.reads
  exact small_any pg qd cg cd hM
theorem valid_vs (h : VS w U v G D) : Calls Try.prog 9 #[v] w (RetB w (Valid G D)) := by
  obtain ⟨pg, cg, qd, cd, rfl, hM, hR⟩ := h.reads
  exact valid_any pg qd cg cd hM hR
theorem retB_true {w w' : World} {p : Prop} {e : Ending} (h : RetB w p e w') (hp : p) : e = .returned (.bool true) ∧ Below w.heap.size w w' := by
  obtain ⟨b, rfl, h1, h2⟩ := h
  exact ⟨by rw [h1.2 hp], h2⟩
theorem retB_false {w w' : World} {p : Prop} {e : Ending} (h : RetB w p e w') (hp : ¬ p) : e = .returned (.bool false) ∧ Below w.heap.size w w' := by
  obtain ⟨b, rfl, h1, h2⟩ := h
  refine ⟨?_, h2⟩
  cases b
  · rfl
  · exact absurd (h1.1 rfl) hp
theorem small_t (h : VS w U v G D) (hp : Small G D) : Calls Try.prog 8 #[v] w fun e w' => e = .returned (.bool true) ∧ Below w.heap.size w w' := (small_vs h).mono fun _ _ k => retB_true k hp
theorem small_f (h : VS w U v G D) (hp : ¬ Small G D) : Calls Try.prog 8 #[v] w fun e w' => e = .returned (.bool false) ∧ Below w.heap.size w w' := (small_vs h).mono fun _ _ k => retB_false k hp
theorem valid_t (h : VS w U v G D) (hp : Valid G D) : Calls Try.prog 9 #[v] w fun e w' => e = .returned (.bool true) ∧ Below w.heap.size w w' := (valid_vs h).mono fun _ _ k => retB_true k hp
theorem valid_f (h : VS w U v G D) (hp : ¬ Valid G D) : Calls Try.prog 9 #[v] w fun e w' => e = .returned (.bool false) ∧ Below w.heap.size w w' := (valid_vs h).mono fun _ _ k => retB_false k hp
theorem own_vs (h : VS w U v G D) (hs : Small G D) : Calls Try.prog 12 #[v] w fun e w' => ∃ v', e = .returned v' ∧ VS w' (fun b => w.heap.size ≤ b) v' G D ∧ Below w.heap.size w w' := by
  obtain ⟨pg, cg, qd, cd, rfl, hM, hR⟩ := h.reads
  obtain ⟨s1, s2, s3⟩ := hs
  refine (own_any pg qd cg cd hM hR (by omega) (fun i hi => by have := s2 i hi; omega) (by omega)).mono ?_
  rintro e w' ⟨v1, v2, vs, rfl, ho, hb⟩
  exact ⟨_, rfl, ho.val, hb⟩
theorem bad_iff (x : Int) : bad x = false ↔ inU x := by
  unfold bad inU
  simp
theorem any_bad {l : List Int} (h : ∀ i, inU (da l i)) : l.any bad = false := by
  rw [List.any_eq_false]
  intro x hx
  obtain ⟨i, hi, rfl⟩ := List.mem_iff_getElem.1 hx
  have := h i
  rw [da_at hi] at this
  rw [(bad_iff _).2 this]
  decide
theorem of_vs (h : VS w U v G D) (hv : Valid G D) : Calls Try.prog 11 #[v] w fun e w' => ∃ X, e = .returned (.tuple #[.pointer (some ⟨X, 0, none⟩), .int .i64 0]) ∧ NewSt w X G D w' := by
  obtain ⟨pg, cg, qd, cd, rfl, hM, hR⟩ := h.reads
  obtain ⟨hS, hr⟩ := hv
  have hN := hS.num
  have := of_any (G := G) (D := D) pg qd cg cd hM hR hN hS.1 hS.2.1 hS.len hS.2.2.1 (any_bad fun i => hN.d i) (fun i hi => any_bad fun k => by
    have := hN.g i k
    unfold ga at this
    rw [show G.getD i [] = G[i] by simp [hi]] at this
    exact this)
  rw [hS.2.2.1]
  refine this.mono ?_
  rintro e w' (⟨_, X, rfl, hn⟩ | ⟨hn, _⟩)
  · exact ⟨X, rfl, hn⟩
  · exact absurd hr hn
theorem VS.shape (h : VS w U v G D) : ∃ pg cg qd cd, v = .agg #[.slice pg G.length cg, .slice qd D.length cd] := by
  obtain ⟨pg, cg, qd, cd, h, _⟩ := h.reads
  exact ⟨pg, cg, qd, cd, h⟩
end

/-! ### all that stands side by side -/
structure Sv where
  v : Value
  G : List (List Int)
  D : List Int
structure Bx where
  N : Nat
  t : TypeId
  cs : List Value
/-- Where a state may lie: where no stock and no variable is. -/
def Clear (w : World) (l : List Ob) (c : List Bx) (b : Nat) : Prop := b < w.heap.size ∧ (∀ o ∈ l, ¬ o.S b) ∧ ∀ y ∈ c, y.N ≠ b
/-- Stocks that are new since w0; states that none of them writes into; variables. -/
structure All (w0 w : World) (l : List Ob) (m : List Sv) (c : List Bx) : Prop where
  o : Obs w0 w l
  s : ∀ x ∈ m, VS w (Clear w l c) x.v x.G x.D
  cx : ∀ x ∈ c, Blk w x.N x.t x.cs ∧ w0.heap.size ≤ x.N ∧ ∀ o ∈ l, ¬ o.S x.N
  n : c.Pairwise fun x y => x.N ≠ y.N
section
variable {w0 w w' w1 : World} {l l' : List Ob} {m m' : List Sv} {c c' : List Bx} {G G' : List (List Int)} {D D' : List Int} {U : Nat → Prop} {v : Value}
theorem All.nil (w : World) : All w w [] [] [] := ⟨Obs.nil w, by simp, by simp, .nil⟩
theorem All.b (h : All w0 w l m c) : Below w0.heap.size w0 w := h.o.b
theorem All.kept (h : All w0 w l m c) (k : Below w.heap.size w w') : All w0 w' l m c :=
  ⟨h.o.kept k, fun x hx => ((h.s x hx).kept k).mono (fun b hb _ => ⟨Nat.lt_of_lt_of_le hb.1 k.size, hb.2⟩), fun x hx => ⟨(h.cx x hx).1.kept k, (h.cx x hx).2⟩, h.n⟩
theorem All.less (h : All w0 w l m c) (hl : l'.Sublist l) (hm : ∀ x ∈ m', x ∈ m) (hc : c'.Sublist c) : All w0 w l' m' c' :=
  ⟨h.o.drop hl, fun x hx => (h.s x (hm x hx)).mono (fun b hb _ => ⟨hb.1, fun o ho => hb.2.1 o (hl.subset ho), fun y hy => hb.2.2 y (hc.subset hy)⟩), fun x hx => ⟨(h.cx x (hc.subset hx)).1, (h.cx x (hc.subset hx)).2.1, fun o ho => (h.cx x (hc.subset hx)).2.2 o (hl.subset ho)⟩, h.n.sublist hc⟩
theorem All.arg (h : All w0 w l m c) (hv : VS w0 U v G D) : All w0 w l (⟨v, G, D⟩ :: m) c := ⟨h.o, fun x hx => by
  rcases List.mem_cons.1 hx with rfl | hx
  · refine ((VS.mono hv (V := fun b => b < w0.heap.size) (fun b _ hb => hb)).kept h.b).mono (fun b hb _ => ⟨Nat.lt_of_lt_of_le hb h.b.size, fun o ho hs => ?_, fun y hy e => ?_⟩)
    · have := (h.o.st o ho).2 b hs; omega
    · have := (h.cx y hy).2.1; omega
  · exact h.s x hx, h.cx, h.n⟩
theorem All.add {X : Nat} (h : All w0 w l m c) (k : NewSt w X G D w') : ∃ S, All w0 w' (⟨X, S, G, D⟩ :: l) m c := by
  have hb : Below w.heap.size w w' := k.below
  obtain ⟨S, h1, h2, h3⟩ := k
  have hsz := h.o.b.size
  have hsz2 := hb.size
  refine ⟨S, ⟨below_step h.o.b h2, fun o ho => ?_, List.pairwise_cons.2 ⟨fun o ho b hb hs => ?_, h.o.ap⟩⟩, fun x hx => ?_, fun x hx => ⟨(h.cx x hx).1.kept hb, (h.cx x hx).2.1, fun o ho hs => ?_⟩, h.n⟩
  · rcases List.mem_cons.1 ho with rfl | ho
    · exact ⟨h1, fun b hb => by have := h3 b hb; omega⟩
    · exact ⟨(h.o.st o ho).1.kept h2, (h.o.st o ho).2⟩
  · have := (h.o.st o ho).1.lt b hs
    have := h3 b hb
    omega
  · exact ((h.s x hx).kept hb).mono (fun b g1 _ => ⟨by have := g1.1; omega, fun o2 ho hb2 => by
      rcases List.mem_cons.1 ho with rfl | ho
      · have := h3 b hb2; have := g1.1; omega
      · exact g1.2.1 o2 ho hb2, g1.2.2⟩)
  · rcases List.mem_cons.1 ho with rfl | ho
    · have := h3 _ hs; have := (h.cx x hx).1.lt; omega
    · exact (h.cx x hx).2.2 o ho hs
/-- A state has been made of what is there and of new memory. -/
theorem All.addS (h : All w0 w l m c) (hb : Below w.heap.size w w') (hv : VS w' (fun b => Clear w l c b ∨ w.heap.size ≤ b) v G D) : All w0 w' l (⟨v, G, D⟩ :: m) c :=
  ⟨h.o.kept hb, fun x hx => by
    rcases List.mem_cons.1 hx with rfl | hx
    · refine VS.mono hv (fun b hb2 hlt => ⟨hlt, fun o ho hs => ?_, fun y hy e => ?_⟩)
      · rcases hb2 with hb2 | hb2
        · exact hb2.2.1 o ho hs
        · have := (h.o.st o ho).1.lt b hs; omega
      · rcases hb2 with hb2 | hb2
        · exact hb2.2.2 y hy e
        · have := (h.cx y hy).1.lt; omega
    · exact ((h.s x hx).kept hb).mono (fun b hb2 _ => ⟨Nat.lt_of_lt_of_le hb2.1 hb.size, hb2.2⟩), fun x hx => ⟨(h.cx x hx).1.kept hb, (h.cx x hx).2⟩, h.n⟩
/-- A variable has been made. -/
theorem All.box (h : All w0 w l m c) (hb : Below w.heap.size w w') {N : Nat} {t : TypeId} {cs : List Value} (hB : Blk w' N t cs) (hN : w.heap.size ≤ N) : All w0 w' l m (⟨N, t, cs⟩ :: c) :=
  ⟨h.o.kept hb, fun x hx => ((h.s x hx).kept hb).mono (fun b hb2 _ => ⟨Nat.lt_of_lt_of_le hb2.1 hb.size, hb2.2.1, fun y hy e => by
      rcases List.mem_cons.1 hy with rfl | hy
      · have h9 : N = b := e; have := hb2.1; omega
      · exact hb2.2.2 y hy e⟩), fun x hx => by
    rcases List.mem_cons.1 hx with rfl | hx
    · exact ⟨hB, by have := h.b.size; show w0.heap.size ≤ N; omega, fun o ho hs => by have : N < w.heap.size := (h.o.st o ho).1.lt N hs; omega⟩
    · exact ⟨(h.cx x hx).1.kept hb, (h.cx x hx).2⟩, List.pairwise_cons.2 ⟨fun y hy e => by have := (h.cx y hy).1.lt; have h9 : N = y.N := e; omega, h.n⟩⟩
/-- One of the stocks goes on. -/
theorem All.step (h : All w0 w l m c) {i : Nat} {o : Ob} (hi : l[i]? = some o) (k : StW w w' o.X o.S G' D') : ∃ S', All w0 w' (l.set i ⟨o.X, S', G', D'⟩) m c := by
  obtain ⟨S', h1, h2, h3⟩ := h.o.step hi k
  obtain ⟨_, _, k2, _⟩ := k
  have hm := List.mem_of_getElem? hi
  obtain ⟨hil, hio⟩ := List.getElem?_eq_some_iff.1 hi
  have hsz := k2.size
  refine ⟨S', h1, fun x hx => ?_, fun x hx => ⟨(h.cx x hx).1.fr k2 ((h.cx x hx).2.2 o hm), (h.cx x hx).2.1, fun o2 ho2 hs => ?_⟩, h.n⟩
  · refine ((h.s x hx).fr k2 (fun b hb ho => hb.2.1 o hm ho)).mono (fun b g1 _ => ⟨by have := g1.1; omega, fun o2 ho2 hb => ?_, g1.2.2⟩)
    rcases List.mem_or_eq_of_mem_set ho2 with e | e
    · exact g1.2.1 o2 e hb
    · subst e
      rcases h2 b hb with e | e
      · exact g1.2.1 o hm e
      · have := g1.1; omega
  · rcases List.mem_or_eq_of_mem_set ho2 with e | e
    · exact (h.cx x hx).2.2 o2 e hs
    · subst e
      rcases h2 _ hs with e | e
      · exact (h.cx x hx).2.2 o hm e
      · have := (h.cx x hx).1.lt; omega
/-- A variable is written. -/
theorem All.put (h : All w0 w l m c) {i : Nat} {N : Nat} {t : TypeId} {cs : List Value} (hi : c[i]? = some ⟨N, t, cs⟩) (j : Nat) (u : Value) : All w0 (w.setCell ⟨N, j, none⟩ u) l m (c.set i ⟨N, t, cs.set j u⟩) := by
  have hm := List.mem_of_getElem? hi
  obtain ⟨hil, hio⟩ := List.getElem?_eq_some_iff.1 hi
  obtain ⟨hB, hlo, hno⟩ := h.cx _ hm
  dsimp only at hB hlo hno
  have hF : Fr (fun b => b = N) w (w.setCell ⟨N, j, none⟩ u) := (Fr.refl _ _).set ⟨N, j, none⟩ u (.inl rfl)
  have hNe : ∀ (k : Nat) (hk : k < c.length), k ≠ i → (c[k]).N ≠ N := by
    intro k hk hki e
    have hcN : (c[i]).N = N := by rw [hio]
    rcases Nat.lt_or_ge k i with e2 | e2
    · exact List.pairwise_iff_getElem.1 h.n k i hk hil e2 (by rw [e, hcN])
    · exact List.pairwise_iff_getElem.1 h.n i k hil hk (by omega) (by rw [e, hcN])
  have hNs : ∀ y ∈ c.set i ⟨N, t, cs.set j u⟩, ∃ z ∈ c, z.N = y.N := by
    intro y hy
    rcases List.mem_or_eq_of_mem_set hy with e | e
    · exact ⟨y, e, rfl⟩
    · subst e; exact ⟨_, hm, rfl⟩
  refine ⟨⟨h.o.b.setCell (p := ⟨N, j, none⟩) hlo u, fun o ho => ⟨(h.o.st o ho).1.fr hF (fun b hb e => hno o ho (by rw [← e]; exact hb)), (h.o.st o ho).2⟩, h.o.ap⟩, fun x hx => ((h.s x hx).fr hF (fun b hb e => hb.2.2 _ hm e.symm)).mono (fun b hb _ => ⟨by simpa using hb.1, hb.2.1, fun y hy e => by
    obtain ⟨z, hz, hzN⟩ := hNs y hy
    exact hb.2.2 z hz (by rw [hzN, e])⟩), fun x hx => ?_, ?_⟩
  · obtain ⟨k, hk, rfl⟩ := List.mem_iff_getElem.1 hx
    rw [List.getElem_set]
    split
    · exact ⟨hB.set_ j u, hlo, hno⟩
    · rename_i hne
      have hk2 : k < c.length := by simpa using hk
      obtain ⟨g1, g2, g3⟩ := h.cx _ (List.getElem_mem hk2)
      exact ⟨g1.fr hF (hNe k hk2 (fun e => hne e.symm)), g2, g3⟩
  · rw [List.pairwise_iff_getElem]
    intro a b ha hb hab
    have ha2 : a < c.length := by simpa using ha
    have hb2 : b < c.length := by simpa using hb
    rw [List.getElem_set, List.getElem_set]
    by_cases ea : i = a
    · subst ea
      rw [if_pos rfl, if_neg (by omega)]
      exact fun e => hNe b hb2 (by omega) e.symm
    · rw [if_neg ea]
      by_cases eb : i = b
      · subst eb
        rw [if_pos rfl]
        exact hNe a ha2 (by omega)
      · rw [if_neg eb]
        exact List.pairwise_iff_getElem.1 h.n a b ha2 hb2 hab
theorem All.at_ (h : All w0 w l m c) {i : Nat} {o : Ob} (hi : l[i]? = some o) : ST w o.X o.S o.G o.D := h.o.at_ hi
theorem All.ro (h : All w0 w l m c) {i : Nat} {x : Sv} (hi : m[i]? = some x) : VS w (Clear w l c) x.v x.G x.D := h.s x (List.mem_of_getElem? hi)
theorem All.blk (h : All w0 w l m c) {i : Nat} {x : Bx} (hi : c[i]? = some x) : Blk w x.N x.t x.cs := (h.cx x (List.mem_of_getElem? hi)).1

/-! ### the calls -/
theorem joinA {o o2 : Ob} (h : All w0 w l m c) (i j : Nat) (hi : l[i]? = some o) (hj : l[j]? = some o2) :
    Calls Try.prog 15 #[.pointer (some ⟨o.X, 0, none⟩), .pointer (some ⟨o2.X, 0, none⟩)] w fun e w' => e = .returned (.int .i64 (joinE o.G o.D o2.G o2.D)) ∧ ∃ S', All w0 w' (l.set i ⟨o.X, S', afterG o.G o.D o2.G o2.D, afterD o.G o.D o2.G o2.D⟩) m c := by
  refine (join_any (h.at_ hi) (h.at_ hj)).mono ?_
  rintro e w' ⟨rfl, hs⟩
  exact ⟨rfl, h.step hi hs⟩
theorem alikeA {o : Ob} {x : Sv} (h : All w0 w l m c) (i j : Nat) (hi : l[i]? = some o) (hj : m[j]? = some x) (hG : o.G = x.G) (hD : o.D = x.D) :
    Calls Try.prog 16 #[.pointer (some ⟨o.X, 0, none⟩), x.v] w fun e w' => e = .returned (.bool true) ∧ All w0 w' l m c := by
  have hv := h.ro hj
  rw [← hG, ← hD] at hv
  exact (alike_any (h.at_ hi) hv).mono fun _ _ ⟨a, b⟩ => ⟨a, h.kept b⟩
theorem copyA {o : Ob} (h : All w0 w l m c) (i : Nat) (hi : l[i]? = some o) : Calls Try.prog 13 #[.pointer (some ⟨o.X, 0, none⟩)] w fun e w' => ∃ X' S', e = .returned (.pointer (some ⟨X', 0, none⟩)) ∧ All w0 w' (⟨X', S', o.G, o.D⟩ :: l) m c := by
  refine (copy_any (h.at_ hi)).mono ?_
  rintro e w' ⟨X', rfl, hn⟩
  obtain ⟨S', h1⟩ := h.add hn
  exact ⟨X', S', rfl, h1⟩
theorem newA (h : All w0 w l m c) (n : Nat) (h1 : 1 ≤ n) (h2 : n ≤ 16) : Calls Try.prog 17 #[.int .i64 n] w fun e w' => ∃ X' S', e = .returned (.tuple #[.pointer (some ⟨X', 0, none⟩), .int .i64 0]) ∧ All w0 w' (⟨X', S', zerG n, zer n⟩ :: l) m c := by
  refine (new_yes n w h1 h2).mono ?_
  rintro e w' ⟨X', rfl, hn⟩
  obtain ⟨S', h1⟩ := h.add hn
  exact ⟨X', S', rfl, h1⟩
theorem ofA (h : All w0 w l m c) (hv : VS w U v G D) (hV : Valid G D) : Calls Try.prog 11 #[v] w fun e w' => ∃ X' S', e = .returned (.tuple #[.pointer (some ⟨X', 0, none⟩), .int .i64 0]) ∧ All w0 w' (⟨X', S', G, D⟩ :: l) m c := by
  refine (of_vs hv hV).mono ?_
  rintro e w' ⟨X', rfl, hn⟩
  obtain ⟨S', h1⟩ := h.add hn
  exact ⟨X', S', rfl, h1⟩
theorem joinedA {x y : Sv} (h : All w0 w l m c) (i j : Nat) (hi : m[i]? = some x) (hj : m[j]? = some y) (sG : Shape x.G x.D) (sH : Shape y.G y.D) :
    Calls Try.prog 14 #[x.v, y.v] w fun e w' => ∃ v', e = .returned (.tuple #[v', .int .i64 (joinE x.G x.D y.G y.D)]) ∧ All w0 w' l (⟨v', afterG x.G x.D y.G y.D, afterD x.G x.D y.G y.D⟩ :: m) c := by
  refine (joined_any (h.ro hi) (h.ro hj) sG sH).mono ?_
  rintro e w' ⟨v', rfl, hv, hb⟩
  exact ⟨v', rfl, h.addS hb hv⟩
theorem joinedN {x y : Value} {G H G' : List (List Int)} {D E D' : List Int} {e0 : Int} (h : All w0 w l m c) (i j : Nat) (hi : m[i]? = some ⟨x, G, D⟩) (hj : m[j]? = some ⟨y, H, E⟩) (sG : Shape G D) (sH : Shape H E) (he : joinE G D H E = e0) (hG : afterG G D H E = G') (hD : afterD G D H E = D') :
    Calls Try.prog 14 #[x, y] w fun e w' => ∃ p a q b, e = .returned (.tuple #[.agg #[.slice p G'.length a, .slice q D'.length b], .int .i64 e0]) ∧ All w0 w' l (⟨.agg #[.slice p G'.length a, .slice q D'.length b], G', D'⟩ :: m) c := by
  subst he hG hD
  refine (joinedA (x := ⟨x, G, D⟩) (y := ⟨y, H, E⟩) h i j hi hj sG sH).mono ?_
  rintro e w' ⟨v', rfl, hA⟩
  obtain ⟨p, a, q, b, e⟩ := (hA.ro (i := 0) rfl).shape
  dsimp only at e
  subst e
  exact ⟨p, a, q, b, rfl, hA⟩
theorem joinN {X Y : Nat} {S T : Nat → Prop} {G H G' : List (List Int)} {D E D' : List Int} {e0 : Int} (h : All w0 w l m c) (i j : Nat) (hi : l[i]? = some ⟨X, S, G, D⟩) (hj : l[j]? = some ⟨Y, T, H, E⟩) (he : joinE G D H E = e0) (hG : afterG G D H E = G') (hD : afterD G D H E = D') :
    Calls Try.prog 15 #[.pointer (some ⟨X, 0, none⟩), .pointer (some ⟨Y, 0, none⟩)] w fun e w' => e = .returned (.int .i64 e0) ∧ ∃ S', All w0 w' (l.set i ⟨X, S', G', D'⟩) m c := by
  subst he hG hD
  exact joinA (o := ⟨X, S, G, D⟩) (o2 := ⟨Y, T, H, E⟩) h i j hi hj
theorem alikeN {X : Nat} {S : Nat → Prop} {x : Value} {G : List (List Int)} {D : List Int} (h : All w0 w l m c) (i j : Nat) (hi : l[i]? = some ⟨X, S, G, D⟩) (hj : m[j]? = some ⟨x, G, D⟩) :
    Calls Try.prog 16 #[.pointer (some ⟨X, 0, none⟩), x] w fun e w' => e = .returned (.bool true) ∧ All w0 w' l m c := alikeA (o := ⟨X, S, G, D⟩) (x := ⟨x, G, D⟩) h i j hi hj rfl rfl
end

/-! ### the plain law of Join -/
section
variable {G H : List (List Int)} {D E : List Int}
theorem valid_after (h : Valid G D) (k : Shape H E) : Valid (afterG G D H E) (afterD G D H E) := by
  unfold afterG afterD
  by_cases e : joinE G D H E = 0
  · rw [if_pos e, if_pos e]
    unfold joinE at e
    by_cases hn : G.length = H.length
    · rw [if_pos hn] at e
      by_cases hr : Right (joinG G H) (joinD D E G.length)
      · exact ⟨shape_join h.1 k hn.symm, hr⟩
      · rw [if_neg hr] at e; exact absurd e (by decide)
    · rw [if_neg hn] at e; exact absurd e (by decide)
  · rw [if_neg e, if_neg e]
    exact h
theorem join_self (h : Shape G D) : joinG G G = G ∧ joinD D D G.length = D := by
  refine ⟨mat_ext (n := G.length) (joinG_len _ _) rfl (fun i hi => joinG_row _ _ hi) h.len (fun i k hi hk => by rw [ga_joinG _ _ hi hk]; omega), row_ext (n := G.length) (by simp [joinD]) h.2.2.1 (fun i hi => by rw [da_joinD _ _ hi]; omega)⟩
theorem joinE_self (h : Valid G D) : joinE G D G D = 0 := by
  obtain ⟨h1, h2⟩ := join_self h.1
  rw [joinE, if_pos rfl, h1, h2, if_pos h.2]
theorem after_self (h : Valid G D) : afterG G D G D = G ∧ afterD G D G D = D := by
  obtain ⟨h1, h2⟩ := join_self h.1
  rw [afterG, afterD, joinE_self h, h1, h2]
  exact ⟨rfl, rfl⟩
end
end Go.Proofs.Ytdancoblphkakaa
