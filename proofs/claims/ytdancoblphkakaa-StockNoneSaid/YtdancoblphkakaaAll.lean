/- Stocks, states and variables side by side; the law's functions over them. -/
import Derived.Test.YtdancoblphkakaaKnown
namespace Go.Proofs.Ytdancoblphkakaa
open Go.RowKit

/-! ### by value -/
section
variable {w : World} {U : Nat → Prop} {v : Value} {G H : List (List Int)} {D E : List Int}
theorem small_vs (h : VS w U v G D) : Calls Try.prog 8 #[v] w (RetB w (Small G D)) := by
  obtain ⟨pg, cg, qd, cd, rfl, hM, hR⟩ := h.reads
  exact small_any pg qd cg cd hM
theorem valid_vs (h : VS w U v G D) : Calls Try.prog 9 #[v] w (RetB w (Valid G D)) := by
  obtain ⟨pg, cg, qd, cd, rfl, hM, hR⟩ := h.reads
  exact valid_any pg qd cg cd hM hR
theorem retB_true {w w' : World} {p : Prop} {e : Ending} (h : RetB w p e w') (hp : p) : e = .returned (.bool true) ∧ Below w.heap.size w w' := by
  obtain ⟨b, rfl, h1, h2⟩ := h
  exact ⟨by rw [h1.2 hp], h2⟩
theorem retB_false {w w' : World} {p : Prop} {e : Ending} (h : RetB w p e w') (hp : ¬ p) : e = .returned (.bool false) ∧ Below w.heap.size w w' := by
  obtain ⟨b, rfl, h1, h2⟩ := h
  refine ⟨?_, h2⟩
  cases b
  · rfl
  · exact absurd (h1.1 rfl) hp
theorem small_t (h : VS w U v G D) (hp : Small G D) : Calls Try.prog 8 #[v] w fun e w' => e = .returned (.bool true) ∧ Below w.heap.size w w' := (small_vs h).mono fun _ _ k => retB_true k hp
theorem small_f (h : VS w U v G D) (hp : ¬ Small G D) : Calls Try.prog 8 #[v] w fun e w' => e = .returned (.bool false) ∧ Below w.heap.size w w' := (small_vs h).mono fun _ _ k => retB_false k hp
theorem valid_t (h : VS w U v G D) (hp : Valid G D) : Calls Try.prog 9 #[v] w fun e w' => e = .returned (.bool true) ∧ Below w.heap.size w w' := (valid_vs h).mono fun _ _ k => retB_true k hp
theorem valid_f (h : VS w U v G D) (hp : ¬ Valid G D) : Calls Try.prog 9 #[v] w fun e w' => e = .returned (.bool false) ∧ Below w.heap.size w w' := (valid_vs h).mono fun _ _ k => retB_false k hp
theorem own_vs (h : VS w U v G D) (hs : Small G D) : Calls Try.prog 12 #[v] w fun e w' => ∃ v', e = .returned v' ∧ VS w' (fun b => w.heap.size ≤ b) v' G D ∧ Below w.heap.size w w' := by
  obtain ⟨pg, cg, qd, cd, rfl, hM, hR⟩ := h.reads
  obtain ⟨s1, s2, s3⟩ := hs
  refine (own_any pg qd cg cd hM hR (by omega) (fun i hi => by have := s2 i hi; omega) (by omega)).mono ?_
  rintro e w' ⟨v1, v2, vs, rfl, ho, hb⟩
  exact ⟨_, rfl, ho.val, hb⟩
theorem bad_iff (x : Int) : bad x = false ↔ inU x := by
  unfold bad inU
  simp
theorem any_bad {l : List Int} (h : ∀ i, inU (da l i)) : l.any bad = false := by
  rw [List.any_eq_false]
  intro x hx
  obtain ⟨i, hi, rfl⟩ := List.mem_iff_getElem.1 hx
  have := h i
  rw [da_at hi] at this
  rw [(bad_iff _).2 this]
  decide
theorem of_vs (h : VS w U v G D) (hv : Valid G D) : Calls Try.prog 11 #[v] w fun e w' => ∃ X, e = .returned (.tuple #[.pointer (some ⟨X, 0, none⟩), .int .i64 0]) ∧ NewSt w X G D w' := by
  obtain ⟨pg, cg, qd, cd, rfl, hM, hR⟩ := h.reads
  obtain ⟨hS, hr⟩ := hv
  have hN := hS.num
  have := of_any (G := G) (D := D) pg qd cg cd hM hR hN hS.1 hS.2.1 hS.len hS.2.2.1 (any_bad fun i => hN.d i) (fun i hi => any_bad fun k => by
    have := hN.g i k
    unfold ga at this
    rw [show G.getD i [] = G[i] by simp [hi]] at this
    exact this)
  rw [hS.2.2.1]
  refine this.mono ?_
  rintro e w' (⟨_, X, rfl, hn⟩ | ⟨hn, _⟩)
  · exact ⟨X, rfl, hn⟩
  · exact absurd hr hn
theorem VS.shape (h : VS w U v G D) : ∃ pg cg qd cd, v = .agg #[.slice pg G.length cg, .slice qd D.length cd] := by
  obtain ⟨pg, cg, qd, cd, h, _⟩ := h.reads
  exact ⟨pg, cg, qd, cd, h⟩
end

/-! ### all that stands side by side -/
structure Sv where
  v : Value
  G : List (List Int)
  D : List Int
structure Bx where
  N : Nat
  t : TypeId
  cs : List Value
/-- Stocks that are new since w0; states that none of them writes into; variables. -/
structure All (w0 w : World) (l : List Ob) (m : List Sv) (c : List Bx) : Prop where
  o : Obs w0 w l
  s : ∀ x ∈ m, Ro w l x.v x.G x.D
  c : ∀ x ∈ c, Blk w x.N x.t x.cs ∧ ∀ o ∈ l, ¬ o.S x.N
section
variable {w0 w w' w1 : World} {l l' : List Ob} {m m' : List Sv} {c c' : List Bx} {G G' : List (List Int)} {D D' : List Int} {U : Nat → Prop} {v : Value}
theorem All.nil (w : World) : All w w [] [] [] := ⟨Obs.nil w, by simp, by simp⟩
theorem All.b (h : All w0 w l m c) : Below w0.heap.size w0 w := h.o.b
theorem All.kept (h : All w0 w l m c) (k : Below w.heap.size w w') : All w0 w' l m c := ⟨h.o.kept k, fun x hx => (h.s x hx).kept k, fun x hx => ⟨(h.c x hx).1.kept k, (h.c x hx).2⟩⟩
theorem All.less (h : All w0 w l m c) (hl : l'.Sublist l) (hm : ∀ x ∈ m', x ∈ m) (hc : ∀ x ∈ c', x ∈ c) : All w0 w l' m' c' :=
  ⟨h.o.drop hl, fun x hx => (h.s x (hm x hx)).drop (fun o ho => hl.subset ho), fun x hx => ⟨(h.c x (hc x hx)).1, fun o ho => (h.c x (hc x hx)).2 o (hl.subset ho)⟩⟩
theorem All.arg (h : All w0 w l m c) (hv : VS w0 U v G D) : All w0 w l (⟨v, G, D⟩ :: m) c := ⟨h.o, fun x hx => by
  rcases List.mem_cons.1 hx with rfl | hx
  · exact h.o.arg hv
  · exact h.s x hx, h.c⟩
theorem All.add {X : Nat} (h : All w0 w l m c) (k : NewSt w X G D w') : ∃ S, All w0 w' (⟨X, S, G, D⟩ :: l) m c := by
  have hb : Below w.heap.size w w' := k.below
  obtain ⟨S, h1, h2, h3⟩ := k
  have hsz := h.o.b.size
  refine ⟨S, ⟨below_step h.o.b h2, fun o ho => ?_, List.pairwise_cons.2 ⟨fun o ho b hb hs => ?_, h.o.ap⟩⟩, fun x hx => ?_, fun x hx => ⟨(h.c x hx).1.kept hb, fun o ho hs => ?_⟩⟩
  · rcases List.mem_cons.1 ho with rfl | ho
    · exact ⟨h1, fun b hb => by have := h3 b hb; omega⟩
    · exact ⟨(h.o.st o ho).1.kept h2, (h.o.st o ho).2⟩
  · have := (h.o.st o ho).1.lt b hs
    have := h3 b hb
    omega
  · exact VS.mono (VS.kept (VS.mono (h.s x hx) (V := fun b => b < w.heap.size ∧ ∀ o ∈ l, ¬ o.S b) (fun b g1 g2 => ⟨g2, g1⟩)) hb) (fun b g1 _ o2 ho hb2 => by
      rcases List.mem_cons.1 ho with rfl | ho
      · have := h3 b hb2; omega
      · exact g1.2 o2 ho hb2)
  · rcases List.mem_cons.1 ho with rfl | ho
    · have := h3 _ hs; have := (h.c x hx).1.lt; omega
    · exact (h.c x hx).2 o ho hs
/-- A state has been made of what is there and of new memory. -/
theorem All.addS (h : All w0 w l m c) (hb : Below w.heap.size w w') (hv : VS w' (fun b => (∀ o ∈ l, ¬ o.S b) ∨ w.heap.size ≤ b) v G D) : All w0 w' l (⟨v, G, D⟩ :: m) c :=
  ⟨h.o.kept hb, fun x hx => by
    rcases List.mem_cons.1 hx with rfl | hx
    · exact Ro.of hv h.o
    · exact (h.s x hx).kept hb, fun x hx => ⟨(h.c x hx).1.kept hb, (h.c x hx).2⟩⟩
/-- A variable has been made. -/
theorem All.box (h : All w0 w l m c) (hb : Below w.heap.size w w') {N : Nat} {t : TypeId} {cs : List Value} (hB : Blk w' N t cs) (hN : w.heap.size ≤ N) : All w0 w' l m (⟨N, t, cs⟩ :: c) :=
  ⟨h.o.kept hb, fun x hx => (h.s x hx).kept hb, fun x hx => by
    rcases List.mem_cons.1 hx with rfl | hx
    · exact ⟨hB, fun o ho hs => by have : N < w.heap.size := (h.o.st o ho).1.lt N hs; omega⟩
    · exact ⟨(h.c x hx).1.kept hb, (h.c x hx).2⟩⟩
/-- One of the stocks goes on. -/
theorem All.step (h : All w0 w l m c) {i : Nat} {o : Ob} (hi : l[i]? = some o) (k : StW w w' o.X o.S G' D') : ∃ S', All w0 w' (l.set i ⟨o.X, S', G', D'⟩) m c := by
  obtain ⟨S', h1, h2, h3⟩ := h.o.step hi k
  obtain ⟨_, _, k2, _⟩ := k
  have hm := List.mem_of_getElem? hi
  obtain ⟨hil, hio⟩ := List.getElem?_eq_some_iff.1 hi
  refine ⟨S', h1, fun x hx => ?_, fun x hx => ⟨(h.c x hx).1.fr k2 ((h.c x hx).2 o hm), fun o2 ho2 hs => ?_⟩⟩
  · refine VS.fr (T := o.S) (U := fun b => ∀ o2 ∈ l.set i ⟨o.X, S', G', D'⟩, ¬ o2.S b) (w := w) (VS.mono (h.s x hx) (fun b g1 g2 o2 ho2 hb => ?_)) k2 (fun b hb ho => ?_)
    · rcases List.mem_or_eq_of_mem_set ho2 with e | e
      · exact g1 o2 e hb
      · subst e
        rcases h2 b hb with e | e
        · exact g1 o hm e
        · omega
    · exact hb ⟨o.X, S', G', D'⟩ (List.mem_set hil _) (h3 b ho)
  · rcases List.mem_or_eq_of_mem_set ho2 with e | e
    · exact (h.c x hx).2 o2 e hs
    · subst e
      rcases h2 _ hs with e | e
      · exact (h.c x hx).2 o hm e
      · have := (h.c x hx).1.lt; omega
theorem All.at_ (h : All w0 w l m c) {i : Nat} {o : Ob} (hi : l[i]? = some o) : ST w o.X o.S o.G o.D := h.o.at_ hi
theorem All.ro (h : All w0 w l m c) {i : Nat} {x : Sv} (hi : m[i]? = some x) : VS w (fun b => ∀ o ∈ l, ¬ o.S b) x.v x.G x.D := h.s x (List.mem_of_getElem? hi)
theorem All.blk (h : All w0 w l m c) {i : Nat} {x : Bx} (hi : c[i]? = some x) : Blk w x.N x.t x.cs := (h.c x (List.mem_of_getElem? hi)).1

/-! ### the calls -/
theorem joinA {o o2 : Ob} (h : All w0 w l m c) (i j : Nat) (hi : l[i]? = some o) (hj : l[j]? = some o2) :
    Calls Try.prog 15 #[.pointer (some ⟨o.X, 0, none⟩), .pointer (some ⟨o2.X, 0, none⟩)] w fun e w' => e = .returned (.int .i64 (joinE o.G o.D o2.G o2.D)) ∧ ∃ S', All w0 w' (l.set i ⟨o.X, S', afterG o.G o.D o2.G o2.D, afterD o.G o.D o2.G o2.D⟩) m c := by
  refine (join_any (h.at_ hi) (h.at_ hj)).mono ?_
  rintro e w' ⟨rfl, hs⟩
  exact ⟨rfl, h.step hi hs⟩
theorem alikeA {o : Ob} {x : Sv} (h : All w0 w l m c) (i j : Nat) (hi : l[i]? = some o) (hj : m[j]? = some x) (hG : o.G = x.G) (hD : o.D = x.D) :
    Calls Try.prog 16 #[.pointer (some ⟨o.X, 0, none⟩), x.v] w fun e w' => e = .returned (.bool true) ∧ All w0 w' l m c := by
  have hv := h.ro hj
  rw [← hG, ← hD] at hv
  exact (alike_any (h.at_ hi) hv).mono fun _ _ ⟨a, b⟩ => ⟨a, h.kept b⟩
theorem copyA {o : Ob} (h : All w0 w l m c) (i : Nat) (hi : l[i]? = some o) : Calls Try.prog 13 #[.pointer (some ⟨o.X, 0, none⟩)] w fun e w' => ∃ X' S', e = .returned (.pointer (some ⟨X', 0, none⟩)) ∧ All w0 w' (⟨X', S', o.G, o.D⟩ :: l) m c := by
  refine (copy_any (h.at_ hi)).mono ?_
  rintro e w' ⟨X', rfl, hn⟩
  obtain ⟨S', h1⟩ := h.add hn
  exact ⟨X', S', rfl, h1⟩
theorem newA (h : All w0 w l m c) (n : Nat) (h1 : 1 ≤ n) (h2 : n ≤ 16) : Calls Try.prog 17 #[.int .i64 n] w fun e w' => ∃ X' S', e = .returned (.tuple #[.pointer (some ⟨X', 0, none⟩), .int .i64 0]) ∧ All w0 w' (⟨X', S', zerG n, zer n⟩ :: l) m c := by
  refine (new_yes n w h1 h2).mono ?_
  rintro e w' ⟨X', rfl, hn⟩
  obtain ⟨S', h1⟩ := h.add hn
  exact ⟨X', S', rfl, h1⟩
theorem ofA (h : All w0 w l m c) (hv : VS w U v G D) (hV : Valid G D) : Calls Try.prog 11 #[v] w fun e w' => ∃ X' S', e = .returned (.tuple #[.pointer (some ⟨X', 0, none⟩), .int .i64 0]) ∧ All w0 w' (⟨X', S', G, D⟩ :: l) m c := by
  refine (of_vs hv hV).mono ?_
  rintro e w' ⟨X', rfl, hn⟩
  obtain ⟨S', h1⟩ := h.add hn
  exact ⟨X', S', rfl, h1⟩
theorem joinedA {x y : Sv} (h : All w0 w l m c) (i j : Nat) (hi : m[i]? = some x) (hj : m[j]? = some y) (sG : Shape x.G x.D) (sH : Shape y.G y.D) :
    Calls Try.prog 14 #[x.v, y.v] w fun e w' => ∃ v', e = .returned (.tuple #[v', .int .i64 (joinE x.G x.D y.G y.D)]) ∧ All w0 w' l (⟨v', afterG x.G x.D y.G y.D, afterD x.G x.D y.G y.D⟩ :: m) c := by
  refine (joined_any (h.ro hi) (h.ro hj) sG sH).mono ?_
  rintro e w' ⟨v', rfl, hv, hb⟩
  exact ⟨v', rfl, h.addS hb hv⟩
theorem joinedN {x y : Value} {G H G' : List (List Int)} {D E D' : List Int} {e0 : Int} (h : All w0 w l m c) (i j : Nat) (hi : m[i]? = some ⟨x, G, D⟩) (hj : m[j]? = some ⟨y, H, E⟩) (sG : Shape G D) (sH : Shape H E) (he : joinE G D H E = e0) (hG : afterG G D H E = G') (hD : afterD G D H E = D') :
    Calls Try.prog 14 #[x, y] w fun e w' => ∃ p a q b, e = .returned (.tuple #[.agg #[.slice p G'.length a, .slice q D'.length b], .int .i64 e0]) ∧ All w0 w' l (⟨.agg #[.slice p G'.length a, .slice q D'.length b], G', D'⟩ :: m) c := by
  subst he hG hD
  refine (joinedA (x := ⟨x, G, D⟩) (y := ⟨y, H, E⟩) h i j hi hj sG sH).mono ?_
  rintro e w' ⟨v', rfl, hA⟩
  obtain ⟨p, a, q, b, e⟩ := (hA.ro (i := 0) rfl).shape
  dsimp only at e
  subst e
  exact ⟨p, a, q, b, rfl, hA⟩
theorem joinN {X Y : Nat} {S T : Nat → Prop} {G H G' : List (List Int)} {D E D' : List Int} {e0 : Int} (h : All w0 w l m c) (i j : Nat) (hi : l[i]? = some ⟨X, S, G, D⟩) (hj : l[j]? = some ⟨Y, T, H, E⟩) (he : joinE G D H E = e0) (hG : afterG G D H E = G') (hD : afterD G D H E = D') :
    Calls Try.prog 15 #[.pointer (some ⟨X, 0, none⟩), .pointer (some ⟨Y, 0, none⟩)] w fun e w' => e = .returned (.int .i64 e0) ∧ ∃ S', All w0 w' (l.set i ⟨X, S', G', D'⟩) m c := by
  subst he hG hD
  exact joinA (o := ⟨X, S, G, D⟩) (o2 := ⟨Y, T, H, E⟩) h i j hi hj
theorem alikeN {X : Nat} {S : Nat → Prop} {x : Value} {G : List (List Int)} {D : List Int} (h : All w0 w l m c) (i j : Nat) (hi : l[i]? = some ⟨X, S, G, D⟩) (hj : m[j]? = some ⟨x, G, D⟩) :
    Calls Try.prog 16 #[.pointer (some ⟨X, 0, none⟩), x] w fun e w' => e = .returned (.bool true) ∧ All w0 w' l m c := alikeA (o := ⟨X, S, G, D⟩) (x := ⟨x, G, D⟩) h i j hi hj rfl rfl
end

/-! ### the plain law of Join -/
section
variable {G H : List (List Int)} {D E : List Int}
theorem valid_after (h : Valid G D) (k : Shape H E) : Valid (afterG G D H E) (afterD G D H E) := by
  unfold afterG afterD
  by_cases e : joinE G D H E = 0
  · rw [if_pos e, if_pos e]
    unfold joinE at e
    by_cases hn : G.length = H.length
    · rw [if_pos hn] at e
      by_cases hr : Right (joinG G H) (joinD D E G.length)
      · exact ⟨shape_join h.1 k hn.symm, hr⟩
      · rw [if_neg hr] at e; exact absurd e (by decide)
    · rw [if_neg hn] at e; exact absurd e (by decide)
  · rw [if_neg e, if_neg e]
    exact h
theorem join_self (h : Shape G D) : joinG G G = G ∧ joinD D D G.length = D := by
  refine ⟨mat_ext (n := G.length) (joinG_len _ _) rfl (fun i hi => joinG_row _ _ hi) h.len (fun i k hi hk => by rw [ga_joinG _ _ hi hk]; omega), row_ext (n := G.length) (by simp [joinD]) h.2.2.1 (fun i hi => by rw [da_joinD _ _ hi]; omega)⟩
theorem joinE_self (h : Valid G D) : joinE G D G D = 0 := by
  obtain ⟨h1, h2⟩ := join_self h.1
  rw [joinE, if_pos rfl, h1, h2, if_pos h.2]
theorem after_self (h : Valid G D) : afterG G D G D = G ∧ afterD G D G D = D := by
  obtain ⟨h1, h2⟩ := join_self h.1
  rw [afterG, afterD, joinE_self h, h1, h2]
  exact ⟨rfl, rfl⟩
end
end Go.Proofs.Ytdancoblphkakaa
