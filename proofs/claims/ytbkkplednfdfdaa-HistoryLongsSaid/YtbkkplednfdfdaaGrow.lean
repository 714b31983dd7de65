/- A region that draws its order, whose operations read and whose callees only make new memory: one walk, in the order of the text. -/
import Derived.Test.YtbkkplednfdfdaaMem
namespace Go.Proofs.Ytbkkplednfdfdaa
open Go.RowKit
set_option linter.unusedVariables false

/-- A world in which all that stood in w0 stands as it was. -/
structure Gr (w0 : World) where
  w : World
  h : Below w0.heap.size w0 w
instance (w0 : World) : Nonempty (Gr w0) := ⟨⟨w0, Below.refl _ _⟩⟩

theorem Gr.at_ {w0 : World} {b o : Nat} {u : Value} (hb : b < w0.heap.size) (hc : w0.cell? ⟨b, o, none⟩ = some u) (g : Gr w0) : g.w.cell? ⟨b, o, none⟩ = some u :=
  (g.h.cell (p := ⟨b, o, none⟩) hb).trans hc
theorem Gr.cell {w0 : World} {g : Nat} {t : TypeId} {cs : List Value} (h : Blk w0 g t cs) (i : Nat) (u : Value) (hu : cs[i]? = some u) (x : Gr w0) : x.w.cell? ⟨g, i, none⟩ = some u :=
  Gr.at_ h.lt ((h.cell i).trans hu) x
theorem Gr.rd {w0 : World} {p : Option Addr} {xs : List Value} (h : Rd w0 w0.heap.size p xs) (g : Gr w0) : Rd g.w g.w.heap.size p xs := h.kept g.h
theorem Gr.blk {w0 : World} {b : Nat} {t : TypeId} {cs : List Value} (h : Blk w0 b t cs) (g : Gr w0) : Blk g.w b t cs := h.kept g.h

theorem wp_region_grows {P : Program} {id : Nat} {Q : Exit → Act → World → Prop} {a : Act} {w : World} {l : List Oper} (hm : P.follows .mixedOrders = true) (hB : Region.lexB .any l.toArray = true)
    (h : wpQuiet P l.toArray (fun w' => ∃ g : Gr w, w' = g.w) (fun a' => ∀ w', (∃ g : Gr w, w' = g.w) → Q .normal a' w') l a) : (Code.region id l.toArray true).wp P Q a w :=
  wp_region_quiet (C := fun w' => ∃ g : Gr w, w' = g.w) hm hB ⟨⟨_, (Below.refl _ _).drew⟩, rfl⟩ (by simpa using h)

/-- A callee's contract, met in such a world. -/
theorem Calls.gr {P : Program} {f : FuncId} {args : Array Value} {w0 : World} {v : Value} (g : Gr w0)
    (h : Calls P f args g.w fun e w' => e = .returned v ∧ Below g.w.heap.size g.w w') : Calls P f args g.w fun e w'' => e = .returned v ∧ ∃ g' : Gr w0, w'' = g'.w :=
  h.mono fun _ w' ⟨he, hb⟩ => ⟨he, ⟨w', g.h.trans (hb.mono g.h.size)⟩, rfl⟩
theorem Calls.gr_same {P : Program} {f : FuncId} {args : Array Value} {w0 : World} {v : Value} (g : Gr w0)
    (h : Calls P f args g.w fun e w' => e = .returned v ∧ w' = g.w) : Calls P f args g.w fun e w'' => e = .returned v ∧ ∃ g' : Gr w0, w'' = g'.w :=
  h.mono fun _ w' ⟨he, hb⟩ => ⟨he, g, hb⟩

/-! ### append of a slice, elements of several cells -/
theorem run_app_noneS {P : Program} {w : World} (base : Nat) (t ty e : TypeId) (i : TypeInfo) (size : Nat) (ht : P.underlying t = some (.slice e)) (hi : P.info? e = some i) (hsz : i.size = size)
    (v : Value) (n : Nat) (xs : List Value) (hown : w.ownsRow base e size v n xs) (c : Nat) : (Builtin.append_ #[t, t] ty #[v, .slice none 0 c]).run P w = .ok v w := by
  rcases hown.2 with ⟨rfl, rfl⟩ | ⟨g, cap, cur, rfl, _, _, hnc, _⟩
  · simp [Builtin.append_, run_underlying ht, sizeOf, typeInfo, hi, Builtin.lenOf, Builtin.firstCells]
  · simp [Builtin.append_, run_underlying ht, sizeOf, typeInfo, hi, Builtin.lenOf, Builtin.firstCells, hnc, storeCells]

/-- 'out = append(out, xs...)', elements of several cells, out a slice of the call's own, xs any slice that reads as a list. -/
theorem wpList_appM {P : Program} {w : World} {ops : Array Oper} {rest : List Oper} {o : Oper} {a : Act} {Q : Exit → Act → World → Prop} (hgd : o.guard = none) (s x : Operand) (t : TypeId)
    (ho : o.op = .call { callee := .builtin .append, args := #[s, x], argTypes := #[t, t] }) (base : Nat) (e : TypeId) (z : Value) (size bytes : Nat) (ht : P.underlying t = some (.slice e))
    (hinfo : (P.info? e).map (fun i => (i.zero, i.size, i.bytes)) = some (some z, size, bytes)) (hz : z.cells.size = size) (hsz : 0 < size) (v : Value) (n : Nat) (xs : List Value) (hs : a.eval s = v) (hown : w.ownsRow base e size v n xs)
    (B : Nat) (p : Option Addr) (m c : Nat) (news : List Value) (hx : a.eval x = .slice p m c) (hm : news.length = m * size) (hr : Rd w B p news) (hu : ∀ u ∈ news, u.oneCell' = true) (hn : (n + m) * bytes ≤ 140737488355328) (h63 : n + m ≤ 9223372036854775807) (hb : base ≤ w.heap.size)
    (h : ∀ v' w', w'.ownsRow base e size v' (n + m) (xs ++ news) → Below base w w' → (v'.ownBlock = v.ownBlock ∨ ∀ k, v'.ownBlock = some k → w.heap.size ≤ k) → w.grownBy w' v.ownBlock → wpList P ops Q rest (a.put o.dst v') w') :
    wpList P ops Q (o :: rest) a w := by
  obtain ⟨i, hi, h1, h2, h3⟩ := info_parts hinfo
  by_cases hp : p = none
  · subst hp
    have hnil : news = [] := by
      rcases hr with h | ⟨b, o, h, _⟩
      · exact h
      · cases h
    subst hnil
    have hm0 : m = 0 := by
      simp only [List.length_nil] at hm
      rcases Nat.mul_eq_zero.1 hm.symm with h | h
      · exact h
      · omega
    subst hm0
    refine wpList_plain hgd fun K hK => ?_
    have hrun := run_app_noneS (P := P) (w := w) base t o.type e i size ht hi h2 v n xs hown c
    unfold Oper.wp
    simp [execOp, ho, resolve, invoke, builtin, hs, hx, hrun, Result.andThen]
    exact hK _ _ (h v w (by simpa using hown) (Below.refl _ _) (.inl rfl) (World.grownBy.refl w _))
  · obtain ⟨ad, rfl⟩ := Option.ne_none_iff_exists'.1 hp
    refine wpList_append_own_at w hgd s x t ho base e i z size bytes ht hi h1 h2 h3 hz hsz v n xs hs hown ad m c news hx hm ?_ hu (by unfold maxLen; omega) hn hb ?_
    · intro j u hj
      rcases hr with rfl | ⟨b, o, hq, _, hc⟩
      · simp at hj
      · injection hq with hq
        subst hq
        have := hc j u hj
        unfold Addr.add
        split
        · rename_i h0; subst h0; simpa using this
        · simpa using this
    · intro v' w' hown' hg _ hat
      refine h v' w' hown' (grown_below hg hb (fun k hk => (own_lt hown k hk).1)) ?_ hg
      rcases hat with hat | hat
      · exact .inl hat
      · exact .inr fun k hk => by rw [hat] at hk; injection hk with hk; subst hk; exact Nat.le_refl _
/-- A slice that a composite literal has made is the call's own. -/
theorem own_built {w : World} {g base size n : Nat} {e : TypeId} {us : List Value} (h : Blk w g e us) (hb : base ≤ g) (hl : us.length = n * size) (hn : n ≤ maxLen) : w.ownsRow base e size (.slice (some ⟨g, 0, none⟩) n n) n us :=
  ⟨hl, .inr ⟨g, n, us.toArray, rfl, hb, h, Nat.le_refl _, hn, by simpa using hl, by simp [← hl]⟩⟩
/-- A part of a slice that reads as a list. -/
theorem Rd.part {w : World} {B : Nat} {b o : Nat} {xs : List Value} (h : Rd w B (some ⟨b, o, none⟩) xs) (k : Nat) : Rd w B (some ⟨b, o + k, none⟩) (xs.drop k) := by
  rcases h with h | ⟨b', o', hp, hlt, hc⟩
  · subst h; exact .inl (by simp)
  · injection hp with hp
    injection hp with h1 h2
    subst h1 h2
    refine .inr ⟨_, _, rfl, hlt, fun j u hu => ?_⟩
    rw [List.getElem?_drop] at hu
    rw [Nat.add_assoc]
    exact hc _ u hu
theorem Rd.firsts {w : World} {B : Nat} {p : Option Addr} {xs : List Value} (h : Rd w B p xs) (k : Nat) : Rd w B p (xs.take k) := by
  rcases h with h | ⟨b', o', hp, hlt, hc⟩
  · subst h; exact .inl (by simp)
  · refine .inr ⟨_, _, hp, hlt, fun j u hu => ?_⟩
    rw [List.getElem?_take] at hu
    split at hu
    · exact hc _ u hu
    · cases hu
/-- The run of 'append(out, xs...)', out a slice of the call's own, xs any slice that reads as a list. -/
theorem run_appM {P : Program} {w : World} (t ty : TypeId) (base : Nat) (e : TypeId) (z : Value) (size bytes : Nat) (ht : P.underlying t = some (.slice e))
    (hinfo : (P.info? e).map (fun i => (i.zero, i.size, i.bytes)) = some (some z, size, bytes)) (hz : z.cells.size = size) (hsz : 0 < size) (v : Value) (n : Nat) (xs : List Value) (hown : w.ownsRow base e size v n xs)
    (B : Nat) (p : Option Addr) (m c : Nat) (news : List Value) (hm : news.length = m * size) (hr : Rd w B p news) (hu : ∀ u ∈ news, u.oneCell' = true) (hn : (n + m) * bytes ≤ 140737488355328) (h63 : n + m ≤ 9223372036854775807) (hb : base ≤ w.heap.size) :
    ∃ v' w', (Builtin.append_ #[t, t] ty #[v, .slice p m c]).run P w = .ok v' w' ∧ w'.ownsRow base e size v' (n + m) (xs ++ news) ∧ Below base w w' ∧ (v'.ownBlock = v.ownBlock ∨ ∀ k, v'.ownBlock = some k → w.heap.size ≤ k) ∧ w.grownBy w' v.ownBlock := by
  obtain ⟨i, hi, h1, h2, h3⟩ := info_parts hinfo
  by_cases hp : p = none
  · subst hp
    have hnil : news = [] := by
      rcases hr with h | ⟨b, o, h, _⟩
      · exact h
      · cases h
    subst hnil
    have hm0 : m = 0 := by
      simp only [List.length_nil] at hm
      rcases Nat.mul_eq_zero.1 hm.symm with h | h
      · exact h
      · omega
    subst hm0
    exact ⟨v, w, run_app_noneS (P := P) (w := w) base t ty e i size ht hi h2 v n xs hown c, by simpa using hown, Below.refl _ _, .inl rfl, World.grownBy.refl w _⟩
  · obtain ⟨ad, rfl⟩ := Option.ne_none_iff_exists'.1 hp
    obtain ⟨v', w', hrun, hown', hg, _, hat⟩ := run_append_own_at (P := P) w base t ty e i z size bytes ht hi h1 h2 h3 hz hsz v n xs hown ad m c news hm (by
      intro j u hj
      rcases hr with rfl | ⟨b, o, hq, _, hc⟩
      · simp at hj
      · injection hq with hq
        subst hq
        have := hc j u hj
        unfold Addr.add
        split
        · rename_i h0; subst h0; simpa using this
        · simpa using this) hu (by unfold maxLen; omega) hn hb
    refine ⟨v', w', hrun, hown', grown_below hg hb (fun k hk => (own_lt hown k hk).1), ?_, hg⟩
    rcases hat with hat | hat
    · exact .inl hat
    · exact .inr fun k hk => by rw [hat] at hk; injection hk with hk; subst hk; exact Nat.le_refl _
/-- The same at a step of a region that draws its order. -/
theorem step_appM {P : Program} {w : World} {ops : Array Oper} {o : Oper} {a : Act} {K : Act → World → Prop} {Q : Exit → Act → World → Prop} {E : Prop} (hgd : o.guard = none) (s x : Operand) (t : TypeId)
    (ho : o.op = .call { callee := .builtin .append, args := #[s, x], argTypes := #[t, t] }) (base : Nat) (e : TypeId) (z : Value) (size bytes : Nat) (ht : P.underlying t = some (.slice e))
    (hinfo : (P.info? e).map (fun i => (i.zero, i.size, i.bytes)) = some (some z, size, bytes)) (hz : z.cells.size = size) (hsz : 0 < size) (v : Value) (n : Nat) (xs : List Value) (hs : a.eval s = v) (hown : w.ownsRow base e size v n xs)
    (B : Nat) (p : Option Addr) (m c : Nat) (news : List Value) (hx : a.eval x = .slice p m c) (hm : news.length = m * size) (hr : Rd w B p news) (hu : ∀ u ∈ news, u.oneCell' = true) (hn : (n + m) * bytes ≤ 140737488355328) (h63 : n + m ≤ 9223372036854775807) (hb : base ≤ w.heap.size)
    (h : ∀ v' w', w'.ownsRow base e size v' (n + m) (xs ++ news) → Below base w w' → (v'.ownBlock = v.ownBlock ∨ ∀ k, v'.ownBlock = some k → w.heap.size ≤ k) → w.grownBy w' v.ownBlock → K (a.put o.dst v') w') :
    if Region.wanted o (yielded ops a.tmps) = true then Oper.wp P o a w K Q else E := by
  have hw : Region.wanted o (yielded ops a.tmps) = true := by simp [Region.wanted, hgd]
  rw [if_pos hw]
  obtain ⟨v', w', hrun, h1, h2, h3, h4⟩ := run_appM (P := P) t o.type base e z size bytes ht hinfo hz hsz v n xs hown B p m c news hm hr hu hn h63 hb
  unfold Oper.wp execOp
  simp only [ho, resolve, invoke, builtin, Sem.run_bind, Sem.run_pure, Result.andThen_ok, List.map_toArray, List.map_cons, List.map_nil, hs, hx, hrun]
  exact h v' w' h1 h2 h3 h4
end Go.Proofs.Ytbkkplednfdfdaa
