/- append of a slice at a step of a region that draws its order. -/
import Derived.Test.YtffclmogabceiaaLawB
namespace Go.Proofs.Ytffclmogabceiaa
open Go.RowKit

/-- The run of 'append(out, xs...)', out a slice of the call's own, xs any slice that reads as a list. -/
theorem run_appM {P : Program} {w : World} (t ty : TypeId) (base : Nat) (e : TypeId) (z : Value) (size bytes : Nat) (ht : P.underlying t = some (.slice e))
    (hinfo : (P.info? e).map (fun i => (i.zero, i.size, i.bytes)) = some (some z, size, bytes)) (hz : z.cells.size = size) (hsz : 0 < size) (v : Value) (n : Nat) (xs : List Value) (hown : w.ownsRow base e size v n xs)
    (B : Nat) (p : Option Addr) (m c : Nat) (news : List Value) (hm : news.length = m * size) (hr : Rd w B p news) (hu : ∀ u ∈ news, u.oneCell' = true) (hn : (n + m) * bytes ≤ 140737488355328) (h63 : n + m ≤ 9223372036854775807) (hb : base ≤ w.heap.size) :
    ∃ v' w', (Builtin.append_ #[t, t] ty #[v, .slice p m c]).run P w = .ok v' w' ∧ w'.ownsRow base e size v' (n + m) (xs ++ news) ∧ Below base w w' ∧ (v'.ownBlock = v.ownBlock ∨ ∀ k, v'.ownBlock = some k → w.heap.size ≤ k) ∧ w.grownBy w' v.ownBlock := by
  obtain ⟨i, hi, h1, h2, h3⟩ := info_parts hinfo
  by_cases hp : p = none
  · subst hp
    have hnil : news = [] := by
      rcases hr with h | ⟨b, o, h, _⟩
      · exact h
      · cases h
    subst hnil
    have hm0 : m = 0 := by
      simp only [List.length_nil] at hm
      rcases Nat.mul_eq_zero.1 hm.symm with h | h
      · exact h
      · omega
    subst hm0
    exact ⟨v, w, run_app_noneS (P := P) (w := w) base t ty e i size ht hi h2 v n xs hown c, by simpa using hown, Below.refl _ _, .inl rfl, World.grownBy.refl w _⟩
  · obtain ⟨ad, rfl⟩ := Option.ne_none_iff_exists'.1 hp
    obtain ⟨v', w', hrun, hown', hg, _, hat⟩ := run_append_own_at (P := P) w base t ty e i z size bytes ht hi h1 h2 h3 hz hsz v n xs hown ad m c news hm (by
      intro j u hj
      rcases hr with rfl | ⟨b, o, hq, _, hc⟩
      · simp at hj
      · injection hq with hq
        subst hq
        have := hc j u hj
        unfold Addr.add
        split
        · rename_i h0; subst h0; simpa using this
        · simpa using this) hu (by unfold maxLen; omega) hn hb
    refine ⟨v', w', hrun, hown', grown_below hg hb (fun k hk => (own_lt hown k hk).1), ?_, hg⟩
    rcases hat with hat | hat
    · exact .inl hat
    · exact .inr fun k hk => by rw [hat] at hk; injection hk with hk; subst hk; exact Nat.le_refl _
/-- The same at a step of a region that draws its order. -/
theorem step_appM {P : Program} {w : World} {ops : Array Oper} {o : Oper} {a : Act} {K : Act → World → Prop} {Q : Exit → Act → World → Prop} {E : Prop} (hgd : o.guard = none) (s x : Operand) (t : TypeId)
    (ho : o.op = .call { callee := .builtin .append, args := #[s, x], argTypes := #[t, t] }) (base : Nat) (e : TypeId) (z : Value) (size bytes : Nat) (ht : P.underlying t = some (.slice e))
    (hinfo : (P.info? e).map (fun i => (i.zero, i.size, i.bytes)) = some (some z, size, bytes)) (hz : z.cells.size = size) (hsz : 0 < size) (v : Value) (n : Nat) (xs : List Value) (hs : a.eval s = v) (hown : w.ownsRow base e size v n xs)
    (B : Nat) (p : Option Addr) (m c : Nat) (news : List Value) (hx : a.eval x = .slice p m c) (hm : news.length = m * size) (hr : Rd w B p news) (hu : ∀ u ∈ news, u.oneCell' = true) (hn : (n + m) * bytes ≤ 140737488355328) (h63 : n + m ≤ 9223372036854775807) (hb : base ≤ w.heap.size)
    (h : ∀ v' w', w'.ownsRow base e size v' (n + m) (xs ++ news) → Below base w w' → (v'.ownBlock = v.ownBlock ∨ ∀ k, v'.ownBlock = some k → w.heap.size ≤ k) → w.grownBy w' v.ownBlock → K (a.put o.dst v') w') :
    if Region.wanted o (yielded ops a.tmps) = true then Oper.wp P o a w K Q else E := by
  have hw : Region.wanted o (yielded ops a.tmps) = true := by simp [Region.wanted, hgd]
  rw [if_pos hw]
  obtain ⟨v', w', hrun, h1, h2, h3, h4⟩ := run_appM (P := P) t o.type base e z size bytes ht hinfo hz hsz v n xs hown B p m c news hm hr hu hn h63 hb
  unfold Oper.wp execOp
  simp only [ho, resolve, invoke, builtin, Sem.run_bind, Sem.run_pure, Result.andThen_ok, List.map_toArray, List.map_cons, List.map_nil, hs, hx, hrun]
  exact h v' w' h1 h2 h3 h4
end Go.Proofs.Ytffclmogabceiaa
