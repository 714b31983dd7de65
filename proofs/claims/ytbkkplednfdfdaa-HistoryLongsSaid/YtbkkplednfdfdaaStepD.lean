/- A step noted. Printed by hist_j.py. -/
import Derived.Test.YtbkkplednfdfdaaStepA
import Derived.Test.YtbkkplednfdfdaaStepB
import Derived.Test.YtbkkplednfdfdaaStepC
namespace Go.Proofs.Ytbkkplednfdfdaa
open Go.RowKit Go.Maps
theorem step_any {w : World} {B t mb c : Nat} {p : Option Addr} {A : Int → Option Nat} {es : List Ev} {S : PS} (hT : Tell w B t mb p c A es S) (i : Nat) (d : Di) (pd : PD) (hd : DiR (RdW w B) d pd) (hok : pd.c.ok ∧ pd.a.ok) (hl : es.length ≤ i) (hi : i < 4096)
    (hev : ∀ x s, S.T x = some s → ∃ q, S.es[s.event]? = some q) :
    Calls Try.prog 26 #[.pointer (some ⟨t, 0, none⟩), .int .i64 i, d.agg] w fun e w' => e = .returned (.bool (pstep i pd S).isSome) ∧ Below B w w' ∧ ∀ S', pstep i pd S = some S' → ∃ p' c' A' es', Tell w' B t mb p' c' A' es' S' := by
  by_cases h1 : pd.step < 1
  · exact step_out hT i d pd hd hok hl hi hev (.inl h1)
  by_cases h2 : 7 < pd.step
  · exact step_out hT i d pd hd hok hl hi hev (.inr (.inl h2))
  by_cases h3 : pd.task < 0
  · exact step_out hT i d pd hd hok hl hi hev (.inr (.inr (.inl h3)))
  by_cases h4 : 9999 < pd.task
  · exact step_out hT i d pd hd hok hl hi hev (.inr (.inr (.inr h4)))
  have b1 : 1 ≤ pd.step := by omega
  have b2 : pd.step ≤ 7 := by omega
  have b3 : 0 ≤ pd.task := by omega
  have b4 : pd.task ≤ 9999 := by omega
  cases hA : A pd.task with
  | none =>
    by_cases k1 : pd.step = 1
    · exact step_1n hT i d pd hd hok hl hi hev b1 b2 b3 b4 k1 hA
    by_cases k7 : pd.step = 7
    · exact step_7n hT i d pd hd hok hl hi hev b1 b2 b3 b4 k7 hA
    exact step_on hT i d pd hd hok hl hi hev b1 b2 b3 b4 k1 k7 hA
  | some a =>
    by_cases k1 : pd.step = 1
    · exact step_1s hT i d pd hd hok hl hi hev b1 b2 b3 b4 k1 a hA
    by_cases k7 : pd.step = 7
    · exact step_7s hT i d pd hd hok hl hi hev b1 b2 b3 b4 k7 a hA
    exact step_os hT i d pd hd hok hl hi hev b1 b2 b3 b4 k1 k7 a hA
end Go.Proofs.Ytbkkplednfdfdaa
