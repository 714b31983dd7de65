/- When events are right, as the reference says it. -/
import Derived.Test.YtbkkplednfdfdaaEvsA
namespace Go.Proofs.Ytbkkplednfdfdaa
open Go.RowKit

def rbad (x : Ev) : Bool := decide (x.asked < 0) || decide (x.task < 0) || decide (9999 < x.task) || (decide (x.made ≠ -1) && decide (x.made < x.asked)) || (decide (x.ans ≠ -1) && (decide (x.made = -1) || decide (x.ans < x.made)))
def rbad2 (y x : Ev) : Bool := decide (x.asked ≤ y.asked) || (decide (x.made ≠ -1) && decide (x.made = y.made)) || (decide (x.task = y.task) && decide (y.made ≠ -1) && !befB y x)
/-- Events up to place i are right. -/
def RVi (l : List Ev) (i : Nat) : Prop := ∀ (j : Nat) (x : Ev), j < i → l[j]? = some x → rbad x = false ∧ ∀ (k : Nat) (y : Ev), k < j → l[k]? = some y → rbad2 y x = false
def RV (l : List Ev) : Prop := l.length ≤ 4096 ∧ RVi l l.length
theorem RVi.next {l : List Ev} {i : Nat} {x : Ev} (h : RVi l i) (hx : l[i]? = some x) (h1 : rbad x = false) (h2 : ∀ (k : Nat) (y : Ev), k < i → l[k]? = some y → rbad2 y x = false) : RVi l (i + 1) := fun j x' hj hx' => by
  by_cases e : j = i
  · subst e
    rw [hx] at hx'
    injection hx' with hx'
    subst hx'
    exact ⟨h1, h2⟩
  · exact h j x' (by omega) hx'
end Go.Proofs.Ytbkkplednfdfdaa
