/- The reference's history, in plain Lean. -/
import Derived.Test.YtbkkplednfdfdaaTold
namespace Go.Proofs.Ytbkkplednfdfdaa
open Go.RowKit

/-- What a step of its task makes of an event. -/
def pup1 (k : Nat) (lk : Bool) (d : PD) (x : PE) : PE := if d.made then ⟨x.task, x.asked, k, if lk then (k : Int) else x.ans, d.c, d.a⟩ else x
def pup2 (k : Nat) (d : PD) (x : PE) : PE := if d.step = 6 then ⟨x.task, x.asked, x.made, k, x.c, x.a⟩ else x
def prl (i : Nat) (lk : Bool) : Nat → List PD → PE → PE
  | _, [], x => x
  | k, d :: l, x => if d.task = x.task then (if i < k ∧ d.step = 7 then x else prl i lk (k + 1) l (pup2 k d (pup1 k lk d x))) else prl i lk (k + 1) l x
def pevent (l : List PD) (i : Nat) : PE := match l[i]? with
  | none => ⟨0, 0, 0, 0, PC.zero, PA.zero⟩
  | some d => prl i (decide (d.step = 7)) i (l.drop i) (pnew i d (decide (d.step = 7)))
/-- The events that the first k steps begin. -/
def pofU (l : List PD) : Nat → List PE
  | 0 => []
  | k + 1 => pofU l k ++ (match l[k]? with
    | none => []
    | some d => if d.step = 1 ∨ d.step = 7 then [pevent l k] else [])
def pofR (l : List PD) : List PE := pofU l l.length
end Go.Proofs.Ytbkkplednfdfdaa
