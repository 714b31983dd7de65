/- Loads of whole structs, in one step. -/
import Derived.Test.YtbkkplednfdfdaaFr
import Derived.Test.YtbkkplednfdfdaaBase
import Derived.Deep.MidRow
namespace Go.Proofs.Ytbkkplednfdfdaa
open Go.RowKit

theorem Blk.range {w : World} {g : Nat} {t : TypeId} {cs : List Value} (h : Blk w g t cs) : w.rangeAt g 0 cs := fun j v hj => by rw [Nat.zero_add, h.cell]; exact hj
theorem wpList_ld {P : Program} {ops : Array Oper} {rest : List Oper} {op : Oper} {a : Act} {w : World} {Q : Exit → Act → World → Prop} (hgd : op.guard = none) (ty : TypeId) (x : Operand) (ho : op.op = .load ty x)
    (b o : Nat) (hx : a.eval x = .pointer (some ⟨b, o, none⟩)) (A : Array Value) (cs : List Value) (hA : cs.toArray = A) (d : TypeDesc) (hc : w.rangeAt b o cs)
    (hu : P.underlying ty = some d) (hd : d.isRow = true) (hi : (P.info? ty).map (·.size) = some cs.length)
    (h : wpList P ops Q rest (a.put op.dst (.agg A)) w) : wpList P ops Q (op :: rest) a w := by
  subst hA
  exact wpList_load_mid hgd ty x ho b o hx cs d hc hu hd hi h
theorem wpList_ldg {P : Program} {ops : Array Oper} {rest : List Oper} {op : Oper} {a : Act} {w : World} {Q : Exit → Act → World → Prop} (hw : Region.wanted op (yielded ops a.tmps) = true) (ty : TypeId) (x : Operand) (ho : op.op = .load ty x)
    (b o : Nat) (hx : a.eval x = .pointer (some ⟨b, o, none⟩)) (A : Array Value) (cs : List Value) (hA : cs.toArray = A) (d : TypeDesc) (hc : w.rangeAt b o cs)
    (hu : P.underlying ty = some d) (hd : d.isRow = true) (hi : (P.info? ty).map (·.size) = some cs.length)
    (h : wpList P ops Q rest (a.put op.dst (.agg A)) w) : wpList P ops Q (op :: rest) a w := by
  subst hA
  refine wpList_step fun K hK => ?_
  rw [if_pos hw]
  exact wp_load_mid ty x ho b o hx cs d hc hu hd hi (hK _ _ h)
theorem info51 : (Try.prog.info? 51).map (·.size) = some 18 := by kernel_rfl
theorem info41 : (Try.prog.info? 41).map (·.size) = some 15 := by kernel_rfl
theorem info39 : (Try.prog.info? 39).map (·.size) = some 6 := by kernel_rfl
theorem info36 : (Try.prog.info? 36).map (·.size) = some 5 := by kernel_rfl
end Go.Proofs.Ytbkkplednfdfdaa
