/- Stores of whole structs, in one step. -/
import Derived.Test.YtbkkplednfdfdaaLd
namespace Go.Proofs.Ytbkkplednfdfdaa
open Go.RowKit
set_option linter.unusedVariables false

/-- A list with others put into it from place o on. -/
def putAt (cs : List Value) (o : Nat) : List Value → List Value
  | [] => cs
  | v :: r => putAt (cs.set o v) (o + 1) r
theorem blk_setCells {g : Nat} {t : TypeId} : ∀ (vs : List Value) (o : Nat) (w : World) (cs : List Value), Blk w g t cs → Blk (w.setCells g o vs) g t (putAt cs o vs)
  | [], _, _, _, h => h
  | v :: r, o, w, cs, h => blk_setCells r (o + 1) _ _ (h.set_ o v)
theorem fr_setCells {g : Nat} {w0 : World} : ∀ (vs : List Value) (o : Nat) (w : World), Fr (fun x => x = g) w0 w → Fr (fun x => x = g) w0 (w.setCells g o vs)
  | [], _, _, h => h
  | v :: r, o, w, h => fr_setCells r (o + 1) _ (h.set ⟨g, o, none⟩ v (.inl rfl))
/-- A store of a whole struct, in one step: the world behind it is a new one. -/
theorem wpList_st {P : Program} {ops : Array Oper} {rest : List Oper} {op : Oper} {a : Act} {w : World} {Q : Exit → Act → World → Prop} (hgd : op.guard = none) (ty : TypeId) (x y : Operand) (ho : op.op = .store ty x y)
    (b o : Nat) (hx : a.eval x = .pointer (some ⟨b, o, none⟩)) (A : Array Value) (hy : a.eval y = .agg A) (t : TypeId) (cs cs' : List Value) (hb : Blk w b t cs) (hl : o + A.size ≤ cs.length)
    (hi : (P.info? ty).map (·.size) = some A.size) (h1 : A.toList.all (·.oneCell') = true) (hcs : putAt cs o A.toList = cs')
    (h : ∀ w', Blk w' b t cs' → Fr (fun x => x = b) w w' → wpList P ops Q rest (a.put op.dst undef) w') : wpList P ops Q (op :: rest) a w := by
  refine wpList_store_mid hgd ty x y ho b o A hx hy (fun j hj => ⟨?_, hb.free _⟩) hi (by rw [← h1, Array.all_toList]) (h _ (by rw [← hcs]; exact blk_setCells _ _ _ _ hb) (fr_setCells _ _ _ (Fr.refl _ _)))
  rw [hb.cell, List.getElem?_eq_getElem (by omega)]
  rfl
/-- The same load in a region that draws its order and makes memory. -/
theorem quiet_ld {P : Program} {w0 : World} {op : Oper} {a : Act} {K : Act → Prop} (ty : TypeId) (x : Operand) (ho : op.op = .load ty x)
    (b f : Nat) (hx : a.eval x = .pointer (some ⟨b, f, none⟩)) (A : Array Value) (cs : List Value) (hA : cs.toArray = A) (d : TypeDesc) (hlt : b < w0.heap.size) (hc : w0.rangeAt b f cs)
    (hu : P.underlying ty = some d) (hd : d.isRow = true) (hi : (P.info? ty).map (·.size) = some cs.length)
    (h : K (a.put op.dst (.agg A))) : op.quiet P a (fun w' => ∃ g : Gr w0, w' = g.w) K := by
  subst hA
  refine ⟨_, ?_, h⟩
  rintro _ ⟨g, rfl⟩
  have hr : g.w.rangeAt b f cs := fun j v hj => Gr.at_ hlt (hc j v hj) g
  unfold Oper.quietAt execOp
  simp only [ho, hx, Instr.loadAt, Instr.sureAddr, Sem.run_bind, Sem.run_pure, Result.andThen_ok, run_loadVar_mid g.w b f ty cs d hr hu hd hi]
  exact ⟨rfl, rfl⟩
end Go.Proofs.Ytbkkplednfdfdaa
