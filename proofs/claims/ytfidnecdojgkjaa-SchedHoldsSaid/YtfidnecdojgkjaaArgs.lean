/- Turns and calls, as they come in. -/
import Derived.Test.YtfidnecdojgkjaaKnown
namespace Go.Proofs.Ytfidnecdojgkjaa
open Go.RowKit Go.ChangeShapes Go.WideShapes Go.ChangeAt

theorem wf_i64 {a : Int} (h : (Lit.int .i64 a).wf = true) : -9223372036854775808 ≤ a ∧ a < 9223372036854775808 := by
  simp only [Lit.wf, IntKind.min, IntKind.max, IntKind.signed, IntKind.bits, Bool.and_eq_true, decide_eq_true_eq, if_true] at h
  omega
theorem wf_u16 {a : Int} (h : (Lit.int .u16 a).wf = true) : 0 ≤ a ∧ a < 65536 := by
  simp only [Lit.wf, IntKind.min, IntKind.max, IntKind.signed, IntKind.bits, Bool.and_eq_true, decide_eq_true_eq, Bool.false_eq_true, if_false] at h
  omega
def Tp.ok (W : World) (x : Tp) : Prop := Rd W W.heap.size x.q (ints x.en) ∧ (∀ y ∈ x.en, (Lit.int .i64 y).wf = true) ∧ x.en.length ≤ x.c ∧ (Lit.int .i64 x.pk).wf = true
theorem el_turn {H : Type} {enc : TypeId × Value → H} {W : World} {n : Nat} {cs : List Value} {y : DataW H × List MemPlace} (hy : DataW.trod enc Try.prog W 0 (fun _ => true) true n 44 cs = some y) : ∃ x : Tp, cs = x.cells ∧ x.ok W := by
  obtain ⟨xs, n, _, _, hlen, hxl, hg⟩ := DataW.trod_struct Try.underlying44 hy
  have hl3 : cs.length = 2 := hlen.trans (by kernel_rfl)
  match cs, hl3 with
  | [a, b], _ =>
    match xs, hxl with
    | [x0, x1], _ =>
      have h0 : DataW.trod enc Try.prog W 0 (fun _ => true) true n 23 ([a, b].take (Try.prog.cellsOf 23)) = some x0 := hg 0 _ rfl
      have h1 : DataW.trod enc Try.prog W 0 (fun _ => true) true n 3 ([b].take (Try.prog.cellsOf 3)) = some x1 := hg 1 _ rfl
      rw [show Try.prog.cellsOf 23 = 1 from by kernel_rfl] at h0
      rw [show Try.prog.cellsOf 3 = 1 from by kernel_rfl] at h1
      simp only [List.take_succ_cons, List.take_zero] at h0 h1
      obtain ⟨q, c, zs, e0, r0, hc, _, w0⟩ := el_intsl Try.underlying23 Try.underlying3 (by kernel_rfl) h0
      obtain ⟨k1, e1, _, w1⟩ := DataW.trod_int Try.underlying3 h1
      simp at e0 e1
      subst e0 e1
      exact ⟨⟨q, c, zs, k1⟩, rfl, r0, w0, hc, w1⟩
theorem arg_turns {H : Type} {enc : TypeId × Value → H} {W : World} {v : Value} {d : DataW H} {ps : List MemPlace} {b0 : Nat} (hv : Value.okWide Try.prog W .any b0 35 v) (h : DataW.Trod enc Try.prog W 0 (fun _ => true) true 35 v d ps) :
    ∃ p c, ∃ xs : List Tp, v = .slice p xs.length c ∧ Rd W W.heap.size p (tps xs) ∧ xs.length ≤ c ∧ c ≤ maxLen ∧ ∀ x ∈ xs, x.ok W :=
  arg_slice Tp.cells (Tp.ok W) 2 (by kernel_rfl) (by omega) (fun _ => rfl) Try.underlying35 (fun _ _ _ hy => el_turn hy) hv h
def Ac.ok (W : World) (x : Ac) : Prop := (Lit.int .i64 x.a).wf = true ∧ Rd W W.heap.size x.q (ints x.en) ∧ (∀ y ∈ x.en, (Lit.int .i64 y).wf = true) ∧ x.en.length ≤ x.c ∧ (Lit.int .u16 x.b).wf = true
theorem el_act {H : Type} {enc : TypeId × Value → H} {W : World} {n : Nat} {cs : List Value} {y : DataW H × List MemPlace} (hy : DataW.trod enc Try.prog W 0 (fun _ => true) true n 52 cs = some y) : ∃ x : Ac, cs = x.cells ∧ x.ok W := by
  obtain ⟨xs, n, _, _, hlen, hxl, hg⟩ := DataW.trod_struct Try.underlying52 hy
  have hl3 : cs.length = 3 := hlen.trans (by kernel_rfl)
  match cs, hl3 with
  | [z, a, b], _ =>
    match xs, hxl with
    | [x9, x0, x1], _ =>
      have h9 : DataW.trod enc Try.prog W 0 (fun _ => true) true n 3 ([z, a, b].take (Try.prog.cellsOf 3)) = some x9 := hg 0 _ rfl
      have h0 : DataW.trod enc Try.prog W 0 (fun _ => true) true n 23 ([a, b].take (Try.prog.cellsOf 23)) = some x0 := hg 1 _ rfl
      have h1 : DataW.trod enc Try.prog W 0 (fun _ => true) true n 50 ([b].take (Try.prog.cellsOf 50)) = some x1 := hg 2 _ rfl
      rw [show Try.prog.cellsOf 3 = 1 from by kernel_rfl] at h9
      rw [show Try.prog.cellsOf 23 = 1 from by kernel_rfl] at h0
      rw [show Try.prog.cellsOf 50 = 1 from by kernel_rfl] at h1
      simp only [List.take_succ_cons, List.take_zero] at h9 h0 h1
      obtain ⟨k9, e9, _, w9⟩ := DataW.trod_int Try.underlying3 h9
      obtain ⟨q, c, zs, e0, r0, hc, _, w0⟩ := el_intsl Try.underlying23 Try.underlying3 (by kernel_rfl) h0
      obtain ⟨k1, e1, _, w1⟩ := DataW.trod_int Try.underlying50 h1
      simp at e9 e0 e1
      subst e9 e0 e1
      exact ⟨⟨k9, q, c, zs, k1⟩, rfl, w9, r0, w0, hc, w1⟩
theorem arg_acts {H : Type} {enc : TypeId × Value → H} {W : World} {v : Value} {d : DataW H} {ps : List MemPlace} {b0 : Nat} (hv : Value.okWide Try.prog W .any b0 46 v) (h : DataW.Trod enc Try.prog W 0 (fun _ => true) true 46 v d ps) :
    ∃ p c, ∃ xs : List Ac, v = .slice p xs.length c ∧ Rd W W.heap.size p (acs xs) ∧ xs.length ≤ c ∧ c ≤ maxLen ∧ ∀ x ∈ xs, x.ok W :=
  arg_slice Ac.cells (Ac.ok W) 3 (by kernel_rfl) (by omega) (fun _ => rfl) Try.underlying46 (fun _ _ _ hy => el_act hy) hv h
end Go.Proofs.Ytfidnecdojgkjaa
