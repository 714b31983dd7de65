/- Marks as they come in: one by value, a list of them. -/
import Derived.Test.YtffclmogabceiaaBase
import Derived.Test.YtffclmogabceiaaMarks
namespace Go.Proofs.Ytffclmogabceiaa
open Go.RowKit Go.ChangeShapes Go.WideShapes Go.ChangeAt

theorem el_mark {H : Type} {enc : TypeId × Value → H} {W : World} {n : Nat} {cs : List Value} {y : DataW H × List MemPlace} (h : DataW.trod enc Try.prog W 0 (fun _ => true) true n 26 cs = some y) : ∃ m : Mk, cs = m.cells ∧ m.Ok := by
  obtain ⟨xs, m, _, _, hlen, hxl, hg⟩ := DataW.trod_struct Try.underlying26 h
  have hl4 : cs.length = 4 := hlen.trans (by kernel_rfl)
  match cs, hl4 with
  | [a, b, c, d], _ =>
    match xs, hxl with
    | [x0, x1, x2], _ =>
      have h0 : DataW.trod enc Try.prog W 0 (fun _ => true) true m 23 ([a, b, c, d].take (Try.prog.cellsOf 23)) = some x0 := hg 0 _ rfl
      have h1 : DataW.trod enc Try.prog W 0 (fun _ => true) true m 3 ([c, d].take (Try.prog.cellsOf 3)) = some x1 := hg 1 _ rfl
      have h2 : DataW.trod enc Try.prog W 0 (fun _ => true) true m 24 ([d].take (Try.prog.cellsOf 24)) = some x2 := hg 2 _ rfl
      rw [show Try.prog.cellsOf 23 = 2 from by kernel_rfl] at h0
      rw [show Try.prog.cellsOf 3 = 1 from by kernel_rfl] at h1
      rw [show Try.prog.cellsOf 24 = 1 from by kernel_rfl] at h2
      simp only [List.take_succ_cons, List.take_zero] at h0 h1 h2
      obtain ⟨zs, hzl, hz, _⟩ := el_ints Try.underlying23 (by kernel_rfl) (by
        intro i f hf
        match i, hf with
        | 0, hf => cases hf; exact ⟨rfl, Try.underlying3, by kernel_rfl⟩
        | 1, hf => cases hf; exact ⟨rfl, Try.underlying3, by kernel_rfl⟩) h0
      obtain ⟨q, hq, _, _⟩ := DataW.trod_int Try.underlying3 h1
      obtain ⟨t, ht, _, hw⟩ := DataW.trod_int Try.underlying24 h2
      match zs, hzl with
      | [r, k], _ =>
        simp at hz hq ht
        obtain ⟨rfl, rfl⟩ := hz
        subst hq ht
        refine ⟨⟨r, k, q, t⟩, rfl, ?_⟩
        simp [Lit.wf, IntKind.min, IntKind.max, IntKind.signed, IntKind.bits] at hw
        exact ⟨by show 0 ≤ t; omega, by show t ≤ 18446744073709551615; omega⟩
theorem arg_marks {H : Type} {enc : TypeId × Value → H} {W : World} {v : Value} {d : DataW H} {ps : List MemPlace} {b0 : Nat} (hv : Value.okWide Try.prog W .any b0 38 v) (h : DataW.Trod enc Try.prog W 0 (fun _ => true) true 38 v d ps) :
    ∃ p c, ∃ xs : List Mk, v = .slice p xs.length c ∧ Rd W W.heap.size p (mks xs) ∧ xs.length ≤ c ∧ c ≤ maxLen ∧ ∀ x ∈ xs, x.Ok :=
  arg_slice Mk.cells Mk.Ok 4 (by kernel_rfl) (by omega) (fun _ => rfl) Try.underlying38 (fun _ _ _ hy => el_mark hy) hv h
theorem arg_mark {H : Type} {enc : TypeId × Value → H} {W : World} {v : Value} {d : DataW H} {ps : List MemPlace} {b0 : Nat} (hv : Value.okWide Try.prog W .any b0 26 v) (h : DataW.Trod enc Try.prog W 0 (fun _ => true) true 26 v d ps) :
    ∃ m : Mk, v = .agg #[.int .i64 m.r, .int .i64 m.c, .int .i64 m.q, .int .u64 m.t] ∧ m.Ok := by
  obtain ⟨cs, rfl, _⟩ := okWide_struct Try.underlying26 hv
  obtain ⟨fuel, hf⟩ := h
  obtain ⟨m, hm, ho⟩ := el_mark hf
  refine ⟨m, ?_, ho⟩
  have : cs.toList = m.cells := by simpa [Value.cells] using hm
  congr 1
  exact Array.ext' (by rw [this]; rfl)
end Go.Proofs.Ytffclmogabceiaa
