/- Arguments that come in: a slice of ints, a slice of strings, as 'Rd'. Nothing of the program stands here. -/
import Derived.Test.YtflpcolpklnipaaDoorMem
import Derived.ProofKit
import Derived.OpenShut
import Derived.ShutString
import Derived.ChangeOld
namespace Go.Proofs.YtflpcolpklnipaaDoor
open Go.ChangeShapes Go.WideShapes Go.ChangeAt Go.RowKit

/-- The cells of a list of strings. -/
def strs (ss : List ByteArray) : List Value := ss.map Value.string
theorem strs_len (ss : List ByteArray) : (strs ss).length = ss.length := by simp [strs]
theorem strs_one (ss : List ByteArray) : ∀ u ∈ strs ss, u.oneCell' = true := by
  intro u hu
  simp only [strs, List.mem_map] at hu
  obtain ⟨x, _, rfl⟩ := hu
  rfl
theorem Rd.str {w : World} {B : Nat} {p : Option Addr} {l : List ByteArray} (h : Rd w B p (strs l)) {k : Nat} (hk : k < l.length) : ∃ b o, p = some ⟨b, o, none⟩ ∧ b < B ∧ w.cell? ⟨b, o + k, none⟩ = some (.string l[k]) := by
  obtain ⟨b, o, hp, hb, hc, _⟩ := h.at_ (k := k) (by simpa [strs] using hk)
  exact ⟨b, o, hp, hb, by simpa [strs] using hc⟩

theorem Rd.of_arg {w : World} {a : Addr} {n : Nat} {f : Nat → Value} (hc : ∀ i, i < n → w.cell? (a.add i) = some (f i)) : Rd w w.heap.size (some a) ((List.range n).map f) := by
  by_cases hn : n = 0
  · subst hn; exact .inl rfl
  · obtain ⟨b, o, sp⟩ := a
    have h0 := hc 0 (by omega)
    have hs : sp = none := by simpa [Addr.add] using World.cell?_spot h0
    subst hs
    have hlt : b < w.heap.size := by have := World.block_lt_of_cell? w _ h0; simpa [Addr.add] using this
    refine .inr ⟨b, o, rfl, hlt, fun j u hu => ?_⟩
    have hj := (List.getElem?_eq_some_iff.1 hu).1
    simp at hj
    simp [hj] at hu
    subst hu
    have := hc j hj
    rw [← this, Addr.add_lit]

section
variable {H : Type} {enc : TypeId × Value → H} {P : Program} {W : World} {t e : TypeId} {v : Value} {d : DataW H} {ps : List MemPlace}
theorem take_eq_range {α : Type} (l : List α) (n : Nat) (z : α) (h : n ≤ l.length) : l.take n = (List.range n).map fun i => l.getD i z := by
  apply List.ext_getElem
  · simp; omega
  · intro i h1 h2
    simp at h1
    simp [List.getElem?_eq_getElem (show i < l.length by omega)]

theorem arg_ints {k : IntKind} (ht : P.underlying t = some (.slice e)) (he : P.underlying e = some (.int k)) (hc : P.cellsOf e = 1) {b0 : Nat} (hv : Value.okWide P W .any b0 t v) (h : DataW.Trod enc P W 0 (fun _ => true) true t v d ps) :
    ∃ p c, ∃ xs : List Int, v = .slice p xs.length c ∧ Rd W W.heap.size p (xs.map (Value.int k)) ∧ xs.length ≤ c ∧ c ≤ maxLen ∧ ∀ x ∈ xs, (Lit.int k x).wf = true := by
  obtain ⟨a0, len, cap, rfl⟩ := okWide_slice ht hv
  obtain ⟨fuel, hf⟩ := h
  rcases open_ints ht he hc hf with ⟨hcs, _⟩ | ⟨x, l, c, zs, hcs, _, hl, hm, hz, _, hcell, hwz⟩
  · simp [Value.cells] at hcs
    obtain ⟨rfl, rfl, rfl⟩ := hcs
    exact ⟨none, 0, [], rfl, .inl rfl, Nat.le_refl _, Nat.zero_le _, by simp⟩
  · simp [Value.cells] at hcs
    obtain ⟨rfl, rfl, rfl⟩ := hcs
    simp at hz
    have hlen : (zs.take len).length = len := by rw [List.length_take]; omega
    refine ⟨some x, cap, zs.take len, by rw [hlen], ?_, by omega, hm, fun y hy => hwz y (List.mem_of_mem_take hy)⟩
    rw [take_eq_range zs len 0 (by omega), List.map_map]
    exact Rd.of_arg fun i hi => hcell i (by omega)

theorem arg_strs (ht : P.underlying t = some (.slice e)) (he : P.underlying e = some .string) (hc : P.cellsOf e = 1) {b0 : Nat} (hv : Value.okWide P W .any b0 t v) (h : DataW.Trod enc P W 0 (fun _ => true) true t v d ps) :
    ∃ p c, ∃ ss : List ByteArray, v = .slice p ss.length c ∧ Rd W W.heap.size p (strs ss) ∧ ss.length ≤ c ∧ c ≤ maxLen ∧ ∀ s ∈ ss, s.size ≤ maxLen := by
  obtain ⟨a0, len, cap, rfl⟩ := okWide_slice ht hv
  obtain ⟨fuel, hf⟩ := h
  rcases open_strings ht he hc hf with ⟨hcs, _⟩ | ⟨x, l, c, zs, hcs, _, hl, hm, hz, _, hcell, hwz⟩
  · simp [Value.cells] at hcs
    obtain ⟨rfl, rfl, rfl⟩ := hcs
    exact ⟨none, 0, [], rfl, .inl rfl, Nat.le_refl _, Nat.zero_le _, by simp⟩
  · simp [Value.cells] at hcs
    obtain ⟨rfl, rfl, rfl⟩ := hcs
    simp at hz
    have hlen : (zs.take len).length = len := by rw [List.length_take]; omega
    refine ⟨some x, cap, zs.take len, by rw [hlen], ?_, by omega, hm, fun y hy => hwz y (List.mem_of_mem_take hy)⟩
    rw [take_eq_range zs len ByteArray.empty (by omega), strs, List.map_map]
    exact Rd.of_arg fun i hi => hcell i (by omega)
end
end Go.Proofs.YtflpcolpklnipaaDoor
