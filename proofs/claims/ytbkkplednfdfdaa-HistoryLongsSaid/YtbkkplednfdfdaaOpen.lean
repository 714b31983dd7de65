/- Arguments that come in: a slice of ints, a slice of strings, as 'Rd'. Nothing of the program stands here. -/
import Derived.Test.YtbkkplednfdfdaaMem
import Derived.ProofKit
import Derived.OpenShut
import Derived.ShutString
import Derived.ChangeOld
import Derived.Deep.Slices
import Derived.Deep.Fields
namespace Go.Proofs.Ytbkkplednfdfdaa
open Go.ChangeShapes Go.WideShapes Go.ChangeAt Go.RowKit

/-- The cells of a list of strings. -/
def strs (ss : List ByteArray) : List Value := ss.map Value.string
theorem strs_len (ss : List ByteArray) : (strs ss).length = ss.length := by simp [strs]
theorem strs_one (ss : List ByteArray) : ∀ u ∈ strs ss, u.oneCell' = true := by
  intro u hu
  simp only [strs, List.mem_map] at hu
  obtain ⟨x, _, rfl⟩ := hu
  rfl
theorem Rd.str {w : World} {B : Nat} {p : Option Addr} {l : List ByteArray} (h : Rd w B p (strs l)) {k : Nat} (hk : k < l.length) : ∃ b o, p = some ⟨b, o, none⟩ ∧ b < B ∧ w.cell? ⟨b, o + k, none⟩ = some (.string l[k]) := by
  obtain ⟨b, o, hp, hb, hc, _⟩ := h.at_ (k := k) (by simpa [strs] using hk)
  exact ⟨b, o, hp, hb, by simpa [strs] using hc⟩

theorem Rd.of_arg {w : World} {a : Addr} {n : Nat} {f : Nat → Value} (hc : ∀ i, i < n → w.cell? (a.add i) = some (f i)) : Rd w w.heap.size (some a) ((List.range n).map f) := by
  by_cases hn : n = 0
  · subst hn; exact .inl rfl
  · obtain ⟨b, o, sp⟩ := a
    have h0 := hc 0 (by omega)
    have hs : sp = none := by simpa [Addr.add] using World.cell?_spot h0
    subst hs
    have hlt : b < w.heap.size := by have := World.block_lt_of_cell? w _ h0; simpa [Addr.add] using this
    refine .inr ⟨b, o, rfl, hlt, fun j u hu => ?_⟩
    have hj := (List.getElem?_eq_some_iff.1 hu).1
    simp at hj
    simp [hj] at hu
    subst hu
    have := hc j hj
    rw [← this, Addr.add_lit]

section
variable {H : Type} {enc : TypeId × Value → H} {P : Program} {W : World} {t e : TypeId} {v : Value} {d : DataW H} {ps : List MemPlace}
theorem take_eq_range {α : Type} (l : List α) (n : Nat) (z : α) (h : n ≤ l.length) : l.take n = (List.range n).map fun i => l.getD i z := by
  apply List.ext_getElem
  · simp; omega
  · intro i h1 h2
    simp at h1
    simp [List.getElem?_eq_getElem (show i < l.length by omega)]

theorem arg_ints {k : IntKind} (ht : P.underlying t = some (.slice e)) (he : P.underlying e = some (.int k)) (hc : P.cellsOf e = 1) {b0 : Nat} (hv : Value.okWide P W .any b0 t v) (h : DataW.Trod enc P W 0 (fun _ => true) true t v d ps) :
    ∃ p c, ∃ xs : List Int, v = .slice p xs.length c ∧ Rd W W.heap.size p (xs.map (Value.int k)) ∧ xs.length ≤ c ∧ c ≤ maxLen ∧ ∀ x ∈ xs, (Lit.int k x).wf = true := by
  obtain ⟨a0, len, cap, rfl⟩ := okWide_slice ht hv
  obtain ⟨fuel, hf⟩ := h
  rcases open_ints ht he hc hf with ⟨hcs, _⟩ | ⟨x, l, c, zs, hcs, _, hl, hm, hz, _, hcell, hwz⟩
  · simp [Value.cells] at hcs
    obtain ⟨rfl, rfl, rfl⟩ := hcs
    exact ⟨none, 0, [], rfl, .inl rfl, Nat.le_refl _, Nat.zero_le _, by simp⟩
  · simp [Value.cells] at hcs
    obtain ⟨rfl, rfl, rfl⟩ := hcs
    simp at hz
    have hlen : (zs.take len).length = len := by rw [List.length_take]; omega
    refine ⟨some x, cap, zs.take len, by rw [hlen], ?_, by omega, hm, fun y hy => hwz y (List.mem_of_mem_take hy)⟩
    rw [take_eq_range zs len 0 (by omega), List.map_map]
    exact Rd.of_arg fun i hi => hcell i (by omega)

theorem arg_strs (ht : P.underlying t = some (.slice e)) (he : P.underlying e = some .string) (hc : P.cellsOf e = 1) {b0 : Nat} (hv : Value.okWide P W .any b0 t v) (h : DataW.Trod enc P W 0 (fun _ => true) true t v d ps) :
    ∃ p c, ∃ ss : List ByteArray, v = .slice p ss.length c ∧ Rd W W.heap.size p (strs ss) ∧ ss.length ≤ c ∧ c ≤ maxLen ∧ ∀ s ∈ ss, s.size ≤ maxLen := by
  obtain ⟨a0, len, cap, rfl⟩ := okWide_slice ht hv
  obtain ⟨fuel, hf⟩ := h
  rcases open_strings ht he hc hf with ⟨hcs, _⟩ | ⟨x, l, c, zs, hcs, _, hl, hm, hz, _, hcell, hwz⟩
  · simp [Value.cells] at hcs
    obtain ⟨rfl, rfl, rfl⟩ := hcs
    exact ⟨none, 0, [], rfl, .inl rfl, Nat.le_refl _, Nat.zero_le _, by simp⟩
  · simp [Value.cells] at hcs
    obtain ⟨rfl, rfl, rfl⟩ := hcs
    simp at hz
    have hlen : (zs.take len).length = len := by rw [List.length_take]; omega
    refine ⟨some x, cap, zs.take len, by rw [hlen], ?_, by omega, hm, fun y hy => hwz y (List.mem_of_mem_take hy)⟩
    rw [take_eq_range zs len ByteArray.empty (by omega), strs, List.map_map]
    exact Rd.of_arg fun i hi => hcell i (by omega)

/-- Where the cells of an element lie in a list of equal groups. -/
theorem flat_at {α : Type} (f : α → List Value) (m : Nat) (hm : 0 < m) (hf : ∀ x, (f x).length = m) : ∀ (l : List α) (j : Nat), (l.flatMap f)[j]? = (l[j / m]?).bind fun x => (f x)[j % m]?
  | [], j => by simp
  | x :: l, j => by
    rw [List.flatMap_cons]
    rcases Nat.lt_or_ge j m with h | h
    · rw [List.getElem?_append_left (by rw [hf]; exact h), Nat.div_eq_of_lt h, Nat.mod_eq_of_lt h]
      rfl
    · rw [List.getElem?_append_right (by rw [hf]; exact h), hf, flat_at f m hm hf l (j - m)]
      obtain ⟨k, rfl⟩ : ∃ k, j = m + k := ⟨j - m, by omega⟩
      rw [Nat.add_sub_cancel_left, Nat.add_div_left k hm, Nat.add_mod_left]
      rfl

/-- A slice of elements of several cells. -/
theorem arg_slice {α : Type} (f : α → List Value) (ok : α → Prop) (m : Nat) (hC : P.cellsOf e = m) (hm : 0 < m) (hf : ∀ x, (f x).length = m) (ht : P.underlying t = some (.slice e))
    (hel : ∀ (n : Nat) (cs : List Value) (y : DataW H × List MemPlace), DataW.trod enc P W 0 (fun _ => true) true n e cs = some y → ∃ x, cs = f x ∧ ok x)
    {b0 : Nat} (hv : Value.okWide P W .any b0 t v) (h : DataW.Trod enc P W 0 (fun _ => true) true t v d ps) :
    ∃ p c, ∃ xs : List α, v = .slice p xs.length c ∧ Rd W W.heap.size p (xs.flatMap f) ∧ xs.length ≤ c ∧ c ≤ maxLen ∧ ∀ x ∈ xs, ok x := by
  obtain ⟨a0, len, cap, rfl⟩ := okWide_slice ht hv
  obtain ⟨fuel, hfu⟩ := h
  rcases Go.Deep.open_slice ht hfu with ⟨hcs, _⟩ | ⟨a, l, c, k, n, D, Pl, hcs, _, hl, hmx, hk, _, hi⟩
  · simp [Value.cells] at hcs
    obtain ⟨rfl, rfl, rfl⟩ := hcs
    exact ⟨none, 0, [], rfl, .inl rfl, Nat.le_refl _, Nat.zero_le _, by simp⟩
  · simp [Value.cells] at hcs
    obtain ⟨rfl, rfl, rfl⟩ := hcs
    simp at hk
    subst hk
    by_cases h0 : len = 0
    · subst h0
      exact ⟨some a, k, [], rfl, .inl rfl, Nat.zero_le _, hmx, by simp⟩
    · have each : ∀ i, i < k → ∃ x : α, ok x ∧ ∀ r u, (f x)[r]? = some u → W.cell? ((a.add (i * m)).add r) = some u := by
        intro i hik
        obtain ⟨cs', hc, htr⟩ := hi i hik
        obtain ⟨x, rfl, hx⟩ := hel n cs' _ htr
        rw [hC] at hc
        obtain ⟨_, hcl, hat⟩ := World.cells?_some hc
        refine ⟨x, hx, fun r u hu => ?_⟩
        have hr : r < m := by have := (List.getElem?_eq_some_iff.1 hu).1; rw [hf] at this; exact this
        rw [hat r hr, hu]
      obtain ⟨x0, _, h00⟩ := each 0 (by omega)
      obtain ⟨bb, o, sp⟩ := a
      have hs : sp = none := by
        have hp : 0 < (f x0).length := by rw [hf]; exact hm
        have := h00 0 _ (List.getElem?_eq_getElem hp)
        simpa [Addr.add] using World.cell?_spot this
      subst hs
      let g : Nat → α := fun i => if h : i < k then Classical.choose (each i h) else x0
      have hg : ∀ i, i < k → ok (g i) ∧ ∀ r u, (f (g i))[r]? = some u → W.cell? ⟨bb, o + (i * m + r), none⟩ = some u := by
        intro i hik
        have hs := Classical.choose_spec (each i hik)
        have e : g i = Classical.choose (each i hik) := by simp only [g, dif_pos hik]
        rw [e]
        refine ⟨hs.1, fun r u hu => ?_⟩
        have := hs.2 r u hu
        rw [Addr.add_lit, Addr.add_lit, Nat.add_assoc] at this
        exact this
      refine ⟨some ⟨bb, o, none⟩, k, (List.range len).map g, by simp, ?_, by simpa using hl, hmx, ?_⟩
      · have hlt : bb < W.heap.size := by
          have hp : 0 < (f (g 0)).length := by rw [hf]; exact hm
          exact World.block_lt_of_cell? W _ ((hg 0 (by omega)).2 0 _ (List.getElem?_eq_getElem hp))
        refine .inr ⟨bb, o, rfl, hlt, fun j u hu => ?_⟩
        rw [flat_at f m hm hf] at hu
        rcases Nat.lt_or_ge (j / m) len with hj | hj
        · simp [hj] at hu
          have := (hg (j / m) (by omega)).2 (j % m) u hu
          rw [show j / m * m + j % m = j from by rw [Nat.mul_comm]; exact Nat.div_add_mod j m] at this
          exact this
        · rw [List.getElem?_eq_none (by simpa using hj)] at hu
          cases hu
      · intro x hx
        simp at hx
        obtain ⟨i, hil, rfl⟩ := hx
        exact (hg i (by omega)).1

/-- The same, of a slice that is an element or a field. -/
theorem el_slice {α : Type} (f : α → List Value) (ok : α → Prop) (m : Nat) (hC : P.cellsOf e = m) (hm : 0 < m) (hf : ∀ x, (f x).length = m) (ht : P.underlying t = some (.slice e))
    (hel : ∀ (n : Nat) (cs : List Value) (y : DataW H × List MemPlace), DataW.trod enc P W 0 (fun _ => true) true n e cs = some y → ∃ x, cs = f x ∧ ok x)
    {fuel : Nat} {cs0 : List Value} {y0 : DataW H × List MemPlace} (hfu : DataW.trod enc P W 0 (fun _ => true) true fuel t cs0 = some y0) :
    ∃ p c, ∃ xs : List α, cs0 = [.slice p xs.length c] ∧ Rd W W.heap.size p (xs.flatMap f) ∧ xs.length ≤ c ∧ c ≤ maxLen ∧ ∀ x ∈ xs, ok x := by
  rcases Go.Deep.open_slice ht hfu with ⟨rfl, _⟩ | ⟨a, len, c, k, n, D, Pl, rfl, _, hl, hmx, hk, _, hi⟩
  · exact ⟨none, 0, [], rfl, .inl rfl, Nat.le_refl _, Nat.zero_le _, by simp⟩
  · simp at hk
    subst hk
    by_cases h0 : len = 0
    · subst h0
      exact ⟨some a, k, [], rfl, .inl rfl, Nat.zero_le _, hmx, by simp⟩
    · have each : ∀ i, i < k → ∃ x : α, ok x ∧ ∀ r u, (f x)[r]? = some u → W.cell? ((a.add (i * m)).add r) = some u := by
        intro i hik
        obtain ⟨cs', hc, htr⟩ := hi i hik
        obtain ⟨x, rfl, hx⟩ := hel n cs' _ htr
        rw [hC] at hc
        obtain ⟨_, hcl, hat⟩ := World.cells?_some hc
        refine ⟨x, hx, fun r u hu => ?_⟩
        have hr : r < m := by have := (List.getElem?_eq_some_iff.1 hu).1; rw [hf] at this; exact this
        rw [hat r hr, hu]
      obtain ⟨x0, _, h00⟩ := each 0 (by omega)
      obtain ⟨bb, o, sp⟩ := a
      have hs : sp = none := by
        have hp : 0 < (f x0).length := by rw [hf]; exact hm
        have := h00 0 _ (List.getElem?_eq_getElem hp)
        simpa [Addr.add] using World.cell?_spot this
      subst hs
      let g : Nat → α := fun i => if h : i < k then Classical.choose (each i h) else x0
      have hg : ∀ i, i < k → ok (g i) ∧ ∀ r u, (f (g i))[r]? = some u → W.cell? ⟨bb, o + (i * m + r), none⟩ = some u := by
        intro i hik
        have hs := Classical.choose_spec (each i hik)
        have e : g i = Classical.choose (each i hik) := by simp only [g, dif_pos hik]
        rw [e]
        refine ⟨hs.1, fun r u hu => ?_⟩
        have := hs.2 r u hu
        rw [Addr.add_lit, Addr.add_lit, Nat.add_assoc] at this
        exact this
      refine ⟨some ⟨bb, o, none⟩, k, (List.range len).map g, by simp, ?_, by simpa using hl, hmx, ?_⟩
      · have hlt : bb < W.heap.size := by
          have hp : 0 < (f (g 0)).length := by rw [hf]; exact hm
          exact World.block_lt_of_cell? W _ ((hg 0 (by omega)).2 0 _ (List.getElem?_eq_getElem hp))
        refine .inr ⟨bb, o, rfl, hlt, fun j u hu => ?_⟩
        rw [flat_at f m hm hf] at hu
        rcases Nat.lt_or_ge (j / m) len with hj | hj
        · simp [hj] at hu
          have := (hg (j / m) (by omega)).2 (j % m) u hu
          rw [show j / m * m + j % m = j from by rw [Nat.mul_comm]; exact Nat.div_add_mod j m] at this
          exact this
        · rw [List.getElem?_eq_none (by simpa using hj)] at hu
          cases hu
      · intro x hx
        simp at hx
        obtain ⟨i, hil, rfl⟩ := hx
        exact (hg i (by omega)).1

/-- A slice of numbers that is an element or a field. -/
theorem el_intsl {k : IntKind} (ht : P.underlying t = some (.slice e)) (he : P.underlying e = some (.int k)) (hc : P.cellsOf e = 1) {fuel : Nat} {cs0 : List Value} {y0 : DataW H × List MemPlace} (hf : DataW.trod enc P W 0 (fun _ => true) true fuel t cs0 = some y0) :
    ∃ p c, ∃ xs : List Int, cs0 = [.slice p xs.length c] ∧ Rd W W.heap.size p (xs.map (Value.int k)) ∧ xs.length ≤ c ∧ c ≤ maxLen ∧ ∀ x ∈ xs, (Lit.int k x).wf = true := by
  rcases open_ints ht he hc hf with ⟨rfl, _⟩ | ⟨x, len, cap, zs, rfl, _, hl, hm, hz, _, hcell, hwz⟩
  · exact ⟨none, 0, [], rfl, .inl rfl, Nat.le_refl _, Nat.zero_le _, by simp⟩
  · simp at hz
    have hlen : (zs.take len).length = len := by rw [List.length_take]; omega
    refine ⟨some x, cap, zs.take len, by rw [hlen], ?_, by omega, hm, fun y hy => hwz y (List.mem_of_mem_take hy)⟩
    rw [take_eq_range zs len 0 (by omega), List.map_map]
    exact Rd.of_arg fun i hi => hcell i (by omega)
def theInt : Value → Int | .int _ n => n | _ => 0
/-- A struct of ints reads as a list of ints. -/
theorem el_ints {fs : Array Field} (he : P.underlying e = some (.struct fs)) (hC : P.cellsOf e = fs.size) (hfs : ∀ (i : Nat) (f : Field), fs[i]? = some f → f.offset = i ∧ P.underlying f.type = some (.int .i64) ∧ P.cellsOf f.type = 1)
    {n : Nat} {cs : List Value} {y : DataW H × List MemPlace} (h : DataW.trod enc P W 0 (fun _ => true) true n e cs = some y) :
    ∃ zs : List Int, zs.length = fs.size ∧ cs = zs.map (Value.int .i64) ∧ ∀ z ∈ zs, (Lit.int .i64 z).wf = true := by
  obtain ⟨xs, m, _, _, hlen, hxl, hg⟩ := DataW.trod_struct he h
  rw [hC] at hlen
  have each : ∀ (i : Nat) (hi : i < cs.length), ∃ k, cs[i] = .int .i64 k ∧ (Lit.int .i64 k).wf = true := by
    intro i hi
    have hf : fs[i]? = some (fs[i]'(by omega)) := Array.getElem?_eq_getElem (by omega)
    obtain ⟨ho, hu, hc⟩ := hfs i _ hf
    have h1 := hg i _ hf
    rw [ho, hc, List.drop_eq_getElem_cons hi] at h1
    simp only [List.take_succ_cons, List.take_zero] at h1
    rw [List.getElem?_eq_getElem (by omega)] at h1
    obtain ⟨k, hk, _, hw⟩ := DataW.trod_int hu h1
    injection hk with hk
    exact ⟨k, hk, hw⟩
  refine ⟨cs.map theInt, by rw [List.length_map, hlen], ?_, ?_⟩
  · apply List.ext_getElem
    · simp
    · intro i h1 h2
      obtain ⟨k, hk, _⟩ := each i h1
      simp [hk, theInt]
  · intro z hz
    simp only [List.mem_map] at hz
    obtain ⟨c, hc, rfl⟩ := hz
    obtain ⟨i, hi, rfl⟩ := List.mem_iff_getElem.1 hc
    obtain ⟨k, hk, hw⟩ := each i hi
    rw [hk]
    exact hw
end
end Go.Proofs.Ytbkkplednfdfdaa
