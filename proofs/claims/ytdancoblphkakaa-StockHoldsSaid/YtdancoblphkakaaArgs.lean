/- A state, a call, a list of calls, as they come in. -/
import Derived.Test.YtdancoblphkakaaObs
namespace Go.Proofs.Ytdancoblphkakaa
open Go.RowKit Go.ChangeShapes Go.WideShapes Go.ChangeAt

theorem flatMap_one (l : List Value) : l.flatMap (fun v => [v]) = l := by
  induction l with
  | nil => rfl
  | cons a l ih => rw [List.flatMap_cons, ih]; rfl
/-- A value that is a row of numbers. -/
def isRow (W : World) (v : Value) : Prop := ∃ p c, ∃ xs : List Int, v = .slice p xs.length c ∧ Rd W W.heap.size p (ints xs)
theorem rows_of {W : World} : ∀ vs : List Value, (∀ v ∈ vs, isRow W v) → ∃ G : List (List Int), vs.length = G.length ∧ ∀ i (_ : i < vs.length) (_ : i < G.length), ∃ q c, vs[i] = .slice q (G[i]).length c ∧ Rd W W.heap.size q (ints G[i])
  | [], _ => ⟨[], rfl, fun i h => by simp at h⟩
  | v :: vs, h => by
    obtain ⟨p, c, xs, rfl, hr⟩ := h v (by simp)
    obtain ⟨G, h1, h2⟩ := rows_of vs (fun u hu => h u (by simp [hu]))
    refine ⟨xs :: G, by simp [h1], fun i hi hi2 => ?_⟩
    match i, hi, hi2 with
    | 0, _, _ => exact ⟨p, c, rfl, hr⟩
    | i + 1, hi, hi2 =>
      simp at hi hi2
      exact h2 i hi hi2
theorem arg_state {H : Type} {enc : TypeId × Value → H} {W : World} {v : Value} {d : DataW H} {ps : List MemPlace} {b0 : Nat} (hv : Value.okWide Try.prog W .any b0 25 v) (h : DataW.Trod enc Try.prog W 0 (fun _ => true) true 25 v d ps) :
    ∃ G D, VS W (fun _ => True) v G D := by
  obtain ⟨cs, rfl, _⟩ := okWide_struct Try.underlying25 hv
  obtain ⟨fuel, hf⟩ := h
  obtain ⟨xs, n, _, _, hlen, hxl, hg⟩ := DataW.trod_struct Try.underlying25 hf
  have hl2 : cs.toList.length = 2 := by
    have : (Value.agg cs).cells.toList.length = 2 := hlen.trans (by kernel_rfl)
    simpa [Value.cells] using this
  obtain ⟨a, b, hab⟩ : ∃ a b, cs.toList = [a, b] := by
    match cs.toList, hl2 with
    | [a, b], _ => exact ⟨a, b, rfl⟩
  have hcs : cs = #[a, b] := Array.ext' (by rw [hab])
  subst hcs
  match xs, hxl with
  | [x0, x1], _ =>
    have h0 : DataW.trod enc Try.prog W 0 (fun _ => true) true n 22 ([a, b].take (Try.prog.cellsOf 22)) = some x0 := hg 0 _ rfl
    have h1 : DataW.trod enc Try.prog W 0 (fun _ => true) true n 23 ([b].take (Try.prog.cellsOf 23)) = some x1 := hg 1 _ rfl
    rw [show Try.prog.cellsOf 22 = 1 from by kernel_rfl] at h0
    rw [show Try.prog.cellsOf 23 = 1 from by kernel_rfl] at h1
    simp only [List.take_succ_cons, List.take_zero] at h0 h1
    obtain ⟨p, c, vs, e0, r0, _, _, hok⟩ := el_slice (fun v => [v]) (isRow W) 1 (by kernel_rfl) (by omega) (fun _ => rfl) Try.underlying22 (by
      intro n cs y hy
      obtain ⟨p, c, xs, rfl, hr, _⟩ := el_intsl Try.underlying23 Try.underlying3 (by kernel_rfl) hy
      exact ⟨_, rfl, p, c, xs, rfl, hr⟩) h0
    obtain ⟨q, e, D, e1, r1, _⟩ := el_intsl Try.underlying23 Try.underlying3 (by kernel_rfl) h1
    rw [flatMap_one] at r0
    obtain ⟨G, hG, hr⟩ := rows_of vs hok
    simp at e0 e1
    subst e0 e1
    refine ⟨G, D, p, c, q, e, vs, by rw [hG], RdU.of_rd r0 (fun _ _ => trivial), hG, fun i hi hi2 => ?_, RdU.of_rd r1 (fun _ _ => trivial)⟩
    obtain ⟨q, c, e, h⟩ := hr i hi hi2
    exact ⟨q, c, e, RdU.of_rd h (fun _ _ => trivial)⟩

/-- A call: what, place, to, units. -/
structure Ac where
  a : Int
  p : Int
  t : Int
  u : Int
def Ac.cells (x : Ac) : List Value := [.int .i64 x.a, .int .i64 x.p, .int .i64 x.t, .int .i64 x.u]
def Ac.val (x : Ac) : Value := .agg #[.int .i64 x.a, .int .i64 x.p, .int .i64 x.t, .int .i64 x.u]
def acs (l : List Ac) : List Value := l.flatMap Ac.cells
theorem acs_cons (m : Ac) (l : List Ac) : acs (m :: l) = .int .i64 m.a :: .int .i64 m.p :: .int .i64 m.t :: .int .i64 m.u :: acs l := rfl
theorem acs_len : ∀ l : List Ac, (acs l).length = l.length * 4
  | [] => rfl
  | m :: l => by rw [acs_cons]; simp only [List.length_cons]; rw [acs_len l]; omega
theorem acs_at : ∀ (l : List Ac) (k : Nat) (h : k < l.length), (acs l)[k * 4]? = some (.int .i64 (l[k]).a) ∧ (acs l)[k * 4 + 1]? = some (.int .i64 (l[k]).p) ∧ (acs l)[k * 4 + 2]? = some (.int .i64 (l[k]).t) ∧ (acs l)[k * 4 + 3]? = some (.int .i64 (l[k]).u)
  | m :: l, 0, _ => ⟨rfl, rfl, rfl, rfl⟩
  | m :: l, k + 1, h => by
    rw [acs_cons, show (k + 1) * 4 = k * 4 + 1 + 1 + 1 + 1 from by omega]
    have := acs_at l k (by simpa using h)
    simpa [Nat.add_right_comm] using this
theorem Rd.ac {w : World} {B : Nat} {p : Option Addr} {l : List Ac} (h : Rd w B p (acs l)) {k : Nat} (hk : k < l.length) :
    ∃ b o, p = some ⟨b, o, none⟩ ∧ b < B ∧ w.cell? ⟨b, o + k * 4, none⟩ = some (.int .i64 (l[k]).a) ∧ w.cell? ⟨b, o + k * 4 + 1, none⟩ = some (.int .i64 (l[k]).p) ∧ w.cell? ⟨b, o + k * 4 + 2, none⟩ = some (.int .i64 (l[k]).t) ∧ w.cell? ⟨b, o + k * 4 + 3, none⟩ = some (.int .i64 (l[k]).u) := by
  obtain ⟨b, o, hp, hb, _, hc⟩ := h.at_ (k := k * 4) (by rw [acs_len]; omega)
  obtain ⟨h0, h1, h2, h3⟩ := acs_at l k hk
  exact ⟨b, o, hp, hb, hc _ _ h0, by have := hc _ _ h1; rw [Nat.add_assoc]; exact this, by have := hc _ _ h2; rw [Nat.add_assoc]; exact this, by have := hc _ _ h3; rw [Nat.add_assoc]; exact this⟩
theorem el_act {H : Type} {enc : TypeId × Value → H} {W : World} {n : Nat} {cs : List Value} {y : DataW H × List MemPlace} (hy : DataW.trod enc Try.prog W 0 (fun _ => true) true n 40 cs = some y) : ∃ x : Ac, cs = x.cells ∧ ((Lit.int .i64 x.a).wf = true ∧ (Lit.int .i64 x.p).wf = true ∧ (Lit.int .i64 x.t).wf = true ∧ (Lit.int .i64 x.u).wf = true) := by
  obtain ⟨zs, hl, hcs, hw⟩ := el_ints Try.underlying40 (by kernel_rfl) (by
    intro i f hf
    match i, hf with
    | 0, hf => cases hf; exact ⟨rfl, Try.underlying3, by kernel_rfl⟩
    | 1, hf => cases hf; exact ⟨rfl, Try.underlying3, by kernel_rfl⟩
    | 2, hf => cases hf; exact ⟨rfl, Try.underlying3, by kernel_rfl⟩
    | 3, hf => cases hf; exact ⟨rfl, Try.underlying3, by kernel_rfl⟩) hy
  match zs, hl with
  | [a, b, c, d], _ => exact ⟨⟨a, b, c, d⟩, hcs, hw a (by simp), hw b (by simp), hw c (by simp), hw d (by simp)⟩
def Ac.Ok (x : Ac) : Prop := (Lit.int .i64 x.a).wf = true ∧ (Lit.int .i64 x.p).wf = true ∧ (Lit.int .i64 x.t).wf = true ∧ (Lit.int .i64 x.u).wf = true
theorem arg_act {H : Type} {enc : TypeId × Value → H} {W : World} {v : Value} {d : DataW H} {ps : List MemPlace} {b0 : Nat} (hv : Value.okWide Try.prog W .any b0 40 v) (h : DataW.Trod enc Try.prog W 0 (fun _ => true) true 40 v d ps) :
    ∃ x : Ac, v = .agg #[.int .i64 x.a, .int .i64 x.p, .int .i64 x.t, .int .i64 x.u] ∧ x.Ok := by
  obtain ⟨cs, rfl, _⟩ := okWide_struct Try.underlying40 hv
  obtain ⟨fuel, hf⟩ := h
  obtain ⟨m, hm, ho⟩ := el_act hf
  refine ⟨m, ?_, ho⟩
  have : cs.toList = m.cells := by simpa [Value.cells] using hm
  congr 1
  exact Array.ext' (by rw [this]; rfl)
theorem arg_acts {H : Type} {enc : TypeId × Value → H} {W : World} {v : Value} {d : DataW H} {ps : List MemPlace} {b0 : Nat} (hv : Value.okWide Try.prog W .any b0 51 v) (h : DataW.Trod enc Try.prog W 0 (fun _ => true) true 51 v d ps) :
    ∃ p c, ∃ xs : List Ac, v = .slice p xs.length c ∧ Rd W W.heap.size p (acs xs) ∧ xs.length ≤ c ∧ c ≤ maxLen ∧ ∀ x ∈ xs, x.Ok :=
  arg_slice Ac.cells Ac.Ok 4 (by kernel_rfl) (by omega) (fun _ => rfl) Try.underlying51 (fun _ _ _ hy => el_act hy) hv h
end Go.Proofs.Ytdancoblphkakaa
