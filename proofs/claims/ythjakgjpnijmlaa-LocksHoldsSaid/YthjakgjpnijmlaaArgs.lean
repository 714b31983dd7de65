/- The list of calls, as it comes in. -/
import Derived.Test.YthjakgjpnijmlaaBase
namespace Go.Proofs.Ythjakgjpnijmlaa
open Go.RowKit Go.ChangeShapes Go.WideShapes Go.ChangeAt

/-- A call: what, owner, stripe. -/
structure Ac where
  a : Int
  o : Int
  s : Int
def Ac.cells (x : Ac) : List Value := [.int .i64 x.a, .int .i64 x.o, .int .i64 x.s]
def acs (l : List Ac) : List Value := l.flatMap Ac.cells
theorem acs_cons (m : Ac) (l : List Ac) : acs (m :: l) = .int .i64 m.a :: .int .i64 m.o :: .int .i64 m.s :: acs l := rfl
theorem acs_len : ∀ l : List Ac, (acs l).length = l.length * 3
  | [] => rfl
  | m :: l => by rw [acs_cons]; simp only [List.length_cons]; rw [acs_len l]; omega
theorem acs_at : ∀ (l : List Ac) (k : Nat) (h : k < l.length), (acs l)[k * 3]? = some (.int .i64 (l[k]).a) ∧ (acs l)[k * 3 + 1]? = some (.int .i64 (l[k]).o) ∧ (acs l)[k * 3 + 2]? = some (.int .i64 (l[k]).s)
  | m :: l, 0, _ => ⟨rfl, rfl, rfl⟩
  | m :: l, k + 1, h => by
    rw [acs_cons, show (k + 1) * 3 = k * 3 + 1 + 1 + 1 from by omega]
    have := acs_at l k (by simpa using h)
    simpa [Nat.add_right_comm] using this
theorem Rd.ac {w : World} {B : Nat} {p : Option Addr} {l : List Ac} (h : Rd w B p (acs l)) {k : Nat} (hk : k < l.length) :
    ∃ b o, p = some ⟨b, o, none⟩ ∧ b < B ∧ w.cell? ⟨b, o + k * 3, none⟩ = some (.int .i64 (l[k]).a) ∧ w.cell? ⟨b, o + k * 3 + 1, none⟩ = some (.int .i64 (l[k]).o) ∧ w.cell? ⟨b, o + k * 3 + 2, none⟩ = some (.int .i64 (l[k]).s) := by
  obtain ⟨b, o, hp, hb, _, hc⟩ := h.at_ (k := k * 3) (by rw [acs_len]; omega)
  obtain ⟨h0, h1, h2⟩ := acs_at l k hk
  exact ⟨b, o, hp, hb, hc _ _ h0, by have := hc _ _ h1; rw [Nat.add_assoc]; exact this, by have := hc _ _ h2; rw [Nat.add_assoc]; exact this⟩
theorem arg_acts {H : Type} {enc : TypeId × Value → H} {W : World} {v : Value} {d : DataW H} {ps : List MemPlace} {b0 : Nat} (hv : Value.okWide Try.prog W .any b0 33 v) (h : DataW.Trod enc Try.prog W 0 (fun _ => true) true 33 v d ps) :
    ∃ p c, ∃ xs : List Ac, v = .slice p xs.length c ∧ Rd W W.heap.size p (acs xs) ∧ xs.length ≤ c ∧ c ≤ maxLen ∧ ∀ x ∈ xs, True := by
  refine arg_slice Ac.cells (fun _ => True) 3 (by kernel_rfl) (by omega) (fun _ => rfl) Try.underlying33 ?_ hv h
  intro n cs y hy
  obtain ⟨zs, hl, hcs, _⟩ := el_ints Try.underlying35 (by kernel_rfl) (by
    intro i f hf
    match i, hf with
    | 0, hf => cases hf; exact ⟨rfl, Try.underlying3, by kernel_rfl⟩
    | 1, hf => cases hf; exact ⟨rfl, Try.underlying3, by kernel_rfl⟩
    | 2, hf => cases hf; exact ⟨rfl, Try.underlying3, by kernel_rfl⟩) hy
  match zs, hl with
  | [a, b, c], _ => exact ⟨⟨a, b, c⟩, hcs, trivial⟩
end Go.Proofs.Ythjakgjpnijmlaa
