/- Parts and calls, as they come in. -/
import Derived.Test.YtmhkbchbglnbpaaKnownW
namespace Go.Proofs.Ytmhkbchbglnbpaa
open Go.RowKit Go.ChangeShapes Go.WideShapes Go.ChangeAt

/-- A part: what, a number, data. -/
structure Pt where
  a : Int
  n : Int
  q : Option Addr
  c : Nat
  d : List Int
def Pt.cells (x : Pt) : List Value := [.int .i64 x.a, .int .u64 x.n, .slice x.q x.d.length x.c]
def pts (l : List Pt) : List Value := l.flatMap Pt.cells
theorem pts_cons (m : Pt) (l : List Pt) : pts (m :: l) = .int .i64 m.a :: .int .u64 m.n :: .slice m.q m.d.length m.c :: pts l := rfl
theorem pts_len : ∀ l : List Pt, (pts l).length = l.length * 3
  | [] => rfl
  | m :: l => by rw [pts_cons]; simp only [List.length_cons]; rw [pts_len l]; omega
theorem pts_at : ∀ (l : List Pt) (k : Nat) (h : k < l.length), (pts l)[k * 3]? = some (.int .i64 (l[k]).a) ∧ (pts l)[k * 3 + 1]? = some (.int .u64 (l[k]).n) ∧ (pts l)[k * 3 + 2]? = some (.slice (l[k]).q (l[k]).d.length (l[k]).c)
  | m :: l, 0, _ => ⟨rfl, rfl, rfl⟩
  | m :: l, k + 1, h => by
    rw [pts_cons, show (k + 1) * 3 = k * 3 + 1 + 1 + 1 from by omega]
    have := pts_at l k (by simpa using h)
    simpa [Nat.add_right_comm] using this
/-- Parts that can be read. -/
def PtR (w : World) (p : Option Addr) (l : List Pt) : Prop := Rd w w.heap.size p (pts l) ∧ ∀ x ∈ l, Rd w w.heap.size x.q (bys x.d)
theorem PtR.kept {w w' : World} {p : Option Addr} {l : List Pt} (h : PtR w p l) (hb : Below w.heap.size w w') : PtR w' p l := ⟨h.1.kept hb, fun x hx => (h.2 x hx).kept hb⟩
theorem PtR.at_ {w : World} {p : Option Addr} {l : List Pt} (h : PtR w p l) {k : Nat} (hk : k < l.length) :
    ∃ b o, p = some ⟨b, o, none⟩ ∧ b < w.heap.size ∧ w.cell? ⟨b, o + k * 3, none⟩ = some (.int .i64 (l[k]).a) ∧ w.cell? ⟨b, o + k * 3 + 1, none⟩ = some (.int .u64 (l[k]).n) ∧ w.cell? ⟨b, o + k * 3 + 2, none⟩ = some (.slice (l[k]).q (l[k]).d.length (l[k]).c) ∧ Rd w w.heap.size (l[k]).q (bys (l[k]).d) := by
  obtain ⟨b, o, hp, hb, _, hc⟩ := h.1.at_ (k := k * 3) (by rw [pts_len]; omega)
  obtain ⟨h0, h1, h2⟩ := pts_at l k hk
  exact ⟨b, o, hp, hb, hc _ _ h0, by have := hc _ _ h1; rw [Nat.add_assoc]; exact this, by have := hc _ _ h2; rw [Nat.add_assoc]; exact this, h.2 _ (List.getElem_mem hk)⟩
/-- Numbers as they come in. -/
theorem wf_u64 {a : Int} (h : (Lit.int .u64 a).wf = true) : 0 ≤ a ∧ a < 18446744073709551616 := by
  simp only [Lit.wf, IntKind.min, IntKind.max, IntKind.signed, IntKind.bits, Bool.and_eq_true, decide_eq_true_eq, Bool.false_eq_true, if_false] at h
  omega
theorem wf_i64 {a : Int} (h : (Lit.int .i64 a).wf = true) : -9223372036854775808 ≤ a ∧ a < 9223372036854775808 := by
  simp only [Lit.wf, IntKind.min, IntKind.max, IntKind.signed, IntKind.bits, Bool.and_eq_true, decide_eq_true_eq, if_true] at h
  omega
theorem wf_u8 {a : Int} (h : (Lit.int .u8 a).wf = true) : 0 ≤ a ∧ a < 256 := by
  simp only [Lit.wf, IntKind.min, IntKind.max, IntKind.signed, IntKind.bits, Bool.and_eq_true, decide_eq_true_eq, Bool.false_eq_true, if_false] at h
  omega
def Pt.ok (W : World) (x : Pt) : Prop := (Lit.int .i64 x.a).wf = true ∧ (Lit.int .u64 x.n).wf = true ∧ Rd W W.heap.size x.q (bys x.d) ∧ (∀ y ∈ x.d, (Lit.int .u8 y).wf = true) ∧ x.d.length ≤ x.c
theorem el_part {H : Type} {enc : TypeId × Value → H} {W : World} {n : Nat} {cs : List Value} {y : DataW H × List MemPlace} (hy : DataW.trod enc Try.prog W 0 (fun _ => true) true n 40 cs = some y) : ∃ x : Pt, cs = x.cells ∧ x.ok W := by
  obtain ⟨xs, n, _, _, hlen, hxl, hg⟩ := DataW.trod_struct Try.underlying40 hy
  have hl3 : cs.length = 3 := hlen.trans (by kernel_rfl)
  match cs, hl3 with
  | [a, b, d], _ =>
    match xs, hxl with
    | [x0, x1, x2], _ =>
      have h0 : DataW.trod enc Try.prog W 0 (fun _ => true) true n 3 ([a, b, d].take (Try.prog.cellsOf 3)) = some x0 := hg 0 _ rfl
      have h1 : DataW.trod enc Try.prog W 0 (fun _ => true) true n 22 ([b, d].take (Try.prog.cellsOf 22)) = some x1 := hg 1 _ rfl
      have h2 : DataW.trod enc Try.prog W 0 (fun _ => true) true n 23 ([d].take (Try.prog.cellsOf 23)) = some x2 := hg 2 _ rfl
      rw [show Try.prog.cellsOf 3 = 1 from by kernel_rfl] at h0
      rw [show Try.prog.cellsOf 22 = 1 from by kernel_rfl] at h1
      rw [show Try.prog.cellsOf 23 = 1 from by kernel_rfl] at h2
      simp only [List.take_succ_cons, List.take_zero] at h0 h1 h2
      obtain ⟨k0, e0, _, w0⟩ := DataW.trod_int Try.underlying3 h0
      obtain ⟨k1, e1, _, w1⟩ := DataW.trod_int Try.underlying22 h1
      obtain ⟨q, c, zs, e2, r2, hc, _, w2⟩ := el_intsl Try.underlying23 Try.underlying5 (by kernel_rfl) h2
      simp at e0 e1 e2
      subst e0 e1 e2
      exact ⟨⟨k0, k1, q, c, zs⟩, rfl, w0, w1, r2, w2, hc⟩
theorem arg_parts {H : Type} {enc : TypeId × Value → H} {W : World} {v : Value} {d : DataW H} {ps : List MemPlace} {b0 : Nat} (hv : Value.okWide Try.prog W .any b0 35 v) (h : DataW.Trod enc Try.prog W 0 (fun _ => true) true 35 v d ps) :
    ∃ p c, ∃ xs : List Pt, v = .slice p xs.length c ∧ Rd W W.heap.size p (pts xs) ∧ xs.length ≤ c ∧ c ≤ maxLen ∧ ∀ x ∈ xs, x.ok W :=
  arg_slice Pt.cells (Pt.ok W) 3 (by kernel_rfl) (by omega) (fun _ => rfl) Try.underlying35 (fun _ _ _ hy => el_part hy) hv h
end Go.Proofs.Ytmhkbchbglnbpaa
