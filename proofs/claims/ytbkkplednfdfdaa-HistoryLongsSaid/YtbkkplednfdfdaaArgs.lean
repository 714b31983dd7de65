/- Events and steps, as they come in. -/
import Derived.Test.YtbkkplednfdfdaaSteps
namespace Go.Proofs.Ytbkkplednfdfdaa
open Go.RowKit Go.ChangeShapes Go.WideShapes Go.ChangeAt

theorem wf_i64 {a : Int} (h : (Lit.int .i64 a).wf = true) : -9223372036854775808 ≤ a ∧ a < 9223372036854775808 := by
  simp only [Lit.wf, IntKind.min, IntKind.max, IntKind.signed, IntKind.bits, Bool.and_eq_true, decide_eq_true_eq, if_true] at h
  omega
theorem wf_u8 {a : Int} (h : (Lit.int .u8 a).wf = true) : 0 ≤ a ∧ a < 256 := by
  simp only [Lit.wf, IntKind.min, IntKind.max, IntKind.signed, IntKind.bits, Bool.and_eq_true, decide_eq_true_eq, Bool.false_eq_true, if_false] at h
  omega
def I64 (a : Int) : Prop := -9223372036854775808 ≤ a ∧ a < 9223372036854775808
/-- Bytes. -/
def U8s (l : List Int) : Prop := ∀ x ∈ l, 0 ≤ x ∧ x < 256
structure PC.wf (c : PC) : Prop where
  op : I64 c.op
  qty : I64 c.qty
  data : U8s c.data
structure PA.wf (a : PA) : Prop where
  op : I64 a.op
  err : I64 a.err
  cnt : I64 a.cnt
  lines : ∀ x ∈ a.lines, I64 x.2
  bats : ∀ b ∈ a.bats, U8s b
structure PE.wf (x : PE) : Prop where
  task : I64 x.task
  asked : I64 x.asked
  made : I64 x.made
  ans : I64 x.ans
  c : x.c.wf
  a : x.a.wf
structure PD.wf (d : PD) : Prop where
  task : I64 d.task
  step : I64 d.step
  c : d.c.wf
  a : d.a.wf
section
variable {H : Type} {enc : TypeId × Value → H} {W : World}
theorem el_call {n : Nat} {cs : List Value} {y : DataW H × List MemPlace} (hy : DataW.trod enc Try.prog W 0 (fun _ => true) true n 39 cs = some y) :
    ∃ op key oth item qty dq dn dc c, cs = [.int .i64 op, .string key, .string oth, .string item, .int .i64 qty, .slice dq dn dc] ∧ CR (RdW W W.heap.size) op key oth item qty dq dn dc c ∧ c.wf := by
  obtain ⟨xs, n, _, _, hlen, hxl, hg⟩ := DataW.trod_struct Try.underlying39 hy
  have hl : cs.length = 6 := hlen.trans (by kernel_rfl)
  match cs, hl with
  | [a0, a1, a2, a3, a4, a5], _ =>
    match xs, hxl with
    | [x0, x1, x2, x3, x4, x5], _ =>
      have h0 : DataW.trod enc Try.prog W 0 (fun _ => true) true n 32 ([a0, a1, a2, a3, a4, a5].take (Try.prog.cellsOf 32)) = some x0 := hg 0 _ rfl
      have h1 : DataW.trod enc Try.prog W 0 (fun _ => true) true n 9 ([a1, a2, a3, a4, a5].take (Try.prog.cellsOf 9)) = some x1 := hg 1 _ rfl
      have h2 : DataW.trod enc Try.prog W 0 (fun _ => true) true n 9 ([a2, a3, a4, a5].take (Try.prog.cellsOf 9)) = some x2 := hg 2 _ rfl
      have h3 : DataW.trod enc Try.prog W 0 (fun _ => true) true n 9 ([a3, a4, a5].take (Try.prog.cellsOf 9)) = some x3 := hg 3 _ rfl
      have h4 : DataW.trod enc Try.prog W 0 (fun _ => true) true n 3 ([a4, a5].take (Try.prog.cellsOf 3)) = some x4 := hg 4 _ rfl
      have h5 : DataW.trod enc Try.prog W 0 (fun _ => true) true n 37 ([a5].take (Try.prog.cellsOf 37)) = some x5 := hg 5 _ rfl
      rw [show Try.prog.cellsOf 32 = 1 from by kernel_rfl] at h0
      rw [show Try.prog.cellsOf 9 = 1 from by kernel_rfl] at h1 h2 h3
      rw [show Try.prog.cellsOf 3 = 1 from by kernel_rfl] at h4
      rw [show Try.prog.cellsOf 37 = 1 from by kernel_rfl] at h5
      simp only [List.take_succ_cons, List.take_zero] at h0 h1 h2 h3 h4 h5
      obtain ⟨k0, e0, _, w0⟩ := DataW.trod_int Try.underlying32 h0
      obtain ⟨k1, e1, _, w1⟩ := DataW.trod_string Try.underlying9 h1
      obtain ⟨k2, e2, _, w2⟩ := DataW.trod_string Try.underlying9 h2
      obtain ⟨k3, e3, _, w3⟩ := DataW.trod_string Try.underlying9 h3
      obtain ⟨k4, e4, _, w4⟩ := DataW.trod_int Try.underlying3 h4
      obtain ⟨q, c, zs, e5, r5, hc, _, w5⟩ := el_intsl Try.underlying37 Try.underlying5 (by kernel_rfl) h5
      simp at e0 e1 e2 e3 e4 e5
      subst e0 e1 e2 e3 e4 e5
      exact ⟨k0, k1, k2, k3, k4, q, zs.length, c, ⟨k0, k1, k2, k3, k4, zs⟩, rfl, ⟨rfl, rfl, rfl, rfl, rfl, rfl, hc, r5⟩, ⟨wf_i64 w0, wf_i64 w4, fun x hx => wf_u8 (w5 x hx)⟩⟩
theorem el_line {n : Nat} {cs : List Value} {y : DataW H × List MemPlace} (hy : DataW.trod enc Try.prog W 0 (fun _ => true) true n 43 cs = some y) : ∃ x : ByteArray × Int, cs = [.string x.1, .int .i64 x.2] ∧ I64 x.2 := by
  obtain ⟨xs, n, _, _, hlen, hxl, hg⟩ := DataW.trod_struct Try.underlying43 hy
  have hl : cs.length = 2 := hlen.trans (by kernel_rfl)
  match cs, hl with
  | [a0, a1], _ =>
    match xs, hxl with
    | [x0, x1], _ =>
      have h0 : DataW.trod enc Try.prog W 0 (fun _ => true) true n 9 ([a0, a1].take (Try.prog.cellsOf 9)) = some x0 := hg 0 _ rfl
      have h1 : DataW.trod enc Try.prog W 0 (fun _ => true) true n 3 ([a1].take (Try.prog.cellsOf 3)) = some x1 := hg 1 _ rfl
      rw [show Try.prog.cellsOf 9 = 1 from by kernel_rfl] at h0
      rw [show Try.prog.cellsOf 3 = 1 from by kernel_rfl] at h1
      simp only [List.take_succ_cons, List.take_zero] at h0 h1
      obtain ⟨k0, e0, _, w0⟩ := DataW.trod_string Try.underlying9 h0
      obtain ⟨k1, e1, _, w1⟩ := DataW.trod_int Try.underlying3 h1
      simp at e0 e1
      subst e0 e1
      exact ⟨(k0, k1), rfl, wf_i64 w1⟩
structure Bt where
  h : Hd
  l : List Int
theorem hds_flat : ∀ bs : List Bt, hds (bs.map Bt.h) = bs.flatMap (fun x : Bt => [x.h.val])
  | [] => rfl
  | b :: bs => by rw [List.flatMap_cons, ← hds_flat bs]; rfl
theorem el_answer {n : Nat} {cs : List Value} {y : DataW H × List MemPlace} (hy : DataW.trod enc Try.prog W 0 (fun _ => true) true n 36 cs = some y) :
    ∃ op err cnt lq ln lc bq bn bc a, cs = [.int .i64 op, .int .i64 err, .int .i64 cnt, .slice lq ln lc, .slice bq bn bc] ∧ AR (RdW W W.heap.size) op err cnt lq ln lc bq bn bc a ∧ a.wf := by
  obtain ⟨xs, n, _, _, hlen, hxl, hg⟩ := DataW.trod_struct Try.underlying36 hy
  have hl : cs.length = 5 := hlen.trans (by kernel_rfl)
  match cs, hl with
  | [a0, a1, a2, a3, a4], _ =>
    match xs, hxl with
    | [x0, x1, x2, x3, x4], _ =>
      have h0 : DataW.trod enc Try.prog W 0 (fun _ => true) true n 32 ([a0, a1, a2, a3, a4].take (Try.prog.cellsOf 32)) = some x0 := hg 0 _ rfl
      have h1 : DataW.trod enc Try.prog W 0 (fun _ => true) true n 26 ([a1, a2, a3, a4].take (Try.prog.cellsOf 26)) = some x1 := hg 1 _ rfl
      have h2 : DataW.trod enc Try.prog W 0 (fun _ => true) true n 3 ([a2, a3, a4].take (Try.prog.cellsOf 3)) = some x2 := hg 2 _ rfl
      have h3 : DataW.trod enc Try.prog W 0 (fun _ => true) true n 33 ([a3, a4].take (Try.prog.cellsOf 33)) = some x3 := hg 3 _ rfl
      have h4 : DataW.trod enc Try.prog W 0 (fun _ => true) true n 34 ([a4].take (Try.prog.cellsOf 34)) = some x4 := hg 4 _ rfl
      rw [show Try.prog.cellsOf 32 = 1 from by kernel_rfl] at h0
      rw [show Try.prog.cellsOf 26 = 1 from by kernel_rfl] at h1
      rw [show Try.prog.cellsOf 3 = 1 from by kernel_rfl] at h2
      rw [show Try.prog.cellsOf 33 = 1 from by kernel_rfl] at h3
      rw [show Try.prog.cellsOf 34 = 1 from by kernel_rfl] at h4
      simp only [List.take_succ_cons, List.take_zero] at h0 h1 h2 h3 h4
      obtain ⟨k0, e0, _, w0⟩ := DataW.trod_int Try.underlying32 h0
      obtain ⟨k1, e1, _, w1⟩ := DataW.trod_int Try.underlying26 h1
      obtain ⟨k2, e2, _, w2⟩ := DataW.trod_int Try.underlying3 h2
      obtain ⟨lq, lc, ls, e3, r3, hlc, _, w3⟩ := el_slice (fun x : ByteArray × Int => [Value.string x.1, Value.int .i64 x.2]) (fun x => I64 x.2) 2 (by kernel_rfl) (by omega) (fun _ => rfl) Try.underlying33 (fun _ _ _ hy => el_line hy) h3
      obtain ⟨bq, bc, bs, e4, r4, hbc, _, w4⟩ := el_slice (fun x : Bt => [x.h.val]) (fun x => x.h.n = x.l.length ∧ x.h.n ≤ x.h.c ∧ Rd W W.heap.size x.h.q (bys x.l) ∧ U8s x.l) 1 (by kernel_rfl) (by omega) (fun _ => rfl) Try.underlying34 (fun _ cs _ hy => by
        obtain ⟨q, c, zs, e5, r5, hc, _, w5⟩ := el_intsl Try.underlying37 Try.underlying5 (by kernel_rfl) hy
        exact ⟨⟨⟨q, zs.length, c⟩, zs⟩, e5, rfl, hc, r5, fun x hx => wf_u8 (w5 x hx)⟩) h4
      simp at e0 e1 e2 e3 e4
      subst e0 e1 e2 e3 e4
      refine ⟨k0, k1, k2, lq, ls.length, lc, bq, bs.length, bc, ⟨k0, k1, k2, ls, bs.map Bt.l⟩, rfl, ⟨rfl, rfl, rfl, rfl, hlc, r3, by simp, hbc, bs.map Bt.h, by simp, ?_, ?_⟩, ⟨wf_i64 w0, wf_i64 w1, wf_i64 w2, w3, ?_⟩⟩
      · rw [hds_flat]
        exact r4
      · intro i h b hh hb
        rw [List.getElem?_map] at hh hb
        cases hz : bs[i]? with
        | none => rw [hz] at hh; cases hh
        | some z =>
          rw [hz] at hh hb
          injection hh with hh
          injection hb with hb
          subst hh hb
          have := w4 z (List.mem_of_getElem? hz)
          exact ⟨this.1, this.2.1, this.2.2.1⟩
      · intro b hb
        simp only [List.mem_map] at hb
        obtain ⟨z, hz, rfl⟩ := hb
        exact (w4 z hz).2.2.2
/-- What an event that comes in is like. -/
def EvOk (W : World) (x : Ev) : Prop := ∃ p : PE, EvR (RdW W W.heap.size) x p ∧ p.wf
theorem el_ev {n : Nat} {cs : List Value} {y : DataW H × List MemPlace} (hy : DataW.trod enc Try.prog W 0 (fun _ => true) true n 41 cs = some y) : ∃ x : Ev, cs = x.cells ∧ EvOk W x := by
  obtain ⟨xs, n, _, _, hlen, hxl, hg⟩ := DataW.trod_struct Try.underlying41 hy
  have hl : cs.length = 15 := hlen.trans (by kernel_rfl)
  match cs, hl with
  | [a0, a1, a2, a3, a4, a5, a6, a7, a8, a9, a10, a11, a12, a13, a14], _ =>
    match xs, hxl with
    | [x0, x1, x2, x3, x4, x5], _ =>
      have h0 : DataW.trod enc Try.prog W 0 (fun _ => true) true n 3 ([a0, a1, a2, a3, a4, a5, a6, a7, a8, a9, a10, a11, a12, a13, a14].take (Try.prog.cellsOf 3)) = some x0 := hg 0 _ rfl
      have h1 : DataW.trod enc Try.prog W 0 (fun _ => true) true n 39 ([a1, a2, a3, a4, a5, a6, a7, a8, a9, a10, a11, a12, a13, a14].take (Try.prog.cellsOf 39)) = some x1 := hg 1 _ rfl
      have h2 : DataW.trod enc Try.prog W 0 (fun _ => true) true n 36 ([a7, a8, a9, a10, a11, a12, a13, a14].take (Try.prog.cellsOf 36)) = some x2 := hg 2 _ rfl
      have h3 : DataW.trod enc Try.prog W 0 (fun _ => true) true n 3 ([a12, a13, a14].take (Try.prog.cellsOf 3)) = some x3 := hg 3 _ rfl
      have h4 : DataW.trod enc Try.prog W 0 (fun _ => true) true n 3 ([a13, a14].take (Try.prog.cellsOf 3)) = some x4 := hg 4 _ rfl
      have h5 : DataW.trod enc Try.prog W 0 (fun _ => true) true n 3 ([a14].take (Try.prog.cellsOf 3)) = some x5 := hg 5 _ rfl
      rw [show Try.prog.cellsOf 3 = 1 from by kernel_rfl] at h0 h3 h4 h5
      rw [show Try.prog.cellsOf 39 = 6 from by kernel_rfl] at h1
      rw [show Try.prog.cellsOf 36 = 5 from by kernel_rfl] at h2
      simp only [List.take_succ_cons, List.take_zero] at h0 h1 h2 h3 h4 h5
      obtain ⟨k0, e0, _, w0⟩ := DataW.trod_int Try.underlying3 h0
      obtain ⟨op, key, oth, item, qty, dq, dn, dc, c, e1, rc, wc⟩ := el_call h1
      obtain ⟨aop, aerr, acnt, lq, ln, lc, bq, bn, bc, a, e2, ra, wa⟩ := el_answer h2
      obtain ⟨k3, e3, _, w3⟩ := DataW.trod_int Try.underlying3 h3
      obtain ⟨k4, e4, _, w4⟩ := DataW.trod_int Try.underlying3 h4
      obtain ⟨k5, e5, _, w5⟩ := DataW.trod_int Try.underlying3 h5
      simp at e0 e1 e2 e3 e4 e5
      obtain ⟨rfl, rfl, rfl, rfl, rfl, rfl⟩ := e1
      obtain ⟨rfl, rfl, rfl, rfl, rfl⟩ := e2
      subst e0 e3 e4 e5
      exact ⟨⟨k0, k3, k4, k5, op, key, oth, item, qty, dq, dn, dc, aop, aerr, acnt, lq, ln, lc, bq, bn, bc⟩, rfl, ⟨k0, k3, k4, k5, c, a⟩, ⟨rfl, rfl, rfl, rfl, rc, ra⟩, ⟨wf_i64 w0, wf_i64 w3, wf_i64 w4, wf_i64 w5, wc, wa⟩⟩
theorem arg_evs {v : Value} {d : DataW H} {ps : List MemPlace} {b0 : Nat} (hv : Value.okWide Try.prog W .any b0 25 v) (h : DataW.Trod enc Try.prog W 0 (fun _ => true) true 25 v d ps) :
    ∃ p c, ∃ xs : List Ev, v = .slice p xs.length c ∧ Rd W W.heap.size p (evs xs) ∧ xs.length ≤ c ∧ c ≤ maxLen ∧ ∀ x ∈ xs, EvOk W x :=
  arg_slice Ev.cells (EvOk W) 15 (by kernel_rfl) (by omega) (fun _ => rfl) Try.underlying25 (fun _ _ _ hy => el_ev hy) hv h
theorem arg_ev {v : Value} {d : DataW H} {ps : List MemPlace} {b0 : Nat} (hv : Value.okWide Try.prog W .any b0 41 v) (h : DataW.Trod enc Try.prog W 0 (fun _ => true) true 41 v d ps) :
    ∃ x : Ev, v = x.agg ∧ EvOk W x := by
  obtain ⟨cs, rfl, _⟩ := okWide_struct Try.underlying41 hv
  obtain ⟨n, hn⟩ := h
  obtain ⟨x, hx, hp⟩ := el_ev hn
  have hx : cs.toList = x.cells := hx
  have : cs = x.cells.toArray := by rw [← hx]
  subst this
  exact ⟨x, rfl, hp⟩
/-- What a step that comes in is like. -/
def DiOk (W : World) (x : Di) : Prop := ∃ p : PD, DiR (RdW W W.heap.size) x p ∧ p.wf
theorem el_did {n : Nat} {cs : List Value} {y : DataW H × List MemPlace} (hy : DataW.trod enc Try.prog W 0 (fun _ => true) true n 51 cs = some y) : ∃ x : Di, cs = x.cells ∧ DiOk W x := by
  obtain ⟨xs, n, _, _, hlen, hxl, hg⟩ := DataW.trod_struct Try.underlying51 hy
  have hl : cs.length = 18 := hlen.trans (by kernel_rfl)
  match cs, hl with
  | [a0, a1, a2, a3, a4, a5, a6, a7, a8, a9, a10, a11, a12, a13, a14, a15, a16, a17], _ =>
    match xs, hxl with
    | [x0, x1, x2, x3, x4, x5, x6, x7, x8], _ =>
      have h0 : DataW.trod enc Try.prog W 0 (fun _ => true) true n 3 ([a0, a1, a2, a3, a4, a5, a6, a7, a8, a9, a10, a11, a12, a13, a14, a15, a16, a17].take (Try.prog.cellsOf 3)) = some x0 := hg 0 _ rfl
      have h1 : DataW.trod enc Try.prog W 0 (fun _ => true) true n 48 ([a1, a2, a3, a4, a5, a6, a7, a8, a9, a10, a11, a12, a13, a14, a15, a16, a17].take (Try.prog.cellsOf 48)) = some x1 := hg 1 _ rfl
      have h2 : DataW.trod enc Try.prog W 0 (fun _ => true) true n 3 ([a2, a3, a4, a5, a6, a7, a8, a9, a10, a11, a12, a13, a14, a15, a16, a17].take (Try.prog.cellsOf 3)) = some x2 := hg 2 _ rfl
      have h3 : DataW.trod enc Try.prog W 0 (fun _ => true) true n 4 ([a3, a4, a5, a6, a7, a8, a9, a10, a11, a12, a13, a14, a15, a16, a17].take (Try.prog.cellsOf 4)) = some x3 := hg 3 _ rfl
      have h4 : DataW.trod enc Try.prog W 0 (fun _ => true) true n 3 ([a4, a5, a6, a7, a8, a9, a10, a11, a12, a13, a14, a15, a16, a17].take (Try.prog.cellsOf 3)) = some x4 := hg 4 _ rfl
      have h5 : DataW.trod enc Try.prog W 0 (fun _ => true) true n 49 ([a5, a6, a7, a8, a9, a10, a11, a12, a13, a14, a15, a16, a17].take (Try.prog.cellsOf 49)) = some x5 := hg 5 _ rfl
      have h6 : DataW.trod enc Try.prog W 0 (fun _ => true) true n 4 ([a6, a7, a8, a9, a10, a11, a12, a13, a14, a15, a16, a17].take (Try.prog.cellsOf 4)) = some x6 := hg 6 _ rfl
      have h7 : DataW.trod enc Try.prog W 0 (fun _ => true) true n 39 ([a7, a8, a9, a10, a11, a12, a13, a14, a15, a16, a17].take (Try.prog.cellsOf 39)) = some x7 := hg 7 _ rfl
      have h8 : DataW.trod enc Try.prog W 0 (fun _ => true) true n 36 ([a13, a14, a15, a16, a17].take (Try.prog.cellsOf 36)) = some x8 := hg 8 _ rfl
      rw [show Try.prog.cellsOf 3 = 1 from by kernel_rfl] at h0 h2 h4
      rw [show Try.prog.cellsOf 48 = 1 from by kernel_rfl] at h1
      rw [show Try.prog.cellsOf 4 = 1 from by kernel_rfl] at h3 h6
      rw [show Try.prog.cellsOf 49 = 1 from by kernel_rfl] at h5
      rw [show Try.prog.cellsOf 39 = 6 from by kernel_rfl] at h7
      rw [show Try.prog.cellsOf 36 = 5 from by kernel_rfl] at h8
      simp only [List.take_succ_cons, List.take_zero] at h0 h1 h2 h3 h4 h5 h6 h7 h8
      obtain ⟨k0, e0, _, w0⟩ := DataW.trod_int Try.underlying3 h0
      obtain ⟨k1, e1, _, w1⟩ := DataW.trod_int Try.underlying48 h1
      obtain ⟨k2, e2, _, w2⟩ := DataW.trod_int Try.underlying3 h2
      obtain ⟨k3, e3, _⟩ := DataW.trod_bool Try.underlying4 h3
      obtain ⟨k4, e4, _, w4⟩ := DataW.trod_int Try.underlying3 h4
      obtain ⟨vq, vc, vs, e5, r5, hvc, _, w5⟩ := el_intsl Try.underlying49 Try.underlying3 (by kernel_rfl) h5
      obtain ⟨k6, e6, _⟩ := DataW.trod_bool Try.underlying4 h6
      obtain ⟨op, key, oth, item, qty, dq, dn, dc, c, e7, rc, wc⟩ := el_call h7
      obtain ⟨aop, aerr, acnt, lq, ln, lc, bq, bn, bc, a, e8, ra, wa⟩ := el_answer h8
      simp at e0 e1 e2 e3 e4 e5 e6 e7 e8
      obtain ⟨rfl, rfl, rfl, rfl, rfl, rfl⟩ := e7
      obtain ⟨rfl, rfl, rfl, rfl, rfl⟩ := e8
      subst e0 e1 e2 e3 e4 e5 e6
      exact ⟨⟨k0, k1, k2, k3, k4, vq, vs.length, vc, k6, op, key, oth, item, qty, dq, dn, dc, aop, aerr, acnt, lq, ln, lc, bq, bn, bc⟩, rfl, ⟨k0, k1, k6, c, a⟩, ⟨rfl, rfl, rfl, rc, ra⟩, ⟨wf_i64 w0, wf_i64 w1, wc, wa⟩⟩
theorem arg_dids {v : Value} {d : DataW H} {ps : List MemPlace} {b0 : Nat} (hv : Value.okWide Try.prog W .any b0 22 v) (h : DataW.Trod enc Try.prog W 0 (fun _ => true) true 22 v d ps) :
    ∃ p c, ∃ xs : List Di, v = .slice p xs.length c ∧ Rd W W.heap.size p (dis xs) ∧ xs.length ≤ c ∧ c ≤ maxLen ∧ ∀ x ∈ xs, DiOk W x :=
  arg_slice Di.cells (DiOk W) 18 (by kernel_rfl) (by omega) (fun _ => rfl) Try.underlying22 (fun _ _ _ hy => el_did hy) hv h
end
/-- The lists that a list of things stands for. -/
theorem choose_list {α β : Type} {R : α → β → Prop} : ∀ {xs : List α}, (∀ x ∈ xs, ∃ p, R x p) → ∃ l : List β, xs.length = l.length ∧ ∀ (j : Nat) (x : α) (q : β), xs[j]? = some x → l[j]? = some q → R x q
  | [], _ => ⟨[], rfl, fun j x q h => by simp at h⟩
  | x :: xs, h => by
    obtain ⟨p, hp⟩ := h x (by simp)
    obtain ⟨l, hl, hr⟩ := choose_list (xs := xs) (fun y hy => h y (by simp [hy]))
    refine ⟨p :: l, by simp [hl], fun j y q hy hq => ?_⟩
    match j with
    | 0 => simp at hy hq; subst hy hq; exact hp
    | j + 1 => exact hr j y q (by simpa using hy) (by simpa using hq)
end Go.Proofs.Ytbkkplednfdfdaa
