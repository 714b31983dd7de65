/- Steps in memory, with their lists; what the walks of the teller need. -/
import Derived.Test.YtbkkplednfdfdaaTold
namespace Go.Proofs.Ytbkkplednfdfdaa
open Go.RowKit Go.Maps
set_option linter.unusedVariables false

/-- A step. -/
structure Di where
  task : Int
  step : Int
  stripe : Int
  waits : Bool
  next : Int
  vq : Option Addr
  vn : Nat
  vc : Nat
  made : Bool
  op : Int
  key : ByteArray
  oth : ByteArray
  item : ByteArray
  qty : Int
  dq : Option Addr
  dn : Nat
  dc : Nat
  aop : Int
  aerr : Int
  acnt : Int
  lq : Option Addr
  ln : Nat
  lc : Nat
  bq : Option Addr
  bn : Nat
  bc : Nat
def Di.cells (d : Di) : List Value := [.int .i64 d.task, .int .i64 d.step, .int .i64 d.stripe, .bool d.waits, .int .i64 d.next, .slice d.vq d.vn d.vc, .bool d.made, .int .i64 d.op, .string d.key, .string d.oth, .string d.item, .int .i64 d.qty, .slice d.dq d.dn d.dc, .int .i64 d.aop, .int .i64 d.aerr, .int .i64 d.acnt, .slice d.lq d.ln d.lc, .slice d.bq d.bn d.bc]
def Di.agg (d : Di) : Value := .agg #[.int .i64 d.task, .int .i64 d.step, .int .i64 d.stripe, .bool d.waits, .int .i64 d.next, .slice d.vq d.vn d.vc, .bool d.made, .int .i64 d.op, .string d.key, .string d.oth, .string d.item, .int .i64 d.qty, .slice d.dq d.dn d.dc, .int .i64 d.aop, .int .i64 d.aerr, .int .i64 d.acnt, .slice d.lq d.ln d.lc, .slice d.bq d.bn d.bc]
def dis (l : List Di) : List Value := l.flatMap Di.cells
theorem dis_cons (m : Di) (l : List Di) : dis (m :: l) = m.cells ++ dis l := rfl
theorem dis_len : ∀ l : List Di, (dis l).length = l.length * 18
  | [] => rfl
  | m :: l => by rw [dis_cons, List.length_append, dis_len l]; simp only [Di.cells, List.length_cons, List.length_nil]; omega
theorem dis_at : ∀ (l : List Di) (k : Nat) (h : k < l.length) (i : Nat) (hi : i < 18), (dis l)[k * 18 + i]? = (l[k]).cells[i]?
  | m :: l, 0, _, i, hi => by
    rw [dis_cons, List.getElem?_append_left (by simp only [Di.cells, List.length_cons, List.length_nil]; omega)]
    simp
  | m :: l, k + 1, h, i, hi => by
    rw [dis_cons, List.getElem?_append_right (by simp only [Di.cells, List.length_cons, List.length_nil]; omega)]
    have := dis_at l k (by simpa using h) i hi
    rw [show (k + 1) * 18 + i - m.cells.length = k * 18 + i by simp only [Di.cells, List.length_cons, List.length_nil]; omega, this]
    simp
theorem dis_rd {w : World} {B : Nat} {p : Option Addr} {l : List Di} (h : Rd w B p (dis l)) {k : Nat} (hk : k < l.length) :
    ∃ b o, p = some ⟨b, o, none⟩ ∧ b < B ∧ ∀ i u, (l[k]).cells[i]? = some u → w.cell? ⟨b, o + k * 18 + i, none⟩ = some u := by
  obtain ⟨b, o, hp, hb, _, hc⟩ := h.at_ (k := k * 18) (by rw [dis_len]; omega)
  refine ⟨b, o, hp, hb, fun i u hu => ?_⟩
  have hi : i < 18 := by
    have := (List.getElem?_eq_some_iff.1 hu).1
    simpa [Di.cells] using this
  have := hc (k * 18 + i) u (by rw [dis_at l k hk i hi]; exact hu)
  rw [Nat.add_assoc]
  exact this
theorem dis_one (l : List Di) : ∀ u ∈ dis l, u.oneCell' = true := by
  intro u hu
  simp only [dis, List.mem_flatMap] at hu
  obtain ⟨x, _, hx⟩ := hu
  simp [Di.cells] at hx
  rcases hx with rfl | rfl | rfl | rfl | rfl | rfl | rfl | rfl | rfl | rfl | rfl | rfl | rfl | rfl | rfl | rfl | rfl | rfl <;> rfl
theorem evs_one1 (x : Ev) : ∀ u ∈ x.cells, u.oneCell' = true := by
  intro u hx
  simp [Ev.cells] at hx
  rcases hx with rfl | rfl | rfl | rfl | rfl | rfl | rfl | rfl | rfl | rfl | rfl | rfl | rfl | rfl | rfl <;> rfl
theorem evs_one (l : List Ev) : ∀ u ∈ evs l, u.oneCell' = true := by
  intro u hu
  simp only [evs, List.mem_flatMap] at hu
  obtain ⟨x, _, hx⟩ := hu
  exact evs_one1 x u hx
structure DiR (R : Rdr) (d : Di) (p : PD) : Prop where
  task : d.task = p.task
  step : d.step = p.step
  made : d.made = p.made
  c : CR R d.op d.key d.oth d.item d.qty d.dq d.dn d.dc p.c
  a : AR R d.aop d.aerr d.acnt d.lq d.ln d.lc d.bq d.bn d.bc p.a
theorem DiR.imp {R R' : Rdr} {d : Di} {p : PD} (h : DiR R d p) (hi : ∀ t p xs, R t p xs → R' t p xs) : DiR R' d p := ⟨h.task, h.step, h.made, h.c.imp (hi 5), h.a.imp hi⟩

theorem under3 : Try.prog.underlying 3 = some (.int .i64) := by kernel_rfl
theorem under60 : Try.prog.underlying 60 = some (.map 3 76) := by kernel_rfl
theorem zero76 (w : World) : (zeroValue 76).run Try.prog w = .ok (.pointer none) w := by kernel_rfl
theorem evt_info : (Try.prog.info? 41).map (fun i => (i.zero, i.size, i.bytes)) = some (some (.agg #[.int .i64 0, .int .i64 0, .string ⟨#[]⟩, .string ⟨#[]⟩, .string ⟨#[]⟩, .int .i64 0, .slice none 0 0, .int .i64 0, .int .i64 0, .int .i64 0, .slice none 0 0, .slice none 0 0, .int .i64 0, .int .i64 0, .int .i64 0]), 15, 192) := by kernel_rfl
theorem wf_of {i : Int} (h0 : -9223372036854775808 ≤ i) (h1 : i ≤ 9223372036854775807) : (Lit.int .i64 i).wf = true := by
  simp only [Lit.wf, IntKind.min, IntKind.max, IntKind.signed, IntKind.bits, Bool.and_eq_true, decide_eq_true_eq, if_true]
  omega
def ptrO : Option Nat → Value
  | none => .pointer none
  | some a => .pointer (some ⟨a, 0, none⟩)
theorem look60 {w : World} {b n : Nat} {A : Int → Option Nat} (h : Mp w b n (ptrs A)) (i : Int) (h0 : 0 ≤ i) (h1 : i ≤ 9999) :
    (Instr.lookup 60 (.map (some b)) (.int .i64 i) false).run Try.prog w = .ok (ptrO (A i)) w := by
  have := h.look under3 under60 (zero76 w) i (wf_of (by omega) (by omega)) false
  rw [this]
  simp only [ptrs]
  cases A i <;> rfl
theorem look60n {w : World} {b n : Nat} {A : Int → Option Nat} (h : Mp w b n (ptrs A)) (i : Int) (h0 : 0 ≤ i) (h1 : i ≤ 9999) (m : Nat) :
    (Instr.lookup 60 (.map (some b)) (.int .i64 i) false).run Try.prog (w.drewN m) = .ok (ptrO (A i)) (w.drewN m) := look60 (w := w.drewN m) (h.same rfl) i h0 h1
theorem step_mput {P : Program} {k t e : TypeId} {w : World} {b n : Nat} {f : Int → Option Value} {ops : Array Oper} {o : Oper} {a : Act} {K : Act → World → Prop} {Q : Exit → Act → World → Prop} {E : Prop} (hgd : o.guard = none) (m x y : Operand)
    (ho : o.op = .mapUpdate t m x y) (hm : a.eval m = .map (some b)) (i : Int) (hx : a.eval x = .int .i64 i) (v : Value) (hy : a.eval y = v) (h : Mp w b n f) (hk : P.underlying k = some (.int .i64)) (ht : P.underlying t = some (.map k e)) (hi : (Lit.int .i64 i).wf = true)
    (hK : ∀ w' : World, Mp w' b (n + 1) (upd f i v) → Fr (fun x => x = b) w w' → K (a.put o.dst undef) w') :
    if Region.wanted o (yielded ops a.tmps) = true then Oper.wp P o a w K Q else E := by
  have hw : Region.wanted o (yielded ops a.tmps) = true := by simp [Region.wanted, hgd]
  rw [if_pos hw]
  obtain ⟨w', hrun, h1, h2⟩ := h.put hk ht i hi v
  unfold Oper.wp execOp
  simp only [ho, hm, hx, hy, Sem.run_bind, Sem.run_pure, hrun, Result.andThen_ok]
  exact hK w' h1 h2
end Go.Proofs.Ytbkkplednfdfdaa
