/- Events in memory; Before, Overlaps. Printed by hist_a.py. -/
import Derived.Test.YtbkkplednfdfdaaFr
import Derived.Test.YtbkkplednfdfdaaMaps
import Derived.Test.YtbkkplednfdfdaaBase
namespace Go.Proofs.Ytbkkplednfdfdaa
open Go.RowKit
set_option linter.unusedVariables false

theorem below_al {w0 w : World} (h : Below w0.heap.size w0 w) (o : Obj) : Below w0.heap.size w0 (w.alloc o) := h.alloc h.size o
/-- An event: its numbers; its call and its answer as cells. -/
structure Ev where
  task : Int
  asked : Int
  made : Int
  ans : Int
  op : Int
  key : ByteArray
  oth : ByteArray
  item : ByteArray
  qty : Int
  dq : Option Addr
  dn : Nat
  dc : Nat
  aop : Int
  aerr : Int
  acnt : Int
  lq : Option Addr
  ln : Nat
  lc : Nat
  bq : Option Addr
  bn : Nat
  bc : Nat
def Ev.cells (x : Ev) : List Value := [.int .i64 x.task, .int .i64 x.op, .string x.key, .string x.oth, .string x.item, .int .i64 x.qty, .slice x.dq x.dn x.dc, .int .i64 x.aop, .int .i64 x.aerr, .int .i64 x.acnt, .slice x.lq x.ln x.lc, .slice x.bq x.bn x.bc, .int .i64 x.asked, .int .i64 x.made, .int .i64 x.ans]
def Ev.agg (x : Ev) : Value := .agg #[.int .i64 x.task, .int .i64 x.op, .string x.key, .string x.oth, .string x.item, .int .i64 x.qty, .slice x.dq x.dn x.dc, .int .i64 x.aop, .int .i64 x.aerr, .int .i64 x.acnt, .slice x.lq x.ln x.lc, .slice x.bq x.bn x.bc, .int .i64 x.asked, .int .i64 x.made, .int .i64 x.ans]
def evs (l : List Ev) : List Value := l.flatMap Ev.cells
theorem evs_cons (m : Ev) (l : List Ev) : evs (m :: l) = m.cells ++ evs l := rfl
theorem evs_len : ∀ l : List Ev, (evs l).length = l.length * 15
  | [] => rfl
  | m :: l => by rw [evs_cons, List.length_append, evs_len l]; simp only [Ev.cells, List.length_cons, List.length_nil]; omega
theorem evs_at : ∀ (l : List Ev) (k : Nat) (h : k < l.length) (i : Nat) (hi : i < 15), (evs l)[k * 15 + i]? = (l[k]).cells[i]?
  | m :: l, 0, _, i, hi => by
    rw [evs_cons, List.getElem?_append_left (by simp only [Ev.cells, List.length_cons, List.length_nil]; omega)]
    simp
  | m :: l, k + 1, h, i, hi => by
    rw [evs_cons, List.getElem?_append_right (by simp only [Ev.cells, List.length_cons, List.length_nil]; omega)]
    have := evs_at l k (by simpa using h) i hi
    rw [show (k + 1) * 15 + i - m.cells.length = k * 15 + i by simp only [Ev.cells, List.length_cons, List.length_nil]; omega, this]
    simp
theorem evs_rd {w : World} {B : Nat} {p : Option Addr} {l : List Ev} (h : Rd w B p (evs l)) {k : Nat} (hk : k < l.length) :
    ∃ b o, p = some ⟨b, o, none⟩ ∧ b < B ∧ ∀ i u, (l[k]).cells[i]? = some u → w.cell? ⟨b, o + k * 15 + i, none⟩ = some u := by
  obtain ⟨b, o, hp, hb, _, hc⟩ := h.at_ (k := k * 15) (by rw [evs_len]; omega)
  refine ⟨b, o, hp, hb, fun i u hu => ?_⟩
  have hi : i < 15 := by
    have := (List.getElem?_eq_some_iff.1 hu).1
    simpa [Ev.cells] using this
  have := hc (k * 15 + i) u (by rw [evs_at l k hk i hi]; exact hu)
  rw [Nat.add_assoc]
  exact this
def befB (a b : Ev) : Bool := decide (a.ans ≠ -1) && decide (a.ans < b.asked)

set_option maxRecDepth 100000 in
theorem before_any (w : World) (a b : Ev) : Calls Try.prog 22 #[a.agg, b.agg] w fun e w' => e = .returned (.bool (befB a b)) ∧ Below w.heap.size w w' := by
  have HB := Lib.hid (below_al (below_al (Below.refl w.heap.size w) (.cells a.cells.toArray 41)) (.cells b.cells.toArray 41))
  have HF := Lib.hid (show befB a b = (decide (a.ans ≠ -1) && decide (a.ans < b.asked)) from rfl)
  generalize befB a b = r at *
  obtain ⟨at_, aa, am, an, aop, akey, aoth, aitem, aqty, adq, adn, adc, aaop, aaerr, aacnt, alq, aln, alc, abq, abn, abc⟩ := a
  obtain ⟨bt, ba, bm, bn, bop, bkey, both, bitem, bqty, bdq, bdn, bdc, baop, baerr, bacnt, blq, bln, blc, bbq, bbn, bbc⟩ := b
  simp only [Ev.agg, Ev.cells] at HB HF ⊢
  by_cases h1 : an = -1
  · subst h1
    have hr : r = false := by rw [HF.out]; rfl
    subst hr
    clear HF
    go_enter Try.func22, Try.ntmps22
    go_wp2_with fail
    go_ret
    exact ⟨rfl, HB.out⟩
  · have h2 : (an == -1) = false := by simpa using h1
    have h3 : (an != -1) = true := by simpa using h1
    by_cases h4 : an < ba
    · have hr : r = true := by rw [HF.out]; simp [h1, h4]
      subst hr
      clear HF h1
      go_enter Try.func22, Try.ntmps22
      go_wp2_with fail
      go_ret
      exact ⟨rfl, HB.out⟩
    · have h5 : decide (an < ba) = false := by simpa using h4
      have hr : r = false := by rw [HF.out, h5]; simp
      subst hr
      clear HF h1 h4
      go_enter Try.func22, Try.ntmps22
      go_wp2_with fail
      go_ret
      exact ⟨rfl, HB.out⟩

set_option maxRecDepth 100000 in
theorem refBefore_any (w : World) (a b : Ev) : Calls Try.prog 23 #[a.agg, b.agg] w fun e w' => e = .returned (.bool (befB a b)) ∧ Below w.heap.size w w' := by
  have HB := Lib.hid (below_al (below_al (Below.refl w.heap.size w) (.cells a.cells.toArray 41)) (.cells b.cells.toArray 41))
  have HF := Lib.hid (show befB a b = (decide (a.ans ≠ -1) && decide (a.ans < b.asked)) from rfl)
  generalize befB a b = r at *
  obtain ⟨at_, aa, am, an, aop, akey, aoth, aitem, aqty, adq, adn, adc, aaop, aaerr, aacnt, alq, aln, alc, abq, abn, abc⟩ := a
  obtain ⟨bt, ba, bm, bn, bop, bkey, both, bitem, bqty, bdq, bdn, bdc, baop, baerr, bacnt, blq, bln, blc, bbq, bbn, bbc⟩ := b
  simp only [Ev.agg, Ev.cells] at HB HF ⊢
  by_cases h1 : an = -1
  · subst h1
    have hr : r = false := by rw [HF.out]; rfl
    subst hr
    clear HF
    go_enter Try.func23, Try.ntmps23
    go_wp2_with fail
    go_ret
    exact ⟨rfl, HB.out⟩
  · have h2 : (an == -1) = false := by simpa using h1
    have h3 : (an != -1) = true := by simpa using h1
    by_cases h4 : an < ba
    · have hr : r = true := by rw [HF.out]; simp [h1, h4]
      subst hr
      clear HF h1
      go_enter Try.func23, Try.ntmps23
      go_wp2_with fail
      go_ret
      exact ⟨rfl, HB.out⟩
    · have h5 : decide (an < ba) = false := by simpa using h4
      have hr : r = false := by rw [HF.out, h5]; simp
      subst hr
      clear HF h1 h4
      go_enter Try.func23, Try.ntmps23
      go_wp2_with fail
      go_ret
      exact ⟨rfl, HB.out⟩
end Go.Proofs.Ytbkkplednfdfdaa
