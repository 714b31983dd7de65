/- The enabled tasks of a call. -/
import Derived.Test.YtfidnecdojgkjaaArgs
namespace Go.Proofs.Ytfidnecdojgkjaa
open Go.RowKit

def bitB (b : Int) (k : Nat) : Bool := bits BinOp.and IntKind.u16 (b / 2 ^ k) 1 == 1
def bitsUp (b : Int) (n : Nat) : List Int := ((List.range n).filter (bitB b)).map fun (k : Nat) => (k : Int)
theorem bitsUp_succ (b : Int) (n : Nat) : bitsUp b (n + 1) = if bitB b n then bitsUp b n ++ [(n : Int)] else bitsUp b n := by
  rw [bitsUp, List.range_succ, List.filter_append, List.map_append]
  cases h : bitB b n <;> simp [bitsUp, h]
theorem bitsUp_len (b : Int) (n : Nat) : (bitsUp b n).length ≤ n := by
  rw [bitsUp, List.length_map]
  exact Nat.le_trans (List.length_filter_le _ _) (by simp)
/-- Which tasks are enabled. -/
def enA (x : Ac) : List Int := if x.a = 0 then x.en else bitsUp x.b 16
/-- A list that can be read. -/
def RetL (w : World) (l : List Int) (e : Ending) (w' : World) : Prop := ∃ p d, e = .returned (.slice p l.length d) ∧ Rd w' w'.heap.size p (ints l) ∧ Below w.heap.size w w'
/-- A list that lies where it lay, or anew. -/
def RetQ (w : World) (z : Prop) (q : Option Addr) (l : List Int) (e : Ending) (w' : World) : Prop := ∃ p d, e = .returned (.slice p l.length d) ∧ Rd w' w'.heap.size p (ints l) ∧ Below w.heap.size w w' ∧ ((z ∧ p = q) ∨ ∀ a, p = some a → w.heap.size ≤ a.block)
set_option maxRecDepth 100000 in
theorem enab_any {w : World} (x : Ac) (hr : Rd w w.heap.size x.q (ints x.en)) :
    Calls Try.prog 21 #[.agg #[.int .i64 x.a, .slice x.q x.en.length x.c, .int .u16 x.b]] w (RetQ w (x.a = 0) x.q (enA x)) := by
  obtain ⟨a, q, c, en, b⟩ := x
  simp only at hr
  by_cases ha : a = 0
  · have he : enA ⟨a, q, c, en, b⟩ = en := if_pos ha
    rw [he]
    subst ha
    have HB := Lib.hid (below_al (Below.refl w.heap.size w) (.cells #[.int .i64 0, .slice q en.length c, .int .u16 b] 52))
    have HR := Lib.hid (hr.kept HB.out)
    unfold RetQ
    obtain ⟨n, hn⟩ : ∃ n, en.length = n := ⟨_, rfl⟩
    simp only
    rw [hn] at HB HR ⊢
    clear hr he hn
    go_enter Try.func21, Try.ntmps21
    go_wp2_with fail
    go_ret
    exact ⟨q, c, rfl, HR.out, HB.out, .inl ⟨by trivial, rfl⟩⟩
  · have h0 : (a == 0) = false := by simpa using ha
    have he : enA ⟨a, q, c, en, b⟩ = bitsUp b 16 := if_neg ha
    rw [he]
    have HS := Lib.hid (bitsUp_succ b)
    have HLn := Lib.hid (bitsUp_len b)
    simp only
    generalize en.length = m at *
    clear hr he ha
    go_enter Try.func21, Try.ntmps21
    go_wp2_with fail
    go_loopw [3, 4] (fun v i wr => ∃ k : Nat, k ≤ 16 ∧ i = .int .i64 k ∧ Hid (wr.ownsRow (w.heap.size + 1) 3 1 v (bitsUp b k).length (ints (bitsUp b k))) ∧ Hid (Blk wr w.heap.size 52 [.int .i64 a, .slice q m c, .int .u16 b]) ∧ Hid (Below w.heap.size w wr) ∧ Hid (w.heap.size < wr.heap.size)) (fun _ i _ => 16 - (intOf i).toNat)
    case atStart => exact ⟨0, by omega, rfl, Lib.hid (World.ownsRow_nil _ _ _ _), Lib.hid (Blk.new w 52 _), Lib.hid (below_al (Below.refl _ _) _), Lib.hid (by simp)⟩
    case round =>
      obtain ⟨k, hk, rfl, HO, HB, HBl, HLt⟩ := hrel
      obtain ⟨p, d, rfl, _, _⟩ := own_shape HO.out
      have hln := HLn.out k
      have HSk := Lib.hid (HS.out k)
      obtain ⟨L, hL⟩ : ∃ L, bitsUp b k = L := ⟨_, rfl⟩
      rw [hL] at HO hln HSk ⊢
      by_cases hlt : k < 16
      · have hki : (k : Int) < 16 := by omega
        have c2 := HB.out.cell 2
        simp only [List.getElem?_cons_zero, List.getElem?_cons_succ] at c2
        cases hb : bitB b k with
        | true =>
          rw [hb, if_pos rfl] at HSk
          have hb2 : (bits BinOp.and IntKind.u16 (b / 2 ^ k) 1 == 1) = true := hb
          clear hb hL
          obtain ⟨n, hn⟩ : ∃ n, L.length = n := ⟨_, rfl⟩
          rw [hn] at HO hln ⊢
          have HN := Lib.hid hn
          clear hn
          go_wp2_with (at_builtin; refine wpList_app1 rfl (.tmp 20) (.tmp 22) 23 rfl (w.heap.size + 1) 3 (.int .i64 0) 8 Try.underlying23 int_info rfl _ n (ints L) rfl HO.out (.int .i64 k) rfl rfl (by omega) (by omega) (by have := HLt.out; omega) ?_; intro v' w' hown' hb' _ _; obtain ⟨p', d', rfl, _, _⟩ := own_shape hown'; have HO' := Lib.hid hown'; have HB' := Lib.hid hb'; clear hown' hb')
          go_roundw
          case rel =>
            refine ⟨k + 1, by omega, by go_num, ?_, ?_, ?_, ?_⟩
            · rw [HSk.out, List.length_append, HN.out, ← ints_snoc]; exact HO'
            · exact Lib.hid (HB.out.below HB'.out (Nat.lt_succ_self _))
            · exact Lib.hid (HBl.out.trans (HB'.out.mono (Nat.le_succ _)))
            · exact Lib.hid (Nat.lt_of_lt_of_le HLt.out HB'.out.size)
          case measure => simp [intOf]; omega
        | false =>
          rw [hb, if_neg (by decide)] at HSk
          have hb2 : (bits BinOp.and IntKind.u16 (b / 2 ^ k) 1 == 1) = false := hb
          clear hb hL
          go_wp2_with fail
          go_roundw
          case rel => exact ⟨k + 1, by omega, by go_num, by rw [HSk.out]; exact HO, HB, HBl, HLt⟩
          case measure => simp [intOf]; omega
      · have hk16 : k = 16 := by omega
        subst hk16
        go_wp2_with fail
        go_ret
        refine ⟨p, d, by rw [hL]; rfl, by rw [hL]; exact own_rd HO.out, HBl.out, .inr fun a ha => ?_⟩
        subst ha
        have := (own_lt HO.out a.block rfl).1
        omega
end Go.Proofs.Ytfidnecdojgkjaa
