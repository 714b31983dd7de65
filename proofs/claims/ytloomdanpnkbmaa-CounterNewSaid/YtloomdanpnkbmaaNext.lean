/- Next of the counter and of the reference. -/
import Derived.Test.YtloomdanpnkbmaaRefPeek
namespace Go.Proofs.Ytloomdanpnkbmaa
open Go.RowKit

/-- What Next gives: a dot and an error, and the last number behind it. -/
def nextR (r l : Int) : Int := if l < 4294967295 then r else 0
def nextC (l : Int) : Int := if l < 4294967295 then l + 1 else 0
def nextErr (l : Int) : Int := if l < 4294967295 then 0 else 15
def nextNew (l : Int) : Int := if l < 4294967295 then l + 1 else l
def nextV (r l : Int) : Value := .tuple #[.agg #[.int .i64 (nextR r l), .int .i64 (nextC l)], .int .i64 (nextErr l)]

theorem use_one (l : Int) (h : l < 4294967295) : useNew l 1 = l + 1 ∧ useErr l 1 = 0 := by
  refine ⟨?_, ?_⟩
  · rw [useNew, if_neg (by omega), if_neg (by omega)]
  · rw [useErr, if_neg (by omega), if_neg (by omega)]

set_option maxHeartbeats 1000000 in
theorem next_any (c : Nat) (r l : Int) (w : World) (h : Cnt w c 52 r l) (hr : r ≠ 0) (hl : 0 ≤ l) (hm : l ≤ 4294967295) :
    Calls Try.prog 20 #[.pointer (some ⟨c, 0, none⟩)] w (CPost w c 52 r (nextNew l) (nextV r l)) := by
  have hlt := h.lt
  by_cases hx : l < 4294967295
  · have e1 : peekErr l 1 = 0 := by simp [peekErr]; omega
    have e2 : peekDots r l 1 = [(r, l + 1)] := by
      rw [peekDots, if_neg (by omega), if_neg (by omega)]
      simp [run, List.range_succ]
    rw [nextV, nextR, nextC, nextErr, nextNew, if_pos hx, if_pos hx, if_pos hx, if_pos hx]
    have HP := Lib.hid (peek_any c r l 1 (w.alloc (.cells #[.int .i64 0, .int .i64 0] 30)) (h.kept ((Below.refl _ _).alloc (Nat.le_refl _) _)) hr hl hm)
    rw [e1, e2] at HP
    clear e1 e2
    go_enter Try.func20, Try.ntmps20
    go_wp2_with fail
    refine HP.out.mono ?_
    rintro e w2 ⟨v, rfl, ⟨p, d, rfl, _, _, hr2, hf2⟩, hb2⟩
    obtain ⟨b, o, rfl, hblt, hc0, hc1⟩ := hr2.dot (k := 0) (by simp)
    have hW : Below w.heap.size w w2 := ((Below.refl _ _).alloc (Nat.le_refl _) _).trans (hb2.mono (by simp))
    have hC := h.kept hW
    have h1 := hC.at1
    have hfr := hC.free 1
    have hN := (Blk.new' w 30 [.int .i64 0, .int .i64 0] rfl).kept hb2
    have n0 := hN.cell 0
    have n1 := hN.cell 1
    have m0 := hN.free 0
    have m1 := hN.free 1
    simp only [List.getElem?_cons_zero, List.getElem?_cons_succ] at n0 n1
    simp only [List.getElem_cons_zero, Nat.zero_mul, Nat.add_zero] at hc0 hc1
    have hbb : w.heap.size + 1 ≤ b := by have := hf2 _ rfl; simpa using this
    have hne : c ≠ b := by omega
    have hne2 : c ≠ w.heap.size := by omega
    have hne3 : w.heap.size ≠ b := by omega
    go_wp2_with fail
    have hsz : w.heap.size < w2.heap.size := hN.lt
    refine bodyPost_ret (v := .tuple #[.agg #[.int .i64 r, .int .i64 (l + 1)], .int .i64 0]) ?_ rfl ?_
    · simp [results, Try.results20, go_sem, n0, n1]
    · refine ⟨rfl, ?_, ?_⟩
      · exact Blk.far (Blk.far (hC.set1 (l + 1)) hne2 _) hne2 _
      · exact gb_set (gb_set (gb_set (gb_of hW (some c)) (.inl rfl) _) (.inr (Nat.le_refl _)) _) (.inr (Nat.le_refl _)) _
  · have e1 : peekErr l 1 = 15 := by simp [peekErr]; omega
    have e2 : peekDots r l 1 = [] := by rw [peekDots, if_neg (by omega), if_pos (by omega)]
    rw [nextV, nextR, nextC, nextErr, nextNew, if_neg hx, if_neg hx, if_neg hx, if_neg hx]
    have HP := Lib.hid (peek_any c r l 1 (w.alloc (.cells #[.int .i64 0, .int .i64 0] 30)) (h.kept ((Below.refl _ _).alloc (Nat.le_refl _) _)) hr hl hm)
    rw [e1, e2] at HP
    clear e1 e2
    go_enter Try.func20, Try.ntmps20
    go_wp2_with fail
    refine HP.out.mono ?_
    rintro e w2 ⟨v, rfl, ⟨p, d, rfl, _, _, hr2, hf2⟩, hb2⟩
    have hW : Below w.heap.size w w2 := ((Below.refl _ _).alloc (Nat.le_refl _) _).trans (hb2.mono (by simp))
    have hC := h.kept hW
    have hN := (Blk.new' w 30 [.int .i64 0, .int .i64 0] rfl).kept hb2
    have n0 := hN.cell 0
    have n1 := hN.cell 1
    have m0 := hN.free 0
    have m1 := hN.free 1
    simp only [List.getElem?_cons_zero, List.getElem?_cons_succ] at n0 n1
    have hne2 : c ≠ w.heap.size := by omega
    go_wp2_with fail
    have hsz : w.heap.size < w2.heap.size := hN.lt
    refine bodyPost_ret (v := .tuple #[.agg #[.int .i64 0, .int .i64 0], .int .i64 15]) (by simp [results, Try.results20, go_sem, n0, n1]) rfl ⟨rfl, ?_, ?_⟩
    · exact Blk.far (Blk.far hC hne2 _) hne2 _
    · exact gb_set (gb_set (gb_of hW (some c)) (.inr (Nat.le_refl _)) _) (.inr (Nat.le_refl _)) _

set_option maxHeartbeats 1000000 in
theorem refNext_any (c : Nat) (t : TypeId) (r l : Int) (w : World) (h : Cnt w c t r l) (hl : 0 ≤ l) (hm : l ≤ 4294967295) :
    Calls Try.prog 21 #[.pointer (some ⟨c, 0, none⟩)] w (CPost w c t r (nextNew l) (nextV r l)) := by
  have hlt := h.lt
  by_cases hx : l < 4294967295
  · have e1 : peekErr l 1 = 0 := by simp [peekErr]; omega
    have e2 : peekDots r l 1 = [(r, l + 1)] := by
      rw [peekDots, if_neg (by omega), if_neg (by omega)]
      simp [run, List.range_succ]
    rw [nextV, nextR, nextC, nextErr, nextNew, if_pos hx, if_pos hx, if_pos hx, if_pos hx]
    have HP := Lib.hid (refPeek_any c t r l 1 (w.alloc (.cells #[.int .i64 0, .int .i64 0] 30)) (h.kept ((Below.refl _ _).alloc (Nat.le_refl _) _)) hl hm)
    rw [e1, e2] at HP
    clear e1 e2
    go_enter Try.func21, Try.ntmps21
    go_wp2_with fail
    refine HP.out.mono ?_
    rintro e w2 ⟨v, rfl, ⟨p, d, rfl, _, _, hr2, hf2⟩, hb2⟩
    have hW : Below w.heap.size w w2 := ((Below.refl _ _).alloc (Nat.le_refl _) _).trans (hb2.mono (by simp))
    have hC := h.kept hW
    have hU := use_one l hx
    go_wp2_with fail
    refine (refUse_any c t r l 1 _ hC hl hm).mono ?_
    rintro e w3 ⟨rfl, hC3, hg3⟩
    rw [hU.1] at hC3
    clear hU
    obtain ⟨b, o, rfl, hblt, hc0, hc1⟩ := (hr2.gb hg3 (fun a ha e => by have h1 := hf2 a ha; simp at h1; omega)).dot (k := 0) (by simp)
    have hN := (Blk.new' w 30 [.int .i64 0, .int .i64 0] rfl).kept hb2
    have hne2 : c ≠ w.heap.size := by omega
    have hN3 := hN.grown hg3 (fun e => hne2 (by injection e with e; exact e.symm))
    have n0 := hN3.cell 0
    have n1 := hN3.cell 1
    have m0 := hN3.free 0
    have m1 := hN3.free 1
    simp only [List.getElem?_cons_zero, List.getElem?_cons_succ] at n0 n1
    simp only [List.getElem_cons_zero, Nat.zero_mul, Nat.add_zero] at hc0 hc1
    have hbb : w.heap.size + 1 ≤ b := by have := hf2 _ rfl; simpa using this
    have hne3 : w.heap.size ≠ b := by omega
    have hsz : w.heap.size < w3.heap.size := hN3.lt
    have hg := gb_step (gb_of hW (some c)) hg3 (.inl rfl)
    clear hN hr2
    go_wp2_with fail
    refine bodyPost_ret (v := .tuple #[.agg #[.int .i64 r, .int .i64 (l + 1)], .int .i64 0]) (by simp [results, Try.results21, go_sem, n0, n1]) rfl ⟨rfl, ?_, ?_⟩
    · exact Blk.far (Blk.far hC3 hne2 _) hne2 _
    · exact gb_set (gb_set hg (.inr (Nat.le_refl _)) _) (.inr (Nat.le_refl _)) _
  · have e1 : peekErr l 1 = 15 := by simp [peekErr]; omega
    have e2 : peekDots r l 1 = [] := by rw [peekDots, if_neg (by omega), if_pos (by omega)]
    rw [nextV, nextR, nextC, nextErr, nextNew, if_neg hx, if_neg hx, if_neg hx, if_neg hx]
    have HP := Lib.hid (refPeek_any c t r l 1 (w.alloc (.cells #[.int .i64 0, .int .i64 0] 30)) (h.kept ((Below.refl _ _).alloc (Nat.le_refl _) _)) hl hm)
    rw [e1, e2] at HP
    clear e1 e2
    go_enter Try.func21, Try.ntmps21
    go_wp2_with fail
    refine HP.out.mono ?_
    rintro e w2 ⟨v, rfl, ⟨p, d, rfl, _, _, hr2, hf2⟩, hb2⟩
    have hW : Below w.heap.size w w2 := ((Below.refl _ _).alloc (Nat.le_refl _) _).trans (hb2.mono (by simp))
    have hC := h.kept hW
    have hN := (Blk.new' w 30 [.int .i64 0, .int .i64 0] rfl).kept hb2
    have n0 := hN.cell 0
    have n1 := hN.cell 1
    have m0 := hN.free 0
    have m1 := hN.free 1
    simp only [List.getElem?_cons_zero, List.getElem?_cons_succ] at n0 n1
    have hne2 : c ≠ w.heap.size := by omega
    go_wp2_with fail
    have hsz : w.heap.size < w2.heap.size := hN.lt
    refine bodyPost_ret (v := .tuple #[.agg #[.int .i64 0, .int .i64 0], .int .i64 15]) (by simp [results, Try.results21, go_sem, n0, n1]) rfl ⟨rfl, ?_, ?_⟩
    · exact Blk.far (Blk.far hC hne2 _) hne2 _
    · exact gb_set (gb_set (gb_of hW (some c)) (.inr (Nat.le_refl _)) _) (.inr (Nat.le_refl _)) _
end Go.Proofs.Ytloomdanpnkbmaa
