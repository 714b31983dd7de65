/- The newest one of marks, the time after them. -/
import Derived.Test.YtffclmogabceiaaLists
namespace Go.Proofs.Ytffclmogabceiaa
open Go.RowKit

theorem invalid_any (r c q t : Int) (w : World) : Calls Try.prog 41 #[.agg #[.int .i64 r, .int .i64 c, .int .i64 q, .int .u64 t]] w fun e w' => e = .returned (.bool (!validM ⟨r, c, q, t⟩)) ∧ Below w.heap.size w w' := by
  go_enter Try.func41, Try.ntmps41
  go_wp2_with fail
  refine (validMark_any _ _ _ _ _).mono ?_
  rintro e w1 ⟨rfl, hb⟩
  have hB : Below w.heap.size w w1 := ((Below.refl _ _).alloc (Nat.le_refl _) _).trans (hb.mono (by simp))
  go_wp2_with fail
  go_ret
  exact ⟨rfl, hB⟩

set_option maxHeartbeats 800000 in
theorem index_any (p : Option Addr) (c : Nat) (l : List Mk) (w : World) (h : Rd w w.heap.size p (mks l)) (hl : l.length ≤ 100000) :
    Calls Try.prog 47 #[.slice p l.length c, .func (.func 41) #[] #[]] w fun e w' => ∃ i : Int, e = .returned (.int .i64 i) ∧ (0 ≤ i ↔ allV l = false) ∧ Below w.heap.size w w' := by
  go_enter Try.func47, Try.ntmps47
  go_wp2
  go_loopw [8] (fun i wr => ∃ k : Nat, k ≤ l.length ∧ i = .int .i64 k ∧ allV (l.take k) = true ∧ Below w.heap.size w wr) (fun i _ => l.length - (intOf i).toNat)
  case atStart => exact ⟨0, Nat.zero_le _, rfl, rfl, Below.refl _ _⟩
  case round =>
    obtain ⟨k, hk, rfl, hv, hb⟩ := hrel
    have HV := Lib.hid hv
    clear hv
    by_cases hlt : k < l.length
    · obtain ⟨b, o, rfl, _, c0, c1, c2, c3⟩ := (h.below hb).mk hlt
      have hi : (k : Int) < (l.length : Int) := by omega
      go_wp2_with fail
      refine (invalid_any _ _ _ _ wr).mono ?_
      rintro e w1 ⟨rfl, hb1⟩
      by_cases hval : validM l[k] = true
      · have HL := Lib.hid hval
        rw [show validM ⟨(l[k]).r, (l[k]).c, (l[k]).q, (l[k]).t⟩ = true from hval]
        clear hval
        go_wp2_with fail
        go_roundw
        case rel => exact ⟨k + 1, by omega, by go_num, allV_step hlt HV.out HL.out, below_step hb hb1⟩
        case measure => simp [intOf]; omega
      · have HL := Lib.hid (show validM l[k] = false by simpa using hval)
        rw [show validM ⟨(l[k]).r, (l[k]).c, (l[k]).q, (l[k]).t⟩ = false from HL.out]
        clear hval
        go_wp2_with fail
        go_ret
        exact ⟨k, rfl, by simp [allV_no hlt HL.out], below_step hb hb1⟩
    · go_wp2
      go_ret
      refine ⟨-1, rfl, ?_, hb⟩
      have := HV.out
      rw [List.take_of_length_le (by omega)] at this
      simp [this]
theorem contains_any (p : Option Addr) (c : Nat) (l : List Mk) (w : World) (h : Rd w w.heap.size p (mks l)) (hl : l.length ≤ 100000) :
    Calls Try.prog 40 #[.slice p l.length c, .func (.func 41) #[] #[]] w fun e w' => e = .returned (.bool (!allV l)) ∧ Below w.heap.size w w' := by
  go_enter Try.func40, Try.ntmps40
  go_wp2_with fail
  refine (index_any p c l w h hl).mono ?_
  rintro e w1 ⟨i, rfl, hiff, hb⟩
  have HI := Lib.hid hiff
  clear hiff
  go_wp2_with fail
  go_ret
  refine ⟨ret_bool ?_, hb⟩
  have := HI.out
  rw [Bool.eq_iff_iff]
  simp [this]

/-- The first one of the newest. -/
def gmax : List Mk → Mk → Mk
  | [], m => m
  | x :: l, m => gmax l (if GT x m then x else m)
theorem gmax_mem : ∀ (l : List Mk) (m : Mk), gmax l m = m ∨ gmax l m ∈ l
  | [], m => .inl rfl
  | x :: l, m => by
    rw [gmax]
    rcases gmax_mem l (if GT x m then x else m) with h | h
    · rw [h]; split
      · exact .inr (by simp)
      · exact .inl rfl
    · exact .inr (by simp [h])
theorem not_gt_trans {a b c : Mk} (h : ¬ GT a b) (k : ¬ GT b c) : ¬ GT a c := by unfold GT at *; omega
theorem gmax_ge : ∀ (l : List Mk) (m : Mk), ¬ GT m (gmax l m) ∧ ∀ x ∈ l, ¬ GT x (gmax l m)
  | [], m => ⟨fun h => h.ne rfl, by simp⟩
  | x :: l, m => by
    rw [gmax]
    obtain ⟨h1, h2⟩ := gmax_ge l (if GT x m then x else m)
    have a1 : ¬ GT m (if GT x m then x else m) := by
      split
      · rename_i h; exact h.asymm
      · exact fun h => h.ne rfl
    have a2 : ¬ GT x (if GT x m then x else m) := by
      split
      · exact fun h => h.ne rfl
      · assumption
    refine ⟨not_gt_trans a1 h1, fun y hy => ?_⟩
    simp at hy
    rcases hy with rfl | hy
    · exact not_gt_trans a2 h1
    · exact h2 y hy
/-- The newest one is one. -/
theorem max_unique {a b : Mk} {l : List Mk} (ha : a ∈ l) (hb : b ∈ l) (h1 : ∀ x ∈ l, ¬ GT x a) (h2 : ∀ x ∈ l, ¬ GT x b) : a = b := by
  by_cases e : a = b
  · exact e
  · rcases GT.total e with g | g
    · exact absurd g (h2 a ha)
    · exact absurd g (h1 b hb)
theorem gmax_drop (l : List Mk) (m : Mk) (k : Nat) (h : k < l.length) : gmax (l.drop k) m = gmax (l.drop (k + 1)) (if GT l[k] m then l[k] else m) := by
  rw [List.drop_eq_getElem_cons h, gmax]

set_option maxHeartbeats 1600000 in
theorem greatest_any (p : Option Addr) (c : Nat) (m : Mk) (l : List Mk) (w : World) (h : Rd w w.heap.size p (mks (m :: l))) (hl : (m :: l).length ≤ 100000) (n : Nat) (hn : n = (m :: l).length) :
    Calls Try.prog 42 #[.slice p n c, .func (.func 15) #[] #[]] w fun e w' => e = .returned (.agg #[.int .i64 (gmax l m).r, .int .i64 (gmax l m).c, .int .i64 (gmax l m).q, .int .u64 (gmax l m).t]) ∧ Below w.heap.size w w' := by
  subst hn
  obtain ⟨b, o, rfl, hbo, c0, c1, c2, c3⟩ := h.mk (k := 0) (by simp)
  simp only [Nat.zero_mul, Nat.add_zero, List.getElem_cons_zero] at c0 c1 c2 c3
  have hi : (0 : Int) < ((m :: l).length : Int) := by simp
  have HM := Lib.hid (show gmax ((m :: l).drop 0) m = gmax l m from by
    rw [List.drop_zero, gmax, if_neg (fun h => h.ne rfl)])
  generalize hll : m :: l = ls at *
  have HLL := Lib.hid hll
  clear hll
  go_enter Try.func42, Try.ntmps42
  go_upto_region 2 with fail
  generalize hW : (World.alloc _ _) = W
  have h4 : Blk W w.heap.size 26 Mk.zero.cells := by
    rw [← hW]; exact (Blk.new w 26 Mk.zero.cells).alloc _
  have h5 : Blk W (w.heap.size + 1) 26 m.cells := by
    rw [← hW]; exact Blk.new' _ 26 m.cells (by simp)
  have hB : Below w.heap.size w W := by rw [← hW]; exact ((Below.refl _ _).alloc (Nat.le_refl _) _).alloc (by simp) _
  clear hW c0 c1 c2 c3
  go_wp2_with fail
  go_loopw [13] (fun i wr => ∃ k : Nat, ∃ cur : Mk, k ≤ ls.length ∧ i = .int .i64 k ∧ gmax (ls.drop k) cur = gmax l m ∧ Blk wr w.heap.size 26 Mk.zero.cells ∧ Blk wr (w.heap.size + 1) 26 cur.cells ∧ Below w.heap.size w wr) (fun i _ => ls.length - (intOf i).toNat)
  case atStart => exact ⟨0, m, Nat.zero_le _, rfl, HM.out, h4, h5, hB⟩
  case round =>
    clear h4 h5 hB
    obtain ⟨k, cur, hk, rfl, hg, h4, h5, hB⟩ := hrel
    have HG := Lib.hid hg
    clear hg
    have hsz := hB.size
    have hl5 := h5.lt
    by_cases hlt : k < ls.length
    · obtain ⟨b2, o2, heq, hbo2, c0, c1, c2, c3⟩ := (h.kept hB).mk hlt
      injection heq with heq
      injection heq with e1 e2
      subst e1 e2
      have hi2 : (k : Int) < (ls.length : Int) := by omega
      have HD := Lib.hid (gmax_drop ls cur k hlt)
      go_upto_region 5 with fail
      generalize hW : (World.alloc _ _) = W2
      have h7 : Blk W2 wr.heap.size 26 (ls[k]).cells := by rw [← hW]; exact Blk.new' wr 26 (ls[k]).cells rfl
      have h42 : Blk W2 w.heap.size 26 Mk.zero.cells := by rw [← hW]; exact h4.alloc _
      have h52 : Blk W2 (w.heap.size + 1) 26 cur.cells := by rw [← hW]; exact h5.alloc _
      have hB2 : Below w.heap.size w W2 := by rw [← hW]; exact hB.alloc hsz _
      clear hW h4 h5 hB c0 c1 c2 c3
      generalize hx : ls[k] = x at *
      clear hx
      have x0 := h7.cell 0
      have x1 := h7.cell 1
      have x2 := h7.cell 2
      have x3 := h7.cell 3
      have y0 := h52.cell 0
      have y1 := h52.cell 1
      have y2 := h52.cell 2
      have y3 := h52.cell 3
      simp only [Mk.cells, List.getElem?_cons_zero, List.getElem?_cons_succ] at x0 x1 x2 x3 y0 y1 y2 y3
      go_wp2_with fail
      refine (compare_any x cur W2).mono ?_
      rintro e W3 ⟨rfl, hb3⟩
      have h73 := h7.kept hb3
      have h43 := h42.kept hb3
      have h53 := h52.kept hb3
      have hB3 := hB2.trans (hb3.mono hB2.size)
      clear x0 x1 x2 x3 y0 y1 y2 y3 h7 h42 h52 hB2 hb3
      by_cases hgt : GT x cur
      · have hpos : 0 < cmpM x cur := cmpM_pos.2 hgt
        have HX := Lib.hid hgt
        have x0 := h73.cell 0
        have x1 := h73.cell 1
        have x2 := h73.cell 2
        have x3 := h73.cell 3
        have y0 := h53.cell 0
        have y1 := h53.cell 1
        have y2 := h53.cell 2
        have y3 := h53.cell 3
        have f0 := h53.free 0
        have f1 := h53.free 1
        have f2 := h53.free 2
        have f3 := h53.free 3
        simp only [Mk.cells, List.getElem?_cons_zero, List.getElem?_cons_succ] at x0 x1 x2 x3 y0 y1 y2 y3
        clear hgt
        go_wp2_with fail
        go_roundw
        case rel =>
          refine ⟨k + 1, x, by omega, by go_num, ?_, ?_, ?_, ?_⟩
          · rw [← HG.out, HD.out, if_pos HX.out]
          · exact (((h43.far (by simp) _).far (by simp) _).far (by simp) _).far (by simp) _
          · exact (((h53.set_ 0 _).set_ 1 _).set_ 2 _).set_ 3 _
          · exact (((hB3.setCell (by simp) _).setCell (by simp) _).setCell (by simp) _).setCell (by simp) _
        case measure => simp [intOf]; omega
      · have hpos : ¬ 0 < cmpM x cur := fun z => hgt (cmpM_pos.1 z)
        have HX := Lib.hid hgt
        clear hgt
        go_wp2_with fail
        go_roundw
        case rel => exact ⟨k + 1, cur, by omega, by go_num, by rw [← HG.out, HD.out, if_neg HX.out], h43, h53, hB3⟩
        case measure => simp [intOf]; omega
    · have hkn : k = ls.length := by omega
      have HC := Lib.hid (show cur = gmax l m by
        have := HG.out
        rw [hkn, List.drop_length, gmax] at this
        exact this)
      clear hkn
      have y0 := h5.cell 0
      have y1 := h5.cell 1
      have y2 := h5.cell 2
      have y3 := h5.cell 3
      have z0 := h4.cell 0
      have z1 := h4.cell 1
      have z2 := h4.cell 2
      have z3 := h4.cell 3
      have f0 := h4.free 0
      have f1 := h4.free 1
      have f2 := h4.free 2
      have f3 := h4.free 3
      simp only [Mk.cells, Mk.zero, List.getElem?_cons_zero, List.getElem?_cons_succ] at y0 y1 y2 y3 z0 z1 z2 z3
      go_wp2_with fail
      generalize hW : (World.setCell _ _ _) = W5
      have h6 : Blk W5 w.heap.size 26 cur.cells := by
        rw [← hW]; exact (((h4.set_ 0 (.int .i64 cur.r)).set_ 1 (.int .i64 cur.c)).set_ 2 (.int .i64 cur.q)).set_ 3 (.int .u64 cur.t)
      have hB6 : Below w.heap.size w W5 := by rw [← hW]; exact (((hB.setCell (Nat.le_refl _) _).setCell (Nat.le_refl _) _).setCell (Nat.le_refl _) _).setCell (Nat.le_refl _) _
      clear hW y0 y1 y2 y3 z0 z1 z2 z3 f0 f1 f2 f3
      have y0 := h6.cell 0
      have y1 := h6.cell 1
      have y2 := h6.cell 2
      have y3 := h6.cell 3
      simp only [Mk.cells, List.getElem?_cons_zero, List.getElem?_cons_succ] at y0 y1 y2 y3
      refine bodyPost_ret (v := .agg #[.int .i64 cur.r, .int .i64 cur.c, .int .i64 cur.q, .int .u64 cur.t]) (by simp [results, Try.results42, go_sem, y0, y1, y2, y3]) rfl ⟨?_, hB6⟩
      rw [HC.out]

/-- The newest one of a list. -/
def newestOf : List Mk → Mk
  | [] => Mk.zero
  | m :: l => gmax l m
def newestM (l : List Mk) : Mk := if allV l = true then newestOf l else Mk.zero
def newestE (l : List Mk) : Int := if allV l = true then (if l = [] then 9 else 0) else 2

theorem Blk.mk4 {w : World} {g : Nat} {m : Mk} (h : Blk w g 26 m.cells) : (w.cell? ⟨g, 0, none⟩ = some (.int .i64 m.r) ∧ w.cell? ⟨g, 1, none⟩ = some (.int .i64 m.c) ∧ w.cell? ⟨g, 2, none⟩ = some (.int .i64 m.q) ∧ w.cell? ⟨g, 3, none⟩ = some (.int .u64 m.t)) ∧
    (w.frozen? ⟨g, 0, none⟩ = false ∧ w.frozen? ⟨g, 1, none⟩ = false ∧ w.frozen? ⟨g, 2, none⟩ = false ∧ w.frozen? ⟨g, 3, none⟩ = false) :=
  ⟨⟨h.cell 0, h.cell 1, h.cell 2, h.cell 3⟩, h.free 0, h.free 1, h.free 2, h.free 3⟩
theorem Blk.put4 {w W : World} {g : Nat} {m m' : Mk} (h : Blk w g 26 m.cells) (e : (((w.setCell ⟨g, 0, none⟩ (.int .i64 m'.r)).setCell ⟨g, 1, none⟩ (.int .i64 m'.c)).setCell ⟨g, 2, none⟩ (.int .i64 m'.q)).setCell ⟨g, 3, none⟩ (.int .u64 m'.t) = W) : Blk W g 26 m'.cells := by
  rw [← e]; exact (((h.set_ 0 (.int .i64 m'.r)).set_ 1 (.int .i64 m'.c)).set_ 2 (.int .i64 m'.q)).set_ 3 (.int .u64 m'.t)
theorem below_put4 {w0 w W : World} {g : Nat} {m' : Mk} (h : Below w0.heap.size w0 w) (hg : w0.heap.size ≤ g) (e : (((w.setCell ⟨g, 0, none⟩ (.int .i64 m'.r)).setCell ⟨g, 1, none⟩ (.int .i64 m'.c)).setCell ⟨g, 2, none⟩ (.int .i64 m'.q)).setCell ⟨g, 3, none⟩ (.int .u64 m'.t) = W) : Below w0.heap.size w0 W := by
  rw [← e]; exact (((h.setCell hg _).setCell hg _).setCell hg _).setCell hg _

set_option maxHeartbeats 800000 in
theorem newest_any (p : Option Addr) (c : Nat) (l : List Mk) (w : World) (h : Rd w w.heap.size p (mks l)) (hl : l.length ≤ 100000) :
    Calls Try.prog 29 #[.slice p l.length c] w fun e w' => e = .returned (.tuple #[.agg #[.int .i64 (newestM l).r, .int .i64 (newestM l).c, .int .i64 (newestM l).q, .int .u64 (newestM l).t], .int .i64 (newestE l)]) ∧ Below w.heap.size w w' := by
  have hA : Below w.heap.size w (w.alloc (.cells Mk.zero.cells.toArray 26)) := (Below.refl _ _).alloc (Nat.le_refl _) _
  by_cases hv : allV l = true
  · by_cases hnil : l = []
    · subst hnil
      go_enter Try.func29, Try.ntmps29
      go_wp2_with fail
      refine (contains_any p c [] _ (.inl rfl) (by simp)).mono ?_
      rintro e w1 ⟨rfl, hb⟩
      rw [show allV [] = true from rfl]
      have h4 : Blk w1 w.heap.size 26 Mk.zero.cells := (Blk.new w 26 Mk.zero.cells).kept hb
      have hB : Below w.heap.size w w1 := hA.trans (hb.mono (by simp))
      obtain ⟨⟨y0, y1, y2, y3⟩, f0, f1, f2, f3⟩ := h4.mk4
      simp only [Mk.zero] at y0 y1 y2 y3
      go_wp2_with fail
      generalize hW : (World.setCell _ _ _) = W5
      have h6 := h4.put4 (m' := Mk.zero) hW
      have hB6 := below_put4 (m' := Mk.zero) hB (Nat.le_refl _) hW
      clear hW y0 y1 y2 y3 f0 f1 f2 f3
      obtain ⟨⟨y0, y1, y2, y3⟩, _⟩ := h6.mk4
      refine bodyPost_ret (v := .tuple #[.agg #[.int .i64 Mk.zero.r, .int .i64 Mk.zero.c, .int .i64 Mk.zero.q, .int .u64 Mk.zero.t], .int .i64 9]) (by simp [results, Try.results29, go_sem, y0, y1, y2, y3]) rfl ⟨rfl, hB6⟩
    · obtain ⟨m, l', rfl⟩ : ∃ m l', l = m :: l' := by
        cases l with
        | nil => exact absurd rfl hnil
        | cons m l' => exact ⟨m, l', rfl⟩
      have HM := Lib.hid (show newestM (m :: l') = gmax l' m ∧ newestE (m :: l') = 0 by
        simp [newestM, newestE, newestOf, hv])
      have HV := Lib.hid hv
      have hpos : (0 : Int) < ((m :: l').length : Int) := by simp
      have hne : (((m :: l').length : Int) == 0) = false := by simp; omega
      generalize hlen : (m :: l').length = n at *
      have HN := Lib.hid hlen
      clear hv hnil hlen
      go_enter Try.func29, Try.ntmps29
      go_wp2_with fail
      have hc := Lib.hid (contains_any p c (m :: l') _ (h.kept hA) (by rw [HN.out]; exact hl))
      rw [HN.out, HV.out] at hc
      refine hc.out.mono ?_
      rintro e w1 ⟨rfl, hb⟩
      have h4 : Blk w1 w.heap.size 26 Mk.zero.cells := (Blk.new w 26 Mk.zero.cells).kept hb
      have hB : Below w.heap.size w w1 := hA.trans (hb.mono (by simp))
      clear hc hb
      go_wp2_with fail
      refine (greatest_any p c m l' w1 (h.kept hB) (by rw [HN.out]; exact hl) n HN.out.symm).mono ?_
      rintro e w2 ⟨rfl, hb2⟩
      have h42 := h4.kept hb2
      have hB2 := below_step hB hb2
      obtain ⟨x, hx⟩ : ∃ x, gmax l' m = x := ⟨_, rfl⟩
      rw [hx]
      have HX := Lib.hid hx
      clear h4 hB hb2 hx
      obtain ⟨⟨y0, y1, y2, y3⟩, f0, f1, f2, f3⟩ := h42.mk4
      simp only [Mk.zero] at y0 y1 y2 y3
      go_wp2_with fail
      generalize hW : (World.setCell _ _ _) = W5
      have h6 := h42.put4 (m' := x) hW
      have hB6 := below_put4 (m' := x) hB2 (Nat.le_refl _) hW
      clear hW y0 y1 y2 y3 f0 f1 f2 f3
      obtain ⟨⟨y0, y1, y2, y3⟩, _⟩ := h6.mk4
      exact bodyPost_ret (v := .tuple #[.agg #[.int .i64 x.r, .int .i64 x.c, .int .i64 x.q, .int .u64 x.t], .int .i64 0]) (by simp [results, Try.results29, go_sem, y0, y1, y2, y3]) rfl ⟨by rw [HM.out.1, HM.out.2, HX.out], hB6⟩
  · have hf : allV l = false := by simpa using hv
    have HM := Lib.hid (show newestM l = Mk.zero ∧ newestE l = 2 by simp [newestM, newestE, hf])
    have HV := Lib.hid hf
    clear hv hf
    go_enter Try.func29, Try.ntmps29
    go_wp2_with fail
    have hc := Lib.hid (contains_any p c l _ (h.kept hA) hl)
    rw [HV.out] at hc
    refine hc.out.mono ?_
    rintro e w1 ⟨rfl, hb⟩
    have h4 : Blk w1 w.heap.size 26 Mk.zero.cells := (Blk.new w 26 Mk.zero.cells).kept hb
    have hB : Below w.heap.size w w1 := hA.trans (hb.mono (by simp))
    clear hc hb
    obtain ⟨⟨y0, y1, y2, y3⟩, f0, f1, f2, f3⟩ := h4.mk4
    simp only [Mk.zero] at y0 y1 y2 y3
    go_wp2_with fail
    generalize hW : (World.setCell _ _ _) = W5
    have h6 := h4.put4 (m' := Mk.zero) hW
    have hB6 := below_put4 (m' := Mk.zero) hB (Nat.le_refl _) hW
    clear hW y0 y1 y2 y3 f0 f1 f2 f3
    obtain ⟨⟨y0, y1, y2, y3⟩, _⟩ := h6.mk4
    exact bodyPost_ret (v := .tuple #[.agg #[.int .i64 Mk.zero.r, .int .i64 Mk.zero.c, .int .i64 Mk.zero.q, .int .u64 Mk.zero.t], .int .i64 2]) (by simp [results, Try.results29, go_sem, y0, y1, y2, y3]) rfl ⟨by rw [HM.out.1, HM.out.2], hB6⟩

/-- What Next gives. -/
def lastT (l : List Mk) : Int := (gmax l Mk.zero).t
def nextN (l : List Mk) : Int := if allV l = true then (if lastT l = 18446744073709551615 then 0 else lastT l + 1) else 0
def nextE (l : List Mk) : Int := if allV l = true then (if lastT l = 18446744073709551615 then 15 else 0) else 2
theorem mk_info : (Try.prog.info? 26).map (fun i => (i.zero, i.size, i.bytes)) = some (some (.agg #[.int .i64 0, .int .i64 0, .int .i64 0, .int .u64 0]), 4, 32) := by kernel_rfl
theorem gmax_ok (l : List Mk) (m : Mk) (hm : m.Ok) (h : ∀ x ∈ l, x.Ok) : (gmax l m).Ok := by
  rcases gmax_mem l m with e | e
  · rw [e]; exact hm
  · exact h _ e
theorem lastT_ok (l : List Mk) (h : ∀ x ∈ l, x.Ok) : 0 ≤ lastT l ∧ lastT l ≤ 18446744073709551615 := gmax_ok l Mk.zero ⟨by decide, by decide⟩ h

theorem mk_time (r c q t : Int) (w : World) : (Instr.field 26 (.agg #[.int .i64 r, .int .i64 c, .int .i64 q, .int .u64 t]) 2).run Try.prog w = .ok (.int .u64 t) w := by kernel_rfl
set_option maxHeartbeats 800000 in
theorem next_any (p : Option Addr) (c : Nat) (l : List Mk) (w : World) (h : Rd w w.heap.size p (mks l)) (hl : l.length ≤ 10000) (ho : ∀ x ∈ l, x.Ok) :
    Calls Try.prog 30 #[.slice p l.length c] w fun e w' => e = .returned (.tuple #[.int .u64 (nextN l), .int .i64 (nextE l)]) ∧ Below w.heap.size w w' := by
  have hok := lastT_ok l ho
  have hfd := mk_time
  by_cases hv : allV l = true
  · have HV := Lib.hid hv
    clear hv
    go_enter Try.func30, Try.ntmps30
    go_wp2_with fail
    have hc := Lib.hid (contains_any p c l _ h (by omega))
    rw [HV.out] at hc
    refine hc.out.mono ?_
    rintro e w1 ⟨rfl, hb⟩
    clear hc
    have hr1 := h.kept hb
    go_wp2_with (at_builtin; refine wpList_appM rfl (.tmp 8) (.tmp 9) 38 rfl w1.heap.size 26 _ 4 32 Try.underlying38 mk_info rfl (by omega) _ 1 Mk.zero.cells rfl (own_built (Blk.new w1 26 Mk.zero.cells) (Nat.le_refl _) rfl (by unfold maxLen; omega)) w1.heap.size p l.length c (mks l) rfl (mks_len l) (hr1.below ((Below.refl _ _).alloc (Nat.le_refl _) _)) (mks_one l) (by omega) (by omega) (by simp) ?_; intro v' w2 hown hbl h8 h9)
    clear h8 h9
    have hbB : Below w.heap.size w w2 := (hb.alloc hb.size _).trans (hbl.mono hb.size)
    obtain ⟨q, d, rfl, _, _, hrq, _⟩ := own_form hown
    have hrq' : Rd w2 w2.heap.size q (mks (Mk.zero :: l)) := hrq
    clear hown hbl hrq hb hr1
    go_wp2_with fail
    refine (greatest_any q d Mk.zero l w2 hrq' (by simp; omega) (1 + l.length) (by simp; omega)).mono ?_
    rintro e w3 ⟨rfl, hb3⟩
    have hB3 := below_step hbB hb3
    have HT := Lib.hid (show (gmax l Mk.zero).t = lastT l from rfl)
    obtain ⟨o1, o2⟩ := hok
    by_cases hbig : lastT l = 18446744073709551615
    · have he : ((gmax l Mk.zero).t == 18446744073709551615) = true := by rw [beq_iff_eq]; exact hbig
      have HB := Lib.hid hbig
      clear hbig
      go_wp2_with fail
      go_ret2
      exact ⟨by rw [nextN, nextE, if_pos HV.out, if_pos HV.out, if_pos HB.out, if_pos HB.out]; rfl, hB3⟩
    · have he : ((gmax l Mk.zero).t == 18446744073709551615) = false := by rw [beq_eq_false_iff_ne]; exact hbig
      have HB := Lib.hid hbig
      have u1 : 0 ≤ (gmax l Mk.zero).t := o1
      have u2 : (gmax l Mk.zero).t < 18446744073709551615 := by have : lastT l ≤ 18446744073709551615 := o2; have : (gmax l Mk.zero).t ≠ 18446744073709551615 := hbig; have := HT.out; omega
      clear hbig
      go_wp2_with fail
      go_ret2
      exact ⟨by rw [nextN, nextE, if_pos HV.out, if_pos HV.out, if_neg HB.out, if_neg HB.out]; rfl, hB3⟩
  · have hf : allV l = false := by simpa using hv
    have HV := Lib.hid hf
    clear hv hf
    go_enter Try.func30, Try.ntmps30
    go_wp2_with fail
    have hc := Lib.hid (contains_any p c l _ h (by omega))
    rw [HV.out] at hc
    refine hc.out.mono ?_
    rintro e w1 ⟨rfl, hb⟩
    go_wp2_with fail
    go_ret2
    exact ⟨by rw [nextN, nextE, HV.out]; rfl, hb⟩

/-! ### The law's own helpers -/
theorem mark_any (r c q t : Int) (w : World) : Calls Try.prog 31 #[.int .i64 r, .int .i64 c, .int .i64 q, .int .u64 t] w fun e w' => e = .returned (.agg #[.int .i64 r, .int .i64 c, .int .i64 q, .int .u64 t]) ∧ Below w.heap.size w w' := by
  have hA : Below w.heap.size w (w.alloc (.cells Mk.zero.cells.toArray 26)) := (Below.refl _ _).alloc (Nat.le_refl _) _
  go_enter Try.func31, Try.ntmps31
  go_wp2_with fail
  exact bodyPost_ret (v := .agg #[.int .i64 r, .int .i64 c, .int .i64 q, .int .u64 t]) (by simp [results, Try.results31, go_sem]) rfl ⟨rfl, (Below.refl _ _).alloc (Nat.le_refl _) _⟩

set_option maxHeartbeats 400000 in
theorem isNewest_any (p : Option Addr) (c : Nat) (l : List Mk) (m : Mk) (no : Int) (w : World) (h : Rd w w.heap.size p (mks l)) (hl : l.length ≤ 100000) (h1 : newestM l = m) (h2 : newestE l = no) (n : Nat) (hn : n = l.length) :
    Calls Try.prog 18 #[.slice p n c, .agg #[.int .i64 m.r, .int .i64 m.c, .int .i64 m.q, .int .u64 m.t], .int .i64 no] w fun e w' => e = .returned (.bool true) ∧ Below w.heap.size w w' := by
  subst hn
  have hA : Below w.heap.size w (w.alloc (.cells m.cells.toArray 26)) := (Below.refl _ _).alloc (Nat.le_refl _) _
  have H := Lib.hid (newest_any p c l _ (h.kept hA) hl)
  rw [h1, h2] at H
  clear h1 h2
  have hq := mk_eql m m
  rw [show decide (m = m) = true by simp] at hq
  have e2 : (no == no) = true := by simp
  go_enter Try.func18, Try.ntmps18
  go_wp2_with fail
  refine H.out.mono ?_
  rintro e w1 ⟨rfl, hb⟩
  have hB : Below w.heap.size w w1 := hA.trans (hb.mono (by simp))
  have h4 : Blk w1 w.heap.size 26 m.cells := (Blk.new w 26 m.cells).kept hb
  obtain ⟨⟨y0, y1, y2, y3⟩, _⟩ := h4.mk4
  have hlt := h4.lt
  clear hb H h4
  go_wp2_with fail
  go_ret
  exact ⟨rfl, hB.alloc hB.size _⟩
theorem isNext_any (p : Option Addr) (c : Nat) (l : List Mk) (t no : Int) (w : World) (h : Rd w w.heap.size p (mks l)) (hl : l.length ≤ 10000) (ho : ∀ x ∈ l, x.Ok) (h1 : nextN l = t) (h2 : nextE l = no) (n : Nat) (hn : n = l.length) :
    Calls Try.prog 19 #[.slice p n c, .int .u64 t, .int .i64 no] w fun e w' => e = .returned (.bool true) ∧ Below w.heap.size w w' := by
  subst hn
  have H := Lib.hid (next_any p c l _ h hl ho)
  rw [h1, h2] at H
  clear h1 h2
  have e1 : (t == t) = true := by simp
  have e2 : (no == no) = true := by simp
  go_enter Try.func19, Try.ntmps19
  go_wp2_with fail
  refine H.out.mono ?_
  rintro e w1 ⟨rfl, hb⟩
  go_wp2_with fail
  go_ret
  exact ⟨rfl, hb⟩
end Go.Proofs.Ytffclmogabceiaa
