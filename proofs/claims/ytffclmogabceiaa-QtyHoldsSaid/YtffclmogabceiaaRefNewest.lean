/- The document's Newest and Next. -/
import Derived.Test.YtffclmogabceiaaNewest
namespace Go.Proofs.Ytffclmogabceiaa
open Go.RowKit

def beat (l : List Mk) (m : Mk) (k : Nat) : Bool := (l.take k).any fun x => decide (GT x m)
theorem beat_step (l : List Mk) (m : Mk) (k : Nat) (h : k < l.length) : beat l m (k + 1) = (beat l m k || decide (GT l[k] m)) := by
  unfold beat; rw [List.take_succ_eq_append_getElem h, List.any_append]; simp
theorem beat_all (l : List Mk) (m : Mk) : beat l m l.length = true ↔ ∃ x ∈ l, GT x m := by
  unfold beat; rw [List.take_length]; simp
theorem newestOf_max (m : Mk) (l : List Mk) : newestOf (m :: l) ∈ m :: l ∧ ∀ x ∈ m :: l, ¬ GT x (newestOf (m :: l)) := by
  show gmax l m ∈ m :: l ∧ ∀ x ∈ m :: l, ¬ GT x (gmax l m)
  obtain ⟨h1, h2⟩ := gmax_ge l m
  refine ⟨?_, ?_⟩
  · rcases gmax_mem l m with h | h
    · rw [h]; simp
    · simp [h]
  · intro x hx
    simp at hx
    rcases hx with rfl | hx
    · exact h1
    · exact h2 x hx
theorem newestOf_eq (l : List Mk) (a : Mk) (ha : a ∈ l) (h : ∀ x ∈ l, ¬ GT x a) : newestOf l = a := by
  cases l with
  | nil => cases ha
  | cons m l =>
    obtain ⟨h1, h2⟩ := newestOf_max m l
    exact max_unique h1 ha h2 h

def noneE (l : List Mk) : Int := if l = [] then 9 else 0
set_option maxHeartbeats 2000000 in
theorem refNewest_any (p : Option Addr) (c : Nat) (l : List Mk) (w : World) (h : Rd w w.heap.size p (mks l)) (hl : l.length ≤ 100000) :
    Calls Try.prog 20 #[.slice p l.length c] w fun e w' => e = .returned (.tuple #[.agg #[.int .i64 (newestOf l).r, .int .i64 (newestOf l).c, .int .i64 (newestOf l).q, .int .u64 (newestOf l).t], .int .i64 (noneE l)]) ∧ Below w.heap.size w w' := by
  have hA : Below w.heap.size w (w.alloc (.cells Mk.zero.cells.toArray 26)) := (Below.refl _ _).alloc (Nat.le_refl _) _
  have h0 : Blk (w.alloc (.cells Mk.zero.cells.toArray 26)) w.heap.size 26 Mk.zero.cells := Blk.new w 26 Mk.zero.cells
  go_enter Try.func20, Try.ntmps20
  go_wp2
  go_loopw [4] (fun i wr => ∃ k : Nat, k ≤ l.length ∧ i = .int .i64 k ∧ (∀ j, (h : j < l.length) → j < k → ∃ x ∈ l, GT x l[j]) ∧ Blk wr w.heap.size 26 Mk.zero.cells ∧ Below w.heap.size w wr) (fun i _ => l.length - (intOf i).toNat)
  case atStart => exact ⟨0, Nat.zero_le _, rfl, fun j _ hj => by omega, h0, hA⟩
  case round =>
    clear h0 hA
    obtain ⟨i, hi, rfl, hbt, h4, hB⟩ := hrel
    have HBT := Lib.hid hbt
    clear hbt
    by_cases hlt : i < l.length
    · have hii : (i : Int) < (l.length : Int) := by omega
      go_wp2
      go_loopw [5, 6] (fun bt kk w2 => ∃ k : Nat, k ≤ l.length ∧ kk = .int .i64 k ∧ bt = .bool (beat l l[i] k) ∧ Blk w2 w.heap.size 26 Mk.zero.cells ∧ Below w.heap.size w w2) (fun _ kk _ => l.length - (intOf kk).toNat)
      case atStart => exact ⟨0, Nat.zero_le _, rfl, rfl, h4, hB⟩
      case round =>
        clear h4 hB
        obtain ⟨k, hk, rfl, rfl, h4, hB⟩ := hrel
        have hsz := hB.size
        by_cases hlt2 : k < l.length
        · have hkk : (k : Int) < (l.length : Int) := by omega
          obtain ⟨b, o, rfl, hbo, x0, x1, x2, x3⟩ := (h.kept hB).mk hlt2
          obtain ⟨b2, o2, heq, _, y0, y1, y2, y3⟩ := (h.kept hB).mk hlt
          injection heq with heq
          injection heq with e1 e2
          subst e1 e2
          have hst := Lib.hid (beat_step l l[i] k hlt2)
          have g0 := fun g => Gr.at_ hbo x0 g
          have g1 := fun g => Gr.at_ hbo x1 g
          have g2 := fun g => Gr.at_ hbo x2 g
          have g3 := fun g => Gr.at_ hbo x3 g
          have g4 := fun g => Gr.at_ hbo y0 g
          have g5 := fun g => Gr.at_ hbo y1 g
          have g6 := fun g => Gr.at_ hbo y2 g
          have g7 := fun g => Gr.at_ hbo y3 g
          by_cases hbe : beat l l[i] k = true
          · rw [hbe]
            have HB := Lib.hid hbe
            clear hbe
            go_wp2_with fail
            refine wp_region_grows (by kernel_rfl) (by kernel_rfl) ?_
            repeat (go_big_quiet_step (fail))
            refine wpQuiet_nil ?_
            rintro _ ⟨g, rfl⟩
            have hB' := hB.trans (g.h.mono hsz)
            have h4' := h4.kept g.h
            go_wp2_with fail
            go_roundw
            case rel => exact ⟨k + 1, by omega, by go_num, by rw [hst.out, HB.out]; rfl, h4', hB'⟩
            case measure => simp [intOf]; omega
          · have hf : beat l l[i] k = false := by simpa using hbe
            rw [hf]
            have HB := Lib.hid hf
            clear hbe hf
            go_wp2_with fail
            refine wp_region_grows (by kernel_rfl) (by kernel_rfl) ?_
            repeat (go_big_quiet_step ((go_at_call 37; exact Calls.gr _ (newer_any _ _ _))))
            refine wpQuiet_nil ?_
            rintro _ ⟨g, rfl⟩
            have hB' := hB.trans (g.h.mono hsz)
            have h4' := h4.kept g.h
            go_wp2_with fail
            go_roundw
            case rel => exact ⟨k + 1, by omega, by go_num, by rw [hst.out, HB.out]; rfl, h4', hB'⟩
            case measure => simp [intOf]; omega
        · have hkn : ¬ (k : Int) < (l.length : Int) := by omega
          have hke : k = l.length := by omega
          have HK := Lib.hid hke
          clear hke
          by_cases hbe : beat l l[i] k = true
          · rw [hbe]
            have HB := Lib.hid hbe
            clear hbe
            go_wp2_with fail
            go_roundw
            case rel =>
              refine ⟨i + 1, by omega, by go_num, fun j hj hji => ?_, h4, hB⟩
              by_cases e : j = i
              · subst e
                have := HB.out
                rw [HK.out] at this
                exact (beat_all l l[j]).1 this
              · exact HBT.out j hj (by omega)
            case measure => simp [intOf]; omega
          · have hf : beat l l[i] k = false := by simpa using hbe
            rw [hf]
            have HB := Lib.hid hf
            clear hbe hf
            obtain ⟨b, o, rfl, hbo, x0, x1, x2, x3⟩ := (h.kept hB).mk hlt
            have HN := Lib.hid (newestOf_eq l l[i] (List.getElem_mem hlt) (fun x hx hgt => by
              have := HB.out
              rw [HK.out] at this
              rw [(beat_all l l[i]).2 ⟨x, hx, hgt⟩] at this
              cases this))
            have HE := Lib.hid (show l ≠ [] by rintro rfl; simp at hlt)
            obtain ⟨y, hy⟩ : ∃ y, l[i] = y := ⟨_, rfl⟩
            rw [hy] at x0 x1 x2 x3
            have HY := Lib.hid (HN.out.trans hy)
            clear hy
            obtain ⟨⟨y0, y1, y2, y3⟩, f0, f1, f2, f3⟩ := h4.mk4
            simp only [Mk.zero] at y0 y1 y2 y3
            go_wp2_with fail
            generalize hW : (World.setCell _ _ _) = W5
            have h6 := h4.put4 (m' := y) hW
            have hB6 := below_put4 (m' := y) hB (Nat.le_refl _) hW
            clear hW y0 y1 y2 y3 f0 f1 f2 f3
            obtain ⟨⟨y0, y1, y2, y3⟩, _⟩ := h6.mk4
            exact bodyPost_ret (v := .tuple #[.agg #[.int .i64 y.r, .int .i64 y.c, .int .i64 y.q, .int .u64 y.t], .int .i64 0]) (by simp [results, Try.results20, go_sem, y0, y1, y2, y3]) rfl ⟨by rw [HY.out, noneE, if_neg HE.out], hB6⟩
    · have hin : ¬ (i : Int) < (l.length : Int) := by omega
      have hie : i = l.length := by omega
      have HE := Lib.hid (show l = [] by
        cases hcs : l with
        | nil => rfl
        | cons m l' =>
          obtain ⟨h1, h2⟩ := newestOf_max m l'
          rw [← hcs] at h1 h2
          obtain ⟨j, hj, e⟩ := List.mem_iff_getElem.1 h1
          obtain ⟨x, hx, hgt⟩ := HBT.out j hj (by omega)
          rw [e] at hgt
          exact absurd hgt (h2 x hx))
      clear hie
      obtain ⟨⟨y0, y1, y2, y3⟩, f0, f1, f2, f3⟩ := h4.mk4
      simp only [Mk.zero] at y0 y1 y2 y3
      go_wp2_with fail
      generalize hW : (World.setCell _ _ _) = W5
      have h6 := h4.put4 (m' := Mk.zero) hW
      have hB6 := below_put4 (m' := Mk.zero) hB (Nat.le_refl _) hW
      clear hW y0 y1 y2 y3 f0 f1 f2 f3
      obtain ⟨⟨y0, y1, y2, y3⟩, _⟩ := h6.mk4
      exact bodyPost_ret (v := .tuple #[.agg #[.int .i64 Mk.zero.r, .int .i64 Mk.zero.c, .int .i64 Mk.zero.q, .int .u64 Mk.zero.t], .int .i64 9]) (by simp [results, Try.results20, go_sem, y0, y1, y2, y3]) rfl ⟨by rw [HE.out]; rfl, hB6⟩

def refNextN (l : List Mk) : Int := if (newestOf l).t = 18446744073709551615 then 0 else (newestOf l).t + 1
def refNextE (l : List Mk) : Int := if (newestOf l).t = 18446744073709551615 then 15 else 0
theorem newestOf_ok (l : List Mk) (h : ∀ x ∈ l, x.Ok) : (newestOf l).Ok := by
  cases l with
  | nil => exact ⟨by decide, by decide⟩
  | cons m l => exact h _ (newestOf_max m l).1

set_option maxHeartbeats 400000 in
theorem refNext_any (p : Option Addr) (c : Nat) (l : List Mk) (w : World) (h : Rd w w.heap.size p (mks l)) (hl : l.length ≤ 100000) (ho : ∀ x ∈ l, x.Ok) :
    Calls Try.prog 21 #[.slice p l.length c] w fun e w' => e = .returned (.tuple #[.int .u64 (refNextN l), .int .i64 (refNextE l)]) ∧ Below w.heap.size w w' := by
  obtain ⟨o1, o2⟩ := newestOf_ok l ho
  go_enter Try.func21, Try.ntmps21
  go_wp2_with fail
  refine (refNewest_any p c l w h hl).mono ?_
  rintro e w1 ⟨rfl, hb⟩
  by_cases hbig : (newestOf l).t = 18446744073709551615
  · have he : (IntKind.u64.wrap ((newestOf l).t + 1) == 0) = true := by rw [hbig]; decide
    have HB := Lib.hid hbig
    clear hbig
    go_wp2_with fail
    go_ret2
    exact ⟨by rw [refNextN, refNextE, if_pos HB.out, if_pos HB.out]; rfl, hb.alloc hb.size _⟩
  · have he : ((newestOf l).t + 1 == 0) = false := by rw [beq_eq_false_iff_ne]; omega
    have u2 : (newestOf l).t < 18446744073709551615 := by omega
    have HB := Lib.hid hbig
    clear hbig
    go_wp2_with fail
    go_ret2
    exact ⟨by rw [refNextN, refNextE, if_neg HB.out, if_neg HB.out]; rfl, hb.alloc hb.size _⟩
end Go.Proofs.Ytffclmogabceiaa
