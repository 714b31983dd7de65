/- Holder, Waiting, Held and For: what they answer. -/
import Derived.Test.YthjakgjpnijmlaaBasics
namespace Go.Proofs.Ythjakgjpnijmlaa
open Go.RowKit

theorem okS_iff {Q : List (List Int)} {s : Int} : okS Q s = true ↔ 0 ≤ s ∧ s < (Q.length : Int) := by simp [okS]
theorem okO_iff {o : Int} : okO o = true ↔ 1 ≤ o ∧ o ≤ 65535 := by simp [okO]
theorem okS_nat {Q : List (List Int)} {s : Int} (h : okS Q s = true) : ∃ i : Nat, s = (i : Int) ∧ i < Q.length := by
  have := okS_iff.1 h
  exact ⟨s.toNat, by omega, by omega⟩
theorem okS_of {Q : List (List Int)} {i : Nat} (h : i < Q.length) : okS Q (i : Int) = true := okS_iff.2 ⟨by omega, by omega⟩
theorem queue_nat {Q : List (List Int)} {i : Nat} (h : i < Q.length) : queue Q (i : Int) = Q[i] := by simp [queue, h]

section
variable {L : Nat} {S : Nat → Prop} {Q : List (List Int)} {w : World}
set_option maxHeartbeats 400000 in
theorem holder_any (s : Int) (h : LK w L S Q) : Calls Try.prog 18 #[.pointer (some ⟨L, 0, none⟩), .int .i64 s] w fun e w' => e = .returned (.tuple #[.int .i64 (holdN Q s), .int .i64 (holdE Q s)]) ∧ w = w' := by
  have HC := Lib.hid (check_any s h)
  by_cases ho : okS Q s = true
  · obtain ⟨i, rfl, hi⟩ := okS_nat ho
    have e1 : holdE Q i = 0 := by rw [holdE, if_pos ho]
    have e2 : holdN Q i = (Q[i]).headD 0 := by rw [holdN, if_pos ho, queue_nat hi]
    rw [e1] at HC ⊢
    rw [e2]
    clear e1 e2 ho
    obtain ⟨h0, h1, g, c, vs, hd⟩ := h
    have hc := hd.cell
    obtain ⟨p, d, _, hq, _, hr, hd1, hd2, _⟩ := hd.at_ hi
    have hi2 : (i : Int) < (Q.length : Int) := by omega
    clear hd
    obtain ⟨q, hQ⟩ : ∃ q, Q[i] = q := ⟨_, rfl⟩
    rw [hQ] at hq hr hd1 ⊢
    clear hQ
    cases q with
    | nil =>
      go_enter Try.func18, Try.ntmps18
      go_wp2_with fail
      refine HC.out.mono ?_
      rintro e w' ⟨rfl, rfl⟩
      go_wp2_with fail
      go_ret2
      exact ⟨rfl, rfl⟩
    | cons y l =>
      obtain ⟨b, o, rfl, _, hy⟩ := hr.int (k := 0) (by simp)
      simp only [List.getElem_cons_zero, Nat.add_zero] at hy
      have hn : (((y :: l).length : Int) == 0) = false := by rw [beq_eq_false_iff_ne]; simp; omega
      have hn2 : (0 : Int) < ((y :: l).length : Int) := by simp only [List.length_cons]; omega
      have HH := Lib.hid (show (y :: l).headD 0 = y from rfl)
      generalize y :: l = yl at *
      go_enter Try.func18, Try.ntmps18
      go_wp2_with fail
      refine HC.out.mono ?_
      rintro e w' ⟨rfl, rfl⟩
      go_wp2_with fail
      go_ret2
      exact ⟨by rw [HH.out]; rfl, rfl⟩
  · have e1 : holdE Q s = 2 := by rw [holdE, if_neg ho]
    have e2 : holdN Q s = 0 := by rw [holdN, if_neg ho]
    rw [e1] at HC ⊢
    rw [e2]
    clear e1 e2 ho h
    go_enter Try.func18, Try.ntmps18
    go_wp2_with fail
    refine HC.out.mono ?_
    rintro e w' ⟨rfl, rfl⟩
    go_wp2_with fail
    go_ret2
    exact ⟨rfl, rfl⟩

/-- What Waiting hands back. -/
def RetWait (w : World) (xs : List Int) (no : Int) (e : Ending) (w' : World) : Prop := ∃ v, e = .returned (.tuple #[v, .int .i64 no]) ∧ w'.ownsRow w.heap.size 3 1 v xs.length (ints xs) ∧ Below w.heap.size w w'
set_option maxHeartbeats 800000 in
theorem waiting_any (s : Int) (h : LK w L S Q) (hs : ∀ q ∈ Q, q.length ≤ 100000) : Calls Try.prog 26 #[.pointer (some ⟨L, 0, none⟩), .int .i64 s] w (RetWait w (waitL Q s) (holdE Q s)) := by
  have HC := Lib.hid (check_any s h)
  by_cases ho : okS Q s = true
  · obtain ⟨i, rfl, hi⟩ := okS_nat ho
    have e1 : holdE Q i = 0 := by rw [holdE, if_pos ho]
    have e2 : waitL Q i = (Q[i]).tail := by rw [waitL, if_pos ho, queue_nat hi]
    rw [e1] at HC ⊢
    rw [e2]
    have hlen := hs Q[i] (List.getElem_mem hi)
    clear e1 e2 ho hs
    obtain ⟨h0, h1, g, c, vs, hd⟩ := h
    have hc := hd.cell
    obtain ⟨p, d, _, hq, _, hr, hd1, hd2, _⟩ := hd.at_ hi
    have hi2 : (i : Int) < (Q.length : Int) := by omega
    clear hd
    obtain ⟨q, hQ⟩ : ∃ q, Q[i] = q := ⟨_, rfl⟩
    rw [hQ] at hq hr hd1 hlen ⊢
    clear hQ
    cases q with
    | nil =>
      go_enter Try.func26, Try.ntmps26
      go_wp2_with fail
      refine HC.out.mono ?_
      rintro e w' ⟨rfl, rfl⟩
      go_wp2_with fail
      go_ret2
      exact ⟨_, rfl, World.ownsRow_nil _ _ _ _, Below.refl _ _⟩
    | cons y l =>
      obtain ⟨b, o, rfl, _, hy⟩ := hr.int (k := 0) (by simp)
      have hl2 : (y :: l).length = l.length + 1 := rfl
      have hn : (((y :: l).length : Int) == 0) = false := by rw [beq_eq_false_iff_ne]; simp; omega
      have hn2 : (1 : Int) ≤ ((y :: l).length : Int) := by simp only [List.length_cons]; omega
      have hn3 : ((y :: l).length : Int) ≤ (d : Int) := by omega
      have hn4 : (1 : Int) ≤ (d : Int) := by omega
      have HH := Lib.hid (show (y :: l).length - 1 = l.length by simp)
      unfold maxLen at hd2
      clear hy
      by_cases h1 : d = 1
      · subst h1
        have hl : l = [] := by simpa using hd1
        subst hl
        clear hl2
        go_enter Try.func26, Try.ntmps26
        go_wp2_with fail
        refine HC.out.mono ?_
        rintro e w' ⟨rfl, rfl⟩
        go_wp2_with fail
        refine (clone_any _ 0 _ [] w (Rd.nil _ _ _) rfl (by simp) (by omega)).mono ?_
        rintro e w2 ⟨v, rfl, hown, hb⟩
        go_wp2_with fail
        go_ret2
        exact ⟨_, rfl, hown, hb⟩
      · have hd3 : ¬ (d = 1) := h1
        have hR : Rd w w.heap.size (some ⟨b, o + 1, none⟩) (ints l) := by
          have := hr.part 1
          simpa [ints] using this
        have HL := Lib.hid (show l.length ≤ 100000 by omega)
        clear hl2 h1
        generalize hyl : (y :: l).length = yl at *
        clear hyl
        go_enter Try.func26, Try.ntmps26
        go_wp2_with fail
        refine HC.out.mono ?_
        rintro e w' ⟨rfl, rfl⟩
        go_wp2_with fail
        rw [HH.out]
        refine (clone_any _ _ _ (ints l) w hR (ints_len l) (ints_one l) (by have := HL.out; omega)).mono ?_
        rintro e w2 ⟨v, rfl, hown, hb⟩
        go_wp2_with fail
        go_ret2
        exact ⟨_, rfl, hown, hb⟩
  · have e1 : holdE Q s = 2 := by rw [holdE, if_neg ho]
    have e2 : waitL Q s = [] := by rw [waitL, if_neg ho]
    rw [e1] at HC ⊢
    rw [e2]
    clear e1 e2 ho h hs
    go_enter Try.func26, Try.ntmps26
    go_wp2_with fail
    refine HC.out.mono ?_
    rintro e w' ⟨rfl, rfl⟩
    go_wp2_with fail
    go_ret2
    exact ⟨_, rfl, World.ownsRow_nil _ _ _ _, Below.refl _ _⟩

/-! ### Held -/
set_option maxHeartbeats 1000000 in
theorem held_any (o : Int) (h : LK w L S Q) : Calls Try.prog 16 #[.pointer (some ⟨L, 0, none⟩), .int .i64 o] w (RetOwn w 3 (held Q o).length (ints (held Q o))) := by
  have HN := Lib.hid h
  obtain ⟨h0, h1, g, c, vs, hd⟩ := h
  have hc := hd.cell
  have hcap := hd.cap
  go_enter Try.func16, Try.ntmps16
  go_wp2_with fail
  refine (none_any HN.out).mono ?_
  rintro e w' ⟨rfl, rfl⟩
  go_wp2_with fail
  go_loopw [5, 16] (fun v i wr => ∃ (k : Nat) (acc : List Int), k ≤ Q.length ∧ i = .int .i64 k ∧ acc ++ heldFrom (Q.drop k) o k = held Q o ∧ wr.ownsRow w.heap.size 3 1 v acc.length (ints acc) ∧ Below w.heap.size w wr) (fun _ i _ => Q.length - (intOf i).toNat)
  case atStart => exact ⟨0, [], Nat.zero_le _, rfl, rfl, World.ownsRow_nil _ _ _ _, Below.refl _ _⟩
  case round =>
    obtain ⟨k, acc, hk, rfl, hacc, hown, hb⟩ := hrel
    have hla : acc.length ≤ 1024 := by
      have e := congrArg List.length hacc
      simp at e
      have := heldFrom_len Q o 0
      have e2 : (held Q o).length ≤ Q.length := this
      omega
    have HA := Lib.hid hacc
    clear hacc
    have hsz := hb.size
    by_cases hlt : k < Q.length
    · obtain ⟨p, d, _, hq, _, hr, hd1, hd2, _⟩ := (hd.kept hb).at_ hlt
      have hi : (k : Int) < (Q.length : Int) := by omega
      have HD := Lib.hid (heldFrom_drop Q o k hlt)
      obtain ⟨q, hQ⟩ : ∃ q, Q[k] = q := ⟨_, rfl⟩
      rw [hQ] at hq hr hd1 HD
      clear hQ
      cases q with
      | nil =>
        go_wp2_with fail
        go_roundw
        case rel => exact ⟨k + 1, acc, by omega, by go_num, by rw [← HA.out, HD.out]; simp, hown, hb⟩
        case measure => simp [intOf]; omega
      | cons y l =>
        obtain ⟨b, o2, rfl, _, hy⟩ := hr.int (k := 0) (by simp)
        simp only [List.getElem_cons_zero, Nat.add_zero] at hy
        have hn2 : (0 : Int) < ((y :: l).length : Int) := by simp only [List.length_cons]; omega
        by_cases he : y = o
        · have hb2 : (y == o) = true := by simpa using he
          have HH := Lib.hid (show (y :: l).head? = some o by simp [he])
          generalize y :: l = yl at *
          clear he
          go_wp2_with (at_builtin; refine wpList_app1 rfl (.tmp 31) (.tmp 33) 40 rfl w.heap.size 3 _ 8 Try.underlying40 int_info rfl _ acc.length (ints acc) rfl hown (.int .i64 k) rfl rfl (by omega) (by omega) hsz ?_; intro v' w1 hown1 hbl _ _)
          go_roundw
          case rel => exact ⟨k + 1, acc ++ [(k : Int)], by omega, by go_num, by rw [← HA.out, HD.out, if_pos HH.out]; simp, by rw [List.length_append, ← ints_snoc]; exact hown1, hb.trans hbl⟩
          case measure => simp [intOf]; omega
        · have hb2 : (y == o) = false := by simpa using he
          have HH := Lib.hid (show (y :: l).head? ≠ some o by simp [he])
          generalize y :: l = yl at *
          clear he
          go_wp2_with fail
          go_roundw
          case rel => exact ⟨k + 1, acc, by omega, by go_num, by rw [← HA.out, HD.out, if_neg HH.out]; simp, hown, hb⟩
          case measure => simp [intOf]; omega
    · have HK := Lib.hid (show k = Q.length by omega)
      go_wp2_with fail
      go_ret
      have e := HA.out
      rw [HK.out, List.drop_length] at e
      rw [show heldFrom [] o Q.length = [] from rfl, List.append_nil] at e
      subst e
      exact ⟨_, rfl, hown, hb⟩

/-! ### For -/
theorem closure_any (p : Option Addr) (d : Nat) (q : List Int) (o : Int) (B : Nat) (w : World) (h : Rd w w.heap.size p (ints q)) (hl : q.length ≤ 1000000) (hB : w.cell? ⟨B, 0, none⟩ = some (.int .i64 o)) :
    Calls Try.prog 32 #[.slice p q.length d, .pointer (some ⟨B, 0, none⟩)] w fun e w' => e = .returned (.bool (decide (0 < ix q o))) ∧ w' = w := by
  go_enter Try.func32, Try.ntmps32
  go_wp2_with fail
  refine (index_any p d q o w h hl).mono ?_
  rintro e w' ⟨rfl, rfl⟩
  go_wp2_with fail
  go_ret
  exact ⟨rfl, rfl⟩
set_option maxHeartbeats 800000 in
theorem indexFunc_any {g c : Nat} {vs : List Value} (o : Int) (B : Nat) (hd : LKd w L S Q g c vs) (h1 : Q.length ≤ 1024) (hs : ∀ q ∈ Q, q.length ≤ 100000) (hB : w.cell? ⟨B, 0, none⟩ = some (.int .i64 o)) :
    Calls Try.prog 31 #[.slice (some ⟨g, 0, none⟩) Q.length c, .func (.func 32) #[] #[.pointer (some ⟨B, 0, none⟩)]] w fun e w' => e = .returned (.int .i64 (waitsFor Q o)) ∧ w' = w := by
  have HS := Lib.hid hs
  have HD0 := Lib.hid hd
  clear hs hd
  go_enter Try.func31, Try.ntmps31
  go_wp2
  go_loop [8] (fun i => ∃ k : Nat, k ≤ Q.length ∧ i = .int .i64 k ∧ forFrom (Q.drop k) o k = waitsFor Q o) (fun i => Q.length - (intOf i).toNat)
  case atStart => exact ⟨0, Nat.zero_le _, rfl, rfl⟩
  case round =>
    obtain ⟨k, hk, rfl, hx⟩ := hrel
    have HX := Lib.hid hx
    clear hx
    by_cases hlt : k < Q.length
    · obtain ⟨p, d, _, hq, _, hr, hd1, hd2, _⟩ := HD0.out.at_ hlt
      have hi : (k : Int) < (Q.length : Int) := by omega
      have HF := Lib.hid (forFrom_drop Q o k hlt)
      have hlen := HS.out Q[k] (List.getElem_mem hlt)
      go_wp2_with fail
      refine (closure_any p d Q[k] o B w hr (by omega) hB).mono ?_
      rintro e w' ⟨rfl, rfl⟩
      by_cases he : 0 < ix Q[k] o
      · have HE := Lib.hid he
        go_wp2_with fail
        go_ret
        exact ⟨ret_int (by rw [← HX.out, HF.out, if_pos HE.out]), rfl⟩
      · have HE := Lib.hid he
        go_wp2_with fail
        go_round
        case rel => exact ⟨k + 1, by omega, by go_num, by rw [← HX.out, HF.out, if_neg (by have := HE.out; omega)]⟩
        case measure => simp [intOf]; omega
    · have HK := Lib.hid (show k = Q.length by omega)
      go_wp2
      go_ret
      refine ⟨ret_int ?_, rfl⟩
      rw [← HX.out, HK.out, List.drop_length]
      rfl
theorem for_any (o : Int) (h : LK w L S Q) (hs : ∀ q ∈ Q, q.length ≤ 100000) : Calls Try.prog 17 #[.pointer (some ⟨L, 0, none⟩), .int .i64 o] w fun e w' => e = .returned (.int .i64 (waitsFor Q o)) ∧ Below w.heap.size w w' := by
  have hA : Below w.heap.size w (w.alloc (.cells #[.int .i64 o] 3)) := (Below.refl _ _).alloc (Nat.le_refl _) _
  have h2 := h.kept hA
  have HN := Lib.hid h2
  obtain ⟨h0, h1, g, c, vs, hd⟩ := h2
  have hc := hd.cell
  have HD := Lib.hid hd
  have HS := Lib.hid hs
  have HB := Lib.hid ((Blk.new w 3 [.int .i64 o]).cell 0)
  clear hd hs
  go_enter Try.func17, Try.ntmps17
  go_wp2_with fail
  refine (none_any HN.out).mono ?_
  rintro e w' ⟨rfl, rfl⟩
  go_wp2_with fail
  refine (indexFunc_any o _ HD.out h1 HS.out HB.out).mono ?_
  rintro e w' ⟨rfl, rfl⟩
  go_wp2_with fail
  go_ret
  exact ⟨rfl, hA⟩
end
end Go.Proofs.Ythjakgjpnijmlaa
