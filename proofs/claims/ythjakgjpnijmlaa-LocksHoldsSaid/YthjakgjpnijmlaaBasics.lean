/- The small functions of the locks that leave the world alone, or make one list. -/
import Derived.Test.YthjakgjpnijmlaaWords
import Derived.Test.YthjakgjpnijmlaaBase
namespace Go.Proofs.Ythjakgjpnijmlaa
open Go.RowKit

theorem int_info : (Try.prog.info? 3).map (fun i => (i.zero, i.size, i.bytes)) = some (some (.int .i64 0), 1, 8) := by kernel_rfl

/-! ### slices -/
theorem index_any (p : Option Addr) (c : Nat) (q : List Int) (x : Int) (w : World) (h : Rd w w.heap.size p (ints q)) (hl : q.length ≤ 1000000) :
    Calls Try.prog 28 #[.slice p q.length c, .int .i64 x] w fun e w' => e = .returned (.int .i64 (ix q x)) ∧ w' = w := by
  go_enter Try.func28, Try.ntmps28
  go_wp2
  go_loop [8] (fun i => ∃ k : Nat, k ≤ q.length ∧ i = .int .i64 k ∧ ixFrom (q.drop k) x k = ix q x) (fun i => q.length - (intOf i).toNat)
  case atStart => exact ⟨0, Nat.zero_le _, rfl, rfl⟩
  case round =>
    obtain ⟨k, hk, rfl, hx⟩ := hrel
    have HX := Lib.hid hx
    clear hx
    by_cases hlt : k < q.length
    · obtain ⟨b, o, rfl, _, hc⟩ := h.int hlt
      have hi : (k : Int) < (q.length : Int) := by omega
      have HD := Lib.hid (ixFrom_drop q x k hlt)
      by_cases he : x = q[k]
      · have hb : (x == q[k]) = true := by simpa using he
        have HE := Lib.hid he
        clear he
        go_wp2_with fail
        go_ret
        exact ⟨ret_int (by rw [← HX.out, HD.out, if_pos HE.out]), rfl⟩
      · have hb : (x == q[k]) = false := by simpa using he
        have HE := Lib.hid he
        clear he
        go_wp2_with fail
        go_round
        case rel => exact ⟨k + 1, by omega, by go_num, by rw [← HX.out, HD.out, if_neg HE.out]⟩
        case measure => simp [intOf]; omega
    · have hkn : k = q.length := by omega
      have HK := Lib.hid hkn
      clear hkn
      go_wp2
      go_ret
      refine ⟨ret_int ?_, rfl⟩
      rw [← HX.out, HK.out, List.drop_length]
      rfl

/-- What Clone hands back: a list of its own. -/
def RetOwn (w : World) (e0 : TypeId) (n : Nat) (xs : List Value) (e : Ending) (w' : World) : Prop := ∃ v, e = .returned v ∧ w'.ownsRow w.heap.size e0 1 v n xs ∧ Below w.heap.size w w'
theorem clone_any (p : Option Addr) (n c : Nat) (xs : List Value) (w : World) (h : Rd w w.heap.size p xs) (hn : xs.length = n) (hu : ∀ u ∈ xs, u.oneCell' = true) (hl : n ≤ 1000000) :
    Calls Try.prog 29 #[.slice p n c] w (RetOwn w 3 n xs) := by
  rcases p with _ | ad
  · have he := fun w => Lib.run_eql_slice_nil (P := Try.prog) w 40 3 none n c 0 0 Try.underlying40
    have hx : xs = [] := by
      rcases h with h | ⟨b, o, h, _⟩
      · exact h
      · cases h
    subst hx
    simp only [List.length_nil] at hn
    subst hn
    clear h
    go_enter Try.func29, Try.ntmps29
    go_wp2_with fail
    go_ret
    exact ⟨_, rfl, World.ownsRow_nil _ _ _ _, Below.refl _ _⟩
  · have he := fun w => Lib.run_eql_slice_nil (P := Try.prog) w 40 3 (some ad) n c 0 0 Try.underlying40
    have HN := Lib.hid hn
    have HU := Lib.hid hu
    clear hn hu
    go_enter Try.func29, Try.ntmps29
    go_wp2_with (at_builtin; refine wpList_appM rfl (.tmp 5) (.tmp 6) 40 rfl w.heap.size 3 _ 1 8 Try.underlying40 int_info rfl (by omega) _ 0 [] rfl (own_built (Blk.new w 3 []) (Nat.le_refl _) rfl (by unfold maxLen; omega)) w.heap.size (some ad) n c xs rfl (by rw [HN.out, Nat.mul_one]) (h.below ((Below.refl _ _).alloc (Nat.le_refl _) _)) HU.out (by omega) (by omega) (by simp) ?_; intro v' w' hown hbl _ _)
    go_ret
    rw [Nat.zero_add, List.nil_append] at hown
    exact ⟨_, rfl, hown, ((Below.refl _ _).alloc (Nat.le_refl _) _).trans hbl⟩

theorem ints_any (p q : Option Addr) (c d : Nat) (xs ys : List Int) (w : World) (hx : Rd w w.heap.size p (ints xs)) (hy : Rd w w.heap.size q (ints ys)) (hlx : xs.length ≤ 1000000) (hly : ys.length ≤ 1000000) :
    Calls Try.prog 25 #[.slice p xs.length c, .slice q ys.length d] w fun e w' => e = .returned (.bool (decide (xs = ys))) ∧ Below w.heap.size w w' := by
  by_cases hl : xs.length = ys.length
  · have hne : ((xs.length : Int) != (ys.length : Int)) = false := by rw [bne_eq_false_iff_eq]; omega
    have HL := Lib.hid hl
    clear hl
    go_enter Try.func25, Try.ntmps25
    go_wp2
    go_loopw [5] (fun i wr => ∃ k : Nat, k ≤ xs.length ∧ i = .int .i64 k ∧ xs.take k = ys.take k ∧ Below w.heap.size w wr) (fun i _ => xs.length - (intOf i).toNat)
    case atStart => exact ⟨0, Nat.zero_le _, rfl, rfl, Below.refl _ _⟩
    case round =>
      obtain ⟨k, hk, rfl, ht, hb⟩ := hrel
      have HT := Lib.hid ht
      clear ht
      by_cases hlt : k < xs.length
      · have hlt2 : k < ys.length := by rw [← HL.out]; exact hlt
        obtain ⟨b1, o1, rfl, _, h1⟩ := (hx.kept hb).int hlt
        obtain ⟨b2, o2, rfl, _, h2⟩ := (hy.kept hb).int hlt2
        have hi1 : (k : Int) < (xs.length : Int) := by omega
        have hi2 : (k : Int) < (ys.length : Int) := by omega
        by_cases he : xs[k] = ys[k]
        · have hne2 : (xs[k] != ys[k]) = false := by rw [bne_eq_false_iff_eq]; exact he
          have HE := Lib.hid he
          clear he
          go_wp2_with fail
          go_quiet (fail)
          go_wp2
          go_roundw
          case rel => exact ⟨k + 1, by omega, by go_num, by rw [List.take_succ_eq_append_getElem hlt, List.take_succ_eq_append_getElem hlt2, HT.out, HE.out], below_drewN hb _⟩
          case measure => simp [intOf]; omega
        · have hne2 : (xs[k] != ys[k]) = true := by rw [bne_iff_ne]; exact he
          have HE := Lib.hid he
          clear he
          go_wp2_with fail
          go_quiet (fail)
          go_wp2
          go_ret
          exact ⟨ret_bool (by rw [eq_comm, decide_eq_false_iff_not]; intro e; subst e; exact HE.out rfl), below_drewN hb _⟩
      · go_wp2
        go_ret
        refine ⟨ret_bool ?_, hb⟩
        have h1 := HT.out
        have h2 := HL.out
        rw [List.take_of_length_le (by omega), List.take_of_length_le (by omega)] at h1
        simp [h1]
  · have hne : ((xs.length : Int) != (ys.length : Int)) = true := by rw [bne_iff_ne]; omega
    have HL := Lib.hid hl
    clear hl
    go_enter Try.func25, Try.ntmps25
    go_wp2
    go_ret
    exact ⟨ret_bool (by rw [eq_comm, decide_eq_false_iff_not]; intro e; subst e; exact HL.out rfl), Below.refl _ _⟩

/-! ### the locks: only reading -/
section
variable {L : Nat} {S : Nat → Prop} {Q : List (List Int)} {w : World}
theorem none_any (h : LK w L S Q) : Calls Try.prog 30 #[.pointer (some ⟨L, 0, none⟩)] w fun e w' => e = .returned (.bool false) ∧ w = w' := by
  obtain ⟨h0, h1, g, c, vs, hd⟩ := h
  have hc := hd.cell
  have hn : ((Q.length : Int) == 0) = false := by rw [beq_eq_false_iff_ne]; omega
  clear hd
  go_enter Try.func30, Try.ntmps30
  go_wp2_with fail
  go_ret
  exact ⟨rfl, rfl⟩
theorem none_nil (w : World) : Calls Try.prog 30 #[.pointer none] w fun e w' => e = .returned (.bool true) ∧ w = w' := by
  go_enter Try.func30, Try.ntmps30
  go_wp2_with fail
  go_ret
  exact ⟨rfl, rfl⟩
theorem none_zero (L : Nat) (w : World) (h : Blk w L 54 [.slice none 0 0]) : Calls Try.prog 30 #[.pointer (some ⟨L, 0, none⟩)] w fun e w' => e = .returned (.bool true) ∧ w = w' := by
  have hc := h.cell 0
  simp only [List.getElem?_cons_zero] at hc
  go_enter Try.func30, Try.ntmps30
  go_wp2_with fail
  go_ret
  exact ⟨rfl, rfl⟩
theorem stripes_any (h : LK w L S Q) : Calls Try.prog 24 #[.pointer (some ⟨L, 0, none⟩)] w fun e w' => e = .returned (.int .i64 Q.length) ∧ w = w' := by
  have HN := Lib.hid h
  obtain ⟨h0, h1, g, c, vs, hd⟩ := h
  have hc := hd.cell
  clear hd
  go_enter Try.func24, Try.ntmps24
  go_wp2_with fail
  refine (none_any HN.out).mono ?_
  rintro e w' ⟨rfl, rfl⟩
  go_wp2_with fail
  go_ret
  exact ⟨rfl, rfl⟩
theorem check_any (s : Int) (h : LK w L S Q) : Calls Try.prog 33 #[.pointer (some ⟨L, 0, none⟩), .int .i64 s] w fun e w' => e = .returned (.int .i64 (holdE Q s)) ∧ w = w' := by
  have HN := Lib.hid h
  obtain ⟨h0, h1, g, c, vs, hd⟩ := h
  have hc := hd.cell
  clear hd
  by_cases a : 0 ≤ s <;> by_cases b : s < (Q.length : Int)
  all_goals
    have HH := Lib.hid (show holdE Q s = if 0 ≤ s ∧ s < (Q.length : Int) then 0 else 2 by simp [holdE, okS])
    go_enter Try.func33, Try.ntmps33
    go_wp2_with fail
    refine (none_any HN.out).mono ?_
    rintro e w' ⟨rfl, rfl⟩
    go_wp2_with fail
    go_ret
    refine ⟨ret_int ?_, rfl⟩
    rw [HH.out]
    first | rw [if_neg (by omega)] | rw [if_pos ⟨by omega, by omega⟩]
def ownE (Q : List (List Int)) (o s : Int) : Int := if okS Q s = true ∧ okO o = true then 0 else 2
theorem owned_any (o s : Int) (h : LK w L S Q) : Calls Try.prog 27 #[.pointer (some ⟨L, 0, none⟩), .int .i64 o, .int .i64 s] w fun e w' => e = .returned (.int .i64 (ownE Q o s)) ∧ w = w' := by
  by_cases ha : okS Q s = true
  · have h1 : holdE Q s = 0 := by rw [holdE, if_pos ha]
    by_cases a : 1 ≤ o <;> by_cases b : o ≤ 65535
    all_goals
      have HC := Lib.hid (check_any s h)
      rw [h1] at HC
      have HH := Lib.hid (show ownE Q o s = if 1 ≤ o ∧ o ≤ 65535 then 0 else 2 by simp [ownE, ha, okO])
      clear h1 ha
      go_enter Try.func27, Try.ntmps27
      go_wp2_with fail
      refine HC.out.mono ?_
      rintro e w' ⟨rfl, rfl⟩
      go_wp2_with fail
      go_ret
      refine ⟨ret_int ?_, rfl⟩
      rw [HH.out]
      first | rw [if_neg (by omega)] | rw [if_pos ⟨by omega, by omega⟩]
  · have h1 : holdE Q s = 2 := by rw [holdE, if_neg ha]
    have HC := Lib.hid (check_any s h)
    rw [h1] at HC
    have HH := Lib.hid (show ownE Q o s = 2 by simp [ownE, ha])
    clear h1 ha
    go_enter Try.func27, Try.ntmps27
    go_wp2_with fail
    refine HC.out.mono ?_
    rintro e w' ⟨rfl, rfl⟩
    go_wp2_with fail
    go_ret
    exact ⟨ret_int HH.out.symm, rfl⟩
end
end Go.Proofs.Ythjakgjpnijmlaa
