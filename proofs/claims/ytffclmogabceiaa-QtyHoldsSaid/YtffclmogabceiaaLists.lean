/- Lists of marks: their dots, equality, validity; sums. -/
import Derived.Test.YtffclmogabceiaaSets
namespace Go.Proofs.Ytffclmogabceiaa
open Go.RowKit

theorem dot_neq (a b c d : Int) (w : World) : (binOp .neq 23 (.agg #[.int .i64 a, .int .i64 b]) (.agg #[.int .i64 c, .int .i64 d])).run Try.prog w = .ok (.bool (!(a == c && b == d))) w := by
  simp only [binOp]
  simp [Op.equal, Op.maxDepth, run_equalIn_struct, go_sem]
  by_cases h1 : a = c <;> by_cases h2 : b = d <;> simp [h1, h2]

set_option maxHeartbeats 800000 in
theorem sameDots_any (p q : Option Addr) (c d : Nat) (xs ys : List (Int × Int)) (w : World) (hx : Rd w w.heap.size p (dotCells xs)) (hy : Rd w w.heap.size q (dotCells ys)) (hlx : xs.length ≤ 100000) (hly : ys.length ≤ 100000) :
    Calls Try.prog 25 #[.slice p xs.length c, .slice q ys.length d] w fun e w' => e = .returned (.bool (decide (xs = ys))) ∧ Below w.heap.size w w' := by
  by_cases hl : xs.length = ys.length
  · have hne : ((xs.length : Int) != (ys.length : Int)) = false := by rw [bne_eq_false_iff_eq]; omega
    have HL := Lib.hid hl
    clear hl
    have hq := dot_neq
    go_enter Try.func25, Try.ntmps25
    go_wp2
    go_loopw [5] (fun i wr => ∃ k : Nat, k ≤ xs.length ∧ i = .int .i64 k ∧ xs.take k = ys.take k ∧ Below w.heap.size w wr) (fun i _ => xs.length - (intOf i).toNat)
    case atStart => exact ⟨0, Nat.zero_le _, rfl, rfl, Below.refl _ _⟩
    case round =>
      obtain ⟨k, hk, rfl, heq, hb⟩ := hrel
      have HE := Lib.hid heq
      clear heq
      by_cases hlt : k < xs.length
      · have hlt2 : k < ys.length := by have := HL.out; omega
        obtain ⟨b1, o1, rfl, _, hc1, hd1⟩ := (hx.below hb).dot hlt
        obtain ⟨b2, o2, rfl, _, hc2, hd2⟩ := (hy.below hb).dot hlt2
        have hi1 : (k : Int) < (xs.length : Int) := by omega
        have hi2 : (k : Int) < (ys.length : Int) := by omega
        by_cases he : xs[k].1 = ys[k].1
        · by_cases he2 : xs[k].2 = ys[k].2
          · have hn : (xs[k].1 == ys[k].1) = true := by simpa using he
            have hn2 : (xs[k].2 == ys[k].2) = true := by simpa using he2
            have HE' := Lib.hid (show xs[k] = ys[k] from Prod.ext he he2)
            clear he he2
            go_wp2_with fail
            go_quiet (fail)
            go_wp2
            go_roundw
            case rel => exact ⟨k + 1, by omega, by go_num, take_eq_step hlt hlt2 HE.out HE'.out, below_drewN hb _⟩
            case measure => simp [intOf]; omega
          · have hn : (xs[k].2 == ys[k].2) = false := by simpa using he2
            have hn1 : (xs[k].1 == ys[k].1) = true := by simpa using he
            have H2 := Lib.hid he2
            clear he he2
            go_wp2_with fail
            go_quiet (fail)
            go_wp2
            go_ret
            exact ⟨ret_bool (by
              rw [eq_comm, decide_eq_false_iff_not]
              intro e; subst e; exact H2.out rfl), below_drewN hb _⟩
        · have hn : (xs[k].1 == ys[k].1) = false := by simpa using he
          have H2 := Lib.hid he
          clear he
          go_wp2_with fail
          go_quiet (fail)
          go_wp2
          go_ret
          exact ⟨ret_bool (by
            rw [eq_comm, decide_eq_false_iff_not]
            intro e; subst e; exact H2.out rfl), below_drewN hb _⟩
      · go_wp2
        go_ret
        exact ⟨ret_bool (by
            rw [eq_comm, decide_eq_true_eq]
            have h1 := HE.out
            rw [List.take_of_length_le (by omega), List.take_of_length_le (by have := HL.out; omega)] at h1
            exact h1), hb⟩
  · have hne : ((xs.length : Int) != (ys.length : Int)) = true := by rw [bne_iff_ne]; omega
    have HL := Lib.hid hl
    clear hl
    go_enter Try.func25, Try.ntmps25
    go_wp2
    go_ret
    exact ⟨ret_bool (by
      rw [eq_comm, decide_eq_false_iff_not]
      intro e; subst e; exact HL.out rfl), Below.refl _ _⟩

set_option maxHeartbeats 800000 in
theorem sameMarks_any (p q : Option Addr) (c d : Nat) (xs ys : List Mk) (w : World) (hx : Rd w w.heap.size p (mks xs)) (hy : Rd w w.heap.size q (mks ys)) (hlx : xs.length ≤ 100000) (hly : ys.length ≤ 100000) :
    Calls Try.prog 22 #[.slice p xs.length c, .slice q ys.length d] w fun e w' => e = .returned (.bool (decide (xs = ys))) ∧ Below w.heap.size w w' := by
  by_cases hl : xs.length = ys.length
  · have hne : ((xs.length : Int) != (ys.length : Int)) = false := by rw [bne_eq_false_iff_eq]; omega
    have HL := Lib.hid hl
    clear hl
    have hq := mk_neq
    go_enter Try.func22, Try.ntmps22
    go_wp2
    go_loopw [5] (fun i wr => ∃ k : Nat, k ≤ xs.length ∧ i = .int .i64 k ∧ xs.take k = ys.take k ∧ Below w.heap.size w wr) (fun i _ => xs.length - (intOf i).toNat)
    case atStart => exact ⟨0, Nat.zero_le _, rfl, rfl, Below.refl _ _⟩
    case round =>
      obtain ⟨k, hk, rfl, heq, hb⟩ := hrel
      have HE := Lib.hid heq
      clear heq
      by_cases hlt : k < xs.length
      · have hlt2 : k < ys.length := by have := HL.out; omega
        obtain ⟨b1, o1, rfl, _, c10, c11, c12, c13⟩ := (hx.below hb).mk hlt
        obtain ⟨b2, o2, rfl, _, c20, c21, c22, c23⟩ := (hy.below hb).mk hlt2
        have hi1 : (k : Int) < (xs.length : Int) := by omega
        have hi2 : (k : Int) < (ys.length : Int) := by omega
        by_cases he : xs[k] = ys[k]
        · have hn := hq xs[k] ys[k]
          rw [show (!decide (xs[k] = ys[k])) = false by simpa using he] at hn
          have HE' := Lib.hid he
          clear he hq
          go_wp2_with fail
          go_quiet (fail)
          go_wp2
          go_roundw
          case rel => exact ⟨k + 1, by omega, by go_num, take_eq_step hlt hlt2 HE.out HE'.out, below_drewN hb _⟩
          case measure => simp [intOf]; omega
        · have hn := hq xs[k] ys[k]
          rw [show (!decide (xs[k] = ys[k])) = true by simpa using he] at hn
          have H2 := Lib.hid he
          clear he hq
          go_wp2_with fail
          go_quiet (fail)
          go_wp2
          go_ret
          exact ⟨ret_bool (by
            rw [eq_comm, decide_eq_false_iff_not]
            intro e; subst e; exact H2.out rfl), below_drewN hb _⟩
      · go_wp2
        go_ret
        exact ⟨ret_bool (by
            rw [eq_comm, decide_eq_true_eq]
            have h1 := HE.out
            rw [List.take_of_length_le (by omega), List.take_of_length_le (by have := HL.out; omega)] at h1
            exact h1), hb⟩
  · have hne : ((xs.length : Int) != (ys.length : Int)) = true := by rw [bne_iff_ne]; omega
    have HL := Lib.hid hl
    clear hl
    go_enter Try.func22, Try.ntmps22
    go_wp2
    go_ret
    exact ⟨ret_bool (by
      rw [eq_comm, decide_eq_false_iff_not]
      intro e; subst e; exact HL.out rfl), Below.refl _ _⟩

/-- The dots of marks. -/
def dotsOf (l : List Mk) : List (Int × Int) := l.map fun m => (m.r, m.c)
theorem dotsOf_len (l : List Mk) : (dotsOf l).length = l.length := by simp [dotsOf]
theorem dotsOf_take (l : List Mk) (k : Nat) (h : k < l.length) : dotsOf (l.take (k + 1)) = dotsOf (l.take k) ++ [((l[k]).r, (l[k]).c)] := by
  rw [List.take_succ_eq_append_getElem h]; simp only [dotsOf, List.map_append, List.map_cons, List.map_nil]
theorem dot_info : (Try.prog.info? 23).map (fun i => (i.zero, i.size, i.bytes)) = some (some (.agg #[.int .i64 0, .int .i64 0]), 2, 16) := by kernel_rfl

/-- A slice of dots that a call has made. -/
def RetDots (w : World) (xs : List (Int × Int)) (e : Ending) (w' : World) : Prop := ∃ p c, e = .returned (.slice p xs.length c) ∧ Rd w' w'.heap.size p (dotCells xs) ∧ Below w.heap.size w w'
theorem RetDots.of_own {w w' : World} {base : Nat} {v : Value} {n : Nat} {xs : List (Int × Int)} (h : w'.ownsRow base 23 2 v n (dotCells xs)) (hn : n = xs.length) (hb : Below w.heap.size w w') : RetDots w xs (.returned v) w' := by
  obtain ⟨p, c, rfl, _, _, hr, _⟩ := own_form h
  subst hn
  exact ⟨p, c, rfl, hr, hb⟩

set_option maxHeartbeats 1000000 in
theorem refDots_any (p : Option Addr) (c : Nat) (l : List Mk) (w : World) (h : Rd w w.heap.size p (mks l)) (hl : l.length ≤ 1000) :
    Calls Try.prog 27 #[.slice p l.length c] w (RetDots w (dotsOf l)) := by
  go_enter Try.func27, Try.ntmps27
  go_wp2
  go_loopw [3, 4] (fun v i wr => ∃ k : Nat, k ≤ l.length ∧ i = .int .i64 k ∧ wr.ownsRow w.heap.size 23 2 v k (dotCells (dotsOf (l.take k))) ∧ Below w.heap.size w wr) (fun _ i _ => l.length - (intOf i).toNat)
  case atStart => exact ⟨0, Nat.zero_le _, rfl, ⟨rfl, .inl ⟨rfl, rfl⟩⟩, Below.refl _ _⟩
  case round =>
    obtain ⟨k, hk, rfl, hown, hb⟩ := hrel
    by_cases hlt : k < l.length
    · obtain ⟨b, o, rfl, _, c0, c1, c2, c3⟩ := (h.below hb).mk hlt
      have hi : (k : Int) < (l.length : Int) := by omega
      have hsz := hb.size
      go_wp2_with (at_builtin; refine wpList_appS rfl (.tmp 11) (.tmp 17) 48 rfl w.heap.size 23 _ 2 16 Try.underlying48 dot_info rfl (by omega) _ k (dotCells (dotsOf (l.take k))) rfl hown [.int .i64 (l[k]).r, .int .i64 (l[k]).c] rfl (by simp [Value.oneCell']) rfl (by omega) (by omega) hsz ?_; intro v' w' hown' hbl _ _)
      go_roundw
      case rel =>
        refine ⟨k + 1, by omega, by go_num, ?_, hb.trans hbl⟩
        rw [dotsOf_take l k hlt, ← dotCells_snoc]
        exact hown'
      case measure => simp [intOf]; omega
    · go_wp2
      go_ret
      have hkn : k = l.length := by omega
      rw [hkn, List.take_length] at hown
      exact RetDots.of_own hown (dotsOf_len l).symm hb

set_option maxHeartbeats 1000000 in
theorem dots_any (p : Option Addr) (c : Nat) (l : List Mk) (w : World) (h : Rd w w.heap.size p (mks l)) (hl : l.length ≤ 1000) :
    Calls Try.prog 26 #[.slice p l.length c] w (RetDots w (dotsOf l)) := by
  go_enter Try.func26, Try.ntmps26
  go_wp2
  go_loopw [3, 8] (fun v i wr => ∃ k : Nat, k ≤ l.length ∧ i = .int .i64 k ∧ wr.ownsRow w.heap.size 23 2 v k (dotCells (dotsOf (l.take k))) ∧ Below w.heap.size w wr) (fun _ i _ => l.length - (intOf i).toNat)
  case atStart => exact ⟨0, Nat.zero_le _, rfl, ⟨rfl, .inl ⟨rfl, rfl⟩⟩, Below.refl _ _⟩
  case round =>
    obtain ⟨k, hk, rfl, hown, hb⟩ := hrel
    have hsz := hb.size
    by_cases hlt : k < l.length
    · obtain ⟨b, o, rfl, hbo, c0, c1, c2, c3⟩ := (h.kept hb).mk hlt
      have hi : (k : Int) < (l.length : Int) := by omega
      go_upto_region 5 with fail
      generalize hW : (World.alloc _ _) = W
      have hownW : W.ownsRow w.heap.size 23 2 u3 k (dotCells (dotsOf (l.take k))) := by rw [← hW]; exact hown.alloc _
      have hbW : Below w.heap.size w W := by rw [← hW]; exact hb.alloc hsz _
      have hBk : Blk W wr.heap.size 26 (l[k]).cells := by rw [← hW]; exact Blk.new' wr 26 (l[k]).cells rfl
      have d0 := hBk.cell 0
      have d1 := hBk.cell 1
      simp only [Mk.cells, List.getElem?_cons_zero, List.getElem?_cons_succ] at d0 d1
      have hszW := hbW.size
      clear hW hBk
      go_wp2_with (at_builtin; refine wpList_appS rfl (.tmp 12) (.tmp 15) 48 rfl w.heap.size 23 _ 2 16 Try.underlying48 dot_info rfl (by omega) _ k (dotCells (dotsOf (l.take k))) rfl hownW [.int .i64 (l[k]).r, .int .i64 (l[k]).c] rfl (by simp [Value.oneCell']) rfl (by omega) (by omega) hszW ?_; intro v' w' hown' hbl _ _)
      go_roundw
      case rel =>
        refine ⟨k + 1, by omega, by go_num, ?_, hbW.trans hbl⟩
        rw [dotsOf_take l k hlt, ← dotCells_snoc]
        exact hown'
      case measure => simp [intOf]; omega
    · go_wp2
      go_ret
      have hkn : k = l.length := by omega
      rw [hkn, List.take_length] at hown
      exact RetDots.of_own hown (dotsOf_len l).symm hb

theorem isList_any (p : Option Addr) (c : Nat) (l : List Mk) (w : World) (h : Rd w w.heap.size p (mks l)) (hl : l.length ≤ 1000) :
    Calls Try.prog 23 #[.slice p l.length c] w fun e w' => e = .returned (.bool (isSetB (dotsOf l))) ∧ Below w.heap.size w w' := by
  go_enter Try.func23, Try.ntmps23
  go_wp2_with fail
  refine (dots_any p c l w h hl).mono ?_
  rintro e w1 ⟨q, d, rfl, hr, hb⟩
  go_wp2_with fail
  refine (isSet_any q d _ w1 hr (by rw [dotsOf_len]; omega)).mono ?_
  rintro e w2 ⟨rfl, hb2⟩
  go_wp2_with fail
  go_ret
  exact ⟨rfl, below_step hb hb2⟩
theorem refIsList_any (p : Option Addr) (c : Nat) (l : List Mk) (w : World) (h : Rd w w.heap.size p (mks l)) (hl : l.length ≤ 1000) :
    Calls Try.prog 24 #[.slice p l.length c] w fun e w' => e = .returned (.bool (isSetB (dotsOf l))) ∧ Below w.heap.size w w' := by
  go_enter Try.func24, Try.ntmps24
  go_wp2_with fail
  refine (refDots_any p c l w h hl).mono ?_
  rintro e w1 ⟨q, d, rfl, hr, hb⟩
  go_wp2_with fail
  refine (refIsSet_any q d _ w1 hr (by rw [dotsOf_len]; omega)).mono ?_
  rintro e w2 ⟨rfl, hb2⟩
  go_wp2_with fail
  go_ret
  exact ⟨rfl, below_step hb hb2⟩

/-- All are valid. -/
def allV (l : List Mk) : Bool := l.all validM
theorem allV_no {l : List Mk} {k : Nat} (hk : k < l.length) (h : validM l[k] = false) : allV l = false := by
  unfold allV; rw [List.all_eq_false]; exact ⟨l[k], List.getElem_mem hk, by simp [h]⟩
theorem allV_step {l : List Mk} {k : Nat} (hk : k < l.length) (h : allV (l.take k) = true) (hv : validM l[k] = true) : allV (l.take (k + 1)) = true := by
  rw [List.take_succ_eq_append_getElem hk, allV, List.all_append]
  simp [hv, show (l.take k).all validM = true from h]

set_option maxHeartbeats 800000 in
theorem marks_any (p : Option Addr) (c : Nat) (l : List Mk) (w : World) (h : Rd w w.heap.size p (mks l)) (hl : l.length ≤ 1000) (ho : ∀ m ∈ l, m.Ok) :
    Calls Try.prog 17 #[.slice p l.length c] w fun e w' => e = .returned (.bool (allV l)) ∧ Below w.heap.size w w' := by
  go_enter Try.func17, Try.ntmps17
  go_wp2
  go_loopw [3] (fun i wr => ∃ k : Nat, k ≤ l.length ∧ i = .int .i64 k ∧ allV (l.take k) = true ∧ Below w.heap.size w wr) (fun i _ => l.length - (intOf i).toNat)
  case atStart => exact ⟨0, Nat.zero_le _, rfl, rfl, Below.refl _ _⟩
  case round =>
    obtain ⟨k, hk, rfl, hv, hb⟩ := hrel
    have HV := Lib.hid hv
    clear hv
    by_cases hlt : k < l.length
    · obtain ⟨b, o, rfl, _, c0, c1, c2, c3⟩ := (h.below hb).mk hlt
      have hi : (k : Int) < (l.length : Int) := by omega
      have hok := ho l[k] (List.getElem_mem hlt)
      go_wp2_with fail
      refine (refValidMark_any _ _ _ _ wr hok.1).mono ?_
      rintro e w1 ⟨rfl, hb1⟩
      by_cases hval : validM l[k] = true
      · have HL := Lib.hid hval
        rw [show validM ⟨(l[k]).r, (l[k]).c, (l[k]).q, (l[k]).t⟩ = true from hval]
        clear hval
        go_wp2_with fail
        go_roundw
        case rel => exact ⟨k + 1, by omega, by go_num, allV_step hlt HV.out HL.out, below_step hb hb1⟩
        case measure => simp [intOf]; omega
      · have HL := Lib.hid (show validM l[k] = false by simpa using hval)
        rw [show validM ⟨(l[k]).r, (l[k]).c, (l[k]).q, (l[k]).t⟩ = false from HL.out]
        clear hval
        go_wp2_with fail
        go_ret
        exact ⟨ret_bool (allV_no hlt HL.out).symm, below_step hb hb1⟩
    · go_wp2
      go_ret
      refine ⟨ret_bool ?_, hb⟩
      have := HV.out
      rw [List.take_of_length_le (by omega)] at this
      exact this.symm
end Go.Proofs.Ytffclmogabceiaa
