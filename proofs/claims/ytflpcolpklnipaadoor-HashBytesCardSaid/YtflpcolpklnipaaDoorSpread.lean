/- What Spread and the reference's return. -/
import Derived.Test.YtflpcolpklnipaaDoorStripes
import Derived.Test.YtflpcolpklnipaaDoorOpen
namespace Go.Proofs.YtflpcolpklnipaaDoor
open Go.RowKit

theorem int_info : (Tryd.prog.info? 3).map (fun i => (i.zero, i.size, i.bytes)) = some (some (.int .i64 0), 1, 8) := by kernel_rfl

/-- A list of keys that is small enough for all counters. -/
structure Keys (ss : List ByteArray) : Prop where
  many : ss.length ≤ 1000
  each : ∀ (k : Nat) (h : k < ss.length), (ss[k]'h).size ≤ 100000

def stripeN (N : Nat) (s : ByteArray) : Nat := f32 s.data.toList % N
theorem stripeN_eq (N : Nat) (s : ByteArray) : stripeOf s (N : Int) = ((stripeN N s : Nat) : Int) := by simp [stripeOf, stripeN]
def spreadOf (N : Nat) (ss : List ByteArray) : List Int := cntIs N (ss.map (stripeN N))
theorem spreadOf_len (N : Nat) (ss : List ByteArray) : (spreadOf N ss).length = N := cntIs_len _ _
def spreadTo (N : Nat) (ss : List ByteArray) (k : Nat) : List Int := cntIs N ((ss.take k).map (stripeN N))
theorem spreadTo_len (N : Nat) (ss : List ByteArray) (k : Nat) : (spreadTo N ss k).length = N := cntIs_len _ _
theorem spreadTo_step (N : Nat) (ss : List ByteArray) (k : Nat) (h : k < ss.length) : spreadTo N ss (k + 1) = bump (spreadTo N ss k) (stripeN N ss[k]) := by
  rw [spreadTo, List.take_succ_eq_append_getElem h, List.map_append, List.map_cons, List.map_nil, cntIs_snoc, spreadTo]
theorem spreadTo_all (N : Nat) (ss : List ByteArray) (k : Nat) (h : ss.length ≤ k) : spreadTo N ss k = spreadOf N ss := by rw [spreadTo, List.take_of_length_le h, spreadOf]
theorem spreadTo_bd (N : Nat) (ss : List ByteArray) (k : Nat) (i : Nat) (h : i < (spreadTo N ss k).length) : 0 ≤ (spreadTo N ss k)[i] ∧ (spreadTo N ss k)[i] ≤ ss.length := by
  have := cntIs_bd N ((ss.take k).map (stripeN N)) _ (List.getElem_mem h)
  simp at this
  omega
theorem bump_at (l : List Int) (i : Nat) (h : i < l.length) : bump l i = l.set i (l[i] + 1) := by
  rw [bump, List.getD_eq_getElem?_getD, List.getElem?_eq_getElem h, Option.getD_some]

set_option maxHeartbeats 400000 in
theorem spread_no (p : Option Addr) (n c : Nat) (m : Int) (w : World) (h : okN m = false) :
    Calls Tryd.prog 21 #[.slice p n c, .int .i64 m] w fun e w' => e = .returned (.tuple #[.slice none 0 0, .int .i64 2]) ∧ w = w' := by
  go_enter Tryd.func21, Tryd.ntmps21
  go_wp2_with (go_at_call 22; refine (stripe_no _ _ _ h).mono ?_; rintro e w' ⟨rfl, rfl⟩)
  go_ret2
  exact ⟨rfl, rfl⟩

set_option maxHeartbeats 400000 in
theorem spread_yes (p : Option Addr) (c : Nat) (ss : List ByteArray) (N : Nat) (w : World) (ht : Tabs w) (hr : Rd w w.heap.size p (strs ss)) (hK : Keys ss) (h1 : 1 ≤ N) (h2 : N ≤ 1024) :
    Calls Tryd.prog 21 #[.slice p ss.length c, .int .i64 N] w (RetInts w (spreadOf N ss) 0) := by
  have hmany := hK.many
  have hN1 : (1 : Int) ≤ (N : Int) := by omega
  have hN2 : (N : Int) ≤ 1024 := by omega
  have hmk := run_mk (P := Tryd.prog) 36 3 (.int .i64 0) 8 Tryd.underlying36 int_info rfl .i64 .i64 (N : Int) (by omega) (by omega) (by omega)
  rw [Int.toNat_natCast] at hmk
  go_enter Tryd.func21, Tryd.ntmps21
  go_wp2_with fail
  refine (stripe_yes ⟨#[]⟩ _ _ ht (by decide) hN1 hN2).mono ?_
  rintro e w1 ⟨rfl, hb1⟩
  go_wp2_with fail
  generalize hW : (World.alloc _ _) = W
  have hblk : Blk W w1.heap.size 3 (ints (spreadTo N ss 0)) := by
    rw [← hW]
    have : ints (spreadTo N ss 0) = List.replicate N (.int .i64 0) := by simp [spreadTo, cntIs, ints]
    rw [this]
    exact Blk.new w1 3 _
  have hbW : Below w.heap.size w W := by rw [← hW]; exact hb1.alloc hb1.size _
  have hg := hb1.size
  clear hW hmk
  generalize w1.heap.size = g at *
  clear hb1
  go_loopw [25] (fun i wr => ∃ k : Nat, k ≤ ss.length ∧ i = .int .i64 k ∧ Blk wr g 3 (ints (spreadTo N ss k)) ∧ Below w.heap.size w wr) (fun i _ => ss.length - (intOf i).toNat)
  case atStart => exact ⟨0, Nat.zero_le _, rfl, hblk, hbW⟩
  case round =>
    obtain ⟨k, hk, rfl, hblk, hb⟩ := hrel
    clear hbW
    by_cases hlt : k < ss.length
    · obtain ⟨b, o, rfl, _, hc⟩ := (hr.below hb).str hlt
      have hi : (k : Int) < (ss.length : Int) := by omega
      have hsz := hK.each k hlt
      go_wp2_with fail
      refine (stripe_yes ss[k] _ _ (ht.below hb) hsz hN1 hN2).mono ?_
      rintro e w2 ⟨rfl, hb2⟩
      rw [stripeN_eq]
      have hst : stripeN N ss[k] < N := Nat.mod_lt _ (by omega)
      have hl : stripeN N ss[k] < (spreadTo N ss k).length := by rw [spreadTo_len]; exact hst
      have hblk2 := hblk.kept hb2
      have hcell := hblk2.cell (stripeN N ss[k])
      rw [ints_at _ _ hl] at hcell
      have hfree := hblk2.free (stripeN N ss[k])
      have hbd1 := (spreadTo_bd N ss k _ hl).1
      have hbd2 := (spreadTo_bd N ss k _ hl).2
      have hsx : (stripeN N ss[k] : Int) < (N : Int) := by omega
      have hB := Lib.hid (hblk2.set_ (stripeN N ss[k]) (.int .i64 ((spreadTo N ss k)[stripeN N ss[k]] + 1)))
      have hS := Lib.hid (spreadTo_step N ss k hlt)
      clear hblk hblk2
      generalize hI : stripeN N ss[k] = I at *
      generalize hX : (spreadTo N ss k)[I] = X at *
      have HI := Lib.hid hI
      have HX := Lib.hid hX
      clear hI hX
      go_wp2
      go_roundw
      case rel =>
        refine ⟨k + 1, by omega, by go_num, ?_, ?_⟩
        · rw [hS.out, bump_at _ _ hl, HX.out, ← ints_set]
          exact hB.out
        · exact (hb.trans (hb2.mono hb.size)).setCell hg _
      case measure => simp [intOf]; omega
    · go_wp2
      go_ret2
      refine ⟨_, rfl, ?_, hb⟩
      rw [← spreadTo_all N ss k (by omega)]
      exact NewInts.of_blk hblk hg _ (by rw [spreadTo_len]) (by unfold maxLen; omega)

set_option maxHeartbeats 400000 in
theorem refSpread_any (p : Option Addr) (c : Nat) (ss : List ByteArray) (N : Nat) (w : World) (hr : Rd w w.heap.size p (strs ss)) (hK : Keys ss) (h1 : 1 ≤ N) (h2 : N ≤ 1024) :
    Calls Tryd.prog 20 #[.slice p ss.length c, .int .i64 N] w (RetInts1 w (spreadOf N ss)) := by
  have hmany := hK.many
  have hN1 : (1 : Int) ≤ (N : Int) := by omega
  have hN2 : (N : Int) ≤ 1024 := by omega
  have hmk := run_mk (P := Tryd.prog) 36 3 (.int .i64 0) 8 Tryd.underlying36 int_info rfl .i64 .i64 (N : Int) (by omega) (by omega) (by omega)
  rw [Int.toNat_natCast] at hmk
  go_enter Tryd.func20, Tryd.ntmps20
  go_wp2_with fail
  generalize hW : (World.alloc _ _) = W
  have hblk : Blk W w.heap.size 3 (ints (spreadTo N ss 0)) := by
    rw [← hW]
    have : ints (spreadTo N ss 0) = List.replicate N (.int .i64 0) := by simp [spreadTo, cntIs, ints]
    rw [this]
    exact Blk.new w 3 _
  have hbW : Below w.heap.size w W := by rw [← hW]; exact (Below.refl _ _).alloc (Nat.le_refl _) _
  clear hW hmk
  go_loopw [6] (fun i wr => ∃ k : Nat, k ≤ ss.length ∧ i = .int .i64 k ∧ Blk wr w.heap.size 3 (ints (spreadTo N ss k)) ∧ Below w.heap.size w wr) (fun i _ => ss.length - (intOf i).toNat)
  case atStart => exact ⟨0, Nat.zero_le _, rfl, hblk, hbW⟩
  case round =>
    obtain ⟨k, hk, rfl, hblk, hb⟩ := hrel
    clear hbW
    by_cases hlt : k < ss.length
    · obtain ⟨b, o, rfl, _, hc⟩ := (hr.below hb).str hlt
      have hi : (k : Int) < (ss.length : Int) := by omega
      have hsz := hK.each k hlt
      go_wp2_with fail
      refine (refStripe_any ss[k] _ _ hsz hN1 hN2).mono ?_
      rintro e w2 ⟨rfl, rfl⟩
      rw [stripeN_eq]
      have hst : stripeN N ss[k] < N := Nat.mod_lt _ (by omega)
      have hl : stripeN N ss[k] < (spreadTo N ss k).length := by rw [spreadTo_len]; exact hst
      have hcell := hblk.cell (stripeN N ss[k])
      rw [ints_at _ _ hl] at hcell
      have hfree := hblk.free (stripeN N ss[k])
      have hbd1 := (spreadTo_bd N ss k _ hl).1
      have hbd2 := (spreadTo_bd N ss k _ hl).2
      have hsx : (stripeN N ss[k] : Int) < (N : Int) := by omega
      have hB := Lib.hid (hblk.set_ (stripeN N ss[k]) (.int .i64 ((spreadTo N ss k)[stripeN N ss[k]] + 1)))
      have hS := Lib.hid (spreadTo_step N ss k hlt)
      clear hblk
      generalize hI : stripeN N ss[k] = I at *
      generalize hX : (spreadTo N ss k)[I] = X at *
      have HI := Lib.hid hI
      have HX := Lib.hid hX
      clear hI hX
      go_wp2
      go_roundw
      case rel =>
        refine ⟨k + 1, by omega, by go_num, ?_, ?_⟩
        · rw [hS.out, bump_at _ _ hl, HX.out, ← ints_set]
          exact hB.out
        · exact hb.setCell (Nat.le_refl _) _
      case measure => simp [intOf]; omega
    · go_wp2
      go_ret
      refine ⟨_, rfl, ?_, hb⟩
      rw [← spreadTo_all N ss k (by omega)]
      exact NewInts.of_blk hblk (Nat.le_refl _) _ (by rw [spreadTo_len]) (by unfold maxLen; omega)

end Go.Proofs.YtflpcolpklnipaaDoor
