/- The walks of LocksNew and LocksNil: each returns true. -/
import Derived.Test.YthjakgjpnijmlaaAlike
import Derived.Test.YthjakgjpnijmlaaDead
import Derived.Test.YthjakgjpnijmlaaKnown
namespace Go.Proofs.Ythjakgjpnijmlaa
open Go.RowKit

theorem heads_new (n : Nat) : heads (List.replicate n []) = List.replicate n 0 := by simp [heads]
theorem tails_new (n : Nat) : tails (List.replicate n []) = List.replicate n [] := by simp [tails]
theorem small_new (n : Nat) : ∀ q ∈ List.replicate n ([] : List Int), q.length ≤ 100000 := by
  intro q hq; rw [(List.mem_replicate.1 hq).2]; simp

set_option maxRecDepth 100000 in
set_option maxHeartbeats 1000000 in
theorem locksNew_core (n : Nat) (w : World) (h1 : 1 ≤ n) (h2 : n ≤ 1024) (h3 : n ≤ 100 ∨ 1020 ≤ n) : Calls Try.prog 5 #[.int .i64 n] w fun e w' => e = .returned (.bool true) ∧ Below w.heap.size w w' := by
  have i1 : (1 : Int) ≤ (n : Int) := by omega
  have i2 : (n : Int) ≤ 1024 := by omega
  by_cases h4 : n ≤ 100
  · have i3 : (n : Int) ≤ 100 := by omega
    clear h3
    go_enter Try.func5, Try.ntmps5
    go_wp2_with fail
    refine (new_yes n _ h1 h2).mono ?_
    rintro e w1 ⟨L, rfl, hN⟩
    go_wp2_with fail
    refine (refNew_any n _ h2).mono ?_
    rintro e w2 ⟨X, rfl, U, hX, hb, hU⟩
    have hN2 := hN.kept hb
    obtain ⟨S, hL, hbL, hS⟩ := hN2
    replace hX : RX w2 X U (heads (List.replicate n [])) (tails (List.replicate n [])) := by rw [heads_new, tails_new]; exact hX
    clear hb
    go_wp2_with fail
    refine (alike_any 2 hL hX (J_new n).inv (small_new n) (by omega)).mono ?_
    rintro e w3 ⟨rfl, hb3⟩
    go_wp2_with fail
    refine (known_any _).mono ?_
    rintro e w4 ⟨rfl, hb4⟩
    go_wp2_with fail
    go_ret
    exact ⟨rfl, below_step (below_step hbL hb3) hb4⟩
  · have i3 : (1020 : Int) ≤ (n : Int) := by omega
    clear h3 h4
    go_enter Try.func5, Try.ntmps5
    go_wp2_with fail
    refine (new_yes n _ h1 h2).mono ?_
    rintro e w1 ⟨L, rfl, hN⟩
    go_wp2_with fail
    refine (refNew_any n _ h2).mono ?_
    rintro e w2 ⟨X, rfl, U, hX, hb, hU⟩
    have hN2 := hN.kept hb
    obtain ⟨S, hL, hbL, hS⟩ := hN2
    replace hX : RX w2 X U (heads (List.replicate n [])) (tails (List.replicate n [])) := by rw [heads_new, tails_new]; exact hX
    clear hb
    go_wp2_with fail
    refine (alike_any 2 hL hX (J_new n).inv (small_new n) (by omega)).mono ?_
    rintro e w3 ⟨rfl, hb3⟩
    go_wp2_with fail
    refine (known_any _).mono ?_
    rintro e w4 ⟨rfl, hb4⟩
    go_wp2_with fail
    go_ret
    exact ⟨rfl, below_step (below_step hbL hb3) hb4⟩
set_option maxHeartbeats 1000000 in
theorem locksNew_walk (s : Int) (w : World) : Calls Try.prog 5 #[.int .i64 s] w fun e w' => e = .returned (.bool true) ∧ Below w.heap.size w w' := by
  by_cases hm : 100 < s ∧ s < 1020
  · obtain ⟨h1, h2⟩ := hm
    go_enter Try.func5, Try.ntmps5
    go_wp2_with fail
    refine (known_any _).mono ?_
    rintro e w3 ⟨rfl, hb3⟩
    go_wp2_with fail
    go_ret
    exact ⟨rfl, hb3⟩
  · by_cases hv : 1 ≤ s ∧ s ≤ 1024
    · obtain ⟨n, rfl⟩ : ∃ n : Nat, s = (n : Int) := ⟨s.toNat, by omega⟩
      exact locksNew_core n w (by omega) (by omega) (by omega)
    · have HV := Lib.hid hv
      by_cases h1 : s < 1
      · have h2 : ¬ (100 < s) := by omega
        clear hm hv
        go_enter Try.func5, Try.ntmps5
        go_wp2_with fail
        refine (new_no s _ HV.out).mono ?_
        rintro e w' ⟨rfl, rfl⟩
        go_wp2_with fail
        refine (known_any _).mono ?_
        rintro e w3 ⟨rfl, hb3⟩
        go_wp2_with fail
        go_ret
        exact ⟨rfl, hb3⟩
      · have h2 : 1024 < s := by omega
        clear hm hv h1
        go_enter Try.func5, Try.ntmps5
        go_wp2_with fail
        refine (new_no s _ HV.out).mono ?_
        rintro e w' ⟨rfl, rfl⟩
        go_wp2_with fail
        refine (known_any _).mono ?_
        rintro e w3 ⟨rfl, hb3⟩
        go_wp2_with fail
        go_ret
        exact ⟨rfl, hb3⟩

/-! ### Nil and zero locks -/
/-- A nil pointer, or a pointer to zero locks. -/
def Nil (w : World) (p : Option Addr) : Prop := p = none ∨ ∃ z, p = some ⟨z, 0, none⟩ ∧ Blk w z 54 [.slice none 0 0]
theorem Nil.kept {w w' : World} {p : Option Addr} (h : Nil w p) (hb : Below w.heap.size w w') : Nil w' p := by
  rcases h with h | ⟨z, h, hC⟩
  · exact .inl h
  · exact .inr ⟨z, h, hC.kept hb⟩
section
variable {w : World} {p : Option Addr}
theorem nil_none (h : Nil w p) : Calls Try.prog 30 #[.pointer p] w fun e w' => e = .returned (.bool true) ∧ w = w' := by
  rcases h with rfl | ⟨z, rfl, hC⟩
  · exact none_nil w
  · exact none_zero z w hC
theorem nil_check (s : Int) (h : Nil w p) : Calls Try.prog 33 #[.pointer p, .int .i64 s] w fun e w' => e = .returned (.int .i64 1) ∧ w = w' := by
  go_enter Try.func33, Try.ntmps33
  go_wp2_with (go_at_call 30; refine (nil_none h).mono ?_; rintro e w' ⟨rfl, rfl⟩)
  go_ret
  exact ⟨rfl, rfl⟩
theorem nil_owned (o s : Int) (h : Nil w p) : Calls Try.prog 27 #[.pointer p, .int .i64 o, .int .i64 s] w fun e w' => e = .returned (.int .i64 1) ∧ w = w' := by
  go_enter Try.func27, Try.ntmps27
  go_wp2_with (go_at_call 33; refine (nil_check s h).mono ?_; rintro e w' ⟨rfl, rfl⟩)
  go_ret
  exact ⟨rfl, rfl⟩
theorem nil_lock (o s : Int) (h : Nil w p) : Calls Try.prog 14 #[.pointer p, .int .i64 o, .int .i64 s] w fun e w' => e = .returned (.tuple #[.bool false, .int .i64 1]) ∧ w = w' := by
  go_enter Try.func14, Try.ntmps14
  go_wp2_with (go_at_call 27; refine (nil_owned o s h).mono ?_; rintro e w' ⟨rfl, rfl⟩)
  go_ret2
  exact ⟨rfl, rfl⟩
theorem nil_unlock (o s : Int) (h : Nil w p) : Calls Try.prog 15 #[.pointer p, .int .i64 o, .int .i64 s] w fun e w' => e = .returned (.tuple #[.int .i64 0, .int .i64 1]) ∧ w = w' := by
  go_enter Try.func15, Try.ntmps15
  go_wp2_with (go_at_call 27; refine (nil_owned o s h).mono ?_; rintro e w' ⟨rfl, rfl⟩)
  go_ret2
  exact ⟨rfl, rfl⟩
theorem nil_holder (s : Int) (h : Nil w p) : Calls Try.prog 18 #[.pointer p, .int .i64 s] w fun e w' => e = .returned (.tuple #[.int .i64 0, .int .i64 1]) ∧ w = w' := by
  go_enter Try.func18, Try.ntmps18
  go_wp2_with (go_at_call 33; refine (nil_check s h).mono ?_; rintro e w' ⟨rfl, rfl⟩)
  go_ret2
  exact ⟨rfl, rfl⟩
theorem nil_waiting (s : Int) (h : Nil w p) : Calls Try.prog 26 #[.pointer p, .int .i64 s] w fun e w' => e = .returned (.tuple #[.slice none 0 0, .int .i64 1]) ∧ w = w' := by
  go_enter Try.func26, Try.ntmps26
  go_wp2_with (go_at_call 33; refine (nil_check s h).mono ?_; rintro e w' ⟨rfl, rfl⟩)
  go_ret2
  exact ⟨rfl, rfl⟩
theorem nil_held (o : Int) (h : Nil w p) : Calls Try.prog 16 #[.pointer p, .int .i64 o] w fun e w' => e = .returned (.slice none 0 0) ∧ w = w' := by
  go_enter Try.func16, Try.ntmps16
  go_wp2_with (go_at_call 30; refine (nil_none h).mono ?_; rintro e w' ⟨rfl, rfl⟩)
  go_ret
  exact ⟨rfl, rfl⟩
theorem nil_for (o : Int) (h : Nil w p) : Calls Try.prog 17 #[.pointer p, .int .i64 o] w fun e w' => e = .returned (.int .i64 (-1)) ∧ Below w.heap.size w w' := by
  have hA : Below w.heap.size w (w.alloc (.cells #[.int .i64 o] 3)) := (Below.refl _ _).alloc (Nat.le_refl _) _
  have h2 := Lib.hid (h.kept hA)
  go_enter Try.func17, Try.ntmps17
  go_wp2_with (go_at_call 30; refine (nil_none h2.out).mono ?_; rintro e w' ⟨rfl, rfl⟩)
  go_ret
  exact ⟨rfl, hA⟩
theorem nil_stripes (h : Nil w p) : Calls Try.prog 24 #[.pointer p] w fun e w' => e = .returned (.int .i64 0) ∧ w = w' := by
  go_enter Try.func24, Try.ntmps24
  go_wp2_with (go_at_call 30; refine (nil_none h).mono ?_; rintro e w' ⟨rfl, rfl⟩)
  go_ret
  exact ⟨rfl, rfl⟩
theorem nil_copy (h : Nil w p) : Calls Try.prog 23 #[.pointer p] w fun e w' => e = .returned (.pointer none) ∧ w = w' := by
  go_enter Try.func23, Try.ntmps23
  go_wp2_with (go_at_call 30; refine (nil_none h).mono ?_; rintro e w' ⟨rfl, rfl⟩)
  go_ret
  exact ⟨rfl, rfl⟩
theorem nil_asks (o s : Int) (h : Nil w p) : Calls Try.prog 10 #[.pointer p, .int .i64 o, .int .i64 s, .bool false, .int .i64 1] w fun e w' => e = .returned (.bool true) ∧ w = w' := by
  go_enter Try.func10, Try.ntmps10
  go_wp2_with fail
  refine (nil_lock o s h).mono ?_
  rintro e w' ⟨rfl, rfl⟩
  go_wp2_with fail
  go_ret
  exact ⟨rfl, rfl⟩
theorem nil_frees (o s : Int) (h : Nil w p) : Calls Try.prog 12 #[.pointer p, .int .i64 o, .int .i64 s, .int .i64 0, .int .i64 1] w fun e w' => e = .returned (.bool true) ∧ w = w' := by
  go_enter Try.func12, Try.ntmps12
  go_wp2_with fail
  refine (nil_unlock o s h).mono ?_
  rintro e w' ⟨rfl, rfl⟩
  go_wp2_with fail
  go_ret
  exact ⟨rfl, rfl⟩
theorem nil_holds (s : Int) (h : Nil w p) : Calls Try.prog 13 #[.pointer p, .int .i64 s, .int .i64 0, .slice none 0 0, .int .i64 1] w fun e w' => e = .returned (.bool true) ∧ Below w.heap.size w w' := by
  go_enter Try.func13, Try.ntmps13
  go_wp2_with fail
  refine (nil_holder s h).mono ?_
  rintro e w' ⟨rfl, rfl⟩
  go_wp2_with fail
  refine (nil_waiting s h).mono ?_
  rintro e w' ⟨rfl, rfl⟩
  go_wp2_with fail
  refine (ints_any none none 0 0 [] [] _ (Rd.nil _ _ _) (Rd.nil _ _ _) (by decide) (by decide)).mono ?_
  rintro e w1 ⟨rfl, hb⟩
  go_wp2_with fail
  go_ret
  exact ⟨rfl, hb⟩
end
/-- The k-th of the two pointers. -/
def two (z : Nat) : List Value := [.pointer none, .pointer (some ⟨z, 0, none⟩)]
def twoAt (z k : Nat) : Option Addr := if k = 0 then none else some ⟨z, 0, none⟩
set_option maxHeartbeats 2000000 in
theorem locksNil_walk (o s : Int) (w : World) : Calls Try.prog 7 #[.int .i64 o, .int .i64 s] w fun e w' => e = .returned (.bool true) ∧ Below w.heap.size w w' := by
  go_enter Try.func7, Try.ntmps7
  go_wp2_with fail
  generalize hW : (World.alloc _ _) = W
  have hZ : Blk W w.heap.size 54 [.slice none 0 0] := by rw [← hW]; exact (Blk.new' w 54 _ rfl).alloc _
  have hS : Blk W (w.heap.size + 1) 24 (two w.heap.size) := by rw [← hW]; exact Blk.new' (w.alloc _) 24 (two w.heap.size) (by simp)
  have hb : Below w.heap.size w W := by rw [← hW]; exact ((Below.refl _ _).alloc (Nat.le_refl _) _).alloc (by simp) _
  clear hW
  obtain ⟨z, hz⟩ : ∃ z, w.heap.size = z := ⟨_, rfl⟩
  have HZ := Lib.hid hz
  rw [hz] at hZ hS ⊢
  clear hz
  go_loopw [11] (fun i wr => ∃ k : Nat, k ≤ 2 ∧ i = .int .i64 k ∧ Blk wr z 54 [.slice none 0 0] ∧ Blk wr (z + 1) 24 (two z) ∧ Below w.heap.size w wr) (fun i _ => 2 - (intOf i).toNat)
  case atStart => exact ⟨0, Nat.zero_le _, rfl, hZ, hS, hb⟩
  case round =>
    clear hZ hS hb
    obtain ⟨k, hk, rfl, hZ, hS, hb⟩ := hrel
    by_cases hlt : k < 2
    · have hcell : wr.cell? ⟨z + 1, k, none⟩ = some (.pointer (twoAt z k)) := by
        rw [hS.cell]
        match k, hlt with
        | 0, _ => rfl
        | 1, _ => rfl
      have hnil : Nil wr (twoAt z k) := by
        match k, hlt with
        | 0, _ => exact .inl rfl
        | 1, _ => exact .inr ⟨z, rfl, hZ⟩
      have hki : (k : Int) < 2 := by omega
      generalize twoAt z k = p at hcell hnil
      go_wp2_with fail
      refine (nil_asks o s hnil).mono ?_
      rintro e w' ⟨rfl, rfl⟩
      go_wp2_with fail
      refine (nil_frees o s hnil).mono ?_
      rintro e w' ⟨rfl, rfl⟩
      go_wp2_with fail
      refine (nil_holds s hnil).mono ?_
      rintro e w1 ⟨rfl, hb1⟩
      have hnil1 := hnil.kept hb1
      go_wp2_with fail
      refine (nil_held o hnil1).mono ?_
      rintro e w' ⟨rfl, rfl⟩
      go_wp2_with fail
      refine (nil_for o hnil1).mono ?_
      rintro e w2 ⟨rfl, hb2⟩
      have hnil2 := hnil1.kept hb2
      go_wp2_with fail
      refine (nil_stripes hnil2).mono ?_
      rintro e w' ⟨rfl, rfl⟩
      go_wp2_with fail
      refine (nil_copy hnil2).mono ?_
      rintro e w' ⟨rfl, rfl⟩
      have hZ2 := (hZ.kept hb1).kept hb2
      have hS2 := (hS.kept hb1).kept hb2
      have hbb := below_step (below_step hb hb1) hb2
      clear hcell hZ hS hb hb1 hb2 hnil hnil1 hnil2
      go_wp2_with fail
      go_roundw
      case rel => exact ⟨k + 1, by omega, by go_num, hZ2, hS2, hbb⟩
      case measure => simp [intOf]; omega
    · have hki : ¬ (k : Int) < 2 := by omega
      clear hZ hS
      go_wp2_with fail
      refine (known_any _).mono ?_
      rintro e w3 ⟨rfl, hb3⟩
      go_wp2_with fail
      go_ret
      exact ⟨rfl, below_step hb hb3⟩
end Go.Proofs.Ythjakgjpnijmlaa
