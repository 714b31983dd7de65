/- What reads a reader: zero, At, rest, Left, End. -/
import Derived.Test.YtmhkbchbglnbpaaNumber
import Derived.BigQuiet
namespace Go.Proofs.Ytmhkbchbglnbpaa
open Go.RowKit

/-- A part of a slice of bytes. -/
def cutP (p : Option Addr) (l m : Nat) : Option Addr := if m = l then p else p.map (·.add (l * 1))
theorem cut_rd {w : World} {B : Nat} {p : Option Addr} {xs : List Int} (h : Rd w B p (bys xs)) (l k m : Nat) (hk : k ≤ m) : Rd w B (cutP p l m) (bys ((xs.take k).drop l)) := by
  by_cases hm : m = l
  · refine .inl ?_
    have : (xs.take k).drop l = [] := by
      apply List.drop_eq_nil_of_le
      simp; omega
    rw [this]; rfl
  · rw [cutP, if_neg hm]
    rcases h with hx | ⟨b, o, rfl, hb, hc⟩
    · refine .inl ?_
      have : xs = [] := by simpa [bys] using hx
      subst this; simp [bys]
    · refine .inr ⟨b, o + l, ?_, hb, ?_⟩
      · rw [Nat.mul_one]
        simp only [Option.map_some, Addr.add_lit]
      · intro j u hu
        have h2 : (bys xs)[l + j]? = some u := by
          simp only [bys, List.getElem?_map, List.getElem?_drop, List.getElem?_take] at hu ⊢
          split at hu
          · exact hu
          · cases hu
        rw [show o + l + j = o + (l + j) by omega]
        exact hc (l + j) u h2
theorem cut_block {p : Option Addr} {l m : Nat} {a : Addr} (h : cutP p l m = some a) : ∃ a', p = some a' ∧ a'.block = a.block := by
  unfold cutP at h
  split at h
  · exact ⟨a, h, rfl⟩
  · rcases p with _ | p
    · cases h
    · refine ⟨p, rfl, ?_⟩
      simp only [Option.map_some, Option.some.injEq] at h
      subst h
      unfold Addr.add
      split <;> rfl
theorem run_cut_l (t : TypeId) (ht : Try.prog.underlying t = some (.slice (Try.prog.elem t))) (hs : ∀ w, (sizeOf (Try.prog.elem t)).run Try.prog w = .ok 1 w) (p : Option Addr) (n c k : Nat) (hk : k ≤ n) (w : World) :
    (Instr.sliceAt t (.slice p n c) (some (.int .i64 k)) none none).run Try.prog w = .ok (.slice (cutP p k c) (n - k) (c - k)) w := by
  rw [run_sliceAt_slice w t _ _ _ _ ht, run_slice_l w t p n c ht .i64 k (by omega) (by omega), hs]
  simp [Result.andThen, sliced, cutP]
theorem run_cut_h (t : TypeId) (ht : Try.prog.underlying t = some (.slice (Try.prog.elem t))) (hs : ∀ w, (sizeOf (Try.prog.elem t)).run Try.prog w = .ok 1 w) (p : Option Addr) (n c : Nat) (kd : IntKind) (k : Nat) (hk : k ≤ c) (w : World) :
    (Instr.sliceAt t (.slice p n c) none (some (.int kd k)) none).run Try.prog w = .ok (.slice (cutP p 0 c) k c) w := by
  rw [run_sliceAt_slice w t _ _ _ _ ht, run_slice_h w t p n c ht kd k (by omega) (by omega), hs]
  simp [Result.andThen, sliced, cutP]
theorem size23 (w : World) : (sizeOf (Try.prog.elem 23)).run Try.prog w = .ok 1 w := by kernel_rfl
theorem cut23_l (p : Option Addr) (n c k : Nat) (hk : k ≤ n) (w : World) : (Instr.sliceAt 23 (.slice p n c) (some (.int .i64 k)) none none).run Try.prog w = .ok (.slice (cutP p k c) (n - k) (c - k)) w :=
  run_cut_l 23 (by kernel_rfl) size23 p n c k hk w
theorem cut23_h (p : Option Addr) (n c : Nat) (kd : IntKind) (k : Nat) (hk : k ≤ c) (w : World) : (Instr.sliceAt 23 (.slice p n c) none (some (.int kd k)) none).run Try.prog w = .ok (.slice (cutP p 0 c) k c) w :=
  run_cut_h 23 (by kernel_rfl) size23 p n c kd k hk w

section
variable {w : World} {R c k : Nat} {p : Option Addr} {l : List Int}
theorem zero_any (h : RS w R p c l k) : Calls Try.prog 34 #[.pointer (some ⟨R, 0, none⟩)] w fun e w' => e = .returned (.bool false) ∧ w = w' := by
  have h0 : w.cell? ⟨R, 0, none⟩ = some (.bool true) := h.blk.cell 0
  clear h
  go_enter Try.func34, Try.ntmps34
  go_wp2_with fail
  go_ret
  exact ⟨rfl, rfl⟩
theorem at_any (h : RS w R p c l k) : Calls Try.prog 25 #[.pointer (some ⟨R, 0, none⟩)] w fun e w' => e = .returned (.int .i64 k) ∧ w = w' := by
  have h0 : w.cell? ⟨R, 2, none⟩ = some (.int .i64 k) := h.blk.cell 2
  go_enter Try.func25, Try.ntmps25
  go_wp2_with fail
  refine (zero_any h).mono ?_
  rintro e w1 ⟨rfl, rfl⟩
  clear h
  go_wp2_with fail
  go_ret
  exact ⟨rfl, rfl⟩
theorem rest_any (h : RS w R p c l k) : Calls Try.prog 37 #[.pointer (some ⟨R, 0, none⟩)] w fun e w' => e = .returned (.slice (cutP p k c) (l.length - k) (c - k)) ∧ Below w.heap.size w w' := by
  have h1 : w.cell? ⟨R, 1, none⟩ = some (.slice p l.length c) := h.blk.cell 1
  have h2 : w.cell? ⟨R, 2, none⟩ = some (.int .i64 k) := h.blk.cell 2
  have hs := cut23_l p l.length c k h.le
  clear h
  obtain ⟨n, hn⟩ : ∃ n, l.length = n := ⟨_, rfl⟩
  rw [hn] at h1 hs ⊢
  clear hn
  go_enter Try.func37, Try.ntmps37
  go_wp2_with fail
  go_quiet (fail)
  go_wp2_with fail
  go_ret
  exact ⟨rfl, below_drewN (Below.refl _ _) _⟩
theorem left_any (h : RS w R p c l k) : Calls Try.prog 21 #[.pointer (some ⟨R, 0, none⟩)] w fun e w' => e = .returned (.int .i64 ((l.length - k : Nat) : Int)) ∧ Below w.heap.size w w' := by
  go_enter Try.func21, Try.ntmps21
  go_wp2_with fail
  refine (zero_any h).mono ?_
  rintro e w1 ⟨rfl, rfl⟩
  go_wp2_with fail
  refine (rest_any h).mono ?_
  rintro e w1 ⟨rfl, hb⟩
  clear h
  go_wp2_with fail
  go_ret
  exact ⟨rfl, hb⟩
theorem end_any (h : RS w R p c l k) : Calls Try.prog 13 #[.pointer (some ⟨R, 0, none⟩)] w fun e w' => e = .returned (.int .i64 (if l.length - k = 0 then 0 else 12)) ∧ Below w.heap.size w w' := by
  have HL := Lib.hid (left_any h)
  obtain ⟨m, hm⟩ : ∃ m, l.length - k = m := ⟨_, rfl⟩
  rw [hm] at HL ⊢
  clear hm
  by_cases h0 : m = 0
  · subst h0
    go_enter Try.func13, Try.ntmps13
    go_wp2_with fail
    refine (zero_any h).mono ?_
    rintro e w1 ⟨rfl, rfl⟩
    go_wp2_with fail
    refine HL.out.mono ?_
    rintro e w1 ⟨rfl, hb⟩
    clear h
    go_wp2_with fail
    go_ret
    exact ⟨rfl, hb⟩
  · have h1 : (0 : Int) < (m : Int) := by omega
    rw [if_neg h0]
    go_enter Try.func13, Try.ntmps13
    go_wp2_with fail
    refine (zero_any h).mono ?_
    rintro e w1 ⟨rfl, rfl⟩
    go_wp2_with fail
    refine HL.out.mono ?_
    rintro e w1 ⟨rfl, hb⟩
    clear h
    go_wp2_with fail
    go_ret
    exact ⟨rfl, hb⟩
theorem copy_any (h : RS w R p c l k) : Calls Try.prog 30 #[.pointer (some ⟨R, 0, none⟩)] w fun e w' => ∃ X, e = .returned (.pointer (some ⟨X, 0, none⟩)) ∧ RS w' X p c l k ∧ w.heap.size ≤ X ∧ Below w.heap.size w w' := by
  have h1 := h.blk.cell 0
  have h2 := h.blk.cell 1
  have h3 := h.blk.cell 2
  have HH := Lib.hid h
  go_enter Try.func30, Try.ntmps30
  go_wp2_with fail
  refine (zero_any h).mono ?_
  rintro e w1 ⟨rfl, rfl⟩
  clear h
  simp only [List.getElem?_cons_zero, List.getElem?_cons_succ] at h1 h2 h3
  go_wp2_with fail
  go_ret
  refine ⟨w.heap.size, rfl, ?_, Nat.le_refl _, (Below.refl _ _).alloc (Nat.le_refl _) _⟩
  have H := HH.out
  refine ⟨Blk.new _ _ _, H.rd.kept ((Below.refl _ _).alloc (Nat.le_refl _) _), ?_, H.le, H.cap, H.big, H.bs, ?_⟩
  · intro a ha
    have := H.lt a ha
    omega
  · intro a ha
    have := H.lt a ha
    simp; omega

/-- What a call may change of a reader. -/
def RStep (w w' : World) (R : Nat) (p : Option Addr) (c : Nat) (l : List Int) (k : Nat) : Prop := RS w' R p c l k ∧ Fr (fun b => b = R) w w'
theorem RStep.of_below {w' : World} (h : RS w R p c l k) (hb : Below w.heap.size w w') : RStep w w' R p c l k := ⟨h.kept hb, Fr.of_below hb _⟩
theorem RStep.trans {w1 w2 : World} {j : Nat} (h : RStep w w1 R p c l k) (h2 : RStep w1 w2 R p c l j) : RStep w w2 R p c l j := ⟨h2.1, h.2.trans h2.2 fun _ h => .inl h⟩
theorem RStep.then_ {w1 w2 : World} (h : RStep w w1 R p c l k) (hb : Below w1.heap.size w1 w2) : RStep w w2 R p c l k := ⟨h.1.kept hb, h.2.step hb⟩
theorem RStep.first {w1 w2 : World} (hb : Below w.heap.size w w1) (h : RStep w1 w2 R p c l k) : RStep w w2 R p c l k := ⟨h.1, Fr.first hb h.2⟩
theorem RStep.set_ {w1 : World} (h : RStep w w1 R p c l k) {j : Nat} (hj : j ≤ l.length) : RStep w (w1.setCell ⟨R, 2, none⟩ (.int .i64 j)) R p c l j := ⟨h.1.set_ hj, h.2.set _ _ (.inl rfl)⟩
/-- A copy goes on, or another reader of the same bytes. -/
theorem RS.other {w' : World} {X j : Nat} (h : RS w X p c l j) (hX : X ≠ R) (hf : Fr (fun b => b = R) w w') (hR : ∀ a, p = some a → a.block ≠ R) : RS w' X p c l j :=
  ⟨h.blk.fr hf hX, h.rd.fr hf hR, h.ne, h.le, h.cap, h.big, h.bs, fun a ha => Nat.lt_of_lt_of_le (h.lt a ha) hf.size⟩

theorem take_long (n : Nat) (h : RS w R p c l k) (hn : l.length - k < n) (hn2 : n < 18446744073709551616) : Calls Try.prog 42 #[.pointer (some ⟨R, 0, none⟩), .int .u64 n] w fun e w' => e = .returned (.tuple #[.slice none 0 0, .int .i64 4]) ∧ RStep w w' R p c l k := by
  have HR := Lib.hid (rest_any h)
  have hbig := h.big
  obtain ⟨m, hm⟩ : ∃ m, l.length - k = m := ⟨_, rfl⟩
  have hm2 : m ≤ 1000000 := by omega
  rw [hm] at HR hn
  have hni : (m : Int) < (n : Int) := by omega
  have HH := Lib.hid h
  clear hm h hbig
  go_enter Try.func42, Try.ntmps42
  go_wp2_with fail
  refine HR.out.mono ?_
  rintro e w1 ⟨rfl, hb⟩
  go_wp2_with fail
  go_ret2
  exact ⟨rfl, RStep.of_below HH.out hb⟩
theorem take_ok (n : Nat) (h : RS w R p c l k) (hn : n ≤ l.length - k) : Calls Try.prog 42 #[.pointer (some ⟨R, 0, none⟩), .int .u64 n] w fun e w' => ∃ v, e = .returned (.tuple #[v, .int .i64 0]) ∧ w'.ownsRow w.heap.size 5 1 v n (bys ((l.drop k).take n)) ∧ RStep w w' R p c l (k + n) := by
  have HR := Lib.hid (rest_any h)
  have HR2 := Lib.hid fun (w : World) (h : RS w R p c l k) => rest_any h
  have hbig := h.big
  have hle := h.le
  have hcap := h.cap
  have hc2 : ∀ w : World, RS w R p c l k → w.cell? ⟨R, 2, none⟩ = some (.int .i64 k) := fun w h => h.blk.cell 2
  have hf2 : ∀ w : World, RS w R p c l k → w.frozen? ⟨R, 2, none⟩ = false := fun w h => h.blk.free 2
  have hsl := fun w => cut23_h (cutP p k c) (l.length - k) (c - k) .u64 n (by omega) w
  have HCl := Lib.hid fun (w : World) (h : RS w R p c l k) => (by
    have h1 := cut_rd (cut_rd h.rd k l.length c hcap) 0 n (c - k) (by omega)
    have e : (((l.take l.length).drop k).take n).drop 0 = (l.drop k).take n := by simp
    rw [e] at h1
    have h2 := clone_any _ (c - k) ((l.drop k).take n) w h1 (by simp; omega)
    rw [show ((l.drop k).take n).length = n by simp; omega] at h2
    exact h2 : Calls Try.prog 33 #[.slice (cutP (cutP p k c) 0 (c - k)) n (c - k)] w (RetBs w ((l.drop k).take n)))
  have HN := Lib.hid (show ((l.drop k).take n).length = n by simp; omega)
  have HK : k + n ≤ l.length := by omega
  have HK3 : (k : Int) + (n : Int) ≤ 1000000 := by omega
  obtain ⟨m, hm⟩ : ∃ m, l.length - k = m := ⟨_, rfl⟩
  have hm2 : m ≤ 1000000 := by omega
  rw [hm] at HR hn HR2 hsl
  have hni : decide ((m : Int) < (n : Int)) = false := by simp; omega
  have hnj : decide (m < n) = false := by simp; omega
  have HH := Lib.hid h
  have HKK := Lib.hid HK
  clear hm h hbig HK hle hcap
  go_enter Try.func42, Try.ntmps42
  go_wp2_with fail
  refine HR.out.mono ?_
  rintro e w1 ⟨rfl, hb⟩
  have HH1 := Lib.hid (HH.out.kept hb)
  go_wp2_with fail
  refine (HR2.out w1 HH1.out).mono ?_
  rintro e w2 ⟨rfl, hb2⟩
  have HH2 := Lib.hid (HH1.out.kept hb2)
  go_wp2_with fail
  refine (HCl.out w2 HH2.out).mono ?_
  rintro e w3 ⟨v, rfl, hown, hb3⟩
  have HH3 := Lib.hid (HH2.out.kept hb3)
  have hc3 := hc2 _ HH3.out
  have hf3 := hf2 _ HH3.out
  go_wp2_with fail
  go_ret2
  have hb12 := below_step hb hb2
  refine ⟨v, rfl, ?_, ?_⟩
  · have hlen := HN.out
    rw [hlen] at hown
    have hR := HH2.out.blk.lt
    refine own_mono (own_fr hown (S := fun b => b = R) ((Fr.refl _ _).set _ _ (.inl rfl)) ?_) hb12.size
    intro b hb hbR
    have := (own_lt hown b hb).1
    omega
  · have h4 := RStep.then_ (RStep.of_below HH.out hb12) hb3
    have h5 := h4.set_ (j := k + n) HKK.out
    rw [Int.natCast_add] at h5
    exact h5
end
end Go.Proofs.Ytmhkbchbglnbpaa
