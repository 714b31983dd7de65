/- The law's own helpers: asks, frees, holds. -/
import Derived.Test.YthjakgjpnijmlaaRefUn
namespace Go.Proofs.Ythjakgjpnijmlaa
open Go.RowKit

section
variable {w0 w w' : World} {L : Nat} {S : Nat → Prop} {Q Q' : List (List Int)}
theorem NewW.lock (h : NewW w0 L Q w) (k : ∀ S, LK w L S Q → LockW w w' L S Q') : NewW w0 L Q' w' := by
  obtain ⟨S, h1, h2, h3⟩ := h
  obtain ⟨S', k1, k2, k3, _⟩ := k S h1
  refine ⟨S', k1, Fr.below h2 k2 h3, fun b hb => ?_⟩
  rcases k3 b hb with h | h
  · exact h3 b h
  · have := h2.size; omega
theorem NewW.kept (h : NewW w0 L Q w) (k : Below w.heap.size w w') : NewW w0 L Q w' := by
  obtain ⟨S, h1, h2, h3⟩ := h
  exact ⟨S, h1.kept k, below_step h2 k, h3⟩
theorem NewW.below (h : NewW w0 L Q w) : Below w0.heap.size w0 w := by obtain ⟨_, _, h, _⟩ := h; exact h
theorem NewW.first (h : Below w0.heap.size w0 w) (k : NewW w L Q w') : NewW w0 L Q w' := by
  obtain ⟨S, h1, h2, h3⟩ := k
  have := h.size
  exact ⟨S, h1, below_step h h2, fun b hb => by have := h3 b hb; omega⟩

theorem asks_any (o s : Int) (b : Bool) (e : Int) (h : LK w L S Q) (hs : ∀ q ∈ Q, q.length ≤ 100000) (hB : lockB Q o s = b) (hE : lockE Q o s = e) :
    Calls Try.prog 10 #[.pointer (some ⟨L, 0, none⟩), .int .i64 o, .int .i64 s, .bool b, .int .i64 e] w fun x w' => x = .returned (.bool true) ∧ LockW w w' L S (lockQ Q o s) := by
  have HL := Lib.hid (lock_any o s h hs)
  rw [hB, hE] at HL
  have e1 : (b == b) = true := by simp
  have e2 : (e == e) = true := by simp
  clear hB hE h hs
  go_enter Try.func10, Try.ntmps10
  go_wp2_with fail
  refine HL.out.mono ?_
  rintro x w' ⟨rfl, hW⟩
  go_wp2_with fail
  go_ret
  exact ⟨rfl, hW⟩
theorem frees_any (o s : Int) (n : Int) (e : Int) (h : LK w L S Q) (hs : ∀ q ∈ Q, q.length ≤ 100000) (hB : unN Q o s = n) (hE : unE Q o s = e) :
    Calls Try.prog 12 #[.pointer (some ⟨L, 0, none⟩), .int .i64 o, .int .i64 s, .int .i64 n, .int .i64 e] w fun x w' => x = .returned (.bool true) ∧ LockW w w' L S (unQ Q o s) := by
  have HL := Lib.hid (unlock_any o s h hs)
  rw [hB, hE] at HL
  have e1 : (n == n) = true := by simp
  have e2 : (e == e) = true := by simp
  clear hB hE h hs
  go_enter Try.func12, Try.ntmps12
  go_wp2_with fail
  refine HL.out.mono ?_
  rintro x w' ⟨rfl, hW⟩
  go_wp2_with fail
  go_ret
  exact ⟨rfl, hW⟩
theorem holds_any (s n : Int) (p : Option Addr) (m c : Nat) (xs : List Int) (e : Int) (h : LK w L S Q) (hs : ∀ q ∈ Q, q.length ≤ 100000) (hN : holdN Q s = n) (hE : holdE Q s = e) (hX : waitL Q s = xs) (hr : Rd w w.heap.size p (ints xs)) (hm : m = xs.length) (hl : xs.length ≤ 100000) :
    Calls Try.prog 13 #[.pointer (some ⟨L, 0, none⟩), .int .i64 s, .int .i64 n, .slice p m c, .int .i64 e] w fun x w' => x = .returned (.bool true) ∧ Below w.heap.size w w' := by
  have HH := Lib.hid (holder_any s h)
  have HW := Lib.hid (waiting_any s h hs)
  rw [hN, hE] at HH
  rw [hX, hE] at HW
  have e1 : (n == n) = true := by simp
  have e2 : (e == e) = true := by simp
  clear hN hE hX h hs
  subst hm
  go_enter Try.func13, Try.ntmps13
  go_wp2_with fail
  refine HH.out.mono ?_
  rintro x w' ⟨rfl, rfl⟩
  go_wp2_with fail
  refine HW.out.mono ?_
  rintro x w1 ⟨v, rfl, hown, hb⟩
  obtain ⟨pv, dv, rfl, _, _⟩ := own_shape hown
  have hrv := own_rd hown
  have HI := Lib.hid (ints_any pv p dv c xs xs w1 hrv (hr.kept hb) (by omega) (by omega))
  rw [show decide (xs = xs) = true by simp] at HI
  clear hown hrv
  go_wp2_with fail
  refine HI.out.mono ?_
  rintro x w2 ⟨rfl, hb2⟩
  go_wp2_with fail
  go_ret
  exact ⟨rfl, below_step hb hb2⟩

/-! ### Over locks that are the law's own -/
theorem asksN (o s : Int) (b : Bool) (e : Int) (h : NewW w0 L Q w) (hs : ∀ q ∈ Q, q.length ≤ 100000) (hB : lockB Q o s = b) (hE : lockE Q o s = e) (hQ : lockQ Q o s = Q') :
    Calls Try.prog 10 #[.pointer (some ⟨L, 0, none⟩), .int .i64 o, .int .i64 s, .bool b, .int .i64 e] w fun x w' => x = .returned (.bool true) ∧ NewW w0 L Q' w' := by
  obtain ⟨S, h1, h2, h3⟩ := id h
  refine (asks_any o s b e h1 hs hB hE).mono fun x w' ⟨hx, hW⟩ => ⟨hx, ?_⟩
  rw [hQ] at hW
  obtain ⟨S', k1, k2, k3, _⟩ := hW
  refine ⟨S', k1, Fr.below h2 k2 h3, fun b hb => ?_⟩
  rcases k3 b hb with h | h
  · exact h3 b h
  · have := h2.size; omega
theorem freesN (o s : Int) (n : Int) (e : Int) (h : NewW w0 L Q w) (hs : ∀ q ∈ Q, q.length ≤ 100000) (hB : unN Q o s = n) (hE : unE Q o s = e) (hQ : unQ Q o s = Q') :
    Calls Try.prog 12 #[.pointer (some ⟨L, 0, none⟩), .int .i64 o, .int .i64 s, .int .i64 n, .int .i64 e] w fun x w' => x = .returned (.bool true) ∧ NewW w0 L Q' w' := by
  obtain ⟨S, h1, h2, h3⟩ := id h
  refine (frees_any o s n e h1 hs hB hE).mono fun x w' ⟨hx, hW⟩ => ⟨hx, ?_⟩
  rw [hQ] at hW
  obtain ⟨S', k1, k2, k3, _⟩ := hW
  refine ⟨S', k1, Fr.below h2 k2 h3, fun b hb => ?_⟩
  rcases k3 b hb with h | h
  · exact h3 b h
  · have := h2.size; omega
theorem holdsN (s n : Int) (p : Option Addr) (m c : Nat) (xs : List Int) (e : Int) (h : NewW w0 L Q w) (hs : ∀ q ∈ Q, q.length ≤ 100000) (hN : holdN Q s = n) (hE : holdE Q s = e) (hX : waitL Q s = xs) (hr : Rd w w.heap.size p (ints xs)) (hm : m = xs.length) (hl : xs.length ≤ 100000) :
    Calls Try.prog 13 #[.pointer (some ⟨L, 0, none⟩), .int .i64 s, .int .i64 n, .slice p m c, .int .i64 e] w fun x w' => x = .returned (.bool true) ∧ NewW w0 L Q w' := by
  obtain ⟨S, h1, _⟩ := id h
  exact (holds_any s n p m c xs e h1 hs hN hE hX hr hm hl).mono fun x w' ⟨hx, hb⟩ => ⟨hx, h.kept hb⟩
theorem forN (o v : Int) (h : NewW w0 L Q w) (hs : ∀ q ∈ Q, q.length ≤ 100000) (hv : waitsFor Q o = v) : Calls Try.prog 17 #[.pointer (some ⟨L, 0, none⟩), .int .i64 o] w fun e w' => e = .returned (.int .i64 v) ∧ NewW w0 L Q w' := by
  obtain ⟨S, h1, _⟩ := id h
  exact (for_any o h1 hs).mono fun x w' ⟨hx, hb⟩ => ⟨by rw [hx, hv], h.kept hb⟩
def RetHeld (w0 : World) (L : Nat) (Q : List (List Int)) (xs : List Int) (w : World) (e : Ending) (w' : World) : Prop := ∃ p d, e = .returned (.slice p xs.length d) ∧ Rd w' w'.heap.size p (ints xs) ∧ NewW w0 L Q w' ∧ w'.ownsRow w.heap.size 3 1 (.slice p xs.length d) xs.length (ints xs) ∧ Below w.heap.size w w'
theorem heldN (o : Int) (xs : List Int) (h : NewW w0 L Q w) (hv : held Q o = xs) : Calls Try.prog 16 #[.pointer (some ⟨L, 0, none⟩), .int .i64 o] w (RetHeld w0 L Q xs w) := by
  obtain ⟨S, h1, _⟩ := id h
  refine (held_any o h1).mono fun x w' ⟨v, hx, hown, hb⟩ => ?_
  rw [hv] at hown
  obtain ⟨p, d, rfl, _, _⟩ := own_shape hown
  exact ⟨p, d, hx, own_rd hown, h.kept hb, hown, hb⟩
end
end Go.Proofs.Ythjakgjpnijmlaa
