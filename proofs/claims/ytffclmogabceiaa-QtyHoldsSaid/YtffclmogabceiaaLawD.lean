/- The walk of QtyHolds, for lists of any length. -/
import Derived.Test.YtffclmogabceiaaLawC
namespace Go.Proofs.Ytffclmogabceiaa
open Go.RowKit

set_option maxRecDepth 100000 in
set_option maxHeartbeats 2000000 in
theorem qtyHolds_long (p : Option Addr) (cc n : Nat) (ar ac aq at' br bc bq bt cr cd cq ct : Int) (p2 : Option Addr) (c2 m : Nat) (turn : Int) (w : World) (h : 40 < n ∨ 40 < m) (hn : n ≤ maxLen) (hm : m ≤ maxLen) :
    Calls Try.prog 7 #[.slice p n cc, .agg #[.int .i64 ar, .int .i64 ac, .int .i64 aq, .int .u64 at'], .agg #[.int .i64 br, .int .i64 bc, .int .i64 bq, .int .u64 bt], .agg #[.int .i64 cr, .int .i64 cd, .int .i64 cq, .int .u64 ct], .slice p2 m c2, .int .u8 turn] w
      fun e w' => e = .returned (.bool true) ∧ Below w.heap.size w w' := by
  unfold maxLen at hn hm
  by_cases h1 : 40 < n
  · have hi : (40 : Int) < (n : Int) := by omega
    clear h
    go_enter Try.func7, Try.ntmps7
    go_wp2_with fail
    generalize hW : (World.alloc _ _) = W at *
    have hB : Below w.heap.size w W := by rw [← hW]; exact (((Below.refl _ _).alloc (Nat.le_refl _) _).alloc (by simp) _).alloc (by simp; omega) _
    clear hW
    refine (known_any _).mono ?_
    rintro e w3 ⟨rfl, hb3⟩
    go_wp2_with fail
    go_ret
    exact ⟨rfl, below_step hB hb3⟩
  · have h2 : 40 < m := by omega
    have hi : ¬ (40 : Int) < (n : Int) := by omega
    have hi2 : (40 : Int) < (m : Int) := by omega
    clear h
    go_enter Try.func7, Try.ntmps7
    go_wp2_with fail
    generalize hW : (World.alloc _ _) = W at *
    have hB : Below w.heap.size w W := by rw [← hW]; exact (((Below.refl _ _).alloc (Nat.le_refl _) _).alloc (by simp) _).alloc (by simp; omega) _
    clear hW
    refine (known_any _).mono ?_
    rintro e w3 ⟨rfl, hb3⟩
    go_wp2_with fail
    go_ret
    exact ⟨rfl, below_step hB hb3⟩

theorem qtyHolds_walk (p : Option Addr) (cc : Nat) (l : List Mk) (a b c : Mk) (p2 : Option Addr) (c2 : Nat) (q : List Int) (turn : Int) (w : World)
    (h : Rd w w.heap.size p (mks l)) (ho : ∀ x ∈ l, x.Ok) (hcl : l.length ≤ cc) (h2 : Rd w w.heap.size p2 (ints q)) (hwf : ∀ x ∈ q, (Lit.int .i64 x).wf = true) (hcq : q.length ≤ c2) (hmc : cc ≤ maxLen) (hmq : c2 ≤ maxLen) (ht : (Lit.int .u8 turn).wf = true) :
    Calls Try.prog 7 #[.slice p l.length cc, .agg #[.int .i64 a.r, .int .i64 a.c, .int .i64 a.q, .int .u64 a.t], .agg #[.int .i64 b.r, .int .i64 b.c, .int .i64 b.q, .int .u64 b.t], .agg #[.int .i64 c.r, .int .i64 c.c, .int .i64 c.q, .int .u64 c.t], .slice p2 q.length c2, .int .u8 turn] w
      fun e w' => e = .returned (.bool true) ∧ Below w.heap.size w w' := by
  by_cases hh : 40 < l.length ∨ 40 < q.length
  · exact qtyHolds_long p cc _ a.r a.c a.q a.t b.r b.c b.q b.t c.r c.c c.q c.t p2 c2 _ turn w hh (Nat.le_trans hcl hmc) (Nat.le_trans hcq hmq)
  · have hb := bounds_u8 ht
    exact qtyHolds_core p cc l a.r a.c a.q a.t b.r b.c b.q b.t c.r c.c c.q c.t p2 c2 q turn w h ho (by omega) hcl h2 hwf (by omega) hcq hmc hmq hb.1 hb.2
end Go.Proofs.Ytffclmogabceiaa
