/- The reference's Peek. -/
import Derived.Test.YtloomdanpnkbmaaDots
import Derived.StillTailTactics
namespace Go.Proofs.Ytloomdanpnkbmaa
open Go.RowKit

theorem dotz_info : (Try.prog.info? 30).map (fun i => (i.zero, i.size, i.bytes)) = some (some (.agg #[.int .i64 0, .int .i64 0]), 2, 16) := by kernel_rfl
theorem run_step (r l : Int) (k : Nat) : run r l (k + 1) = run r l k ++ [(r, l + 1 + (k : Int))] := by simp [run, List.range_succ]

set_option maxHeartbeats 1000000 in
theorem refPeek_yes (c : Nat) (t : TypeId) (r l : Int) (n : Nat) (w : World) (h : Cnt w c t r l) (hl : 0 ≤ l) (hm : l ≤ 4294967295) (hn : n ≤ 4096) (hln : (n : Int) ≤ 4294967295 - l) :
    Calls Try.prog 22 #[.pointer (some ⟨c, 0, none⟩), .int .i64 n] w (RetDots w (run r l n) 0) := by
  have hlt := h.lt
  go_enter Try.func22, Try.ntmps22
  go_wp2_with (go_at_call 28; refine (refLeft_any c t r l _ h hl hm).mono ?_; rintro e w' ⟨rfl, rfl⟩)
  go_loopw [6, 7] (fun v i wr => ∃ k : Nat, k ≤ n ∧ i = .int .i64 ((k : Int) + 1) ∧ wr.ownsRow w.heap.size 30 2 v k (dotCells (run r l k)) ∧ Below w.heap.size w wr) (fun _ i _ => n + 1 - (intOf i).toNat)
  case atStart => exact ⟨0, Nat.zero_le _, rfl, World.ownsRow_nil _ _ _ _, Below.refl _ _⟩
  case round =>
    obtain ⟨k, hk, rfl, hown, hb⟩ := hrel
    by_cases hlt2 : k < n
    · have h0 := (h.below hb hlt).at0
      have h1 := (h.below hb hlt).at1
      have hi : (k : Int) + 1 ≤ (n : Int) := by omega
      have hsz := hb.size
      go_wp2_with fail
      have hw : IntKind.i64.wrap (l + ((k : Int) + 1)) = l + ((k : Int) + 1) := IntWalk.i64_in _ (by omega)
      go_region_held3 (fun w' => w'.cell? ⟨c, 0, none⟩ = some (.int .i64 r) ∧ w'.cell? ⟨c, 1, none⟩ = some (.int .i64 l)) (first | (exact ⟨(h.below ((hb.alloc hsz _).drew.trans hb2) hlt).at0, (h.below ((hb.alloc hsz _).drew.trans hb2) hlt).at1⟩) | (go_keep; done)) ((refine step_appS (by rfl) (.tmp 23) (.tmp 35) 41 (by rfl) w.heap.size 30 (.agg #[.int .i64 0, .int .i64 0]) 2 16 Try.underlying41 dotz_info rfl (by omega) _ k _ (by rfl) (by exact hown.alloc _) wr.heap.size [.int .i64 r, .int .i64 (l + ((k : Int) + 1))] rfl (by exact Blk.new' wr 30 _ rfl) (by intro u hu; simp at hu; rcases hu with rfl | rfl <;> rfl) (by rfl) (by omega) (by omega) (by simp; omega) ?_; intro v2 w2 hown2 hb2 _ _))
      clear hw
      go_wp2
      go_roundw
      case rel =>
        refine ⟨k + 1, by omega, by go_num, ?_, (hb.alloc hsz _).drew.trans hb2⟩
        rw [run_step, ← dotCells_snoc]
        have e : l + 1 + (k : Int) = l + ((k : Int) + 1) := by omega
        rw [e]
        exact hown2
      case measure => simp [intOf]; omega
    · go_wp2
      go_ret2
      refine ⟨_, rfl, ?_, hb⟩
      have hkn : k = n := by omega
      subst hkn
      obtain ⟨p, d, hv, h1, h2, h3, h4⟩ := own_form hown
      exact ⟨p, d, by rw [run_len]; exact hv, by rw [run_len]; exact h1, h2, h3, h4⟩

set_option maxHeartbeats 400000 in
theorem refPeek_no (c : Nat) (t : TypeId) (r l n : Int) (w : World) (h : Cnt w c t r l) (hl : 0 ≤ l) (hm : l ≤ 4294967295) (hn : n < 0 ∨ 4096 < n ∨ 4294967295 - l < n) :
    Calls Try.prog 22 #[.pointer (some ⟨c, 0, none⟩), .int .i64 n] w fun e w' => e = .returned (.tuple #[.slice none 0 0, .int .i64 (peekErr l n)]) ∧ w = w' := by
  by_cases c1 : n < 0
  · rw [show peekErr l n = 2 from by simp [peekErr, c1]]
    clear hn
    go_enter Try.func22, Try.ntmps22
    go_wp2
    go_ret2
    exact ⟨rfl, rfl⟩
  · by_cases c2 : 4096 < n
    · rw [show peekErr l n = 2 from by simp [peekErr, c2]]
      clear hn
      go_enter Try.func22, Try.ntmps22
      go_wp2
      go_ret2
      exact ⟨rfl, rfl⟩
    · have c3 : 4294967295 - l < n := by omega
      rw [show peekErr l n = 15 from by simp [peekErr, c1, c2, c3]]
      clear hn
      go_enter Try.func22, Try.ntmps22
      go_wp2_with (go_at_call 28; refine (refLeft_any c t r l _ h hl hm).mono ?_; rintro e w' ⟨rfl, rfl⟩)
      go_ret2
      exact ⟨rfl, rfl⟩
theorem refPeek_any (c : Nat) (t : TypeId) (r l n : Int) (w : World) (h : Cnt w c t r l) (hl : 0 ≤ l) (hm : l ≤ 4294967295) :
    Calls Try.prog 22 #[.pointer (some ⟨c, 0, none⟩), .int .i64 n] w (RetDots w (peekDots r l n) (peekErr l n)) := by
  by_cases hn : n < 0 ∨ 4096 < n ∨ 4294967295 - l < n
  · have e : peekDots r l n = [] := by
      unfold peekDots
      by_cases h1 : n < 0 ∨ 4096 < n
      · rw [if_pos h1]
      · rw [if_neg h1, if_pos (by omega)]
    rw [e]
    exact (refPeek_no c t r l n w h hl hm hn).mono fun e w' ⟨h1, h2⟩ => ⟨_, h1, ⟨none, 0, rfl, Nat.le_refl _, Nat.zero_le _, .inl rfl, by simp⟩, by subst h2; exact Below.refl _ _⟩
  · have h1 : ¬ (n < 0 ∨ 4096 < n) := by omega
    rw [peekDots, if_neg h1, if_neg (by omega), peekErr, if_neg h1, if_neg (by omega)]
    obtain ⟨m, rfl⟩ := Int.eq_ofNat_of_zero_le (show 0 ≤ n by omega)
    rw [Int.toNat_natCast]
    exact refPeek_yes c t r l m w h hl hm (by omega) (by omega)
end Go.Proofs.Ytloomdanpnkbmaa
