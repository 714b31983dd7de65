/- same: two states that are equal. -/
import Derived.Test.YtdancoblphkakaaInts
import Derived.Deep.QuietTactic
namespace Go.Proofs.Ytdancoblphkakaa
open Go.RowKit

theorem ints_eq (p q : Option Addr) (c d n : Nat) (xs : List Int) (w : World) (hx : Rd w w.heap.size p (ints xs)) (hy : Rd w w.heap.size q (ints xs)) (hn : xs.length = n) (hl : n ≤ 1000) :
    Calls Try.prog 42 #[.slice p n c, .slice q n d] w fun e w' => e = .returned (.bool true) ∧ Below w.heap.size w w' := by
  subst hn
  refine (ints_any p q c d xs xs w hx hy (by omega) (by omega)).mono ?_
  rintro e w' ⟨rfl, hb⟩
  exact ⟨by simp, hb⟩
set_option maxHeartbeats 1000000 in
theorem same_any {w : World} {G : List (List Int)} {D : List Int} (p1 q1 p2 q2 : Option Addr) (c1 d1 c2 d2 n m : Nat) (hG : MR w p1 G) (hD : Rd w w.heap.size q1 (ints D)) (hG2 : MR w p2 G) (hD2 : Rd w w.heap.size q2 (ints D)) (en : G.length = n) (em : D.length = m) (hn : n ≤ 20) (hm : m ≤ 20) (hl : ∀ l ∈ G, l.length ≤ 20) :
    Calls Try.prog 25 #[.agg #[.slice p1 n c1, .slice q1 m d1], .agg #[.slice p2 n c2, .slice q2 m d2]] w fun e w' => e = .returned (.bool true) ∧ Below w.heap.size w w' := by
  have HG := Lib.hid hG
  have HG2 := Lib.hid hG2
  have HD := Lib.hid hD
  have HD2 := Lib.hid hD2
  have HL := Lib.hid hl
  have EN := Lib.hid en
  have EM := Lib.hid em
  have hne : ((n : Int) != (n : Int)) = false := by simp
  clear hG hG2 hD hD2 hl en em
  go_enter Try.func25, Try.ntmps25
  go_wp2_with fail
  generalize hW : (World.alloc _ _) = W
  have hWb : Below w.heap.size w W := by rw [← hW]; exact ((Below.refl _ _).alloc (Nat.le_refl _) _).alloc (by simp) _
  have hB1 : Blk W w.heap.size 25 [.slice p1 n c1, .slice q1 m d1] := by rw [← hW]; exact (Blk.new w 25 _).alloc _
  have hB2 : Blk W (w.heap.size + 1) 25 [.slice p2 n c2, .slice q2 m d2] := by rw [← hW]; exact Blk.new' _ 25 _ (by simp)
  obtain ⟨N, hNe⟩ : ∃ N, w.heap.size = N := ⟨_, rfl⟩
  rw [hNe] at hB1 hB2 ⊢
  have HB1 := Lib.hid hB1
  have HB2 := Lib.hid hB2
  have HWB := Lib.hid hWb
  clear hW hNe hB1 hB2 hWb
  refine (ints_eq q1 q2 d1 d2 m D W (HD.out.kept HWB.out) (HD2.out.kept HWB.out) EM.out (by omega)).mono ?_
  rintro e w1 ⟨rfl, hb1⟩
  go_wp2_with fail
  go_loopw [5] (fun i wr => ∃ k : Nat, k ≤ n ∧ i = .int .i64 k ∧ Below W.heap.size W wr) (fun i _ => n - (intOf i).toNat)
  case atStart => exact ⟨0, Nat.zero_le _, rfl, hb1⟩
  case round =>
    clear hb1
    obtain ⟨k, hk, rfl, hb⟩ := hrel
    have c0 := (HB1.out.kept hb).cell 0
    have e0 := (HB2.out.kept hb).cell 0
    by_cases hlt : k < n
    · have hki : (k : Int) < (n : Int) := by omega
      have hkG : k < G.length := by rw [EN.out]; exact hlt
      have hbw := below_step HWB.out hb
      obtain ⟨b, o, q, c, rfl, lb, y1, r1⟩ := (HG.out.kept hbw).at_ hkG
      obtain ⟨b', o', q', c', rfl, lb', y2, r2⟩ := (HG2.out.kept hbw).at_ hkG
      have hlk := HL.out _ (List.getElem_mem hkG)
      obtain ⟨x, hx⟩ : ∃ x, G[k] = x := ⟨_, rfl⟩
      rw [hx] at y1 y2 r1 r2 hlk
      have lN := (HB1.out.kept hb).lt
      have lN2 := (HB2.out.kept hb).lt
      have g0 := fun g => Gr.at_ lN c0 g
      have g1 := fun g => Gr.at_ lN2 e0 g
      have g2 := fun g => Gr.at_ lb y1 g
      have g3 := fun g => Gr.at_ lb' y2 g
      clear hx hbw
      go_wp2_with fail
      refine wp_region_grows (by kernel_rfl) (by kernel_rfl) ?_
      repeat (go_big_quiet_step ((go_at_call 42; exact Calls.gr _ (ints_eq q q' c c' x.length x _ (Gr.rd r1 _) (Gr.rd r2 _) rfl (by omega)))))
      refine wpQuiet_nil ?_
      rintro _ ⟨g, rfl⟩
      have hb2 := below_step hb g.h
      generalize g.w = w2 at hb2 ⊢
      clear g0 g1 g2 g3 g y1 y2 r1 r2 c0 e0
      go_wp2_with fail
      go_roundw
      case rel => exact ⟨k + 1, by omega, by go_num, hb2⟩
      case measure => simp [intOf]; omega
    · have hki : ¬ (k : Int) < (n : Int) := by omega
      have HF := Lib.hid (below_step HWB.out hb)
      go_wp2_with fail
      go_ret
      exact ⟨rfl, HF.out⟩
end Go.Proofs.Ytdancoblphkakaa
