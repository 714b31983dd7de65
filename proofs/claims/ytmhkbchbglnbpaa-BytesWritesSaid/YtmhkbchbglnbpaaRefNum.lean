/- The reference's Number and String; the law's number, first, nines. -/
import Derived.Test.YtmhkbchbglnbpaaWriter2
import Derived.Lib.AppendStr
namespace Go.Proofs.Ytmhkbchbglnbpaa
open Go.RowKit

set_option maxRecDepth 100000 in
theorem refNumber_any : ∀ (n : Nat) (w : World), n < 18446744073709551616 → Calls Try.prog 8 #[.int .u64 n] w (RetBs w (numB n)) := by
  intro n
  induction n using Nat.strongRecOn with
  | ind n ih =>
    intro w hn
    by_cases h : n < 128
    · have hm : ((n : Int) % 256) = n := by omega
      have hni : (n : Int) < 128 := by omega
      rw [numB_lo h]
      clear ih hn h
      go_enter Try.func8, Try.ntmps8
      go_wp2_with fail
      go_ret
      refine ⟨_, rfl, own_built (n := 1) (size := 1) (us := [.int .u8 (n : Int)]) (Blk.new w 5 [.int .u8 (n : Int)]) (Nat.le_refl _) rfl (by unfold maxLen; omega), (Below.refl _ _).alloc (Nat.le_refl _) _⟩
    · have hni : decide (n < 128) = false := by simpa using h
      rw [numB_hi h]
      have HI := Lib.hid fun w => ih (n / 128) (by omega) w (by omega)
      have H9 := Lib.hid (numB_10 (n := n / 128) (by omega))
      rw [show ((n / 128 : Nat) : Int) = (n : Int) / 128 by omega] at HI
      have hwr : IntKind.u64.wrap ((n : Int) / 128) = (n : Int) / 128 := wraps_u64 _ (by omega) (by omega)
      have hmod : ((n % 128 + 128 : Nat) : Int) = (n : Int) % 128 + 128 := by omega
      rw [hmod]
      clear ih hn hmod
      go_enter Try.func8, Try.ntmps8
      go_wp2_with fail
      refine (HI.out _).mono ?_
      rintro e w1 ⟨v, rfl, hown, hb⟩
      obtain ⟨q, d, rfl, _⟩ := own_form hown
      have hr := own_rd hown
      have hB : Below w.heap.size w w1 := ((Below.refl _ _).alloc (Nat.le_refl _) _).trans (hb.mono (by simp))
      have ho1 : w1.ownsRow w.heap.size 5 1 (.slice (some ⟨w.heap.size, 0, none⟩) 1 1) 1 [.int .u8 ((n : Int) % 128 + 128)] := own_built (size := 1) ((Blk.new w 5 [.int .u8 ((n : Int) % 128 + 128)]).kept hb) (Nat.le_refl _) rfl (by unfold maxLen; omega)
      have h9 := H9.out
      clear hown hb
      go_wp2_with (at_builtin; refine wpList_appM rfl (.tmp 12) (.tmp 15) 23 rfl w.heap.size 5 _ 1 1 Try.underlying23 u8_info rfl (by omega) _ 1 _ rfl ho1 w1.heap.size q (numB (n / 128)).length d (bys (numB (n / 128))) rfl (by rw [bys_len, Nat.mul_one]) hr (bys_one _) (by omega) (by omega) hB.size ?_; intro v2 w2 hown2 hb2 _ _)
      go_ret
      refine ⟨_, rfl, ?_, hB.trans hb2⟩
      rw [List.length_cons, Nat.add_comm]
      exact hown2

theorem refString_any (s : ByteArray) (w : World) (hs : s.size ≤ 1000) : Calls Try.prog 27 #[.string s] w (RetBs w (numB s.size ++ strB s)) := by
  obtain ⟨i, hi, h1, h2, h3⟩ := info_parts u8_info
  have HL := Lib.hid (strB_len s)
  have HC := Lib.hid (show Lib.strCells s = bys (strB s) by simp [Lib.strCells, bys, strB])
  have h10 := numB_10 (n := s.size) (by omega)
  have HR := Lib.hid (refNumber_any s.size w (by omega))
  have hwr : IntKind.u64.wrap (s.size : Int) = s.size := wraps_u64 _ (by omega) (by omega)
  have HS := Lib.hid hs
  go_enter Try.func27, Try.ntmps27
  go_wp2_with fail
  refine HR.out.mono ?_
  rintro e w1 ⟨v, rfl, hown, hb⟩
  clear hwr
  go_wp2_with (at_builtin; refine Lib.wpList_append_own_string _ rfl (.tmp 6) (.tmp 7) 23 9 rfl w.heap.size 5 i Try.underlying23 (by kernel_rfl) hi h1 h2 h3 _ _ _ rfl hown s rfl (by unfold maxLen; omega) (by omega) hb.size ?_; intro v2 w2 hown2 hg2 _)
  go_ret
  refine ⟨_, rfl, ?_, ?_⟩
  · rw [bys_app, ← HC.out, List.length_append, HL.out]
    exact hown2
  · exact hb.grown hg2 hb.size (fun k hk => (own_lt hown k hk).1)
end Go.Proofs.Ytmhkbchbglnbpaa
