/- number, Clone, Size. -/
import Derived.Test.YtmhkbchbglnbpaaWords
import Derived.IntWalk
namespace Go.Proofs.Ytmhkbchbglnbpaa
open Go.RowKit

theorem or128_fin : ∀ x : Fin 256, bits .or .u8 ((x.val : Nat) : Int) 128 = ((x.val % 128 + 128 : Nat) : Int) := by decide +kernel
theorem or128 (k : Nat) : bits .or .u8 ((k : Int) % 256) 128 = ((k % 128 + 128 : Nat) : Int) := by
  have := or128_fin ⟨k % 256, Nat.mod_lt _ (by decide)⟩
  simp only at this
  rw [show ((k : Int) % 256) = ((k % 256 : Nat) : Int) by omega, this]
  congr 2
  omega

set_option maxRecDepth 100000 in
theorem number_any (n : Nat) (w : World) (hn : n < 18446744073709551616) : Calls Try.prog 32 #[.int .u64 n] w (RetBs w (numB n)) := by
  have HN := Lib.hid hn
  clear hn
  go_enter Try.func32, Try.ntmps32
  go_wp2_with fail
  go_loopw [0, 3] (fun m v wr => ∃ (k : Nat) (pre : List Int), k ≤ n ∧ m = .int .u64 k ∧ pre ++ numB k = numB n ∧ wr.ownsRow w.heap.size 5 1 v pre.length (bys pre) ∧ Below w.heap.size w wr) (fun m _ _ => (intOf m).toNat)
  case atStart => exact ⟨n, [], Nat.le_refl _, rfl, rfl, World.ownsRow_nil _ _ _ _, Below.refl _ _⟩
  case round =>
    obtain ⟨k, pre, hk, rfl, hp, hown, hb⟩ := hrel
    have HP := Lib.hid hp
    have HK := Lib.hid hk
    have hlen : pre.length ≤ 9 := by
      have h1 := congrArg List.length hp
      have h2 := numB_10 (n := n) HN.out
      have h3 := numB_len_pos k
      rw [List.length_append] at h1
      omega
    clear hp hk
    by_cases hlt : k < 128
    · have hki : decide (128 ≤ k) = false := by simpa using hlt
      go_upto_region 5 with fail
      go_wp2_with (at_builtin; refine wpList_app1 rfl (.tmp 14) (.tmp 17) 23 rfl w.heap.size 5 _ 1 Try.underlying23 u8_info rfl _ pre.length (bys pre) rfl hown _ rfl rfl ?_ ?_ hb.size ?_; rotate_left 2; intro v2 w2 hown2 hb2 _ _)
      · go_ret
        have hpe := HP.out
        rw [numB_lo hlt] at hpe
        refine ⟨_, rfl, ?_, hb.trans hb2⟩
        rw [← hpe, bys_app]
        simpa [bys] using hown2
      · simp; omega
      · simp; omega
    · have hki : decide (128 ≤ k) = true := by simpa using hlt
      go_wp2_with (at_builtin; refine wpList_app1 rfl (.tmp 8) (.tmp 12) 23 rfl w.heap.size 5 _ 1 Try.underlying23 u8_info rfl _ pre.length (bys pre) rfl hown _ rfl rfl ?_ ?_ hb.size ?_; rotate_left 2; intro v2 w2 hown2 hb2 _ _)
      · have hpe := HP.out
        rw [numB_hi hlt] at hpe
        rw [or128] at hown2
        refine ⟨⟨k / 128, pre ++ [((k % 128 + 128 : Nat) : Int)], ?_, rfl, by simpa using hpe, ?_, hb.trans hb2⟩, ?_⟩
        · have := HK.out; omega
        · rw [bys_app]; simpa [bys] using hown2
        · simp [intOf]; omega
      · simp; omega
      · simp; omega

theorem clone_any (p : Option Addr) (c : Nat) (l : List Int) (w : World) (h : Rd w w.heap.size p (bys l)) (hl : l.length ≤ 1000000) :
    Calls Try.prog 33 #[.slice p l.length c] w (RetBs w l) := by
  rcases p with _ | ad
  · have hx : l = [] := by
      rcases h with h | ⟨b, o, h, _⟩
      · simpa [bys] using h
      · cases h
    subst hx
    simp only [List.length_nil]
    have he := fun w => Lib.run_eql_slice_nil (P := Try.prog) w 23 5 none 0 c 0 0 Try.underlying23
    clear h
    go_enter Try.func33, Try.ntmps33
    go_wp2_with fail
    go_ret
    exact ⟨_, rfl, World.ownsRow_nil _ _ _ _, Below.refl _ _⟩
  · obtain ⟨n, hn⟩ : ∃ n, l.length = n := ⟨_, rfl⟩
    rw [hn]
    have he := fun w => Lib.run_eql_slice_nil (P := Try.prog) w 23 5 (some ad) n c 0 0 Try.underlying23
    have HN := Lib.hid hn
    have HL := Lib.hid hl
    clear hn hl
    go_enter Try.func33, Try.ntmps33
    go_wp2_with (at_builtin; refine wpList_appM rfl (.tmp 5) (.tmp 6) 23 rfl w.heap.size 5 _ 1 1 Try.underlying23 u8_info rfl (by omega) _ 0 [] rfl (own_built (Blk.new w 5 []) (Nat.le_refl _) rfl (by unfold maxLen; omega)) w.heap.size (some ad) n c (bys l) rfl (by rw [bys_len, HN.out, Nat.mul_one]) (h.below ((Below.refl _ _).alloc (Nat.le_refl _) _)) (bys_one l) (by have := HN.out; have := HL.out; omega) (by have := HN.out; have := HL.out; omega) (by simp) ?_; intro v' w' hown hbl _ _)
    go_ret
    rw [Nat.zero_add, List.nil_append, ← HN.out] at hown
    exact ⟨_, rfl, hown, ((Below.refl _ _).alloc (Nat.le_refl _) _).trans hbl⟩

theorem size_any (n : Nat) (w : World) (hn : n < 18446744073709551616) : Calls Try.prog 10 #[.int .u64 n] w fun e w' => e = .returned (.int .i64 (numB n).length) ∧ Below w.heap.size w w' := by
  have HN := Lib.hid hn
  clear hn
  go_enter Try.func10, Try.ntmps10
  go_wp2_with fail
  refine (number_any n w HN.out).mono ?_
  rintro e w1 ⟨v, rfl, hown, hb⟩
  obtain ⟨p, c, rfl, _⟩ := own_form hown
  clear hown
  go_wp2_with fail
  go_ret
  exact ⟨rfl, hb⟩

/-! ### a reader -/
structure RS (w : World) (R : Nat) (p : Option Addr) (c : Nat) (l : List Int) (at_ : Nat) : Prop where
  blk : Blk w R 63 [.bool true, .slice p l.length c, .int .i64 at_]
  rd : Rd w w.heap.size p (bys l)
  ne : ∀ a, p = some a → a.block ≠ R
  le : at_ ≤ l.length
  cap : l.length ≤ c
  big : l.length ≤ 1000000
  bs : Bs l
  lt : ∀ a, p = some a → a.block < w.heap.size
theorem RS.kept {w w' : World} {R : Nat} {p : Option Addr} {c : Nat} {l : List Int} {k : Nat} (h : RS w R p c l k) (hb : Below w.heap.size w w') : RS w' R p c l k :=
  ⟨h.blk.kept hb, h.rd.kept hb, h.ne, h.le, h.cap, h.big, h.bs, fun a ha => Nat.lt_of_lt_of_le (h.lt a ha) hb.size⟩
theorem RS.set_ {w : World} {R : Nat} {p : Option Addr} {c : Nat} {l : List Int} {k j : Nat} (h : RS w R p c l k) (hj : j ≤ l.length) : RS (w.setCell ⟨R, 2, none⟩ (.int .i64 j)) R p c l j := by
  refine ⟨h.blk.set_ 2 _, ?_, h.ne, hj, h.cap, h.big, h.bs, fun a ha => by simpa using h.lt a ha⟩
  rcases h.rd with hx | ⟨b, o, hp, hlt, hc⟩
  · exact .inl hx
  · refine .inr ⟨b, o, hp, by simpa using hlt, fun i u hu => ?_⟩
    have hne : b ≠ R := h.ne _ hp
    rw [World.cell?_of_block (w := w) (w' := w.setCell ⟨R, 2, none⟩ _) (a := ⟨b, o + i, none⟩) (Below.heap_setCell w _ _ b hne)]
    exact hc i u hu

theorem new_any (p : Option Addr) (c : Nat) (l : List Int) (w : World) (h : Rd w w.heap.size p (bys l)) (hl : l.length ≤ 1000000) (hs : Bs l) :
    Calls Try.prog 11 #[.slice p l.length c] w fun e w' => ∃ R q d, e = .returned (.pointer (some ⟨R, 0, none⟩)) ∧ RS w' R q d l 0 ∧ w.heap.size ≤ R ∧ (∀ a, q = some a → w.heap.size ≤ a.block) ∧ Below w.heap.size w w' := by
  have HC := Lib.hid (clone_any p c l w h hl)
  obtain ⟨n, hn⟩ : ∃ n, l.length = n := ⟨_, rfl⟩
  rw [hn] at HC ⊢
  have HN := Lib.hid hn
  have HL := Lib.hid hl
  have HS := Lib.hid hs
  clear hn hl hs h
  go_enter Try.func11, Try.ntmps11
  go_wp2_with fail
  refine HC.out.mono ?_
  rintro e w1 ⟨v, rfl, hown, hb⟩
  obtain ⟨q, d, rfl, h1, h2, h3, h4⟩ := own_form hown
  have HH := Lib.hid h1
  have HO := Lib.hid (own_lt hown)
  clear h1 h2 hown
  go_wp2_with fail
  go_ret
  refine ⟨w1.heap.size, q, d, rfl, ?_, hb.size, h4, hb.alloc hb.size _⟩
  refine ⟨by rw [HN.out]; exact Blk.new _ _ _, ?_, ?_, Nat.zero_le _, HN.out.symm ▸ HH.out, HL.out, HS.out, ?_⟩
  · exact h3.kept ((Below.refl _ _).alloc (Nat.le_refl _) _)
  · intro a ha
    subst ha
    have := (HO.out a.block rfl).2
    omega
  · intro a ha
    subst ha
    have := (HO.out a.block rfl).2
    simp; omega
end Go.Proofs.Ytmhkbchbglnbpaa
