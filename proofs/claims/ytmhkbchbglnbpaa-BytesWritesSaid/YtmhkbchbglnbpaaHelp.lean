/- The law's number, first, nines. -/
import Derived.Test.YtmhkbchbglnbpaaRefNum
namespace Go.Proofs.Ytmhkbchbglnbpaa
open Go.RowKit

theorem Wr.made {w w' : World} {X : Nat} (hb : Below w.heap.size w w') (hB : Blk w' X 38 [.slice none 0 0]) (hX : w.heap.size ≤ X) : Made (Wr X []) w w' :=
  ⟨fun b => b = X, ⟨_, hB, World.ownsRow_nil _ _ _ _, by simp [Value.ownBlock], fun b => by simp [Value.ownBlock]⟩, hb, fun b hb => by subst hb; exact hX⟩
theorem wpost {X : Nat} {l : List Int} {w : World} {S : Nat → Prop} (F : List Int) (e : Ending) (w' : World) (h : e = .returned (.tuple #[]) ∧ Step (Wr X (l ++ F)) w w' S) : e = .returned (.tuple #[]) := h.1

theorem lawNumber_any (n : Nat) (w : World) (hn : n < 18446744073709551616) : Calls Try.prog 9 #[.int .u64 n] w fun e w' => e = .returned (.string (strOfNums (numB n))) ∧ Below w.heap.size w w' := by
  have hb0 := (Below.refl w.heap.size w).alloc (Nat.le_refl _) (.cells #[.slice none 0 0] 38)
  obtain ⟨S, hW, _, hS⟩ := Wr.made (X := w.heap.size) hb0 (Blk.new w 38 [.slice none 0 0]) (Nat.le_refl _)
  have HN := Lib.hid (WNum_any n hn (WrT.of (B := 10) hW (by simp)) (.inr ⟨_, rfl⟩) wpost)
  have h10 := numB_10 hn
  have HB := Lib.hid fun (w' : World) (S : Nat → Prop) (h : Wr w.heap.size ([] ++ numB n) w' S) => WBytes_any h (by simp; omega)
  have HS := Lib.hid fun (w' : World) (h : Step (Wr w.heap.size ([] ++ numB n)) (w.alloc (.cells #[.slice none 0 0] 38)) w' S) => (Fr.below hb0 h.choose_spec.2.1 hS)
  obtain ⟨l, hl⟩ : ∃ l, numB n = l := ⟨_, rfl⟩
  obtain ⟨t, ht⟩ : ∃ t, strOfNums l = t := ⟨_, rfl⟩
  rw [hl] at HN HB HS ⊢
  rw [ht]
  have HT := Lib.hid ht
  clear hn hb0 hW hS h10 hl ht
  go_enter Try.func9, Try.ntmps9
  go_wp2_with fail
  refine HN.out.mono ?_
  rintro e w1 ⟨rfl, hs⟩
  have HB1 := Lib.hid (HS.out _ hs)
  obtain ⟨S', hW', _, _⟩ := hs
  go_wp2_with fail
  refine (HB.out _ _ hW').mono ?_
  rintro e w2 ⟨v, rfl, hown, hb⟩
  obtain ⟨q, d, rfl, _⟩ := own_form hown
  have hcv := conv_any (own_rd hown) d
  simp only [List.nil_append] at hcv
  rw [HT.out] at hcv
  have HB2 := Lib.hid (below_step HB1.out hb)
  clear hown hW'
  go_wp2_with fail
  go_ret
  exact ⟨rfl, HB2.out⟩

theorem reads_is {w : World} {R c k : Nat} {p : Option Addr} {l : List Int} (most want : Nat) (no : Int) (h : RS w R p c l k) (hv : nV (l.drop k) most = want) (he : nE (l.drop k) most = no) :
    Calls Try.prog 12 #[.pointer (some ⟨R, 0, none⟩), .int .u64 most, .int .u64 want, .int .i64 no] w fun e w' => e = .returned (.bool true) ∧ RStep w w' R p c l (k + nS (l.drop k) most) := by
  refine (reads_any most want no h).mono ?_
  rintro e w' ⟨rfl, hr⟩
  exact ⟨ret_bool (by simp [hv, he]), hr⟩
theorem nE_max {l : List Int} (h : Bs l) : nE l 18446744073709551615 = readE l := by
  have := readV_fit h
  unfold nE
  split
  · rename_i h0; rw [if_neg (by omega), h0]
  · rfl
theorem first_ok {w : World} {q : Option Addr} (c : Nat) (l : List Int) (no : Int) (h : Rd w w.heap.size q (bys l)) (hs : Bs l) (hl : l.length ≤ 1000000) (hE : readE l = no) (h0 : no ≠ 0) :
    Calls Try.prog 14 #[.int .i64 no, .slice q l.length c] w fun e w' => e = .returned (.bool true) ∧ Below w.heap.size w w' := by
  have HN := Lib.hid (new_any q c l w h hl hs)
  have e0 : nE l 18446744073709551615 = no := by rw [nE_max hs, hE]
  have e1 : nV l 18446744073709551615 = 0 := by rw [nV, e0, if_neg h0]
  have e2 : nS l 18446744073709551615 = 0 := by rw [nS, e0, if_neg h0]
  have HR := Lib.hid fun (w : World) (R c : Nat) (p : Option Addr) (h : RS w R p c l 0) => reads_is 18446744073709551615 0 no h e1 e0
  simp only [List.drop_zero, e2, Nat.add_zero] at HR
  obtain ⟨n, hn⟩ : ∃ n, l.length = n := ⟨_, rfl⟩
  rw [hn] at HN ⊢
  clear hn h hs hl hE h0 e0 e1 e2
  go_enter Try.func14, Try.ntmps14
  go_wp2_with fail
  refine HN.out.mono ?_
  rintro e w1 ⟨R, p, d, rfl, hr, hR, _, hb⟩
  go_wp2_with fail
  refine (HR.out _ _ _ _ hr).mono ?_
  rintro e w2 ⟨rfl, hr2⟩
  have HB2 := Lib.hid (Fr.below hb hr2.2 (fun b hb => by subst hb; exact hR))
  go_wp2_with fail
  refine (at_any hr2.1).mono ?_
  rintro e w3 ⟨rfl, rfl⟩
  go_wp2_with fail
  go_ret
  exact ⟨rfl, HB2.out⟩
theorem nines_any (x : Nat) (w : World) : Calls Try.prog 35 #[.int .u8 x] w fun e w' => e = .returned (.slice (some ⟨w.heap.size, 0, none⟩) 10 10) ∧ w' = w.alloc (.cells #[.int .u8 255, .int .u8 255, .int .u8 255, .int .u8 255, .int .u8 255, .int .u8 255, .int .u8 255, .int .u8 255, .int .u8 255, .int .u8 x] 5) := by
  go_enter Try.func35, Try.ntmps35
  go_wp2_with fail
  go_ret
  exact ⟨rfl, rfl⟩
end Go.Proofs.Ytmhkbchbglnbpaa
