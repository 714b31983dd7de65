/- Num, String, Put of a writer, nil or not; Bytes, Len. -/
import Derived.Test.YtmhkbchbglnbpaaWriter
import Derived.Test.YtmhkbchbglnbpaaReadT
namespace Go.Proofs.Ytmhkbchbglnbpaa
open Go.RowKit

/-- The bytes of a string. -/
def strB (s : ByteArray) : List Int := s.data.toList.map fun b => (b.toNat : Int)
theorem strB_len (s : ByteArray) : (strB s).length = s.size := by
  rw [strB, List.length_map, Array.length_toList]; rfl
theorem strB_bs (s : ByteArray) : Bs (strB s) := by
  intro x hx
  simp only [strB, List.mem_map] at hx
  obtain ⟨b, _, rfl⟩ := hx
  have := b.toNat_lt
  omega
theorem strOf_strB (s : ByteArray) : strOfNums (strB s) = s := by
  rcases s with ⟨⟨d⟩⟩
  simp only [strOfNums, strB, List.map_map]
  congr 2
  conv => rhs; rw [← List.map_id d]
  apply List.map_congr_left
  intro b _
  simp
theorem strB_of (l : List Int) (h : Bs l) : strB (strOfNums l) = l := by
  simp only [strB, strOfNums_data, List.map_map]
  conv => rhs; rw [← List.map_id l]
  apply List.map_congr_left
  intro x hx
  have := h x hx
  simp
  omega
theorem PR.one {w : World} {q : Option Addr} {c : Nat} {l : List Int} (h : Rd w w.heap.size q (bys l)) : PR (w.alloc (.cells #[.slice q l.length c] 23)) (some ⟨w.heap.size, 0, none⟩) [l] := by
  refine ⟨[.slice q l.length c], Rd.of_blk (Blk.new w 23 [_]) (List.prefix_refl _), rfl, ?_⟩
  intro i hi hi2
  have : i = 0 := by simp at hi; omega
  subst this
  exact ⟨q, c, rfl, h.kept ((Below.refl _ _).alloc (Nat.le_refl _) _)⟩
theorem PR.two {w : World} {q r : Option Addr} {c d : Nat} {l m : List Int} (h : Rd w w.heap.size q (bys l)) (h2 : Rd w w.heap.size r (bys m)) : PR (w.alloc (.cells #[.slice q l.length c, .slice r m.length d] 23)) (some ⟨w.heap.size, 0, none⟩) [l, m] := by
  refine ⟨[.slice q l.length c, .slice r m.length d], Rd.of_blk (Blk.new w 23 [_, _]) (List.prefix_refl _), rfl, ?_⟩
  intro i hi hi2
  have : i = 0 ∨ i = 1 := by simp at hi; omega
  rcases this with rfl | rfl
  · exact ⟨q, c, rfl, h.kept ((Below.refl _ _).alloc (Nat.le_refl _) _)⟩
  · exact ⟨r, d, rfl, h2.kept ((Below.refl _ _).alloc (Nat.le_refl _) _)⟩

/-- What write does through a pointer, from a world on. -/
def WrT (ptr : Value) (w : World) (B : Nat) (Post : List Int → Ending → World → Prop) : Prop :=
  ∀ (w' : World) (p : Option Addr) (c : Nat) (G : List (List Int)), Below w.heap.size w w' → PR w' p G → G.length ≤ 1000 → G.flatten.length ≤ B → Calls Try.prog 36 #[ptr, .slice p G.length c] w' (Post G.flatten)
section
variable {w : World} {X B : Nat} {l : List Int} {S : Nat → Prop} {Post : List Int → Ending → World → Prop} {ptr : Value}
theorem WrT.of (h : Wr X l w S) (hl : l.length + B ≤ 1000000) : WrT (.pointer (some ⟨X, 0, none⟩)) w B fun F e w' => e = .returned (.tuple #[]) ∧ Step (Wr X (l ++ F)) w w' S := by
  intro w' p c G hb hp hg hG
  refine (write_any ((Wr.good X l).kept h hb) p c G hp hg (by omega)).mono ?_
  rintro e w2 ⟨rfl, hs⟩
  exact ⟨rfl, hs.first hb⟩
theorem WrT.nil (w : World) (B : Nat) : WrT (.pointer none) w B fun _ e w' => e = .returned (.tuple #[]) ∧ Below w.heap.size w w' := by
  intro w' p c G hb hp hg hG
  clear hp hg hG
  obtain ⟨n, hn⟩ : ∃ n, G.length = n := ⟨_, rfl⟩
  rw [hn]
  clear hn
  go_enter Try.func36, Try.ntmps36
  go_wp2_with fail
  go_end0
  exact ⟨rfl, hb⟩
theorem WNum_any (n : Nat) (hn : n < 18446744073709551616) (h : WrT ptr w 10 Post) (hv : ptr = .pointer none ∨ ∃ X, ptr = .pointer (some ⟨X, 0, none⟩)) (he : ∀ F e w', Post F e w' → e = .returned (.tuple #[])) : Calls Try.prog 17 #[ptr, .int .u64 n] w (Post (numB n)) := by
  have HE := Lib.hid he
  have HN := Lib.hid (number_any n w hn)
  have h10 := numB_10 hn
  have HW := Lib.hid h
  clear h he hn
  go_enter Try.func17, Try.ntmps17
  go_wp2_with fail
  refine HN.out.mono ?_
  rintro e w1 ⟨v, rfl, hown, hb⟩
  obtain ⟨q, d, rfl, _⟩ := own_form hown
  have HP := Lib.hid (PR.one (c := d) (own_rd hown))
  clear hown
  go_wp2_with fail
  refine (HW.out _ _ 1 _ (hb.alloc hb.size _) HP.out (by simp) (by simpa using h10)).mono ?_
  intro e w2 hp
  have := HE.out _ _ _ hp
  subst this
  go_wp2_with fail
  go_end0
  simpa using hp
theorem WPut_any (q : Option Addr) (c : Nat) (m : List Int) (h : WrT ptr w B Post) (hq : Rd w w.heap.size q (bys m)) (hm : m.length ≤ B) (hv : ptr = .pointer none ∨ ∃ X, ptr = .pointer (some ⟨X, 0, none⟩)) (he : ∀ F e w', Post F e w' → e = .returned (.tuple #[])) : Calls Try.prog 19 #[ptr, .slice q m.length c] w (Post m) := by
  have HE := Lib.hid he
  have HW := Lib.hid h
  have HP := Lib.hid (PR.one (c := c) hq)
  have HM := Lib.hid hm
  obtain ⟨n, hn⟩ : ∃ n, m.length = n := ⟨_, rfl⟩
  rw [hn] at HP ⊢
  clear h he hq hm hn
  go_enter Try.func19, Try.ntmps19
  go_wp2_with fail
  refine (HW.out _ _ 1 _ ((Below.refl _ _).alloc (Nat.le_refl _) _) HP.out (by simp) (by simpa using HM.out)).mono ?_
  intro e w2 hp
  have := HE.out _ _ _ hp
  subst this
  go_wp2_with fail
  go_end0
  simpa using hp
theorem bw_below (w : World) (s : ByteArray) : Below w.heap.size w (Lib.bytesWorld w 5 s) :=
  ⟨rfl, rfl, rfl, by rw [Lib.bytesWorld_size]; omega, fun i hi => Lib.bytesWorld_at_old w 5 s i hi⟩
theorem bw_rd (w : World) (s : ByteArray) : Rd (Lib.bytesWorld w 5 s) (Lib.bytesWorld w 5 s).heap.size (some ⟨w.heap.size, 0, none⟩) (bys (strB s)) := by
  refine .inr ⟨w.heap.size, 0, rfl, by rw [Lib.bytesWorld_size]; omega, fun j u hu => ?_⟩
  have hj : j < s.size := by
    have := (List.getElem?_eq_some_iff.1 hu).1
    rwa [bys_len, strB_len] at this
  rw [Nat.zero_add, Lib.bytesWorld_cell w 5 s j hj]
  rw [← hu]
  have hj2 : j < s.data.toList.length := by rw [Array.length_toList]; exact hj
  simp only [bys, strB, List.map_map, List.getElem?_map, List.getD, List.getElem?_eq_getElem hj2]
  rfl
theorem WString_any (s : ByteArray) (hs : s.size ≤ 1000) (h : WrT ptr w (10 + s.size) Post) (hv : ptr = .pointer none ∨ ∃ X, ptr = .pointer (some ⟨X, 0, none⟩)) (he : ∀ F e w', Post F e w' → e = .returned (.tuple #[])) : Calls Try.prog 18 #[ptr, .string s] w (Post (numB s.size ++ strB s)) := by
  have HE := Lib.hid he
  have HW := Lib.hid h
  have HC := fun w => Lib.run_convert_string_bytes (P := Try.prog) (u := .string) w 9 23 5 s (by kernel_rfl) Try.underlying23 (by kernel_rfl)
  have HL := Lib.hid (strB_len s)
  have HB := Lib.hid fun w => bw_below w s
  have HR := Lib.hid fun w => bw_rd w s
  obtain ⟨n, hn⟩ : ∃ n, s.size = n := ⟨_, rfl⟩
  rw [hn] at HW HC HL hs ⊢
  have hN := hn
  have HN := Lib.hid (number_any n · (by omega : n < 18446744073709551616))
  have H10 := Lib.hid (numB_10 (n := n) (by omega))
  have hwr : IntKind.u64.wrap (n : Int) = n := wraps_u64 _ (by omega) (by omega)
  clear h he hn
  go_enter Try.func18, Try.ntmps18
  go_wp2_with fail
  refine (HN.out w).mono ?_
  rintro e w1 ⟨v, rfl, hown, hb⟩
  obtain ⟨q, d, rfl, _⟩ := own_form hown
  have hr1 := (own_rd hown).kept (HB.out w1)
  have HP := Lib.hid fun d2 => PR.two (c := d) (d := d2) hr1 (HR.out w1)
  rw [HL.out] at HP
  have hb2 := below_step hb (HB.out w1)
  clear hown hr1
  go_wp2_with fail
  refine (HW.out _ _ 2 _ (hb2.alloc hb2.size _) (HP.out _) (by simp) (by have := H10.out; have := HL.out; simp; omega)).mono ?_
  intro e w2 hp
  have := HE.out _ _ _ hp
  subst this
  go_wp2_with fail
  go_end0
  simpa using hp
theorem WBytes_any (h : Wr X l w S) (hl : l.length ≤ 1000000) : Calls Try.prog 20 #[.pointer (some ⟨X, 0, none⟩)] w (RetBs w l) := by
  obtain ⟨v, hB, hown, hx, hS⟩ := h
  obtain ⟨p0, c0, rfl, _, _⟩ := own_shape hown
  have HC := Lib.hid (clone_any p0 c0 l w (own_rd hown) hl)
  have hc := hB.cell 0
  simp only [List.getElem?_cons_zero] at hc
  obtain ⟨n, hn⟩ : ∃ n, l.length = n := ⟨_, rfl⟩
  rw [hn] at HC hc
  clear hn hB hown hx hS hl
  go_enter Try.func20, Try.ntmps20
  go_wp2_with fail
  refine HC.out.mono ?_
  rintro e w1 ⟨v, rfl, h1, h2⟩
  have H := Lib.hid h1
  clear h1
  go_wp2_with fail
  go_ret
  exact ⟨v, rfl, H.out, h2⟩
theorem WLen_any (h : Wr X l w S) (hl : l.length ≤ 1000000) : Calls Try.prog 22 #[.pointer (some ⟨X, 0, none⟩)] w fun e w' => e = .returned (.int .i64 l.length) ∧ Below w.heap.size w w' := by
  have HB := Lib.hid (WBytes_any h hl)
  clear h
  go_enter Try.func22, Try.ntmps22
  go_wp2_with fail
  refine HB.out.mono ?_
  rintro e w1 ⟨v, rfl, hown, hb⟩
  obtain ⟨q, d, rfl, _⟩ := own_form hown
  clear hown
  go_wp2_with fail
  go_ret
  exact ⟨rfl, hb⟩
end
end Go.Proofs.Ytmhkbchbglnbpaa
