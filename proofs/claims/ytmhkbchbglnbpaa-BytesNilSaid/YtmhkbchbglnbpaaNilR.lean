/- Readers that are nil or zero, and writers that are nil. -/
import Derived.Test.YtmhkbchbglnbpaaKnownW
namespace Go.Proofs.Ytmhkbchbglnbpaa
open Go.RowKit

/-- A reader that is nil or zero. -/
def ZR (w : World) (q : Option Addr) : Prop := q = none ∨ ∃ R, q = some ⟨R, 0, none⟩ ∧ R < w.heap.size ∧ w.cell? ⟨R, 0, none⟩ = some (.bool false)
theorem ZR.kept {w w' : World} {q : Option Addr} (h : ZR w q) (hb : Below w.heap.size w w') : ZR w' q := by
  rcases h with h | ⟨R, h1, h2, h3⟩
  · exact .inl h
  · exact .inr ⟨R, h1, Nat.lt_of_lt_of_le h2 hb.size, (hb.cell (p := ⟨R, 0, none⟩) h2).trans h3⟩
section
variable {w : World} {q : Option Addr}
theorem zero_nil (h : ZR w q) : Calls Try.prog 34 #[.pointer q] w fun e w' => e = .returned (.bool true) ∧ w = w' := by
  rcases h with rfl | ⟨R, rfl, h2, h3⟩
  · go_enter Try.func34, Try.ntmps34
    go_wp2_with fail
    go_ret
    exact ⟨rfl, rfl⟩
  · clear h2
    go_enter Try.func34, Try.ntmps34
    go_wp2_with fail
    go_ret
    exact ⟨rfl, rfl⟩
theorem Num_nil (n : Int) (h : ZR w q) : Calls Try.prog 26 #[.pointer q, .int .u64 n] w fun e w' => e = .returned (.tuple #[.int .u64 0, .int .i64 1]) ∧ w = w' := by
  have HZ := Lib.hid (zero_nil h)
  clear h
  go_enter Try.func26, Try.ntmps26
  go_wp2_with fail
  refine HZ.out.mono ?_
  rintro e w1 ⟨rfl, rfl⟩
  go_wp2_with fail
  go_ret2
  exact ⟨rfl, rfl⟩
theorem wholeS_nil (M : Nat) (h : ZR w q) : Calls Try.prog 44 #[.pointer q, .func (.func 45) #[] #[.pointer (some ⟨M, 0, none⟩)]] w fun e w' => e = .returned (.tuple #[.string ⟨#[]⟩, .int .i64 1]) ∧ w = w' := by
  have HZ := Lib.hid (zero_nil h)
  clear h
  go_enter Try.func44, Try.ntmps44
  go_wp2_with fail
  refine HZ.out.mono ?_
  rintro e w1 ⟨rfl, rfl⟩
  go_wp2_with fail
  go_ret2
  exact ⟨rfl, rfl⟩
theorem String_nil (n : Int) (h : ZR w q) : Calls Try.prog 38 #[.pointer q, .int .i64 n] w fun e w' => e = .returned (.tuple #[.string ⟨#[]⟩, .int .i64 1]) ∧ Below w.heap.size w w' := by
  have hb := (Below.refl w.heap.size w).alloc (Nat.le_refl _) (.cells #[.int .i64 n] 3)
  have HZ := Lib.hid (wholeS_nil w.heap.size (h.kept hb))
  have HB := Lib.hid hb
  clear h hb
  go_enter Try.func38, Try.ntmps38
  go_wp2_with fail
  refine HZ.out.mono ?_
  rintro e w1 ⟨rfl, rfl⟩
  go_wp2_with fail
  go_ret2
  exact ⟨rfl, HB.out⟩
theorem Take_nil (n : Int) (h : ZR w q) : Calls Try.prog 31 #[.pointer q, .int .i64 n] w fun e w' => e = .returned (.tuple #[.slice none 0 0, .int .i64 1]) ∧ w = w' := by
  have HZ := Lib.hid (zero_nil h)
  clear h
  go_enter Try.func31, Try.ntmps31
  go_wp2_with fail
  refine HZ.out.mono ?_
  rintro e w1 ⟨rfl, rfl⟩
  go_wp2_with fail
  go_ret2
  exact ⟨rfl, rfl⟩
theorem Left_nil (h : ZR w q) : Calls Try.prog 21 #[.pointer q] w fun e w' => e = .returned (.int .i64 0) ∧ w = w' := by
  have HZ := Lib.hid (zero_nil h)
  clear h
  go_enter Try.func21, Try.ntmps21
  go_wp2_with fail
  refine HZ.out.mono ?_
  rintro e w1 ⟨rfl, rfl⟩
  go_wp2_with fail
  go_ret
  exact ⟨rfl, rfl⟩
theorem At_nil (h : ZR w q) : Calls Try.prog 25 #[.pointer q] w fun e w' => e = .returned (.int .i64 0) ∧ w = w' := by
  have HZ := Lib.hid (zero_nil h)
  clear h
  go_enter Try.func25, Try.ntmps25
  go_wp2_with fail
  refine HZ.out.mono ?_
  rintro e w1 ⟨rfl, rfl⟩
  go_wp2_with fail
  go_ret
  exact ⟨rfl, rfl⟩
theorem End_nil (h : ZR w q) : Calls Try.prog 13 #[.pointer q] w fun e w' => e = .returned (.int .i64 1) ∧ w = w' := by
  have HZ := Lib.hid (zero_nil h)
  clear h
  go_enter Try.func13, Try.ntmps13
  go_wp2_with fail
  refine HZ.out.mono ?_
  rintro e w1 ⟨rfl, rfl⟩
  go_wp2_with fail
  go_ret
  exact ⟨rfl, rfl⟩
theorem Copy_nil (h : ZR w q) : Calls Try.prog 30 #[.pointer q] w fun e w' => e = .returned (.pointer none) ∧ w = w' := by
  have HZ := Lib.hid (zero_nil h)
  clear h
  go_enter Try.func30, Try.ntmps30
  go_wp2_with fail
  refine HZ.out.mono ?_
  rintro e w1 ⟨rfl, rfl⟩
  go_wp2_with fail
  go_ret
  exact ⟨rfl, rfl⟩
theorem reads_nil (n : Int) (h : ZR w q) : Calls Try.prog 12 #[.pointer q, .int .u64 n, .int .u64 0, .int .i64 1] w fun e w' => e = .returned (.bool true) ∧ w = w' := by
  have HN := Lib.hid (Num_nil n h)
  clear h
  go_enter Try.func12, Try.ntmps12
  go_wp2_with fail
  refine HN.out.mono ?_
  rintro e w1 ⟨rfl, rfl⟩
  go_wp2_with fail
  go_ret
  exact ⟨rfl, rfl⟩
theorem hears_nil (n : Int) (h : ZR w q) : Calls Try.prog 23 #[.pointer q, .int .i64 n, .string ⟨#[]⟩, .int .i64 1] w fun e w' => e = .returned (.bool true) ∧ Below w.heap.size w w' := by
  have HN := Lib.hid (String_nil n h)
  clear h
  go_enter Try.func23, Try.ntmps23
  go_wp2_with fail
  refine HN.out.mono ?_
  rintro e w1 ⟨rfl, hb⟩
  go_wp2_with fail
  go_ret
  exact ⟨rfl, hb⟩
theorem takes_nil (n : Int) (h : ZR w q) : Calls Try.prog 24 #[.pointer q, .int .i64 n, .string ⟨#[]⟩, .int .i64 1] w fun e w' => e = .returned (.bool true) ∧ w = w' := by
  have HN := Lib.hid (Take_nil n h)
  have hcv := conv_any (w := w) (l := []) (p := none) (Rd.nil w 0 none) 0
  rw [strOfNums_nil] at hcv
  simp only [List.length_nil] at hcv
  clear h
  go_enter Try.func24, Try.ntmps24
  go_wp2_with fail
  refine HN.out.mono ?_
  rintro e w1 ⟨rfl, rfl⟩
  go_wp2_with fail
  go_ret
  exact ⟨rfl, rfl⟩
end
theorem WBytes_nil (w : World) : Calls Try.prog 20 #[.pointer none] w fun e w' => e = .returned (.slice none 0 0) ∧ w = w' := by
  go_enter Try.func20, Try.ntmps20
  go_wp2_with fail
  go_ret
  exact ⟨rfl, rfl⟩
theorem WLen_nil (w : World) : Calls Try.prog 22 #[.pointer none] w fun e w' => e = .returned (.int .i64 0) ∧ w = w' := by
  go_enter Try.func22, Try.ntmps22
  go_wp2_with fail
  refine (WBytes_nil w).mono ?_
  rintro e w1 ⟨rfl, rfl⟩
  go_wp2_with fail
  go_ret
  exact ⟨rfl, rfl⟩
end Go.Proofs.Ytmhkbchbglnbpaa
