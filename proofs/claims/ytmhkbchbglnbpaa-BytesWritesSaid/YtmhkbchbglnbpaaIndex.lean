/- IndexFunc, and reading a number. -/
import Derived.Test.YtmhkbchbglnbpaaReads
import Derived.Test.YtmhkbchbglnbpaaPlain
import Derived.Laws.BitsLemmas
namespace Go.Proofs.Ytmhkbchbglnbpaa
open Go.RowKit

theorem small_any (x : Int) (w : World) : Calls Try.prog 47 #[.int .u8 x] w fun e w' => e = .returned (.bool (decide (x < 128))) ∧ w = w' := by
  go_enter Try.func47, Try.ntmps47
  go_wp2_with fail
  go_ret
  exact ⟨rfl, rfl⟩

/-- What IndexFunc gives. -/
def fIi (l : List Int) : Int := if fI l < l.length then fI l else -1
theorem index_any {w : World} {q : Option Addr} (d : Nat) (l : List Int) (h : Rd w w.heap.size q (bys l)) (hl : l.length ≤ 1000000) :
    Calls Try.prog 46 #[.slice q l.length d, .func (.func 47) #[] #[]] w fun e w' => e = .returned (.int .i64 (fIi l)) ∧ w = w' := by
  have HR := Lib.hid h
  obtain ⟨n, hn⟩ : ∃ n, l.length = n := ⟨_, rfl⟩
  rw [hn] at hl ⊢
  have HN := Lib.hid hn
  clear hn h
  go_enter Try.func46, Try.ntmps46
  go_wp2_with fail
  go_loopw [8] (fun i wr => ∃ k : Nat, k ≤ n ∧ i = .int .i64 k ∧ Hid (k ≤ fI l) ∧ w = wr) (fun i _ => n - (intOf i).toNat)
  case atStart => exact ⟨0, Nat.zero_le _, rfl, Lib.hid (Nat.zero_le _), rfl⟩
  case round =>
    obtain ⟨k, hk, rfl, HK, rfl⟩ := hrel
    by_cases hlt : k < n
    · have hki : (k : Int) < (n : Int) := by omega
      have hlt2 : k < l.length := by rw [HN.out]; exact hlt
      obtain ⟨b, o, rfl, hb, hc⟩ := HR.out.byte hlt2
      obtain ⟨x, hx⟩ : ∃ x, l[k] = x := ⟨_, rfl⟩
      rw [hx] at hc
      have HX := Lib.hid hx
      clear hx
      by_cases hx : x < 128
      · have HE : fIi l = (k : Int) := by
          have e := fI_stop hlt2 HK.out (by rw [HX.out]; exact hx)
          rw [fIi, e, if_pos hlt2]
        have HE := Lib.hid HE
        have hxd : decide (x < 128) = true := by simpa using hx
        go_wp2_with fail
        refine (small_any x _).mono ?_
        rintro e w1 ⟨rfl, rfl⟩
        go_wp2_with fail
        go_ret
        exact ⟨ret_int HE.out.symm, rfl⟩
      · have HG := Lib.hid (fI_go hlt2 HK.out (by rw [HX.out]; exact hx))
        have hxd : decide (x < 128) = false := by simpa using hx
        go_wp2_with fail
        refine (small_any x _).mono ?_
        rintro e w1 ⟨rfl, rfl⟩
        go_wp2_with fail
        go_roundw
        case rel => exact ⟨k + 1, by omega, by go_num, HG, trivial⟩
        case measure => simp [intOf]; omega
    · have HE : fIi l = -1 := by
        rw [fIi, if_neg]
        have := HK.out
        have := HN.out
        omega
      have HE := Lib.hid HE
      go_wp2_with fail
      go_ret
      exact ⟨ret_int HE.out.symm, rfl⟩

theorem clr_fin : ∀ x : Fin 256, bits .andNot .u8 ((x.val : Nat) : Int) 128 = ((x.val % 128 : Nat) : Int) := by decide +kernel
theorem clr128 {x : Int} (h0 : 0 ≤ x) (h1 : x < 256) : bits .andNot .u8 x 128 = ((x.toNat % 128 : Nat) : Int) := by
  obtain ⟨k, rfl⟩ : ∃ k : Nat, x = k := ⟨x.toNat, by omega⟩
  exact clr_fin ⟨k, by omega⟩

theorem wraps_u64 (n : Int) (h₀ : 0 ≤ n) (h₁ : n < 2 ^ 64) : IntKind.u64.wrap n = n := by
  have : IntKind.u64.wrap n = n % 18446744073709551616 := by simp [IntKind.wrap, IntKind.bits, IntKind.signed]
  rw [this]; omega
theorem or_u64 {v z : Int} (h0 : 0 ≤ v) (h1 : v * 128 < 18446744073709551616) (h2 : 0 ≤ z) (h3 : z < 128) : bits .or .u64 (v * 128) z = v * 128 + z :=
  bits_join .u64 64 (by decide) wraps_u64 7 _ _ (by omega) (by omega) (by omega) h2 (by omega) (by omega)
end Go.Proofs.Ytmhkbchbglnbpaa
