/- light, few, picks, worst, fair, none. Printed by sched_lil.py. -/
import Derived.Test.YtfidnecdojgkjaaRefF
import Derived.Test.YtfidnecdojgkjaaNext
namespace Go.Proofs.Ytfidnecdojgkjaa
open Go.RowKit

/-- A call of a scheduler: what, tasks, bits. -/
structure Ac where
  a : Int
  q : Option Addr
  c : Nat
  en : List Int
  b : Int
def Ac.cells (x : Ac) : List Value := [.int .i64 x.a, .slice x.q x.en.length x.c, .int .u16 x.b]
def acs (l : List Ac) : List Value := l.flatMap Ac.cells
theorem acs_cons (m : Ac) (l : List Ac) : acs (m :: l) = .int .i64 m.a :: .slice m.q m.en.length m.c :: .int .u16 m.b :: acs l := rfl
theorem acs_len : ∀ l : List Ac, (acs l).length = l.length * 3
  | [] => rfl
  | m :: l => by rw [acs_cons]; simp only [List.length_cons]; rw [acs_len l]; omega
theorem acs_at : ∀ (l : List Ac) (k : Nat) (h : k < l.length), (acs l)[k * 3]? = some (.int .i64 (l[k]).a) ∧ (acs l)[k * 3 + 1]? = some (.slice (l[k]).q (l[k]).en.length (l[k]).c) ∧ (acs l)[k * 3 + 2]? = some (.int .u16 (l[k]).b)
  | m :: l, 0, _ => ⟨rfl, rfl, rfl⟩
  | m :: l, k + 1, h => by
    rw [acs_cons, show (k + 1) * 3 = k * 3 + 1 + 1 + 1 from by omega]
    have := acs_at l k (by simpa using h)
    simpa [Nat.add_right_comm] using this
theorem acs_rd {w : World} {p : Option Addr} {l : List Ac} (h : Rd w w.heap.size p (acs l)) {k : Nat} (hk : k < l.length) :
    ∃ b o, p = some ⟨b, o, none⟩ ∧ b < w.heap.size ∧ w.cell? ⟨b, o + k * 3, none⟩ = some (.int .i64 (l[k]).a) ∧ w.cell? ⟨b, o + k * 3 + 1, none⟩ = some (.slice (l[k]).q (l[k]).en.length (l[k]).c) ∧ w.cell? ⟨b, o + k * 3 + 2, none⟩ = some (.int .u16 (l[k]).b) := by
  obtain ⟨b, o, hp, hb, _, hc⟩ := h.at_ (k := k * 3) (by rw [acs_len]; omega)
  obtain ⟨h0, h1, h2⟩ := acs_at l k hk
  exact ⟨b, o, hp, hb, hc _ _ h0, by have := hc _ _ h1; rw [Nat.add_assoc]; exact this, by have := hc _ _ h2; rw [Nat.add_assoc]; exact this⟩
theorem tps_rd {w : World} {p : Option Addr} {l : List Tp} (h : Rd w w.heap.size p (tps l)) {k : Nat} (hk : k < l.length) :
    ∃ b o, p = some ⟨b, o, none⟩ ∧ b < w.heap.size ∧ w.cell? ⟨b, o + k * 2, none⟩ = some (.slice (l[k]).q (l[k]).en.length (l[k]).c) := by
  obtain ⟨b, o, hp, hb, _, hc⟩ := h.at_ (k := k * 2) (by rw [tps_len]; omega)
  obtain ⟨h0, h1⟩ := tps_at l k hk
  exact ⟨b, o, hp, hb, hc _ _ h0⟩

def lightB (l : List Tp) : Bool := decide (∀ x ∈ l.take 101, x.en.length ≤ 60) && decide (l.length ≤ 100)
theorem lightB_iff {l : List Tp} (h : lightB l = true) : l.length ≤ 100 ∧ ∀ x ∈ l, x.en.length ≤ 60 := by
  simp only [lightB, Bool.and_eq_true, decide_eq_true_eq] at h
  refine ⟨h.2, fun x hx => h.1 x ?_⟩
  rw [List.take_of_length_le (by omega)]
  exact hx
set_option maxRecDepth 100000 in
theorem light_any {w : World} {p : Option Addr} (c : Nat) (l : List Tp) (h : Rd w w.heap.size p (tps l)) (hl : l.length ≤ 9223372036854775807) : Calls Try.prog 14 #[.slice p l.length c] w fun e w' => e = .returned (.bool (lightB l)) ∧ w = w' := by
  have HP := Lib.hid h
  obtain ⟨n, hn⟩ : ∃ n, l.length = n := ⟨_, rfl⟩
  rw [hn] at hl ⊢
  have HN := Lib.hid hn
  clear hn h
  go_enter Try.func14, Try.ntmps14
  go_wp2_with fail
  go_loopw [3] (fun i wr => ∃ k : Nat, k ≤ n ∧ k ≤ 101 ∧ i = .int .i64 k ∧ Hid (∀ j (h : j < l.length), j < k → (l[j]).en.length ≤ 60) ∧ w = wr) (fun i _ => 101 - (intOf i).toNat)
  case atStart => exact ⟨0, Nat.zero_le _, by omega, rfl, Lib.hid (fun j _ hj => by omega), rfl⟩
  case round =>
    obtain ⟨k, hk, hk41, rfl, HK, rfl⟩ := hrel
    by_cases hlt : k < n
    · have hki : (k : Int) < (n : Int) := by omega
      by_cases h41 : k < 101
      · have h41i : (k : Int) < 101 := by omega
        have hlt2 : k < l.length := by rw [HN.out]; exact hlt
        obtain ⟨b, o, rfl, hb, hc⟩ := tps_rd HP.out hlt2
        obtain ⟨m, hm⟩ : ∃ m, (l[k]).en.length = m := ⟨_, rfl⟩
        obtain ⟨q, hq⟩ : ∃ q, (l[k]).q = q := ⟨_, rfl⟩
        obtain ⟨d, hd⟩ : ∃ q, (l[k]).c = q := ⟨_, rfl⟩
        rw [hm, hq, hd] at hc
        have HM := Lib.hid hm
        clear hm hq hd
        by_cases hbig : 60 < m
        · have hbi : (60 : Int) < (m : Int) := by omega
          have HF := Lib.hid (show lightB l = false by
            simp only [lightB, Bool.and_eq_false_iff, decide_eq_false_iff_not]
            refine .inl fun hh => ?_
            have := hh (l[k]) (List.mem_take_iff_getElem.2 ⟨k, by omega, rfl⟩)
            rw [HM.out] at this
            omega)
          go_wp2_with fail
          go_ret
          exact ⟨ret_bool HF.out.symm, rfl⟩
        · have hbi : decide (60 < m) = false := by simpa using hbig
          go_wp2_with fail
          go_roundw
          case rel => exact ⟨k + 1, by omega, by omega, by go_num, Lib.hid (fun j hj hjk => by
            by_cases e : j = k
            · subst e; rw [HM.out]; omega
            · exact HK.out j hj (by omega)), trivial⟩
          case measure => simp [intOf]; omega
      · have h41i : decide (k < 101) = false := by simpa using h41
        have HF := Lib.hid (show lightB l = false by
          simp only [lightB, Bool.and_eq_false_iff, decide_eq_false_iff_not]
          refine .inr ?_
          have := HN.out; omega)
        go_wp2_with fail
        go_ret
        exact ⟨ret_bool (by rw [HF.out]; simp; omega), rfl⟩
    · have hkn : k = n := by omega
      subst hkn
      have HF := Lib.hid (show lightB l = decide (k ≤ 100) by
        have h1 : decide (∀ x ∈ l.take 101, x.en.length ≤ 60) = true := by
          simp only [decide_eq_true_eq]
          intro x hx
          obtain ⟨j, hj, rfl⟩ := List.mem_iff_getElem.1 (List.mem_of_mem_take hx)
          exact HK.out j hj (by have := HN.out; omega)
        rw [lightB, h1, HN.out, Bool.true_and])
      go_wp2_with fail
      go_ret
      exact ⟨ret_bool (by rw [HF.out]; simp only [decide_eq_decide]; omega), rfl⟩

def fewB (l : List Ac) : Bool := decide (∀ x ∈ l.take 101, x.en.length ≤ 60) && decide (l.length ≤ 100)
theorem fewB_iff {l : List Ac} (h : fewB l = true) : l.length ≤ 100 ∧ ∀ x ∈ l, x.en.length ≤ 60 := by
  simp only [fewB, Bool.and_eq_true, decide_eq_true_eq] at h
  refine ⟨h.2, fun x hx => h.1 x ?_⟩
  rw [List.take_of_length_le (by omega)]
  exact hx
set_option maxRecDepth 100000 in
theorem few_any {w : World} {p : Option Addr} (c : Nat) (l : List Ac) (h : Rd w w.heap.size p (acs l)) (hl : l.length ≤ 9223372036854775807) : Calls Try.prog 20 #[.slice p l.length c] w fun e w' => e = .returned (.bool (fewB l)) ∧ w = w' := by
  have HP := Lib.hid h
  obtain ⟨n, hn⟩ : ∃ n, l.length = n := ⟨_, rfl⟩
  rw [hn] at hl ⊢
  have HN := Lib.hid hn
  clear hn h
  go_enter Try.func20, Try.ntmps20
  go_wp2_with fail
  go_loopw [3] (fun i wr => ∃ k : Nat, k ≤ n ∧ k ≤ 101 ∧ i = .int .i64 k ∧ Hid (∀ j (h : j < l.length), j < k → (l[j]).en.length ≤ 60) ∧ w = wr) (fun i _ => 101 - (intOf i).toNat)
  case atStart => exact ⟨0, Nat.zero_le _, by omega, rfl, Lib.hid (fun j _ hj => by omega), rfl⟩
  case round =>
    obtain ⟨k, hk, hk41, rfl, HK, rfl⟩ := hrel
    by_cases hlt : k < n
    · have hki : (k : Int) < (n : Int) := by omega
      by_cases h41 : k < 101
      · have h41i : (k : Int) < 101 := by omega
        have hlt2 : k < l.length := by rw [HN.out]; exact hlt
        obtain ⟨b, o, rfl, hb, _, hc, _⟩ := acs_rd HP.out hlt2
        obtain ⟨m, hm⟩ : ∃ m, (l[k]).en.length = m := ⟨_, rfl⟩
        obtain ⟨q, hq⟩ : ∃ q, (l[k]).q = q := ⟨_, rfl⟩
        obtain ⟨d, hd⟩ : ∃ q, (l[k]).c = q := ⟨_, rfl⟩
        rw [hm, hq, hd] at hc
        have HM := Lib.hid hm
        clear hm hq hd
        by_cases hbig : 60 < m
        · have hbi : (60 : Int) < (m : Int) := by omega
          have HF := Lib.hid (show fewB l = false by
            simp only [fewB, Bool.and_eq_false_iff, decide_eq_false_iff_not]
            refine .inl fun hh => ?_
            have := hh (l[k]) (List.mem_take_iff_getElem.2 ⟨k, by omega, rfl⟩)
            rw [HM.out] at this
            omega)
          go_wp2_with fail
          go_ret
          exact ⟨ret_bool HF.out.symm, rfl⟩
        · have hbi : decide (60 < m) = false := by simpa using hbig
          go_wp2_with fail
          go_roundw
          case rel => exact ⟨k + 1, by omega, by omega, by go_num, Lib.hid (fun j hj hjk => by
            by_cases e : j = k
            · subst e; rw [HM.out]; omega
            · exact HK.out j hj (by omega)), trivial⟩
          case measure => simp [intOf]; omega
      · have h41i : decide (k < 101) = false := by simpa using h41
        have HF := Lib.hid (show fewB l = false by
          simp only [fewB, Bool.and_eq_false_iff, decide_eq_false_iff_not]
          refine .inr ?_
          have := HN.out; omega)
        go_wp2_with fail
        go_ret
        exact ⟨ret_bool (by rw [HF.out]; simp; omega), rfl⟩
    · have hkn : k = n := by omega
      subst hkn
      have HF := Lib.hid (show fewB l = decide (k ≤ 100) by
        have h1 : decide (∀ x ∈ l.take 101, x.en.length ≤ 60) = true := by
          simp only [decide_eq_true_eq]
          intro x hx
          obtain ⟨j, hj, rfl⟩ := List.mem_iff_getElem.1 (List.mem_of_mem_take hx)
          exact HK.out j hj (by have := HN.out; omega)
        rw [fewB, h1, HN.out, Bool.true_and])
      go_wp2_with fail
      go_ret
      exact ⟨ret_bool (by rw [HF.out]; simp only [decide_eq_decide]; omega), rfl⟩

theorem picks_any {w : World} {R b c : Nat} {q : Option Addr} {kind : Int} {nums L : List Int} (h : SS w R b q c kind nums L) (hL : L.length ≤ 1000000) (p : Option Addr) (d : Nat) (l : List Int) (hl : Rd w w.heap.size p (ints l)) (h1 : l.length ≤ 1000000) (t e : Int) (ht : nxT kind nums L l = t) (he : nxE l = e) :
    Calls Try.prog 27 #[.pointer (some ⟨R, 0, none⟩), .int .i64 t, .int .i64 e, .slice p l.length d] w fun e w' => e = .returned (.bool true) ∧ SStep w w' R b q c kind nums (nxL kind nums L l) := by
  have HX := Lib.hid (next_any h hL p d l hl h1)
  rw [ht, he] at HX
  generalize nxL kind nums L l = M at *
  clear h hL hl h1 ht he
  generalize l.length = n at *
  go_enter Try.func27, Try.ntmps27
  go_wp2_with fail
  refine HX.out.mono ?_
  rintro e w1 ⟨rfl, hs⟩
  have HS := Lib.hid hs
  clear hs
  go_wp2_with fail
  go_ret
  exact ⟨by first | rfl | simp, HS.out⟩
theorem worstIs_any {w : World} (p : Option Addr) (c : Nat) (l : List Tp) (h : TR w w.heap.size p l) (hl : l.length ≤ 1000000) (t n e : Int) (ht : woT (l.map Tp.tn) = t) (hn : woN (l.map Tp.tn) = n) (he : runE (l.map Tp.tn) = e) :
    Calls Try.prog 16 #[.slice p l.length c, .int .i64 t, .int .i64 n, .int .i64 e] w fun e w' => e = .returned (.bool true) ∧ Below w.heap.size w w' := by
  have HX := Lib.hid (worst_any p c l h hl)
  rw [ht, hn, he] at HX
  clear h hl ht hn he
  generalize l.length = m at *
  go_enter Try.func16, Try.ntmps16
  go_wp2_with fail
  refine HX.out.mono ?_
  rintro e w1 ⟨rfl, hs⟩
  have HS := Lib.hid hs
  clear hs
  go_wp2_with fail
  go_ret
  exact ⟨by first | rfl | simp, HS.out⟩
theorem fairIs_any {w : World} (p : Option Addr) (c : Nat) (l : List Tp) (h : TR w w.heap.size p l) (hl : l.length ≤ 1000000) (b i e : Int) (hi : faI (l.map Tp.tn) b = i) (he : faE (l.map Tp.tn) b = e) :
    Calls Try.prog 18 #[.slice p l.length c, .int .i64 b, .int .i64 i, .int .i64 e] w fun e w' => e = .returned (.bool true) ∧ Below w.heap.size w w' := by
  have HX := Lib.hid (fair_any p c l b h hl)
  rw [hi, he] at HX
  clear h hl hi he
  generalize l.length = m at *
  go_enter Try.func18, Try.ntmps18
  go_wp2_with fail
  refine HX.out.mono ?_
  rintro e w1 ⟨rfl, hs⟩
  have HS := Lib.hid hs
  clear hs
  go_wp2_with fail
  go_ret
  exact ⟨by first | rfl | simp, HS.out⟩
theorem none_any {w : World} (p : Option Addr) (c : Nat) (kind : Int) (nums : List Int) (h : Rd w w.heap.size p (ints nums)) (hl : nums.length ≤ 1000000) (e : Int) (he : newE kind nums = e) (h0 : e ≠ 0) :
    Calls Try.prog 28 #[.int .i64 kind, .int .i64 e, .slice p nums.length c] w fun e w' => e = .returned (.bool true) ∧ Below w.heap.size w w' := by
  have HX := Lib.hid (new_any p c kind nums h hl)
  rw [he] at HX
  have H0 := Lib.hid h0
  clear h hl he h0
  generalize nums.length = m at *
  go_enter Try.func28, Try.ntmps28
  go_wp2_with fail
  refine HX.out.mono ?_
  rintro e w1 ⟨h1, _, hs⟩
  have HS := Lib.hid hs
  obtain rfl := h1 H0.out
  clear hs h1
  go_wp2_with fail
  go_ret
  exact ⟨by first | rfl | simp, HS.out⟩
end Go.Proofs.Ytfidnecdojgkjaa
