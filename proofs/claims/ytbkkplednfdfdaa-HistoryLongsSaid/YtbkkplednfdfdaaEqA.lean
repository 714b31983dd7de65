/- Lists of bytes and of lines, compared. -/
import Derived.Test.YtbkkplednfdfdaaData
import Derived.Test.YtbkkplednfdfdaaSteps
import Derived.Test.YtbkkplednfdfdaaSt
import Derived.Lib.Bytes
import Derived.BigQuiet
import Derived.Laws.StructEq
namespace Go.Proofs.Ytbkkplednfdfdaa
open Go.RowKit Go.Maps

theorem str_inj {a b : ByteArray} (h : a.toList = b.toList) : a = b := by
  rw [ByteArray.toList_eq, ByteArray.toList_eq] at h
  rcases a with ⟨⟨a⟩⟩
  rcases b with ⟨⟨b⟩⟩
  simpa using h
theorem str_beq (s t : ByteArray) : (s.toList == t.toList) = decide (s = t) := by
  by_cases h : s = t
  · subst h; simp
  · rw [decide_eq_false h, beq_eq_false_iff_ne]
    exact fun e => h (str_inj e)
theorem conv_any {w : World} {B : Nat} {p : Option Addr} {l : List Int} (h : Rd w B p (bys l)) (c : Nat) : (convert 37 9 (.slice p l.length c)).run Try.prog w = .ok (.string (strOfNums l)) w := by
  rcases h with hx | ⟨b, o, rfl, hb, hc⟩
  · have : l = [] := by simpa [bys] using hx
    subst this
    rcases p with _ | a
    · exact run_convert_bytes_nil w 37 5 Try.underlying37 (by kernel_rfl) _ _ 9 (by kernel_rfl)
    · have := run_convert_bytes_string (P := Try.prog) w 37 9 5 (some a) 0 c Try.underlying37 (by kernel_rfl) (by kernel_rfl)
      simp only [List.length_nil]
      rw [this, run_bytesToString w a 0 c [] (by simpa using run_loadCells_list (P := Try.prog) w a [] (by simp))]
      rfl
  · refine run_convert_bytes_arg w 37 5 Try.underlying37 (by kernel_rfl) b o l.length c l rfl ?_ 9 (by kernel_rfl)
    intro i hi
    rw [hc i (.int .u8 (l.getD i 0))]
    simp [bys, List.getD, List.getElem?_eq_getElem hi]
theorem eqg43 : Try.prog.eqGuardType Try.prog.depth 43 = false := by kernel_rfl
theorem neq43 (w : World) (s t : ByteArray) (i j : Int) : (binOp .neq 43 (.agg #[.string s, .int .i64 i]) (.agg #[.string t, .int .i64 j])).run Try.prog w = .ok (.bool (!decide (s = t ∧ i = j))) w := by
  have u3 := Try.underlying3
  have u9 := Try.underlying9
  have hS : Try.prog.underlying 43 = some (.struct (Try.prog.fieldsOf 43)) := by kernel_rfl
  have hp : Try.prog.stoodInHeld 43 = false := by kernel_rfl
  have hb := str_beq s t
  rw [run_neq_struct, show (10000 : Nat) = 9999 + 1 from rfl, run_equalIn_agg w 9999 43 _ _ hS hp]
  simp only [Program.fieldsOf, Try.underlying43]
  go_simp
  by_cases h1 : s = t <;> by_cases h2 : i = j <;> simp [h1, h2]
set_option maxRecDepth 100000 in
theorem bytesEqual_any (w : World) (p q : Option Addr) (a b : List Int) (c d : Nat) (ha : Rd w w.heap.size p (bys a)) (hb : Rd w w.heap.size q (bys b)) :
    Calls Try.prog 31 #[.slice p a.length c, .slice q b.length d] w fun e w' => e = .returned (.bool (decide (strOfNums a = strOfNums b))) ∧ w' = w := by
  have h1 := conv_any ha c
  have h2 := conv_any hb d
  clear ha hb
  generalize strOfNums a = s at *
  generalize strOfNums b = t at *
  generalize a.length = n at *
  generalize b.length = m at *
  go_enter Try.func31, Try.ntmps31
  go_wp2_with fail
  go_ret
  exact ⟨by simp [str_beq], rfl⟩
set_option maxRecDepth 100000 in
theorem linesEqual_any (w : World) (p q : Option Addr) (a b : List (ByteArray × Int)) (c d : Nat) (ha : Rd w w.heap.size p (lns a)) (hb : Rd w w.heap.size q (lns b)) (hc : a.length ≤ c) (hd : b.length ≤ d) (hl : a.length ≤ 1000) (hm : b.length ≤ 1000) :
    Calls Try.prog 32 #[.slice p a.length c, .slice q b.length d] w fun e w' => e = .returned (.bool (decide (a = b))) ∧ Below w.heap.size w w' := by
  have HA := Lib.hid ha
  have HB := Lib.hid hb
  clear ha hb
  by_cases hne : a.length = b.length
  · obtain ⟨n, hn⟩ : ∃ n, a.length = n := ⟨_, rfl⟩
    have HN := Lib.hid hn
    have HM := Lib.hid (show b.length = n by omega)
    rw [← hne] at hd hm ⊢
    rw [hn] at hc hd hl ⊢
    obtain ⟨r, hr⟩ : ∃ r, decide (a = b) = r := ⟨_, rfl⟩
    have HR := Lib.hid hr
    rw [hr]
    have hni : (n : Int) ≤ 1000 := by omega
    clear hne hn hr hm
    go_enter Try.func32, Try.ntmps32
    go_wp2_with fail
    go_loopw [13] (fun i wr => ∃ (k : Nat), k ≤ n ∧ i = .int .i64 k ∧ Hid (a.take k = b.take k) ∧ Hid (Below w.heap.size w wr)) (fun i _ => n - (intOf i).toNat)
    case atStart => exact ⟨0, Nat.zero_le _, rfl, Lib.hid rfl, Lib.hid (Below.refl _ _)⟩
    case round =>
      obtain ⟨k, hk, rfl, HI, HW⟩ := hrel
      by_cases hlt : k < n
      · have hki : (k : Int) < (n : Int) := by omega
        have hk1 : k < a.length := by rw [HN.out]; exact hlt
        have hk2 : k < b.length := by rw [HM.out]; exact hlt
        obtain ⟨x, hx⟩ : ∃ x, a[k] = x := ⟨_, rfl⟩
        obtain ⟨y, hy⟩ : ∃ y, b[k] = y := ⟨_, rfl⟩
        obtain ⟨b1, o1, rfl, hb1, -, hc1⟩ := (HA.out.kept HW.out).at_ (k := k * 2) (by rw [lns_len]; omega)
        obtain ⟨b2, o2, rfl, hb2, -, hc2⟩ := (HB.out.kept HW.out).at_ (k := k * 2) (by rw [lns_len]; omega)
        have u1 := hc1 (k * 2) _ (by rw [(lns_at a k hk1).1, hx])
        have u2 := hc1 (k * 2 + 1) _ (by rw [(lns_at a k hk1).2, hx])
        have v1 := hc2 (k * 2) _ (by rw [(lns_at b k hk2).1, hy])
        have v2 := hc2 (k * 2 + 1) _ (by rw [(lns_at b k hk2).2, hy])
        have HX := Lib.hid (show a.take (k + 1) = a.take k ++ [x] by rw [← hx]; simp)
        have HY := Lib.hid (show b.take (k + 1) = b.take k ++ [y] by rw [← hy]; simp)
        obtain ⟨s, i⟩ := x
        obtain ⟨t, j⟩ := y
        simp only [← Nat.add_assoc] at u1 u2 v1 v2
        clear hx hy hc1 hc2 hk1 hk2 hb1 hb2
        have L1 : wr.rangeAt b1 (o1 + k * 2) [.string s, .int .i64 i] := fun z v hz => by
          match z, hz with
          | 0, hz => simp at hz; subst hz; exact u1
          | 1, hz => simp at hz; subst hz; exact u2
        have L2 : wr.rangeAt b2 (o2 + k * 2) [.string t, .int .i64 j] := fun z v hz => by
          match z, hz with
          | 0, hz => simp at hz; subst hz; exact v1
          | 1, hz => simp at hz; subst hz; exact v2
        clear L1 L2
        obtain ⟨z, hz⟩ : ∃ z, decide (s = t ∧ i = j) = z := ⟨_, rfl⟩
        have HZ := Lib.hid hz
        have hne : ∀ w, (binOp .neq 43 (.agg #[.string s, .int .i64 i]) (.agg #[.string t, .int .i64 j])).run Try.prog w = .ok (.bool (!z)) w := fun w => by rw [← hz]; exact neq43 w s t i j
        have hg : ∀ w x y, (eqGuard .neq 43 x y (.agg #[.string s, .int .i64 i]) (.agg #[.string t, .int .i64 j])).run Try.prog w = .ok () w := fun w x y => run_eqGuard_agg w .neq 43 x y _ _ eqg43
        clear hz
        cases z with
        | true =>
          have HE := Lib.hid (show a.take (k + 1) = b.take (k + 1) by
            have h := of_decide_eq_true HZ.out
            rw [HX.out, HY.out, HI.out, h.1, h.2])
          go_wp2_with fail
          go_quiet (fail)
          have HD := Lib.hid (below_drewN HW.out nq)
          clear u1 u2 v1 v2 hne hg
          generalize wr.drewN nq = w2 at *
          go_wp2_with fail
          go_roundw
          case rel => exact ⟨k + 1, by omega, by go_num, HE, HD⟩
          case measure => simp [intOf]; omega
        | false =>
          have hrf : r = false := by
            rw [← HR.out]
            apply decide_eq_false
            intro e
            have h := of_decide_eq_false HZ.out
            have h2 := HX.out
            have h3 := HY.out
            rw [e] at h2
            rw [h3] at h2
            have h4 := List.append_inj_right h2 (by simp [e])
            simp at h4
            exact h ⟨h4.1.symm, h4.2.symm⟩
          subst hrf
          go_wp2_with fail
          go_quiet (fail)
          have HD := Lib.hid (below_drewN HW.out nq)
          clear u1 u2 v1 v2 hne hg
          generalize wr.drewN nq = w2 at *
          go_wp2_with fail
          go_ret
          exact ⟨rfl, HD.out⟩
      · have hkn : k = n := by omega
        subst hkn
        have hrt : r = true := by
          rw [← HR.out]
          apply decide_eq_true
          have h := HI.out
          rw [List.take_of_length_le (by have := HN.out; omega), List.take_of_length_le (by have := HM.out; omega)] at h
          exact h
        subst hrt
        go_wp2_with fail
        go_ret
        exact ⟨rfl, HW.out⟩
  · have hrf : decide (a = b) = false := decide_eq_false (fun e => hne (by rw [e]))
    rw [hrf]
    obtain ⟨n, hn⟩ : ∃ n, a.length = n := ⟨_, rfl⟩
    obtain ⟨m, hm'⟩ : ∃ m, b.length = m := ⟨_, rfl⟩
    rw [hn, hm'] at hne ⊢
    have h3 : ((n : Int) != (m : Int)) = true := by simp; omega
    clear hn hm' hrf hc hd hl hm HA HB hne
    go_enter Try.func32, Try.ntmps32
    go_wp2_with fail
    go_ret
    exact ⟨rfl, Below.refl _ _⟩
/-- A list of lists of bytes in memory. -/
def BatR (R : Rdr) (p : Option Addr) (n c : Nat) (a : List (List Int)) : Prop := n = a.length ∧ n ≤ c ∧ ∃ hs : List Hd, hs.length = a.length ∧ R 37 p (hds hs) ∧ ∀ (i : Nat) (h : Hd) (b : List Int), hs[i]? = some h → a[i]? = some b → h.n = b.length ∧ h.n ≤ h.c ∧ R 5 h.q (bys b)
theorem AR.batR {R : Rdr} {op err cnt : Int} {lq : Option Addr} {ln lc : Nat} {bq : Option Addr} {bn bc : Nat} {a : PA} (h : AR R op err cnt lq ln lc bq bn bc a) : BatR R bq bn bc a.bats := ⟨h.blen, h.bcap, h.bats⟩
/-- One of them. -/
theorem BatR.at_ {w : World} {B : Nat} {p : Option Addr} {n c : Nat} {a : List (List Int)} (h : BatR (RdW w B) p n c a) {k : Nat} (hk : k < n) :
    ∃ b o q m d x, p = some ⟨b, o, none⟩ ∧ b < B ∧ w.cell? ⟨b, o + k, none⟩ = some (.slice q m d) ∧ a[k]? = some x ∧ m = x.length ∧ m ≤ d ∧ Rd w B q (bys x) := by
  obtain ⟨h1, h2, hs, h3, h4, h5⟩ := h
  have hk1 : k < hs.length := by omega
  have hk2 : k < a.length := by omega
  obtain ⟨b, o, e, hlt, hc, -⟩ := Rd.at_ h4 (k := k) (by rw [hds_len]; exact hk1)
  obtain ⟨h6, h7, h8⟩ := h5 k _ _ (List.getElem?_eq_getElem hk1) (List.getElem?_eq_getElem hk2)
  refine ⟨b, o, hs[k].q, hs[k].n, hs[k].c, a[k], e, hlt, ?_, List.getElem?_eq_getElem hk2, h6, h7, h8⟩
  rw [hc]
  simp [hds, Hd.val]
def batK (a : List (List Int)) : List ByteArray := a.map strOfNums
set_option maxRecDepth 100000 in
theorem batsEqual_any (w : World) (p q : Option Addr) (a b : List (List Int)) (n c m d : Nat) (ha : BatR (RdW w w.heap.size) p n c a) (hb : BatR (RdW w w.heap.size) q m d b) (hl : n ≤ 1000) (hm : m ≤ 1000) :
    Calls Try.prog 33 #[.slice p n c, .slice q m d, .func (.func 31) #[] #[]] w fun e w' => e = .returned (.bool (decide (batK a = batK b))) ∧ w' = w := by
  have HA := Lib.hid ha
  have HB := Lib.hid hb
  have hc := ha.2.1
  have hd := hb.2.1
  have hn1 := ha.1
  have hm1 := hb.1
  by_cases hne : n = m
  · subst hne
    have HN := Lib.hid hn1
    have HM := Lib.hid hm1
    obtain ⟨r, hr⟩ : ∃ r, decide (batK a = batK b) = r := ⟨_, rfl⟩
    have HR := Lib.hid hr
    rw [hr]
    have hni : (n : Int) ≤ 1000 := by omega
    clear hr hm hm1 hn1 ha hb
    go_enter Try.func33, Try.ntmps33
    go_wp2_with fail
    go_loop [17] (fun i => ∃ (k : Nat), k ≤ n ∧ i = .int .i64 k ∧ Hid ((batK a).take k = (batK b).take k)) (fun i => n - (intOf i).toNat)
    case atStart => exact ⟨0, Nat.zero_le _, rfl, Lib.hid rfl⟩
    case round =>
      obtain ⟨k, hk, rfl, HI⟩ := hrel
      by_cases hlt : k < n
      · have hki : (k : Int) < (n : Int) := by omega
        obtain ⟨b1, o1, q1, m1, d1, x, rfl, hb1, u1, hx, rfl, hd1, hr1⟩ := HA.out.at_ hlt
        obtain ⟨b2, o2, q2, m2, d2, y, rfl, hb2, u2, hy, rfl, hd2, hr2⟩ := HB.out.at_ hlt
        have HX := Lib.hid (show (batK a).take (k + 1) = (batK a).take k ++ [strOfNums x] by rw [List.take_add_one]; simp [batK, hx])
        have HY := Lib.hid (show (batK b).take (k + 1) = (batK b).take k ++ [strOfNums y] by rw [List.take_add_one]; simp [batK, hy])
        have HC := Lib.hid (bytesEqual_any w q1 q2 x y d1 d2 hr1 hr2)
        clear hx hy hr1 hr2 hb1 hb2
        obtain ⟨z, hz⟩ : ∃ z, decide (strOfNums x = strOfNums y) = z := ⟨_, rfl⟩
        have HZ := Lib.hid hz
        rw [hz] at HC
        generalize x.length = m1 at *
        generalize y.length = m2 at *
        clear hz
        go_wp2_with fail
        refine HC.out.mono ?_
        rintro e w2 ⟨rfl, rfl⟩
        clear HC
        cases z with
        | true =>
          have HE := Lib.hid (show (batK a).take (k + 1) = (batK b).take (k + 1) by
            rw [HX.out, HY.out, HI.out, of_decide_eq_true HZ.out])
          go_wp2_with fail
          go_round
          case rel => exact ⟨k + 1, by omega, by go_num, HE⟩
          case measure => simp [intOf]; omega
        | false =>
          have hrf : r = false := by
            rw [← HR.out]
            apply decide_eq_false
            intro e
            have h := of_decide_eq_false HZ.out
            have h2 := HX.out
            have h3 := HY.out
            rw [e] at h2
            rw [h3] at h2
            have h4 := List.append_inj_right h2 (by simp [e])
            simp at h4
            exact h h4.symm
          subst hrf
          go_wp2_with fail
          go_ret
          exact ⟨rfl, rfl⟩
      · have hkn : k = n := by omega
        subst hkn
        have hrt : r = true := by
          rw [← HR.out]
          apply decide_eq_true
          have h := HI.out
          rw [List.take_of_length_le (by have : k = _ := HN.out; simp [batK]; omega), List.take_of_length_le (by have : k = _ := HM.out; simp [batK]; omega)] at h
          exact h
        subst hrt
        go_wp2_with fail
        go_ret
        exact ⟨rfl, rfl⟩
  · have hrf : decide (batK a = batK b) = false := decide_eq_false (fun e => hne (by
      have := congrArg List.length e
      simp [batK] at this
      omega))
    rw [hrf]
    have h3 : ((n : Int) != (m : Int)) = true := by simp; omega
    clear hrf hc hd hl hm HA HB hne ha hb hn1 hm1
    go_enter Try.func33, Try.ntmps33
    go_wp2_with fail
    go_ret
    exact ⟨rfl, rfl⟩
end Go.Proofs.Ytbkkplednfdfdaa
