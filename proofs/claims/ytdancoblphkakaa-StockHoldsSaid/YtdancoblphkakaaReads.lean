/- What only reads a stock. -/
import Derived.Test.YtdancoblphkakaaWords
import Derived.Test.YtdancoblphkakaaBase
import Derived.BigQuiet
namespace Go.Proofs.Ytdancoblphkakaa
open Go.RowKit

section
variable {X : Nat} {S : Nat → Prop} {G : List (List Int)} {D : List Int} {w : World}
theorem none_any (h : ST w X S G D) : Calls Try.prog 37 #[.pointer (some ⟨X, 0, none⟩)] w fun e w' => e = .returned (.bool false) ∧ w = w' := by
  obtain ⟨h0, h1, _, gb, gc, db, dc, rs, hd⟩ := h
  obtain ⟨hc, _⟩ := hd.cells
  have hn : ((G.length : Int) == 0) = false := by rw [beq_eq_false_iff_ne]; omega
  clear hd
  go_enter Try.func37, Try.ntmps37
  go_wp2_with fail
  go_ret
  exact ⟨rfl, rfl⟩
theorem in_any (p : Int) (h : ST w X S G D) : Calls Try.prog 38 #[.pointer (some ⟨X, 0, none⟩), .int .i64 p] w fun e w' => e = .returned (.bool (okP G.length p)) ∧ w = w' := by
  obtain ⟨h0, h1, _, gb, gc, db, dc, rs, hd⟩ := h
  obtain ⟨hc, _⟩ := hd.cells
  have HT := Lib.hid (okP_iff G.length p)
  clear hd
  by_cases a1 : 0 ≤ p
  · by_cases a2 : p < (G.length : Int)
    · have HR := Lib.hid (HT.out.2 ⟨a1, a2⟩)
      go_enter Try.func38, Try.ntmps38
      go_wp2_with fail
      go_ret
      exact ⟨ret_bool HR.out.symm, rfl⟩
    · have HR := Lib.hid (show okP G.length p = false by rw [Bool.eq_false_iff]; exact fun e => a2 (HT.out.1 e).2)
      have a3 : decide (p < (G.length : Int)) = false := by simp; omega
      go_enter Try.func38, Try.ntmps38
      go_wp2_with fail
      go_ret
      exact ⟨ret_bool HR.out.symm, rfl⟩
  · have HR := Lib.hid (show okP G.length p = false by rw [Bool.eq_false_iff]; exact fun e => a1 (HT.out.1 e).1)
    have a3 : decide (0 ≤ p) = false := by simp; omega
    go_enter Try.func38, Try.ntmps38
    go_wp2_with fail
    go_ret
    exact ⟨ret_bool HR.out.symm, rfl⟩

set_option maxHeartbeats 2000000 in
theorem share_any (p : Nat) (h : ST w X S G D) (hp : p < G.length) : Calls Try.prog 41 #[.pointer (some ⟨X, 0, none⟩), .int .i64 p] w fun e w' => e = .returned (.int .i64 (share G D p)) ∧ Below w.heap.size w w' := by
  have HH := Lib.hid h
  obtain ⟨h0, h1, hN, gb, gc, db, dc, rs, hd⟩ := h
  obtain ⟨hc0, hc1⟩ := hd.cells
  obtain ⟨r, c, hr, hrr⟩ := hd.num hp hp
  have hs := hd.sold hp
  have HN := Lib.hid hN
  have b1 := hN.g p p
  have b2 := hN.d p
  clear hN
  have hpi : (p : Int) < (G.length : Int) := by omega
  have hp0 : (0 : Int) ≤ (p : Int) := by omega
  have HA := Lib.hid (show ga G p p - da D p = shAcc G D p 0 from rfl)
  obtain ⟨x, hx⟩ : ∃ x, ga G p p = x := ⟨_, rfl⟩
  obtain ⟨y, hy⟩ : ∃ y, da D p = y := ⟨_, rfl⟩
  rw [hx] at hrr b1 HA
  rw [hy] at hs b2 HA
  obtain ⟨b3, b4⟩ := b1
  obtain ⟨b5, b6⟩ := b2
  have HD := Lib.hid hd
  clear hd hx hy
  go_enter Try.func41, Try.ntmps41
  go_wp2_with fail
  go_quiet (fail)
  go_wp2_with fail
  rw [HA.out]
  go_loopw [5, 30] (fun s i wr => ∃ k : Nat, k ≤ G.length ∧ i = .int .i64 k ∧ s = .int .i64 (shAcc G D p k) ∧ Below w.heap.size w wr) (fun _ i _ => G.length - (intOf i).toNat)
  case atStart => exact ⟨0, Nat.zero_le _, rfl, rfl, below_drewN (Below.refl _ _) _⟩
  case round =>
    clear hc0 hc1 hr hrr hs HA b3 b4 b5 b6
    obtain ⟨k, hk, rfl, rfl, hb⟩ := hrel
    have hdk := HD.out.kept hb
    obtain ⟨hc0, hc1⟩ := hdk.cells
    have HB := Lib.hid (shAcc_bd HN.out p k)
    by_cases hlt : k < G.length
    · have hki : (k : Int) < (G.length : Int) := by omega
      by_cases hkp : k = p
      · subst hkp
        have HE := Lib.hid (show shAcc G D k (k + 1) = shAcc G D k k by simp [shAcc])
        have hne : ((k : Int) != (k : Int)) = false := by simp
        clear hdk
        go_wp2_with fail
        go_roundw
        case rel => exact ⟨k + 1, by omega, by go_num, by rw [HE.out], hb⟩
        case measure => simp [intOf]; omega
      · have hne : ((k : Int) != (p : Int)) = true := by rw [bne_iff_ne]; omega
        obtain ⟨r1, c1, y0, y1⟩ := hdk.num hlt hp
        obtain ⟨r2, c2, y2, y3⟩ := hdk.num hp hlt
        have HE := Lib.hid (show shAcc G D p (k + 1) = shAcc G D p k + (ga G k p - ga G p k) by rw [shAcc, if_neg hkp])
        obtain ⟨z1, z2⟩ := HN.out.g k p
        obtain ⟨z3, z4⟩ := HN.out.g p k
        have z5 : -18691697672192 ≤ shAcc G D p k := by have := HB.out.1; omega
        have z6 : shAcc G D p k ≤ 18691697672192 := by have := HB.out.2; omega
        generalize shAcc G D p k = acc at HE z5 z6 ⊢
        generalize ga G k p = u at y1 HE z1 z2
        generalize ga G p k = v at y3 HE z3 z4
        clear hdk hkp HB
        go_wp2_with fail
        go_quiet (fail)
        go_wp2_with fail
        go_roundw
        case rel => exact ⟨k + 1, by omega, by go_num, by rw [HE.out], below_drewN hb _⟩
        case measure => simp [intOf]; omega
    · have HK := Lib.hid (show shAcc G D p k = share G D p by rw [share, show k = G.length by omega])
      clear hdk
      go_wp2_with fail
      go_ret
      exact ⟨ret_int HK.out, hb⟩

/-- What Share gives. -/
def shareN (G : List (List Int)) (D : List Int) (p : Int) : Int := if okP G.length p = true then share G D p.toNat else 0
def shareE (G : List (List Int)) (p : Int) : Int := if okP G.length p = true then 0 else 2
theorem Share_any (p : Int) (h : ST w X S G D) : Calls Try.prog 27 #[.pointer (some ⟨X, 0, none⟩), .int .i64 p] w fun e w' => e = .returned (.tuple #[.int .i64 (shareN G D p), .int .i64 (shareE G p)]) ∧ Below w.heap.size w w' := by
  have HC := Lib.hid (none_any h)
  have HI := Lib.hid (in_any p h)
  by_cases ho : okP G.length p = true
  · obtain ⟨h1, h2⟩ := (okP_iff _ _).1 ho
    obtain ⟨i, rfl⟩ : ∃ i : Nat, p = (i : Int) := ⟨p.toNat, by omega⟩
    have HS := Lib.hid (share_any i h (by omega))
    have e1 : shareN G D i = share G D i := by rw [shareN, if_pos ho, Int.toNat_natCast]
    have e2 : shareE G i = 0 := by rw [shareE, if_pos ho]
    rw [e1, e2]
    rw [ho] at HI
    clear e1 e2 ho h h1 h2
    go_enter Try.func27, Try.ntmps27
    go_wp2_with fail
    refine HC.out.mono ?_
    rintro e w' ⟨rfl, rfl⟩
    go_wp2_with fail
    refine HI.out.mono ?_
    rintro e w' ⟨rfl, rfl⟩
    go_wp2_with fail
    refine HS.out.mono ?_
    rintro e w' ⟨rfl, hb⟩
    go_wp2_with fail
    go_ret2
    exact ⟨rfl, hb⟩
  · have e1 : shareN G D p = 0 := by rw [shareN, if_neg ho]
    have e2 : shareE G p = 2 := by rw [shareE, if_neg ho]
    rw [Bool.not_eq_true] at ho
    rw [e1, e2]
    rw [ho] at HI
    clear e1 e2 ho h
    go_enter Try.func27, Try.ntmps27
    go_wp2_with fail
    refine HC.out.mono ?_
    rintro e w' ⟨rfl, rfl⟩
    go_wp2_with fail
    refine HI.out.mono ?_
    rintro e w' ⟨rfl, rfl⟩
    go_wp2_with fail
    go_ret2
    exact ⟨rfl, Below.refl _ _⟩
theorem shares_any (p n e0 : Int) (h : ST w X S G D) (hn : shareN G D p = n) (he : shareE G p = e0) : Calls Try.prog 21 #[.pointer (some ⟨X, 0, none⟩), .int .i64 p, .int .i64 n, .int .i64 e0] w fun e w' => e = .returned (.bool true) ∧ Below w.heap.size w w' := by
  have HS := Lib.hid (Share_any p h)
  rw [hn, he] at HS
  have e1 : (n == n) = true := by simp
  have e2 : (e0 == e0) = true := by simp
  clear hn he h
  go_enter Try.func21, Try.ntmps21
  go_wp2_with fail
  refine HS.out.mono ?_
  rintro e w' ⟨rfl, hb⟩
  go_wp2_with fail
  go_ret
  exact ⟨rfl, hb⟩
theorem places_any (h : ST w X S G D) : Calls Try.prog 22 #[.pointer (some ⟨X, 0, none⟩)] w fun e w' => e = .returned (.int .i64 G.length) ∧ w = w' := by
  have HC := Lib.hid (none_any h)
  obtain ⟨h0, h1, hN, gb, gc, db, dc, rs, hd⟩ := h
  obtain ⟨hc0, _⟩ := hd.cells
  clear hd hN
  go_enter Try.func22, Try.ntmps22
  go_wp2_with fail
  refine HC.out.mono ?_
  rintro e w' ⟨rfl, rfl⟩
  go_wp2_with fail
  go_ret
  exact ⟨rfl, rfl⟩
theorem left_any (h : ST w X S G D) : Calls Try.prog 23 #[.pointer (some ⟨X, 0, none⟩)] w fun e w' => e = .returned (.int .i64 (leftAcc G D G.length)) ∧ Below w.heap.size w w' := by
  have HC := Lib.hid (none_any h)
  have HH := Lib.hid h
  obtain ⟨h0, h1, hN, gb, gc, db, dc, rs, hd⟩ := h
  obtain ⟨hc0, _⟩ := hd.cells
  have HN := Lib.hid hN
  clear hd hN
  go_enter Try.func23, Try.ntmps23
  go_wp2_with fail
  refine HC.out.mono ?_
  rintro e w' ⟨rfl, rfl⟩
  go_wp2_with fail
  go_loopw [3, 12] (fun s i wr => ∃ k : Nat, k ≤ G.length ∧ i = .int .i64 k ∧ s = .int .i64 (leftAcc G D k) ∧ Below w.heap.size w wr) (fun _ i _ => G.length - (intOf i).toNat)
  case atStart => exact ⟨0, Nat.zero_le _, rfl, rfl, Below.refl _ _⟩
  case round =>
    clear hc0
    obtain ⟨k, hk, rfl, rfl, hb⟩ := hrel
    by_cases hlt : k < G.length
    · have hki : (k : Int) < (G.length : Int) := by omega
      have HE := Lib.hid (show leftAcc G D (k + 1) = leftAcc G D k + share G D k from rfl)
      obtain ⟨z1, z2⟩ := share_bd HN.out h1 k
      have HB := Lib.hid (leftAcc_bd HN.out h1 k)
      have z5 : -299067162755072 ≤ leftAcc G D k := by have := HB.out.1; omega
      have z6 : leftAcc G D k ≤ 299067162755072 := by have := HB.out.2; omega
      go_wp2_with fail
      refine (share_any k (HH.out.kept hb) hlt).mono ?_
      rintro e w2 ⟨rfl, hb2⟩
      generalize leftAcc G D k = acc at HE z5 z6 ⊢
      generalize share G D k = u at HE z1 z2 ⊢
      clear HB
      have hb3 := below_step hb hb2
      go_wp2_with fail
      go_roundw
      case rel => exact ⟨k + 1, by omega, by go_num, by rw [HE.out], hb3⟩
      case measure => simp [intOf]; omega
    · have HK := Lib.hid (show leftAcc G D k = leftAcc G D G.length by rw [show k = G.length by omega])
      go_wp2_with fail
      go_ret
      exact ⟨ret_int HK.out, hb⟩
theorem sold_any (h : ST w X S G D) : Calls Try.prog 24 #[.pointer (some ⟨X, 0, none⟩)] w fun e w' => e = .returned (.int .i64 (soldAcc D G.length)) ∧ w' = w := by
  have HC := Lib.hid (none_any h)
  obtain ⟨h0, h1, hN, gb, gc, db, dc, rs, hd⟩ := h
  obtain ⟨_, hc0⟩ := hd.cells
  have HN := Lib.hid hN
  have HD := Lib.hid hd
  clear hd hN
  go_enter Try.func24, Try.ntmps24
  go_wp2_with fail
  refine HC.out.mono ?_
  rintro e w' ⟨rfl, rfl⟩
  go_wp2_with fail
  go_loop [3, 13] (fun s i => ∃ k : Nat, k ≤ G.length ∧ i = .int .i64 k ∧ s = .int .i64 (soldAcc D k)) (fun _ i => G.length - (intOf i).toNat)
  case atStart => exact ⟨0, Nat.zero_le _, rfl, rfl⟩
  case round =>
    clear hc0
    obtain ⟨k, hk, rfl, rfl⟩ := hrel
    by_cases hlt : k < G.length
    · have hki : (k : Int) < (G.length : Int) := by omega
      have HE := Lib.hid (show soldAcc D (k + 1) = soldAcc D k + da D k from rfl)
      obtain ⟨z1, z2⟩ := HN.out.d k
      have hs := HD.out.sold hlt
      have HB := Lib.hid (soldAcc_bd HN.out k)
      have z5 : 0 ≤ soldAcc D k := HB.out.1
      have z6 : soldAcc D k ≤ 299067162755072 := by have := HB.out.2; omega
      generalize soldAcc D k = acc at HE z5 z6 ⊢
      generalize da D k = u at HE z1 z2 hs
      clear HB
      go_wp2_with fail
      go_round
      case rel => exact ⟨k + 1, by omega, by go_num, by rw [HE.out]⟩
      case measure => simp [intOf]; omega
    · have HK := Lib.hid (show soldAcc D k = soldAcc D G.length by rw [show k = G.length by omega])
      go_wp2_with fail
      go_ret
      exact ⟨ret_int HK.out, rfl⟩
/-- Whether no share is below 0. -/
def Right (G : List (List Int)) (D : List Int) : Prop := ∀ p, p < G.length → 0 ≤ share G D p
instance (G : List (List Int)) (D : List Int) : Decidable (Right G D) := by unfold Right; infer_instance
/-- 'right' looks at a stock whose numbers are of units, whatever the shares are. -/
theorem right_any (h : ST w X S G D) : Calls Try.prog 36 #[.pointer (some ⟨X, 0, none⟩)] w fun e w' => e = .returned (.bool (decide (Right G D))) ∧ Below w.heap.size w w' := by
  have HH := Lib.hid h
  obtain ⟨h0, h1, hN, gb, gc, db, dc, rs, hd⟩ := h
  obtain ⟨hc0, _⟩ := hd.cells
  clear hd hN
  go_enter Try.func36, Try.ntmps36
  go_wp2_with fail
  go_loopw [9] (fun i wr => ∃ k : Nat, k ≤ G.length ∧ i = .int .i64 k ∧ (∀ p, p < k → 0 ≤ share G D p) ∧ Below w.heap.size w wr) (fun i _ => G.length - (intOf i).toNat)
  case atStart => exact ⟨0, Nat.zero_le _, rfl, fun p hp => by omega, Below.refl _ _⟩
  case round =>
    clear hc0
    obtain ⟨k, hk, rfl, hs, hb⟩ := hrel
    have HS := Lib.hid hs
    clear hs
    by_cases hlt : k < G.length
    · have hki : (k : Int) < (G.length : Int) := by omega
      go_wp2_with fail
      refine (share_any k (HH.out.kept hb) hlt).mono ?_
      rintro e w2 ⟨rfl, hb2⟩
      have hb3 := below_step hb hb2
      by_cases hneg : share G D k < 0
      · have HR := Lib.hid (show decide (Right G D) = false by rw [decide_eq_false_iff_not]; intro h; have := h k hlt; omega)
        go_wp2_with fail
        go_ret
        exact ⟨ret_bool HR.out.symm, hb3⟩
      · have hpos : 0 ≤ share G D k := by omega
        have HS2 := Lib.hid (show ∀ p, p < k + 1 → 0 ≤ share G D p by
          intro p hp
          by_cases e : p = k
          · subst e; exact hpos
          · exact HS.out p (by omega))
        go_wp2_with fail
        go_roundw
        case rel => exact ⟨k + 1, by omega, by go_num, HS2.out, hb3⟩
        case measure => simp [intOf]; omega
    · have HR := Lib.hid (show decide (Right G D) = true by rw [decide_eq_true_iff]; intro p hp; exact HS.out p (by omega))
      go_wp2_with fail
      go_ret
      exact ⟨ret_bool HR.out.symm, hb⟩
end
end Go.Proofs.Ytdancoblphkakaa
