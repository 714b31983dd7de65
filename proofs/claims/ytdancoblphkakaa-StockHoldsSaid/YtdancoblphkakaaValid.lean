/- small, valid: which states are small, which are valid. -/
import Derived.Test.YtdancoblphkakaaOwn
namespace Go.Proofs.Ytdancoblphkakaa
open Go.RowKit

/-- A bool that tells whether something holds. -/
def RetB (w : World) (p : Prop) (e : Ending) (w' : World) : Prop := ∃ b, e = .returned (.bool b) ∧ (b = true ↔ p) ∧ Below w.heap.size w w'
theorem retB_yes {w w' : World} {p : Prop} (h : p) (hb : Below w.heap.size w w') : RetB w p (.returned (.bool true)) w' := ⟨true, rfl, by simp [h], hb⟩
theorem retB_no {w w' : World} {p : Prop} (h : ¬ p) (hb : Below w.heap.size w w') : RetB w p (.returned (.bool false)) w' := ⟨false, rfl, by simp [h], hb⟩
def Small (G : List (List Int)) (D : List Int) : Prop := G.length ≤ 20 ∧ (∀ i (_ : i < G.length), (G[i]).length ≤ 20) ∧ D.length ≤ 20
set_option maxHeartbeats 1000000 in
theorem small_any {w : World} {G : List (List Int)} {D : List Int} (pg qd : Option Addr) (cg cd : Nat) (hG : MR w pg G) : Calls Try.prog 8 #[.agg #[.slice pg G.length cg, .slice qd D.length cd]] w (RetB w (Small G D)) := by
  have HG := Lib.hid hG
  clear hG
  go_enter Try.func8, Try.ntmps8
  go_wp2_with fail
  generalize hW : (World.alloc _ _) = W
  have hWb : Below w.heap.size w W := by rw [← hW]; exact (Below.refl _ _).alloc (Nat.le_refl _) _
  have hBN : Blk W w.heap.size 25 [.slice pg G.length cg, .slice qd D.length cd] := by rw [← hW]; exact Blk.new w 25 _
  obtain ⟨Nb, hNe⟩ : ∃ Nb, w.heap.size = Nb := ⟨_, rfl⟩
  rw [hNe] at hBN ⊢
  have c0 := hBN.cell 0
  have c1 := hBN.cell 1
  have HB := Lib.hid hWb
  clear hW hNe hWb hBN
  go_loop [3] (fun i => ∃ k : Nat, k ≤ G.length ∧ k ≤ 21 ∧ i = .int .i64 k ∧ ∀ i (_ : i < G.length), i < k → (G[i]).length ≤ 20) (fun i => 21 - (intOf i).toNat)
  case atStart => exact ⟨0, Nat.zero_le _, by omega, rfl, fun i _ h => by omega⟩
  case round =>
    obtain ⟨k, hk, hk2, rfl, hr⟩ := hrel
    have HR := Lib.hid hr
    clear hr
    by_cases hlt : k < G.length
    · have hki : (k : Int) < (G.length : Int) := by omega
      by_cases h21 : k < 21
      · have h21i : (k : Int) < 21 := by omega
        obtain ⟨b, o, q, c, rfl, lb, y0, _⟩ := (HG.out.kept HB.out).at_ hlt
        by_cases hl : (G[k]).length ≤ 20
        · have hl1 : ((G[k]).length : Int) ≤ 20 := by omega
          have HL := Lib.hid (show ∀ i (_ : i < G.length), i < k + 1 → (G[i]).length ≤ 20 from fun i a b => by
            by_cases e : i = k
            · subst e; exact hl
            · exact HR.out i a (by omega))
          go_wp2_with fail
          go_round
          case rel => exact ⟨k + 1, by omega, by omega, by go_num, HL.out⟩
          case measure => simp [intOf]; omega
        · have hl1 : 20 < ((G[k]).length : Int) := by omega
          have HO := Lib.hid (retB_no (w := w) (p := Small G D) (fun h => hl (h.2.1 k hlt)) HB.out)
          clear hl
          go_wp2_with fail
          go_ret
          exact HO.out
      · have h21i : decide ((k : Int) < 21) = false := by simp; omega
        have hg1 : 20 < (G.length : Int) := by omega
        have hg2 : decide ((G.length : Int) ≤ 20) = false := by simp; omega
        have HO := Lib.hid (retB_no (w := w) (p := Small G D) (fun h => by have := h.1; omega) HB.out)
        clear h21
        go_wp2_with fail
        go_ret
        exact HO.out
    · have hki : decide (k < G.length) = false := by simp; omega
      have hkn : k = G.length := by omega
      by_cases hg : G.length ≤ 20
      · have hg1 : (G.length : Int) ≤ 20 := by omega
        by_cases hd : D.length ≤ 20
        · have hd1 : decide ((D.length : Int) ≤ 20) = true := by simp; omega
          have HO := Lib.hid (retB_yes (w := w) (p := Small G D) ⟨hg, fun i a => HR.out i a (by omega), hd⟩ HB.out)
          clear hkn hlt hd
          go_wp2_with fail
          go_ret
          exact HO.out
        · have hd1 : decide ((D.length : Int) ≤ 20) = false := by simp; omega
          have HO := Lib.hid (retB_no (w := w) (p := Small G D) (fun h => by have := h.2.2; omega) HB.out)
          clear hkn hlt hd
          go_wp2_with fail
          go_ret
          exact HO.out
      · have hg2 : decide ((G.length : Int) ≤ 20) = false := by simp; omega
        have HO := Lib.hid (retB_no (w := w) (p := Small G D) (fun h => by have := h.1; omega) HB.out)
        clear hkn hlt hg
        go_wp2_with fail
        go_ret
        exact HO.out
def inU (x : Int) : Prop := 0 ≤ x ∧ x ≤ 1099511627776
def RowOk (G : List (List Int)) (D : List Int) (i : Nat) : Prop := (∀ (_ : i < G.length), (G[i]).length = G.length) ∧ inU (da D i) ∧ ∀ k, k < G.length → inU (ga G i k)
def Shape (G : List (List Int)) (D : List Int) : Prop := 1 ≤ G.length ∧ G.length ≤ 16 ∧ D.length = G.length ∧ ∀ i, i < G.length → RowOk G D i
def Valid (G : List (List Int)) (D : List Int) : Prop := Shape G D ∧ Right G D
theorem Shape.len {G : List (List Int)} {D : List Int} (h : Shape G D) : ∀ i (_ : i < G.length), (G[i]).length = G.length := fun i hi => (h.2.2.2 i hi).1 hi
theorem Shape.num {G : List (List Int)} {D : List Int} (h : Shape G D) : Num G D := by
  refine ⟨fun i k => ?_, fun i => ?_⟩
  · by_cases e : i < G.length ∧ k < G.length
    · exact (h.2.2.2 i e.1).2.2 k e.2
    · rw [num_out rfl h.len e]; omega
  · by_cases e : i < G.length
    · exact (h.2.2.2 i e).2.1
    · have : da D i = 0 := by unfold da; rw [List.getD_eq_getElem?_getD, List.getElem?_eq_none (by rw [h.2.2.1]; omega)]; rfl
      rw [this]; omega
theorem shape_of {G : List (List Int)} {D : List Int} (h0 : 1 ≤ G.length) (h1 : G.length ≤ 16) (hN : Num G D) (hD : D.length = G.length) (hl : ∀ i (_ : i < G.length), (G[i]).length = G.length) : Shape G D :=
  ⟨h0, h1, hD, fun i hi => ⟨hl i, hN.d i, fun k _ => hN.g i k⟩⟩
set_option maxHeartbeats 4000000 in
theorem valid_any {w : World} {G : List (List Int)} {D : List Int} (pg qd : Option Addr) (cg cd : Nat) (hG : MR w pg G) (hD : Rd w w.heap.size qd (ints D)) : Calls Try.prog 9 #[.agg #[.slice pg G.length cg, .slice qd D.length cd]] w (RetB w (Valid G D)) := by
  by_cases h1 : 1 ≤ G.length
  case neg =>
    have h2 : (G.length : Int) < 1 := by omega
    have HV := Lib.hid (show ¬ Valid G D from fun h => h1 h.1.1)
    clear h1 hG hD
    go_enter Try.func9, Try.ntmps9
    go_wp2_with fail
    go_ret
    exact retB_no HV.out ((Below.refl _ _).alloc (Nat.le_refl _) _)
  have i1 : (1 : Int) ≤ (G.length : Int) := by omega
  have i1b : decide ((G.length : Int) < 1) = false := by simp; omega
  by_cases h16 : G.length ≤ 16
  case neg =>
    have h2 : 16 < (G.length : Int) := by omega
    have HV := Lib.hid (show ¬ Valid G D from fun h => h16 h.1.2.1)
    clear h16 hG hD
    go_enter Try.func9, Try.ntmps9
    go_wp2_with fail
    go_ret
    exact retB_no HV.out ((Below.refl _ _).alloc (Nat.le_refl _) _)
  have i2 : (G.length : Int) ≤ 16 := by omega
  have i2b : decide (16 < (G.length : Int)) = false := by simp; omega
  by_cases hDl : D.length = G.length
  case neg =>
    have HV := Lib.hid (show ¬ Valid G D from fun h => hDl h.1.2.2.1)
    have hne : ((D.length : Int) != (G.length : Int)) = true := by rw [bne_iff_ne]; omega
    clear hDl hG hD
    go_enter Try.func9, Try.ntmps9
    go_wp2_with fail
    go_ret
    exact retB_no HV.out ((Below.refl _ _).alloc (Nat.le_refl _) _)
  rw [hDl]
  have hne : ((G.length : Int) != (G.length : Int)) = false := by simp
  have HDL := Lib.hid hDl
  have HG := Lib.hid hG
  have HD := Lib.hid hD
  clear hG hD hDl
  go_enter Try.func9, Try.ntmps9
  go_wp2_with fail
  generalize hW : (World.alloc _ _) = W
  have hWb : Below w.heap.size w W := by rw [← hW]; exact (Below.refl _ _).alloc (Nat.le_refl _) _
  have hBN : Blk W w.heap.size 25 [.slice pg G.length cg, .slice qd G.length cd] := by rw [← hW]; exact Blk.new w 25 _
  obtain ⟨Nb, hNe⟩ : ∃ Nb, w.heap.size = Nb := ⟨_, rfl⟩
  rw [hNe] at hBN ⊢
  have c0 := hBN.cell 0
  have c1 := hBN.cell 1
  have HBN := Lib.hid hBN
  have HB := Lib.hid hWb
  clear hW hNe hWb hBN
  go_wp2_with fail
  go_loop [4] (fun i => ∃ k : Nat, k ≤ G.length ∧ i = .int .i64 k ∧ ∀ i, i < k → RowOk G D i) (fun i => G.length - (intOf i).toNat)
  case atStart => exact ⟨0, Nat.zero_le _, rfl, fun i h => by omega⟩
  case round =>
    obtain ⟨k, hk, rfl, hr⟩ := hrel
    have HR := Lib.hid hr
    clear hr
    by_cases hlt : k < G.length
    · have hki : (k : Int) < (G.length : Int) := by omega
      obtain ⟨b, o, q, c, rfl, lb, y0, r0⟩ := (HG.out.kept HB.out).at_ hlt
      have HGT := Lib.hid (fun j (hj : j < (G[k]).length) => r0.int hj)
      by_cases hl : (G[k]).length = G.length
      case neg =>
        have hne2 : (((G[k]).length : Int) != (G.length : Int)) = true := by rw [bne_iff_ne]; omega
        have HO := Lib.hid (retB_no (w := w) (p := Valid G D) (fun h => hl (h.1.len k hlt)) HB.out)
        clear hl r0
        go_wp2_with fail
        go_ret
        exact HO.out
      have HLK := Lib.hid hl
      rw [hl] at y0
      clear hl r0
      obtain ⟨b2, o2, rfl, _, y1⟩ := (HD.out.kept HB.out).int (k := k) (by rw [HDL.out]; exact hlt)
      rw [← da_at (by rw [HDL.out]; exact hlt)] at y1
      by_cases d0 : 0 ≤ da D k
      case neg =>
        have d1 : da D k < 0 := by omega
        have HO := Lib.hid (retB_no (w := w) (p := Valid G D) (fun h => d0 (h.1.2.2.2 k hlt).2.1.1) HB.out)
        clear d0
        generalize da D k = z at y1 d1
        go_wp2_with fail
        go_ret
        exact HO.out
      by_cases d1 : da D k ≤ 1099511627776
      case neg =>
        have d2 : 1099511627776 < da D k := by omega
        have d0b : decide (da D k < 0) = false := by simp; omega
        have HO := Lib.hid (retB_no (w := w) (p := Valid G D) (fun h => d1 (h.1.2.2.2 k hlt).2.1.2) HB.out)
        clear d1
        generalize da D k = z at y1 d2 d0 d0b
        go_wp2_with fail
        go_ret
        exact HO.out
      have HDK := Lib.hid (show inU (da D k) from ⟨d0, d1⟩)
      have d0b : decide (da D k < 0) = false := by simp; omega
      have d1b : decide (1099511627776 < da D k) = false := by simp; omega
      generalize da D k = z at y1 d0 d1 d0b d1b
      go_wp2_with fail
      go_loop [5] (fun j => ∃ m : Nat, m ≤ G.length ∧ j = .int .i64 m ∧ ∀ i, i < m → inU (ga G k i)) (fun j => G.length - (intOf j).toNat)
      case atStart => exact ⟨0, Nat.zero_le _, rfl, fun i h => by omega⟩
      case round =>
        clear y1 d0 d1 d0b d1b
        obtain ⟨m, hm, rfl, hs⟩ := hrel
        have HS := Lib.hid hs
        clear hs
        by_cases hlt2 : m < G.length
        · have hmi : (m : Int) < (G.length : Int) := by omega
          obtain ⟨b3, o3, rfl, _, y3⟩ := HGT.out m (by rw [HLK.out]; exact hlt2)
          rw [← ga_at hlt (by rw [HLK.out]; exact hlt2)] at y3
          by_cases e0 : 0 ≤ ga G k m
          case neg =>
            have e1 : ga G k m < 0 := by omega
            have HO := Lib.hid (retB_no (w := w) (p := Valid G D) (fun h => e0 ((h.1.2.2.2 k hlt).2.2 m hlt2).1) HB.out)
            clear e0
            generalize ga G k m = z3 at y3 e1
            go_wp2_with fail
            go_ret
            exact HO.out
          by_cases e1 : ga G k m ≤ 1099511627776
          case neg =>
            have e2 : 1099511627776 < ga G k m := by omega
            have e0b : decide (ga G k m < 0) = false := by simp; omega
            have HO := Lib.hid (retB_no (w := w) (p := Valid G D) (fun h => e1 ((h.1.2.2.2 k hlt).2.2 m hlt2).2) HB.out)
            clear e1
            generalize ga G k m = z3 at y3 e2 e0 e0b
            go_wp2_with fail
            go_ret
            exact HO.out
          have HE := Lib.hid (show ∀ i, i < m + 1 → inU (ga G k i) from fun i hi => by
            by_cases e : i = m
            · subst e; exact ⟨e0, e1⟩
            · exact HS.out i (by omega))
          have e0b : decide (ga G k m < 0) = false := by simp; omega
          have e1b : decide (1099511627776 < ga G k m) = false := by simp; omega
          generalize ga G k m = z3 at y3 e0 e1 e0b e1b
          go_wp2_with fail
          go_round
          case rel => exact ⟨m + 1, by omega, by go_num, HE.out⟩
          case measure => simp [intOf]; omega
        · have hmn : m = G.length := by omega
          have HF := Lib.hid (show ∀ i, i < k + 1 → RowOk G D i from fun i hi => by
            by_cases e : i = k
            · subst e; exact ⟨fun _ => HLK.out, HDK.out, fun a ha => HS.out a (by omega)⟩
            · exact HR.out i (by omega))
          clear hmn
          go_wp2_with fail
          go_round
          case rel => exact ⟨k + 1, by omega, by go_num, HF.out⟩
          case measure => simp [intOf]; omega
    · have HSH := Lib.hid (show Shape G D from ⟨h1, h16, HDL.out, fun i hi => HR.out i (by omega)⟩)
      go_wp2_with fail
      go_loopw [6] (fun j wr => ∃ m : Nat, m ≤ G.length ∧ j = .int .i64 m ∧ (∀ i, i < m → 0 ≤ share G D i) ∧ Below W.heap.size W wr) (fun j _ => G.length - (intOf j).toNat)
      case atStart => exact ⟨0, Nat.zero_le _, rfl, fun i h => by omega, Below.refl _ _⟩
      case round =>
        clear c0 c1
        obtain ⟨m, hm, rfl, hs, hb⟩ := hrel
        have HS := Lib.hid hs
        clear hs
        have c0 := (HBN.out.kept hb).cell 0
        have c1 := (HBN.out.kept hb).cell 1
        have HBB := Lib.hid (below_step HB.out hb)
        by_cases hlt2 : m < G.length
        · have hmi : (m : Int) < (G.length : Int) := by omega
          have HLS := Lib.hid (lawShare_any pg qd cg cd m (HG.out.kept HBB.out) (HD.out.kept HBB.out) HSH.out.num (by omega) HSH.out.len HDL.out hlt2)
          rw [law_share hlt2] at HLS
          go_wp2_with fail
          refine HLS.out.mono ?_
          rintro e w2 ⟨rfl, hb2⟩
          have HB2 := Lib.hid (below_step hb hb2)
          by_cases hn : share G D m < 0
          · have HO := Lib.hid (retB_no (w := w) (p := Valid G D) (fun h => by have := h.2 m hlt2; omega) (below_step HB.out HB2.out))
            clear hb2 c0 c1
            go_wp2_with fail
            go_ret
            exact HO.out
          · have hn2 : 0 ≤ share G D m := by omega
            have hn3 : decide (share G D m < 0) = false := by simp; omega
            have HT := Lib.hid (show ∀ i, i < m + 1 → 0 ≤ share G D i from fun i hi => by
              by_cases e : i = m
              · subst e; exact hn2
              · exact HS.out i (by omega))
            clear hb2 c0 c1 hn
            go_wp2_with fail
            go_roundw
            case rel => exact ⟨m + 1, by omega, by go_num, HT.out, HB2.out⟩
            case measure => simp [intOf]; omega
        · have HO := Lib.hid (retB_yes (w := w) (p := Valid G D) ⟨HSH.out, fun p hp => HS.out p (by omega)⟩ HBB.out)
          clear c0 c1
          go_wp2_with fail
          go_ret
          exact HO.out
end Go.Proofs.Ytdancoblphkakaa
