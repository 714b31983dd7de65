/- Grow of nil, Concat. -/
import Derived.Test.YtmhkbchbglnbpaaReads
import Derived.Lib.AppendZeros
namespace Go.Proofs.Ytmhkbchbglnbpaa
open Go.RowKit

/-- Grow of nil. -/
theorem grow_any (n : Nat) (w : World) (hn : n ≤ 1000000) : Calls Try.prog 48 #[.slice none 0 0, .int .i64 n] w fun e w' => ∃ v, e = .returned v ∧ w'.ownsRow w.heap.size 5 1 v 0 [] ∧ Below w.heap.size w w' := by
  by_cases h0 : n = 0
  · subst h0
    have h1 : decide ((0 : Int) < ((0 : Nat) : Int)) = false := by decide
    go_enter Try.func48, Try.ntmps48
    go_wp2_with fail
    go_ret
    exact ⟨_, rfl, World.ownsRow_nil _ _ _ _, Below.refl _ _⟩
  · obtain ⟨i, hi, h1, h2, h3⟩ := info_parts u8_info
    have hr := fun ty => Lib.run_append_nil_zeros (P := Try.prog) w 23 3 ty 5 i (.int .u8 0) .i64 .i64 Try.underlying23 (by kernel_rfl) hi h1 n (by omega) (by rw [h2]; omega) (by omega) (by rw [h3]; omega)
    have hge := grownCap_ge w n 0 5
    have hle := grownCap_le_maxLen w n 0 5 (by unfold maxLen; omega)
    generalize grownCap w n 0 5 = G at hr hge hle
    have hpos : (0 : Int) < (n : Int) := by omega
    have HL := Lib.hid hle
    have HG := Lib.hid hge
    clear h0 hi h1 h2 h3 hle hge
    go_enter Try.func48, Try.ntmps48
    go_wp2_with (at_builtin; refine Lib.wpList_append_run _ rfl _ _ _ _ rfl _ _ rfl rfl _ _ (hr _) ?_)
    go_ret
    refine ⟨_, rfl, ⟨rfl, .inr ⟨w.heap.size, G, Builtin.zeroCells #[.int .u8 0] n ++ Builtin.zeroCells #[.int .u8 0] (G - n), rfl, Nat.le_refl _, heap_alloc_new w _, Nat.zero_le _, HL.out, ?_, by simp⟩⟩, ?_⟩
    · have := HG.out
      simp [Builtin.zeroCells]; omega
    · exact ((Below.refl _ _).alloc (Nat.le_refl _) _).drew

/-- Slices of bytes side by side, all readable. -/
def PR (w : World) (p : Option Addr) (G : List (List Int)) : Prop := ∃ vs, Rd w w.heap.size p vs ∧ vs.length = G.length ∧ ∀ i (_ : i < vs.length) (_ : i < G.length), ∃ q c, vs[i] = .slice q (G[i]).length c ∧ Rd w w.heap.size q (bys G[i])
theorem PR.kept {w w' : World} {p : Option Addr} {G : List (List Int)} (h : PR w p G) (k : Below w.heap.size w w') : PR w' p G := by
  obtain ⟨vs, h1, h2, h3⟩ := h
  refine ⟨vs, h1.kept k, h2, fun i hi hi2 => ?_⟩
  obtain ⟨q, c, e, hr⟩ := h3 i hi hi2
  exact ⟨q, c, e, hr.kept k⟩
theorem PR.at_ {w : World} {p : Option Addr} {G : List (List Int)} (h : PR w p G) {i : Nat} (hi : i < G.length) : ∃ b o q c, p = some ⟨b, o, none⟩ ∧ b < w.heap.size ∧ w.cell? ⟨b, o + i, none⟩ = some (.slice q (G[i]).length c) ∧ Rd w w.heap.size q (bys G[i]) := by
  obtain ⟨vs, h1, h2, h3⟩ := h
  have hi2 : i < vs.length := by omega
  obtain ⟨q, c, e, hr⟩ := h3 i hi2 hi
  obtain ⟨b, o, hp, hb, hc, _⟩ := h1.at_ hi2
  exact ⟨b, o, q, c, hp, hb, by rw [hc, e], hr⟩
theorem flat_take (G : List (List Int)) {k : Nat} (hk : k < G.length) : (G.take (k + 1)).flatten = (G.take k).flatten ++ G[k] := by
  rw [List.take_succ_eq_append_getElem hk, List.flatten_append]; simp only [List.flatten_cons, List.flatten_nil, List.append_nil]
theorem flat_le (G : List (List Int)) (k : Nat) : (G.take k).flatten.length ≤ G.flatten.length := by
  conv => rhs; rw [← List.take_append_drop k G, List.flatten_append, List.length_append]
  omega

set_option maxRecDepth 100000 in
theorem concat_any (p : Option Addr) (c : Nat) (G : List (List Int)) (w : World) (h : PR w p G) (hl : G.flatten.length ≤ 1000000) (hg : G.length ≤ 1000) :
    Calls Try.prog 43 #[.slice p G.length c] w (RetBs w G.flatten) := by
  have HP := Lib.hid h
  have HL := Lib.hid hl
  obtain ⟨n, hn⟩ : ∃ n, G.length = n := ⟨_, rfl⟩
  rw [hn] at hg ⊢
  have HN := Lib.hid hn
  clear hn h hl
  go_enter Try.func43, Try.ntmps43
  go_wp2_with fail
  go_loopw [3, 11] (fun s i wr => ∃ k : Nat, k ≤ n ∧ i = .int .i64 k ∧ s = .int .i64 ((G.take k).flatten.length : Nat) ∧ w = wr) (fun _ i _ => n - (intOf i).toNat)
  case atStart => exact ⟨0, Nat.zero_le _, rfl, by simp, rfl⟩
  case round =>
    obtain ⟨k, hk, rfl, rfl, rfl⟩ := hrel
    by_cases hlt : k < n
    · have hki : (k : Int) < (n : Int) := by omega
      have hlt2 : k < G.length := by rw [HN.out]; exact hlt
      obtain ⟨b, o, q, d, rfl, hb, hc, hr⟩ := HP.out.at_ hlt2
      have e := congrArg List.length (flat_take G hlt2)
      rw [List.length_append] at e
      have e2 := flat_le G (k + 1)
      have e3 := HL.out
      obtain ⟨s, hs⟩ : ∃ s, (G.take k).flatten.length = s := ⟨_, rfl⟩
      obtain ⟨t, ht⟩ : ∃ t, (G[k]).length = t := ⟨_, rfl⟩
      rw [hs, ht] at e
      rw [ht] at hc
      rw [hs]
      have hst : s + t ≤ 1000000 := by omega
      have hs0 : s ≤ 1000000 := by omega
      have ht0 : t ≤ 1000000 := by omega
      have E := Lib.hid e
      clear e e2 e3 hs ht hr
      go_wp2_with fail
      go_roundw
      case rel => exact ⟨k + 1, by omega, by go_num, by rw [E.out]; go_num, trivial⟩
      case measure => simp [intOf]; omega
    · have hkn : k = n := by omega
      subst hkn
      have e1 : (G.take k).flatten.length = G.flatten.length := by rw [← HN.out, List.take_length]
      have HG := Lib.hid (fun w => grow_any G.flatten.length w HL.out)
      rw [e1]
      have hT : G.flatten.length ≤ 1000000 := HL.out
      obtain ⟨T, hT2⟩ : ∃ T, G.flatten.length = T := ⟨_, rfl⟩
      rw [hT2] at HG hT ⊢
      have HT := Lib.hid hT2
      clear e1 hT2
      go_wp2_with fail
      refine (HG.out _).mono ?_
      rintro e w1 ⟨v, rfl, hown, hb⟩
      have HO := Lib.hid (show w1.ownsRow w.heap.size 5 1 v ((G.take 0).flatten.length) (bys ((G.take 0).flatten)) by simpa [bys] using hown)
      clear hown
      go_wp2_with fail
      go_loopw [6, 27] (fun v i wr => ∃ k' : Nat, k' ≤ k ∧ i = .int .i64 k' ∧ wr.ownsRow w.heap.size 5 1 v ((G.take k').flatten.length) (bys ((G.take k').flatten)) ∧ Below w.heap.size w wr) (fun _ i _ => k - (intOf i).toNat)
      case atStart => exact ⟨0, Nat.zero_le _, rfl, HO.out, hb⟩
      case round =>
        obtain ⟨k', hk', rfl, hown, hb1⟩ := hrel
        by_cases hlt' : k' < k
        · have hki : (k' : Int) < (k : Int) := by omega
          have hlt2 : k' < G.length := by rw [HN.out]; exact hlt'
          obtain ⟨b, o, q, d, rfl, hbb, hc, hr⟩ := (HP.out.kept hb1).at_ hlt2
          have HF := Lib.hid (flat_take G hlt2)
          have e := congrArg List.length (flat_take G hlt2)
          rw [List.length_append] at e
          have e2 := flat_le G (k' + 1)
          have e3 := HL.out
          obtain ⟨s, hs⟩ : ∃ s, (G.take k').flatten.length = s := ⟨_, rfl⟩
          obtain ⟨t, ht⟩ : ∃ t, (G[k']).length = t := ⟨_, rfl⟩
          rw [hs, ht] at e
          rw [ht] at hc
          rw [hs] at hown
          have hst : s + t ≤ 1000000 := by omega
          have E := Lib.hid e
          have HT' := Lib.hid ht
          clear e e2 e3 hs ht
          go_wp2_with (at_builtin; refine wpList_appM rfl (.tmp 31) (.tmp 32) 23 rfl w.heap.size 5 _ 1 1 Try.underlying23 u8_info rfl (by omega) _ s _ rfl hown _ q t d (bys (G[k'])) rfl (by rw [bys_len, HT'.out, Nat.mul_one]) hr (bys_one _) (by omega) (by omega) hb1.size ?_; intro v2 w2 hown2 hb2 _ _)
          go_roundw
          case rel => exact ⟨k' + 1, by omega, by go_num, by rw [E.out, HF.out, bys_app]; exact hown2, hb1.trans hb2⟩
          case measure => simp [intOf]; omega
        · have hkn : k' = k := by omega
          subst hkn
          have e1 : (G.take k') = G := by rw [← HN.out, List.take_length]
          rw [e1] at hown
          clear e1
          go_wp2_with fail
          go_ret
          exact ⟨_, rfl, hown, hb1⟩
end Go.Proofs.Ytmhkbchbglnbpaa
