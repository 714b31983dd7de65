/- The task that was picked longest ago; the table of the ways to pick. -/
import Derived.Test.YtfidnecdojgkjaaPick
import Derived.Laws.EntriesVeiled
namespace Go.Proofs.Ytfidnecdojgkjaa
open Go.RowKit

theorem oldF_take {g : Int → Nat} {l : List Int} {k : Nat} (hk : k < l.length) : (l.take (k + 1)).foldl (oldS g) (l.getD 0 0) = oldS g ((l.take k).foldl (oldS g) (l.getD 0 0)) l[k] := by
  rw [List.take_succ_eq_append_getElem hk, List.foldl_append]; rfl
theorem oldF_one {g : Int → Nat} {l : List Int} (h : 0 < l.length) : (l.take 1).foldl (oldS g) (l.getD 0 0) = l.getD 0 0 := by
  rw [oldF_take h]
  simp only [List.take_zero, List.foldl_nil]
  rw [getD_get l 0 h, oldS, if_neg (Nat.lt_irrefl _)]
theorem foldl_mem {g : Int → Nat} {l : List Int} (h : 0 < l.length) (k : Nat) : (l.take k).foldl (oldS g) (l.getD 0 0) ∈ l := by
  induction k with
  | zero => exact getD_mem h
  | succ k ih =>
    rcases Nat.lt_or_ge k l.length with hk | hk
    · rw [oldF_take hk]
      unfold oldS
      split
      · exact List.getElem_mem hk
      · exact ih
    · rw [List.take_of_length_le (by omega)]
      rw [List.take_of_length_le hk] at ih
      exact ih
section
variable {w : World} {R b c : Nat} {q : Option Addr} {kind : Int} {nums L : List Int}
set_option maxRecDepth 100000 in
theorem min_any (h : SS w R b q c kind nums L) (hL : L.length ≤ 1000000) (M : Nat) (hM : Blk w M 25 [.pointer (some ⟨R, 0, none⟩)]) (p : Option Addr) (d : Nat) (l : List Int) (hl : Rd w w.heap.size p (ints l)) (hE : enB l = true) (h0 : 0 < l.length) (h1 : l.length ≤ 1000000) :
    Calls Try.prog 48 #[.slice p l.length d, .func (.func 49) #[] #[.pointer (some ⟨M, 0, none⟩)]] w fun e w' => e = .returned (.int .i64 (oldF (lastT L) l)) ∧ Below w.heap.size w w' := by
  have HC := Lib.hid fun (w' : World) (hb : Below w.heap.size w w') (x y : Int) hx hy => cmp_any (h.kept hb) hL M (by have := (hM.kept hb).cell 0; exact this) x y hx hy
  have HR := Lib.hid hl
  have HG := Lib.hid (enB_range hE)
  have HX : Hid (∃ bb oo, p = some ⟨bb, oo, none⟩ ∧ w.cell? ⟨bb, oo, none⟩ = some (.int .i64 (l.getD 0 0))) := Lib.hid (by
    obtain ⟨bb, oo, rfl, _, hc⟩ := hl.int h0
    exact ⟨bb, oo, rfl, by rw [Nat.add_zero] at hc; rw [getD_get l 0 h0]; exact hc⟩)
  have H1 := Lib.hid (oldF_one (g := lastT L) h0)
  have HM := Lib.hid (foldl_mem (g := lastT L) h0)
  have HL := Lib.hid (lastT_le L)
  have H0 := Lib.hid h0
  obtain ⟨n, hn⟩ : ∃ n, l.length = n := ⟨_, rfl⟩
  rw [hn] at h0 h1 ⊢
  have HN := Lib.hid hn
  have h0i : (1 : Int) ≤ (n : Int) := by omega
  obtain ⟨bb, oo, rfl, hc0⟩ := HX.out
  obtain ⟨z, hz⟩ : ∃ z, l.getD 0 0 = z := ⟨_, rfl⟩
  rw [hz] at hc0 H1 HM
  have HZ := Lib.hid hz
  clear hn hl h hM hz h0 hL hE
  go_enter Try.func48, Try.ntmps48
  go_wp2_with fail
  go_loopw [5, 6] (fun v i wr => ∃ (k : Nat), 1 ≤ k ∧ k ≤ n ∧ i = .int .i64 k ∧ v = .int .i64 ((l.take k).foldl (oldS (lastT L)) z) ∧ Hid (Below w.heap.size w wr)) (fun _ i _ => n - (intOf i).toNat)
  case atStart => exact ⟨1, Nat.le_refl _, by omega, rfl, by rw [H1.out], Lib.hid (Below.refl _ _)⟩
  case round =>
    obtain ⟨k, hk1, hk, rfl, rfl, HB⟩ := hrel
    by_cases hlt : k < n
    · have hki : (k : Int) < (n : Int) := by omega
      have hlt2 : k < l.length := by rw [HN.out]; exact hlt
      obtain ⟨b', o', hp, hbb, hc⟩ := (HR.out.kept HB.out).int hlt2
      injection hp with hp
      injection hp with e1 e2
      subst e1 e2
      have HT := Lib.hid (by have := oldF_take (g := lastT L) hlt2; rwa [HZ.out] at this)
      have hxr := HG.out l[k] (List.getElem_mem hlt2)
      have hyr := HG.out _ (HM.out k)
      obtain ⟨x, hx⟩ : ∃ x, l[k] = x := ⟨_, rfl⟩
      obtain ⟨y, hy⟩ : ∃ y, (l.take k).foldl (oldS (lastT L)) z = y := ⟨_, rfl⟩
      rw [hx] at hc HT hxr
      rw [hy] at HT hyr ⊢
      have HCC := Lib.hid (HC.out wr HB.out x y hxr hyr)
      have hu := HL.out x
      have hv := HL.out y
      replace HT := Lib.hid (show (l.take (k + 1)).foldl (oldS (lastT L)) z = if lastT L x < lastT L y then x else y from HT.out)
      obtain ⟨u, hu'⟩ : ∃ u, lastT L x = u := ⟨_, rfl⟩
      obtain ⟨v, hv'⟩ : ∃ u, lastT L y = u := ⟨_, rfl⟩
      rw [hu', hv'] at HCC HT
      clear hx hy hlt2 hu hv hu' hv' hxr hyr
      by_cases huv : u < v
      · have huv2 : (u : Int) - (v : Int) < 0 := by omega
        obtain ⟨t, ht⟩ : ∃ t, (u : Int) - (v : Int) = t := ⟨_, rfl⟩
        rw [ht] at HCC huv2
        have HT2 := Lib.hid (HT.out.trans (if_pos huv))
        clear huv ht
        go_wp2_with fail
        refine HCC.out.mono ?_
        rintro e w2 ⟨rfl, hb⟩
        have HB2 := Lib.hid (below_step HB.out hb)
        have hc4 : w2.cell? ⟨bb, oo + k, none⟩ = some (.int .i64 x) := by
          have h9 := World.cell?_of_block (w := wr) (w' := w2) (a := ⟨bb, oo + k, none⟩) (hb.block bb hbb)
          rw [h9]; exact hc
        clear hb
        go_wp2_with fail
        go_roundw
        case rel => exact ⟨k + 1, by omega, by omega, by go_num, by rw [HT2.out], HB2⟩
        case measure => simp [intOf]; omega
      · obtain ⟨t, ht⟩ : ∃ t, (u : Int) - (v : Int) = t := ⟨_, rfl⟩
        have huv2 : decide (t < 0) = false := by simp; omega
        rw [ht] at HCC
        have HT2 := Lib.hid (HT.out.trans (if_neg huv))
        clear huv ht
        go_wp2_with fail
        refine HCC.out.mono ?_
        rintro e w2 ⟨rfl, hb⟩
        have HB2 := Lib.hid (below_step HB.out hb)
        clear hb
        go_wp2_with fail
        go_roundw
        case rel => exact ⟨k + 1, by omega, by omega, by go_num, by rw [HT2.out], HB2⟩
        case measure => simp [intOf]; omega
    · have hkn : k = n := by omega
      subst hkn
      have HF := Lib.hid (show oldF (lastT L) l = (l.take k).foldl (oldS (lastT L)) z by rw [oldF, HZ.out, ← HN.out, List.take_length])
      go_wp2_with fail
      go_ret
      exact ⟨ret_int HF.out.symm, HB.out⟩
theorem old_any (h : SS w R b q c kind nums L) (hL : L.length ≤ 1000000) (p : Option Addr) (d : Nat) (l : List Int) (hl : Rd w w.heap.size p (ints l)) (hE : enB l = true) (h0 : 0 < l.length) (h1 : l.length ≤ 1000000) :
    Calls Try.prog 44 #[.pointer (some ⟨R, 0, none⟩), .slice p l.length d] w fun e w' => e = .returned (.int .i64 (oldF (lastT L) l)) ∧ Below w.heap.size w w' := by
  have HB0 := Lib.hid ((Below.refl w.heap.size w).alloc (Nat.le_refl _) (.cells #[.pointer (some ⟨R, 0, none⟩)] 25))
  have HC := Lib.hid (min_any (h.kept HB0.out) hL w.heap.size (Blk.new w 25 [.pointer (some ⟨R, 0, none⟩)]) p d l (hl.kept HB0.out) hE h0 h1)
  generalize oldF (lastT L) l = z at *
  generalize l.length = n at *
  clear h hl hE h0 h1 hL
  go_enter Try.func44, Try.ntmps44
  go_wp2_with fail
  refine HC.out.mono ?_
  rintro e w1 ⟨rfl, hb⟩
  have HB1 := Lib.hid (below_step HB0.out hb)
  clear hb
  go_wp2_with fail
  go_ret
  exact ⟨rfl, HB1.out⟩
end
theorem pickers_any (w : World) : Calls Try.prog 34 #[] w fun e w' => e = .returned (.agg #[.nilFunc, .func (.func 41) #[] #[], .func (.func 42) #[] #[], .func (.func 43) #[] #[], .func (.func 44) #[] #[]]) ∧ Below w.heap.size w w' := by
  go_enter Try.func34, Try.ntmps34
  go_wp2_with fail
  try simp only [Exit.inBlock, Exit.then]
  have HZ := Blk.new w 74 [.nilFunc, .func (.func 41) #[] #[], .func (.func 42) #[] #[], .func (.func 43) #[] #[], .func (.func 44) #[] #[]]
  refine bodyPost_ret (results_cell_row rfl _ _ w.heap.size 74 _ (0, 0) _ (by rfl) HZ Try.underlying74 (by rfl) (by kernel_rfl)) rfl ?_
  exact ⟨rfl, (Below.refl _ _).alloc (Nat.le_refl _) _⟩
end Go.Proofs.Ytfidnecdojgkjaa
