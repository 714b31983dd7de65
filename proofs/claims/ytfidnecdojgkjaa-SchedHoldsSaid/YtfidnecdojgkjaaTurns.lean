/- Turns in memory; valid. -/
import Derived.Test.YtfidnecdojgkjaaPlainW
import Derived.Test.YtfidnecdojgkjaaBasics
namespace Go.Proofs.Ytfidnecdojgkjaa
open Go.RowKit

/-- A turn as it lies in memory. -/
structure Tp where
  q : Option Addr
  c : Nat
  en : List Int
  pk : Int
def Tp.cells (x : Tp) : List Value := [.slice x.q x.en.length x.c, .int .i64 x.pk]
def Tp.tn (x : Tp) : Tn := ⟨x.en, x.pk⟩
def tps (l : List Tp) : List Value := l.flatMap Tp.cells
theorem tps_cons (m : Tp) (l : List Tp) : tps (m :: l) = .slice m.q m.en.length m.c :: .int .i64 m.pk :: tps l := rfl
theorem tps_len : ∀ l : List Tp, (tps l).length = l.length * 2
  | [] => rfl
  | m :: l => by rw [tps_cons]; simp only [List.length_cons]; rw [tps_len l]; omega
theorem tps_at : ∀ (l : List Tp) (k : Nat) (h : k < l.length), (tps l)[k * 2]? = some (.slice (l[k]).q (l[k]).en.length (l[k]).c) ∧ (tps l)[k * 2 + 1]? = some (.int .i64 (l[k]).pk)
  | m :: l, 0, _ => ⟨rfl, rfl⟩
  | m :: l, k + 1, h => by
    rw [tps_cons, show (k + 1) * 2 = k * 2 + 1 + 1 from by omega]
    have := tps_at l k (by simpa using h)
    simpa [Nat.add_right_comm] using this
/-- Turns that can be read, in blocks below B. -/
def TR (w : World) (B : Nat) (p : Option Addr) (l : List Tp) : Prop := Rd w B p (tps l) ∧ ∀ x ∈ l, Rd w B x.q (ints x.en) ∧ x.en.length ≤ 1000000
theorem TR.below {w w' : World} {B : Nat} {p : Option Addr} {l : List Tp} (h : TR w B p l) (hb : Below B w w') : TR w' B p l := ⟨h.1.below hb, fun x hx => ⟨(h.2 x hx).1.below hb, (h.2 x hx).2⟩⟩
theorem TR.more {w : World} {B B' : Nat} {p : Option Addr} {l : List Tp} (h : TR w B p l) (hb : B ≤ B') : TR w B' p l := ⟨h.1.more hb, fun x hx => ⟨(h.2 x hx).1.more hb, (h.2 x hx).2⟩⟩
theorem TR.kept {w w' : World} {p : Option Addr} {l : List Tp} (h : TR w w.heap.size p l) (hb : Below w.heap.size w w') : TR w' w'.heap.size p l := (h.below hb).more hb.size
theorem TR.at_ {w : World} {B : Nat} {p : Option Addr} {l : List Tp} (h : TR w B p l) {k : Nat} (hk : k < l.length) :
    ∃ b o, p = some ⟨b, o, none⟩ ∧ b < B ∧ w.cell? ⟨b, o + k * 2, none⟩ = some (.slice (l[k]).q (l[k]).en.length (l[k]).c) ∧ w.cell? ⟨b, o + k * 2 + 1, none⟩ = some (.int .i64 (l[k]).pk) ∧ Rd w B (l[k]).q (ints (l[k]).en) ∧ (l[k]).en.length ≤ 1000000 := by
  obtain ⟨b, o, hp, hb, _, hc⟩ := h.1.at_ (k := k * 2) (by rw [tps_len]; omega)
  obtain ⟨h0, h1⟩ := tps_at l k hk
  exact ⟨b, o, hp, hb, hc _ _ h0, by have := hc _ _ h1; rw [Nat.add_assoc]; exact this, (h.2 _ (List.getElem_mem hk)).1, (h.2 _ (List.getElem_mem hk)).2⟩
theorem tn_len (l : List Tp) : (l.map Tp.tn).length = l.length := by simp
theorem tn_at (l : List Tp) {k : Nat} (hk : k < l.length) : (l.map Tp.tn)[k]'(by simpa using hk) = ⟨(l[k]).en, (l[k]).pk⟩ := by simp [Tp.tn]

set_option maxRecDepth 100000 in
theorem valid_any {w : World} (p : Option Addr) (c : Nat) (l : List Tp) (h : TR w w.heap.size p l) (hl : l.length ≤ 1000000) :
    Calls Try.prog 35 #[.slice p l.length c] w fun e w' => e = .returned (.int .i64 (runE (l.map Tp.tn))) ∧ Below w.heap.size w w' := by
  have HR := Lib.hid h
  have HLG := Lib.hid (fun (h : 100000 < l.length) => runE_long (T := l.map Tp.tn) (by rw [tn_len]; exact h))
  have HBD := Lib.hid (fun (h : ¬ 100000 < l.length) (k : Nat) (hk : k < l.length) (hb : okT ⟨(l[k]).en, (l[k]).pk⟩ = false) => runE_bad (T := l.map Tp.tn) (by rw [tn_len]; exact h) (k := k) (by rw [tn_len]; exact hk) (by rw [tn_at l hk]; exact hb))
  have HOK := Lib.hid (fun (h : ¬ 100000 < l.length) (hb : ∀ k (hk : k < l.length), okT ⟨(l[k]).en, (l[k]).pk⟩ = true) => runE_ok (T := l.map Tp.tn) (by rw [tn_len]; exact h) (fun k hk => by rw [tn_at l (by simpa using hk)]; exact hb k (by simpa using hk)))
  generalize runE (l.map Tp.tn) = r at *
  obtain ⟨n, hn⟩ : ∃ n, l.length = n := ⟨_, rfl⟩
  rw [hn] at hl ⊢
  have HN := Lib.hid hn
  clear hn h
  by_cases hg : 100000 < n
  · have hgi : (100000 : Int) < (n : Int) := by omega
    have HF := Lib.hid (HLG.out (by rw [HN.out]; exact hg))
    clear hg
    go_enter Try.func35, Try.ntmps35
    go_wp2_with fail
    go_ret
    exact ⟨ret_int HF.out.symm, Below.refl _ _⟩
  · have hgi : (n : Int) ≤ 100000 := by omega
    have HG := Lib.hid (show ¬ 100000 < l.length by rw [HN.out]; exact hg)
    clear hg
    go_enter Try.func35, Try.ntmps35
    go_wp2_with fail
    go_loopw [10] (fun i wr => ∃ k : Nat, k ≤ n ∧ i = .int .i64 k ∧ Hid (∀ j (hj : j < l.length), j < k → okT ⟨(l[j]).en, (l[j]).pk⟩ = true) ∧ Hid (Below w.heap.size w wr)) (fun i _ => n - (intOf i).toNat)
    case atStart => exact ⟨0, Nat.zero_le _, rfl, Lib.hid (fun j _ hj => by omega), Lib.hid (Below.refl _ _)⟩
    case round =>
      obtain ⟨k, hk, rfl, HK, HB⟩ := hrel
      by_cases hlt : k < n
      · have hki : (k : Int) < (n : Int) := by omega
        have hlt2 : k < l.length := by rw [HN.out]; exact hlt
        obtain ⟨b, o, rfl, hbw, hc0, hc1, hrd, hel⟩ := (HR.out.kept HB.out).at_ hlt2
        have HBB := Lib.hid (fun hb => HBD.out HG.out k hlt2 hb)
        have HKK : Hid (okT ⟨(l[k]).en, (l[k]).pk⟩ = true → ∀ j (hj : j < l.length), j < k + 1 → okT ⟨(l[j]).en, (l[j]).pk⟩ = true) := Lib.hid (fun h j hj hjk => by
          by_cases e : j = k
          · subst e; exact h
          · exact HK.out j hj (by omega))
        obtain ⟨x, hx⟩ : ∃ x, l[k] = x := ⟨_, rfl⟩
        rw [hx] at hc0 hc1 hrd hel HBB HKK
        clear hx hlt2
        obtain ⟨q, d, en, pk⟩ := x
        simp only at hc0 hc1 hrd hel HBB HKK
        obtain ⟨wa, hwa⟩ : ∃ wa, wr.alloc (.cells #[.slice q en.length d, .int .i64 pk] 44) = wa := ⟨_, rfl⟩
        have HBa := Lib.hid (show Below wr.heap.size wr wa by rw [← hwa]; exact (Below.refl _ _).alloc (Nat.le_refl _) _)
        have HBk := Lib.hid (show Blk wa wr.heap.size 44 [.slice q en.length d, .int .i64 pk] by rw [← hwa]; exact Blk.new wr 44 _)
        have HRD := Lib.hid (hrd.kept HBa.out)
        have HEn := Lib.hid (enabled_any q d en wa HRD.out hel)
        have HCo := Lib.hid (fun (w' : World) (hb : Below wa.heap.size wa w') => contains_any q d en pk w' (HRD.out.kept hb) hel)
        have f0 := HBk.out.cell 0
        have f1 := HBk.out.cell 1
        simp only [List.getElem?_cons_zero, List.getElem?_cons_succ] at f0 f1
        clear hrd hel HRD
        generalize en.length = m at *
        cases hE : enB en with
        | false =>
          rw [hE] at HEn
          have HF := Lib.hid (HBB.out (by simp [okT, hE]))
          clear hE HBB HKK HCo
          go_wp2_with fail
          refine HEn.out.mono ?_
          rintro e w1 ⟨rfl, hb1⟩
          have HB1 := Lib.hid (below_step HB.out (below_step HBa.out hb1))
          clear hb1
          go_wp2_with fail
          go_ret
          exact ⟨ret_int HF.out.symm, HB1.out⟩
        | true =>
          rw [hE] at HEn
          cases hP : decide (pk ∈ en) with
          | false =>
            rw [hP] at HCo
            have HF := Lib.hid (HBB.out (by simp [okT, hE, hP]))
            clear hE HBB HKK hP
            go_wp2_with fail
            refine HEn.out.mono ?_
            rintro e w1 ⟨rfl, hb1⟩
            have HB1 := Lib.hid (below_step HB.out (below_step HBa.out hb1))
            have HC1 := Lib.hid (HCo.out w1 hb1)
            have d0 := (HBk.out.kept hb1).cell 0
            have d1 := (HBk.out.kept hb1).cell 1
            simp only [List.getElem?_cons_zero, List.getElem?_cons_succ] at d0 d1
            clear hb1
            go_wp2_with fail
            refine HC1.out.mono ?_
            rintro e w2 ⟨rfl, rfl⟩
            go_wp2_with fail
            go_ret
            exact ⟨ret_int HF.out.symm, HB1.out⟩
          | true =>
            rw [hP] at HCo
            have HF := Lib.hid (HKK.out (by simp only [okT, hE, hP]; rfl))
            clear hE HBB HKK hP
            go_wp2_with fail
            refine HEn.out.mono ?_
            rintro e w1 ⟨rfl, hb1⟩
            have HB1 := Lib.hid (below_step HB.out (below_step HBa.out hb1))
            have HC1 := Lib.hid (HCo.out w1 hb1)
            have d0 := (HBk.out.kept hb1).cell 0
            have d1 := (HBk.out.kept hb1).cell 1
            simp only [List.getElem?_cons_zero, List.getElem?_cons_succ] at d0 d1
            clear hb1
            go_wp2_with fail
            refine HC1.out.mono ?_
            rintro e w2 ⟨rfl, rfl⟩
            go_wp2_with fail
            go_roundw
            case rel => exact ⟨k + 1, by omega, by go_num, HF, HB1⟩
            case measure => simp [intOf]; omega
      · have hkn : k = n := by omega
        subst hkn
        have HF := Lib.hid (HOK.out HG.out (fun j hj => HK.out j hj (by have := HN.out; omega)))
        go_wp2_with fail
        go_ret
        exact ⟨ret_int HF.out.symm, HB.out⟩
end Go.Proofs.Ytfidnecdojgkjaa
