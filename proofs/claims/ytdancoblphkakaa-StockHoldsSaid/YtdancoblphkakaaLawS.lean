/- The law's share of a state that is held by value. -/
import Derived.Test.YtdancoblphkakaaOf
namespace Go.Proofs.Ytdancoblphkakaa
open Go.RowKit

set_option maxHeartbeats 1000000 in
theorem lawShare_any {w : World} {G : List (List Int)} {D : List Int} (pg qd : Option Addr) (cg cd p : Nat) (hG : MR w pg G) (hD : Rd w w.heap.size qd (ints D)) (hN : Num G D) (hn : G.length ≤ 20) (hl : ∀ i (_ : i < G.length), (G[i]).length = G.length) (hlD : D.length = G.length) (hp : p < G.length) :
    Calls Try.prog 31 #[.agg #[.slice pg G.length cg, .slice qd G.length cd], .int .i64 p] w fun e w' => e = .returned (.int .i64 (lawAcc G D p G.length)) ∧ Below w.heap.size w w' := by
  have HN := Lib.hid hN
  have HL := Lib.hid hl
  have HG := Lib.hid hG
  have hpD : p < D.length := by omega
  obtain ⟨b1, o1, rfl, hb1, hc1⟩ := hD.int hpD
  have hd1 : w.cell? ⟨b1, o1 + p, none⟩ = some (.int .i64 (da D p)) := by rw [da_at hpD]; exact hc1
  have hpi : (p : Int) < (G.length : Int) := by omega
  obtain ⟨z1, z2⟩ := hN.d p
  clear hN hl hG hc1 hD hlD hpD
  go_enter Try.func31, Try.ntmps31
  go_wp2_with fail
  generalize hW : (World.alloc _ _) = W
  have hWb : Below w.heap.size w W := by rw [← hW]; exact (Below.refl _ _).alloc (Nat.le_refl _) _
  have hBk : Blk W w.heap.size 25 [.slice pg G.length cg, .slice (some ⟨b1, o1, none⟩) G.length cd] := by rw [← hW]; exact Blk.new w 25 _
  have hd2 := (hWb.cell (p := ⟨b1, o1 + p, none⟩) hb1).trans hd1
  obtain ⟨N, hNe⟩ : ∃ N, w.heap.size = N := ⟨_, rfl⟩
  rw [hNe] at hBk ⊢
  have c0 := hBk.cell 0
  have c1 := hBk.cell 1
  have HB := Lib.hid hBk
  have HWB := Lib.hid hWb
  have HA := Lib.hid (show - da D p = lawAcc G D p 0 from rfl)
  generalize hv : da D p = v at hd2 z1 z2 HA
  clear hW hNe hBk hWb hd1 hv
  go_wp2_with fail
  rw [HA.out]
  go_loopw [5, 6] (fun s i wr => ∃ k : Nat, k ≤ G.length ∧ i = .int .i64 k ∧ s = .int .i64 (lawAcc G D p k) ∧ Below W.heap.size W wr) (fun _ i _ => G.length - (intOf i).toNat)
  case atStart => exact ⟨0, Nat.zero_le _, rfl, rfl, Below.refl _ _⟩
  case round =>
    clear c0 c1 hd2 HA z1 z2
    obtain ⟨k, hk, rfl, rfl, hb⟩ := hrel
    have hBk := HB.out.kept hb
    have c0 := hBk.cell 0
    clear hBk
    by_cases hlt : k < G.length
    · have hki : (k : Int) < (G.length : Int) := by omega
      have hM := HG.out.kept (below_step HWB.out hb)
      have l1 := HL.out k hlt
      have l2 := HL.out p hp
      obtain ⟨b, o, q, c, e1, _, y1, r1⟩ := hM.at_ hlt
      obtain ⟨b', o', q2, d2, e2, _, y2, r2⟩ := hM.at_ hp
      rw [e1] at e2
      injection e2 with e2
      injection e2 with e3 e4
      subst e3 e4 e1
      obtain ⟨b3, o3, rfl, _, y3⟩ := r1.int (k := p) (by omega)
      obtain ⟨b4, o4, rfl, _, y4⟩ := r2.int (k := k) (by omega)
      rw [← ga_at hlt (by omega)] at y3
      rw [← ga_at hp (by omega)] at y4
      rw [l1] at y1
      rw [l2] at y2
      obtain ⟨z1, z2⟩ := HN.out.g k p
      obtain ⟨z3, z4⟩ := HN.out.g p k
      have hbd := lawAcc_bd HN.out p k
      have z5 : -24189255811072 ≤ lawAcc G D p k := by have := hbd.1; omega
      have z6 : lawAcc G D p k ≤ 24189255811072 := by have := hbd.2; omega
      clear hbd hM l1 l2 r1 r2
      by_cases hkp : k = p
      · subst hkp
        have HE := Lib.hid (show lawAcc G D k (k + 1) = lawAcc G D k k + ga G k k by simp [lawAcc])
        have hne : ((k : Int) != (k : Int)) = false := by simp
        generalize lawAcc G D k k = acc at HE z5 z6 ⊢
        clear y2 y4 z3 z4
        generalize ga G k k = u at HE z1 z2 y3
        go_wp2_with fail
        go_roundw
        case rel => exact ⟨k + 1, by omega, by go_num, by rw [HE.out], hb⟩
        case measure => simp [intOf]; omega
      · have HE := Lib.hid (show lawAcc G D p (k + 1) = lawAcc G D p k + ga G k p - ga G p k by simp [lawAcc, hkp])
        have hne : ((k : Int) != (p : Int)) = true := by rw [bne_iff_ne]; omega
        generalize lawAcc G D p k = acc at HE z5 z6 ⊢
        generalize ga G k p = u at HE z1 z2 y3
        generalize ga G p k = v2 at HE z3 z4 y4
        clear hkp
        go_wp2_with fail
        go_roundw
        case rel => exact ⟨k + 1, by omega, by go_num, by rw [HE.out], hb⟩
        case measure => simp [intOf]; omega
    · have HK := Lib.hid (show lawAcc G D p k = lawAcc G D p G.length by rw [show k = G.length by omega])
      have HF := Lib.hid (below_step HWB.out hb)
      go_wp2_with fail
      go_ret
      exact ⟨ret_int HK.out, HF.out⟩
end Go.Proofs.Ytdancoblphkakaa
