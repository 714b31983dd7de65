/- The walk of LocksPlays: it returns true. -/
import Derived.Test.YthjakgjpnijmlaaLawB
import Derived.Test.YthjakgjpnijmlaaArgs
namespace Go.Proofs.Ythjakgjpnijmlaa
open Go.RowKit

/-- The locks and the document's, side by side. -/
structure PlD (w0 w : World) (L X : Nat) (S U : Nat → Prop) (Q : List (List Int)) (H : List Int) (T : List (List Int)) : Prop where
  l : LK w L S Q
  x : RX w X U H T
  b : Below w0.heap.size w0 w
  s : ∀ b, S b → w0.heap.size ≤ b
  u : ∀ b, U b → w0.heap.size ≤ b
  d : ∀ b, S b → ¬ U b
section
variable {w0 w w' : World} {L X : Nat} {S U : Nat → Prop} {Q Q' : List (List Int)} {H H' : List Int} {T T' : List (List Int)}
theorem PlD.ref (h : PlD w0 w L X S U Q H T) (k : RW w w' X U H' T') : ∃ U', PlD w0 w' L X S U' Q H' T' := by
  obtain ⟨U', k1, k2, k3, _⟩ := k
  have hsz := h.b.size
  refine ⟨U', h.l.fr k2 h.d, k1, Fr.below h.b k2 h.u, h.s, fun b hb => ?_, fun b hb hu => ?_⟩
  · rcases k3 b hb with e | e
    · exact h.u b e
    · omega
  · rcases k3 b hu with e | e
    · exact h.d b hb e
    · have := h.l.lt b hb; omega
theorem PlD.lock (h : PlD w0 w L X S U Q H T) (k : LockW w w' L S Q') : ∃ S', PlD w0 w' L X S' U Q' H T := by
  obtain ⟨S', k1, k2, k3, _⟩ := k
  have hsz := h.b.size
  refine ⟨S', k1, h.x.fr k2 (fun b hb hs => h.d b hs hb), Fr.below h.b k2 h.s, fun b hb => ?_, h.u, fun b hb hu => ?_⟩
  · rcases k3 b hb with e | e
    · exact h.s b e
    · omega
  · rcases k3 b hb with e | e
    · exact h.d b e hu
    · have := h.x.lt b hu; omega
theorem PlD.kept (h : PlD w0 w L X S U Q H T) (k : Below w.heap.size w w') : PlD w0 w' L X S U Q H T := ⟨h.l.kept k, h.x.kept k, below_step h.b k, h.s, h.u, h.d⟩
theorem Blk.rw {N : Nat} {cs : List Value} {t : TypeId} (h : Blk w N t cs) (k : RW w w' X U H' T') (hn : ∀ b, U b → b < N) : Blk w' N t cs := by
  obtain ⟨_, _, k2, _⟩ := k
  exact h.fr k2 (fun e => by have := hn _ e; omega)
theorem Blk.ac3 {N : Nat} {a o s : Int} (h : Blk w N 35 (Ac.cells ⟨a, o, s⟩)) : w.cell? ⟨N, 0, none⟩ = some (.int .i64 a) ∧ w.cell? ⟨N, 1, none⟩ = some (.int .i64 o) ∧ w.cell? ⟨N, 2, none⟩ = some (.int .i64 s) := ⟨h.cell 0, h.cell 1, h.cell 2⟩
theorem small_of {k : Nat} (h : total Q ≤ k) (hk : k ≤ 1000) : ∀ q ∈ Q, q.length ≤ 100000 := fun q hq => by have := len_le_total Q q hq; omega
theorem tails_small (h : ∀ q ∈ Q, q.length ≤ 100000) : ∀ t ∈ tails Q, t.length ≤ 100000 := by
  intro t ht
  simp only [tails, List.mem_map] at ht
  obtain ⟨q, hq, rfl⟩ := ht
  have := h q hq
  simp; omega
/-- While the elder locks go on: the copy and the document's stand. -/
structure CpD (w0 w : World) (L L2 X : Nat) (S S2 U : Nat → Prop) (Qc Q : List (List Int)) (H : List Int) (T : List (List Int)) : Prop where
  c : LK w L S Qc
  p : PlD w0 w L2 X S2 U Q H T
  s : ∀ b, S b → w0.heap.size ≤ b
  d2 : ∀ b, S b → ¬ S2 b
  du : ∀ b, S b → ¬ U b
theorem CpD.lock {L2 : Nat} {S2 : Nat → Prop} {Qc Qc' : List (List Int)} (h : CpD w0 w L L2 X S S2 U Qc Q H T) (k : LockW w w' L S Qc') : ∃ S', CpD w0 w' L L2 X S' S2 U Qc' Q H T := by
  obtain ⟨S', k1, k2, k3, _⟩ := k
  have hsz := h.p.b.size
  refine ⟨S', k1, ⟨h.p.l.fr k2 (fun b hb hs => h.d2 b hs hb), h.p.x.fr k2 (fun b hb hs => h.du b hs hb), Fr.below h.p.b k2 h.s, h.p.s, h.p.u, h.p.d⟩, fun b hb => ?_, fun b hb hu => ?_, fun b hb hu => ?_⟩
  · rcases k3 b hb with e | e
    · exact h.s b e
    · omega
  · rcases k3 b hb with e | e
    · exact h.d2 b e hu
    · have := h.p.l.lt b hu; omega
  · rcases k3 b hb with e | e
    · exact h.du b e hu
    · have := h.p.x.lt b hu; omega
end

set_option maxRecDepth 100000 in
set_option maxHeartbeats 16000000 in
theorem locksPlays_core (n : Nat) (p : Option Addr) (cc : Nat) (l : List Ac) (w : World) (h1 : 1 ≤ n) (h2 : n ≤ 12) (hl : l.length ≤ 60) (h : Rd w w.heap.size p (acs l)) :
    Calls Try.prog 6 #[.int .i64 n, .slice p l.length cc] w fun e w' => e = .returned (.bool true) ∧ Below w.heap.size w w' := by
  have i1 : (1 : Int) ≤ (n : Int) := by omega
  have i2 : (n : Int) ≤ 12 := by omega
  have i3 : (l.length : Int) ≤ 60 := by omega
  go_enter Try.func6, Try.ntmps6
  go_wp2_with fail
  refine (new_yes n _ h1 (by omega)).mono ?_
  rintro e w1 ⟨L0, rfl, S0, hL0, hb1, hS0⟩
  go_wp2_with fail
  refine (refNew_any n _ (by omega)).mono ?_
  rintro e w2 ⟨X, rfl, U0, hX0, hb2, hU0⟩
  have hP0 : PlD w w2 L0 X S0 U0 (List.replicate n []) (heads (List.replicate n [])) (tails (List.replicate n [])) := by
    rw [heads_new, tails_new]
    have := hb1.size
    exact ⟨hL0.kept hb2, hX0, below_step hb1 hb2, hS0, fun b hb => by have := hU0 b hb; omega, fun b hb hu => by have := hL0.lt b hb; have := hU0 b hu; omega⟩
  clear hL0 hX0 hb1 hb2 hS0 hU0
  go_wp2_with fail
  go_loopw [5, 8] (fun c i wr => ∃ (k L : Nat) (Q : List (List Int)) (S U : Nat → Prop), k ≤ l.length ∧ i = .int .i64 k ∧ c = .pointer (some ⟨L, 0, none⟩) ∧ PlD w wr L X S U Q (heads Q) (tails Q) ∧ Inv Q ∧ total Q ≤ k ∧ Q.length = n) (fun _ i _ => l.length - (intOf i).toNat)
  case atStart => exact ⟨0, L0, _, S0, U0, Nat.zero_le _, rfl, rfl, hP0, (J_new n).inv, by rw [total_new]; omega, by simp⟩
  case round =>
    clear hP0
    obtain ⟨k, L, Q, S, U, hk, rfl, rfl, hP, hI, htot, hlen⟩ := hrel
    have HI := Lib.hid hI
    have HLN := Lib.hid hlen
    clear hI hlen
    by_cases hlt : k < l.length
    · obtain ⟨b0, o0, rfl, _, x0, x1, x2⟩ := (h.below hP.b).ac hlt
      have hki : (k : Int) < (l.length : Int) := by omega
      obtain ⟨⟨a, o, s⟩, hx⟩ : ∃ x, l[k] = x := ⟨_, rfl⟩
      rw [hx] at x0 x1 x2
      clear hx
      dsimp only at x0 x1 x2
      go_upto_region 13 with fail
      generalize hW : (World.alloc _ _) = W
      have hWb : Below wr.heap.size wr W := by rw [← hW]; exact (Below.refl _ _).alloc (Nat.le_refl _) _
      have hBk : Blk W wr.heap.size 35 (Ac.cells ⟨a, o, s⟩) := by rw [← hW]; exact Blk.new' _ 35 _ rfl
      have hNU : ∀ b, U b → b < wr.heap.size := hP.x.lt
      have hNS : ∀ b, S b → b < wr.heap.size := hP.l.lt
      have hP := hP.kept hWb
      obtain ⟨Nb, hNb⟩ : ∃ N, wr.heap.size = N := ⟨_, rfl⟩
      rw [hNb] at hBk hNU hNS ⊢
      clear hW hWb hNb x0 x1 x2
      obtain ⟨x0, x1, x2⟩ := hBk.ac3
      have HSM := Lib.hid (small_of (Q := Q) (k := k) htot (by omega))
      have HT := Lib.hid (tails_small HSM.out)
      have HSU := Lib.hid (fun ow => small_of (Q := unQ Q ow s) (k := k) (Nat.le_trans (total_un Q ow s) htot) (by omega))
      by_cases ha0 : a = 0
      · subst ha0
        go_wp2_with fail
        refine (refLock_any o s hP.x HT.out).mono ?_
        rintro e w2 ⟨rfl, hW⟩
        rw [lockB_ref HI.out, lockE_ref HI.out]
        rw [lockH_ref HI.out, lockT_ref HI.out] at hW
        have hB2 := hBk.rw hW hNU
        obtain ⟨y0, y1, y2⟩ := hB2.ac3
        obtain ⟨U2, hP2⟩ := hP.ref hW
        clear hW x0 x1 x2
        go_wp2_with fail
        refine (asks_any o s (lockB Q o s) (lockE Q o s) hP2.l HSM.out rfl rfl).mono ?_
        rintro e w3 ⟨rfl, hW3⟩
        obtain ⟨S3, hP3⟩ := hP2.lock hW3
        clear hW3 hP2 hB2 y0 y1 y2
        have hI3 := inv_lock HI.out o s
        have ht3 : total (lockQ Q o s) ≤ k + 1 := Nat.le_trans (total_lock Q o s) (by omega)
        have hl3 : (lockQ Q o s).length = n := (lockQ_len Q o s).trans HLN.out
        have HS9 := Lib.hid (small_of (Q := (lockQ Q o s)) (k := k + 1) ht3 (by omega))
        go_wp2_with fail
        refine (alike_any 12 hP3.l hP3.x hI3 HS9.out (by omega)).mono ?_
        rintro e w9 ⟨rfl, hb9⟩
        have hP9 := hP3.kept hb9
        clear hb9
        go_wp2_with fail
        go_roundw
        case rel => exact ⟨k + 1, L, (lockQ Q o s), S3, U2, by omega, by go_num, rfl, hP9, hI3, ht3, hl3⟩
        case measure => simp [intOf]; omega
      · have ha0b : (a == 0) = false := by rw [beq_eq_false_iff_ne]; exact ha0
        by_cases ha1 : a = 1
        · subst ha1
          clear ha0
          go_wp2_with fail
          refine (refUnlock_any o s hP.x HT.out).mono ?_
          rintro e w2 ⟨rfl, hW⟩
          rw [unN_ref HI.out, unE_ref HI.out]
          rw [unH_ref HI.out, unT_ref HI.out] at hW
          have hB2 := hBk.rw hW hNU
          obtain ⟨y0, y1, y2⟩ := hB2.ac3
          obtain ⟨U2, hP2⟩ := hP.ref hW
          clear hW x0 x1 x2
          go_wp2_with fail
          refine (frees_any o s (unN Q o s) (unE Q o s) hP2.l HSM.out rfl rfl).mono ?_
          rintro e w3 ⟨rfl, hW3⟩
          obtain ⟨S3, hP3⟩ := hP2.lock hW3
          clear hW3 hP2 hB2 y0 y1 y2
          have hI3 := inv_un HI.out o s
          have ht3 : total (unQ Q o s) ≤ k + 1 := Nat.le_trans (total_un Q o s) (by omega)
          have hl3 : (unQ Q o s).length = n := (unQ_len Q o s).trans HLN.out
          have HS9 := Lib.hid (small_of (Q := (unQ Q o s)) (k := k + 1) ht3 (by omega))
          go_wp2_with fail
          refine (alike_any 12 hP3.l hP3.x hI3 HS9.out (by omega)).mono ?_
          rintro e w9 ⟨rfl, hb9⟩
          have hP9 := hP3.kept hb9
          clear hb9
          go_wp2_with fail
          go_roundw
          case rel => exact ⟨k + 1, L, (unQ Q o s), S3, U2, by omega, by go_num, rfl, hP9, hI3, ht3, hl3⟩
          case measure => simp [intOf]; omega
        · have ha1b : (a == 1) = false := by rw [beq_eq_false_iff_ne]; exact ha1
          by_cases ha2 : a = 2
          · subst ha2
            clear ha0 ha1
            by_cases hs1 : 0 ≤ s
            · by_cases hs2 : s < (n : Int)
              · obtain ⟨i, rfl⟩ : ∃ i : Nat, s = (i : Int) := ⟨s.toNat, by omega⟩
                have hiH : i < (heads Q).length := by rw [heads_len, HLN.out]; omega
                obtain ⟨hsz, hg, qg, ps, hd⟩ := id hP.x
                obtain ⟨hc0, _⟩ := hd.cells
                obtain ⟨hh, _⟩ := hd.atH hiH
                have hi2 : (i : Int) < ((heads Q).length : Int) := by omega
                clear hd
                go_upto_region 29 with fail
                refine wp_region_noPanic ?_
                refine wp_region_held_drew (S := fun w' => w'.cell? ⟨X, 0, none⟩ = some (.slice (some ⟨hg, 0, none⟩) (heads Q).length (heads Q).length) ∧ w'.cell? ⟨hg, i, none⟩ = some (.int .i64 (heads Q)[i]) ∧ w'.cell? ⟨Nb, 2, none⟩ = some (.int .i64 i)) (by kernel_rfl) (⟨hc0, hh, x2⟩) (fun hHeld => ?_)
                refine wpAnyH_take (i := 0) (oi := ⟨some 112, _, _, _, _, _⟩) (v := ?_) rfl (by kernel_rfl) (by kernel_rfl) (by kernel_rfl) (fun _ _ _ h => h) (Or.inl ⟨by rfl, ?_⟩) hHeld ?_
                rotate_left
                · (intro w hSw; obtain ⟨s0, s1, s2⟩ := hSw; go_simp; try with_reducible rfl)
                try simp only [Act.put, List.setIfInBounds_toArray, List.set_cons_zero, List.set_cons_succ]
                refine wpAnyH_take (i := 1) (oi := ⟨some 113, _, _, _, _, _⟩) (v := ?_) rfl (by kernel_rfl) (by kernel_rfl) (by kernel_rfl) (fun _ _ _ h => h) (Or.inl ⟨by rfl, ?_⟩) hHeld ?_
                rotate_left
                · (intro w hSw; obtain ⟨s0, s1, s2⟩ := hSw; go_simp; try with_reducible rfl)
                try simp only [Act.put, List.setIfInBounds_toArray, List.set_cons_zero, List.set_cons_succ]
                refine wpAnyH_take (i := 2) (oi := ⟨some 114, _, _, _, _, _⟩) (v := ?_) rfl (by kernel_rfl) (by kernel_rfl) (by kernel_rfl) (fun _ _ _ h => h) (Or.inl ⟨by rfl, ?_⟩) hHeld ?_
                rotate_left
                · (intro w hSw; obtain ⟨s0, s1, s2⟩ := hSw; go_simp; try with_reducible rfl)
                try simp only [Act.put, List.setIfInBounds_toArray, List.set_cons_zero, List.set_cons_succ]
                refine wpAnyH_take (i := 3) (oi := ⟨some 115, _, _, _, _, _⟩) (v := ?_) rfl (by kernel_rfl) (by kernel_rfl) (by kernel_rfl) (fun _ _ _ h => h) (Or.inl ⟨by rfl, ?_⟩) hHeld ?_
                rotate_left
                · (intro w hSw; obtain ⟨s0, s1, s2⟩ := hSw; go_simp; try with_reducible rfl)
                try simp only [Act.put, List.setIfInBounds_toArray, List.set_cons_zero, List.set_cons_succ]
                refine wpAnyH_take (i := 4) (oi := ⟨some 116, _, _, _, _, _⟩) (v := ?_) rfl (by kernel_rfl) (by kernel_rfl) (by kernel_rfl) (fun _ _ _ h => h) (Or.inl ⟨by rfl, ?_⟩) hHeld ?_
                rotate_left
                · (intro w hSw; obtain ⟨s0, s1, s2⟩ := hSw; go_simp; try with_reducible rfl)
                try simp only [Act.put, List.setIfInBounds_toArray, List.set_cons_zero, List.set_cons_succ]
                refine wpAnyH_take (i := 5) (oi := ⟨some 117, _, _, _, _, _⟩) (v := ?_) rfl (by kernel_rfl) (by kernel_rfl) (by kernel_rfl) (fun _ _ _ h => h) (Or.inl ⟨by rfl, ?_⟩) hHeld ?_
                rotate_left
                · (intro w hSw; obtain ⟨s0, s1, s2⟩ := hSw; go_simp; try with_reducible rfl)
                try simp only [Act.put, List.setIfInBounds_toArray, List.set_cons_zero, List.set_cons_succ]
                refine wpAnyH_take (i := 6) (oi := ⟨some 118, _, _, _, _, _⟩) (v := ?_) rfl (by kernel_rfl) (by kernel_rfl) (by kernel_rfl) (fun _ _ _ h => h) (Or.inl ⟨by rfl, ?_⟩) hHeld ?_
                rotate_left
                · (intro w hSw; obtain ⟨s0, s1, s2⟩ := hSw; go_simp; try with_reducible rfl)
                try simp only [Act.put, List.setIfInBounds_toArray, List.set_cons_zero, List.set_cons_succ]
                refine wpAnyH_take (i := 7) (oi := ⟨some 119, _, _, _, _, _⟩) (v := ?_) rfl (by kernel_rfl) (by kernel_rfl) (by kernel_rfl) (fun _ _ _ h => h) (Or.inl ⟨by rfl, ?_⟩) hHeld ?_
                rotate_left
                · (intro w hSw; obtain ⟨s0, s1, s2⟩ := hSw; go_simp; try with_reducible rfl)
                try simp only [Act.put, List.setIfInBounds_toArray, List.set_cons_zero, List.set_cons_succ]
                refine wpAnyH_take (i := 8) (oi := ⟨some 12, _, _, _, _, _⟩) (v := ?_) rfl (by kernel_rfl) (by kernel_rfl) (by kernel_rfl) (fun _ _ _ h => h) (Or.inl ⟨by rfl, ?_⟩) hHeld ?_
                rotate_left
                · (intro w hSw; obtain ⟨s0, s1, s2⟩ := hSw; go_simp; try with_reducible rfl)
                try simp only [Act.put, List.setIfInBounds_toArray, List.set_cons_zero, List.set_cons_succ]
                refine wpAnyH_done (by kernel_rfl) ?_ _
                refine NoPanic.normal ?_
                generalize hWd : World.drew _ = Wd
                have hWb : Below W.heap.size W Wd := by rw [← hWd]; exact (Below.refl _ _).drew
                have hP := hP.kept hWb
                have hBk := hBk.kept hWb
                clear hWd x0 x1 x2 hc0 hh hWb hHeld
                obtain ⟨x0, x1, x2⟩ := hBk.ac3
                generalize (heads Q)[i] = ow
                obtain ⟨s, hs⟩ : ∃ s : Int, (i : Int) = s := ⟨_, rfl⟩
                rw [hs] at hs1 hs2 x2 hi2 HSU hBk ⊢
                clear hs
                go_wp2_with fail
                refine (refUnlock_any ow s hP.x HT.out).mono ?_
                rintro e w2 ⟨rfl, hW⟩
                rw [unN_ref HI.out, unE_ref HI.out]
                rw [unH_ref HI.out, unT_ref HI.out] at hW
                have hB2 := hBk.rw hW hNU
                obtain ⟨y0, y1, y2⟩ := hB2.ac3
                obtain ⟨U2, hP2⟩ := hP.ref hW
                clear hW x0 x1 x2
                go_wp2_with fail
                refine (frees_any ow s (unN Q ow s) (unE Q ow s) hP2.l HSM.out rfl rfl).mono ?_
                rintro e w3 ⟨rfl, hW3⟩
                obtain ⟨S3, hP3⟩ := hP2.lock hW3
                clear hW3 hP2 hB2 y0 y1 y2
                have hI3 := inv_un HI.out ow s
                have ht3 : total (unQ Q ow s) ≤ k + 1 := Nat.le_trans (total_un Q ow s) (by omega)
                have hl3 : (unQ Q ow s).length = n := (unQ_len Q ow s).trans HLN.out
                have HS9 := Lib.hid (small_of (Q := (unQ Q ow s)) (k := k + 1) ht3 (by omega))
                go_wp2_with fail
                refine (alike_any 12 hP3.l hP3.x hI3 HS9.out (by omega)).mono ?_
                rintro e w9 ⟨rfl, hb9⟩
                have hP9 := hP3.kept hb9
                clear hb9
                go_wp2_with fail
                go_roundw
                case rel => exact ⟨k + 1, L, (unQ Q ow s), S3, U2, by omega, by go_num, rfl, hP9, hI3, ht3, hl3⟩
                case measure => simp [intOf]; omega
              · have hs3 : (n : Int) ≤ s := by omega
                clear hs2
                go_wp2_with fail
                refine (refUnlock_any o s hP.x HT.out).mono ?_
                rintro e w2 ⟨rfl, hW⟩
                rw [unN_ref HI.out, unE_ref HI.out]
                rw [unH_ref HI.out, unT_ref HI.out] at hW
                have hB2 := hBk.rw hW hNU
                obtain ⟨y0, y1, y2⟩ := hB2.ac3
                obtain ⟨U2, hP2⟩ := hP.ref hW
                clear hW x0 x1 x2
                go_wp2_with fail
                refine (frees_any o s (unN Q o s) (unE Q o s) hP2.l HSM.out rfl rfl).mono ?_
                rintro e w3 ⟨rfl, hW3⟩
                obtain ⟨S3, hP3⟩ := hP2.lock hW3
                clear hW3 hP2 hB2 y0 y1 y2
                have hI3 := inv_un HI.out o s
                have ht3 : total (unQ Q o s) ≤ k + 1 := Nat.le_trans (total_un Q o s) (by omega)
                have hl3 : (unQ Q o s).length = n := (unQ_len Q o s).trans HLN.out
                have HS9 := Lib.hid (small_of (Q := (unQ Q o s)) (k := k + 1) ht3 (by omega))
                go_wp2_with fail
                refine (alike_any 12 hP3.l hP3.x hI3 HS9.out (by omega)).mono ?_
                rintro e w9 ⟨rfl, hb9⟩
                have hP9 := hP3.kept hb9
                clear hb9
                go_wp2_with fail
                go_roundw
                case rel => exact ⟨k + 1, L, (unQ Q o s), S3, U2, by omega, by go_num, rfl, hP9, hI3, ht3, hl3⟩
                case measure => simp [intOf]; omega
            · have hs3 : s < 0 := by omega
              clear hs1
              go_wp2_with fail
              refine (refUnlock_any o s hP.x HT.out).mono ?_
              rintro e w2 ⟨rfl, hW⟩
              rw [unN_ref HI.out, unE_ref HI.out]
              rw [unH_ref HI.out, unT_ref HI.out] at hW
              have hB2 := hBk.rw hW hNU
              obtain ⟨y0, y1, y2⟩ := hB2.ac3
              obtain ⟨U2, hP2⟩ := hP.ref hW
              clear hW x0 x1 x2
              go_wp2_with fail
              refine (frees_any o s (unN Q o s) (unE Q o s) hP2.l HSM.out rfl rfl).mono ?_
              rintro e w3 ⟨rfl, hW3⟩
              obtain ⟨S3, hP3⟩ := hP2.lock hW3
              clear hW3 hP2 hB2 y0 y1 y2
              have hI3 := inv_un HI.out o s
              have ht3 : total (unQ Q o s) ≤ k + 1 := Nat.le_trans (total_un Q o s) (by omega)
              have hl3 : (unQ Q o s).length = n := (unQ_len Q o s).trans HLN.out
              have HS9 := Lib.hid (small_of (Q := (unQ Q o s)) (k := k + 1) ht3 (by omega))
              go_wp2_with fail
              refine (alike_any 12 hP3.l hP3.x hI3 HS9.out (by omega)).mono ?_
              rintro e w9 ⟨rfl, hb9⟩
              have hP9 := hP3.kept hb9
              clear hb9
              go_wp2_with fail
              go_roundw
              case rel => exact ⟨k + 1, L, (unQ Q o s), S3, U2, by omega, by go_num, rfl, hP9, hI3, ht3, hl3⟩
              case measure => simp [intOf]; omega
          · have ha2b : (a == 2) = false := by rw [beq_eq_false_iff_ne]; exact ha2
            clear ha0 ha1 ha2
            go_wp2_with fail
            refine (copy_any hP.l HSM.out).mono ?_
            rintro e w2 ⟨L2, rfl, S2, hL2, hb2, hS2⟩
            have hC : CpD w w2 L L2 X S S2 U Q Q (heads Q) (tails Q) := by
              have hp := hP.kept hb2
              have hWs := hP.b.size
              exact ⟨hp.l, ⟨hL2, hp.x, hp.b, fun b hb => by have := hS2 b hb; omega, hp.u, fun b hb hu => by have := hS2 b hb; have := hP.x.lt b hu; omega⟩, hP.s, fun b hb h2 => by have := hS2 b h2; have := hP.l.lt b hb; omega, hP.d⟩
            clear hP hL2 hb2 hS2 x0 x1 x2 hBk
            go_wp2_with fail
            go_loopw [16] (fun i wv => ∃ (j : Nat) (Qc : List (List Int)) (Sc : Nat → Prop), j ≤ n ∧ i = .int .i64 j ∧ CpD w wv L L2 X Sc S2 U Qc Q (heads Q) (tails Q) ∧ total Qc ≤ k + j) (fun i _ => n - (intOf i).toNat)
            case atStart => exact ⟨0, Q, S, Nat.zero_le _, rfl, hC, by omega⟩
            case round =>
              clear hC
              obtain ⟨j, Qc, Sc, hj, rfl, hC, htc⟩ := hrel
              by_cases hjn : j < n
              · have hji : (j : Int) < (n : Int) := by omega
                have HSC := Lib.hid (small_of (Q := Qc) (k := k + j) htc (by omega))
                have HSC2 := Lib.hid (small_of (Q := lockQ Qc 77 j) (k := k + j + 1) (Nat.le_trans (total_lock Qc 77 j) (by omega)) (by omega))
                go_wp2_with fail
                refine (lock_any 77 j hC.c HSC.out).mono ?_
                rintro e w3 ⟨rfl, hW3⟩
                obtain ⟨Sc3, hC3⟩ := hC.lock hW3
                have hiH : j < (heads Q).length := by rw [heads_len, HLN.out]; omega
                obtain ⟨hsz, hg, qg, ps, hd⟩ := id hC3.p.x
                obtain ⟨hc0, _⟩ := hd.cells
                obtain ⟨hh, _⟩ := hd.atH hiH
                have hi2 : (j : Int) < ((heads Q).length : Int) := by omega
                clear hd hW3 hC
                go_wp2_with fail
                refine (unlock_any (heads Q)[j] j hC3.c HSC2.out).mono ?_
                rintro e w4 ⟨rfl, hW4⟩
                obtain ⟨Sc4, hC4⟩ := hC3.lock hW4
                have htt : total (unQ (lockQ Qc 77 j) (heads Q)[j] j) ≤ k + (j + 1) := Nat.le_trans (total_un _ _ _) (Nat.le_trans (total_lock Qc 77 j) (by omega))
                clear hc0 hh hW4 hC3
                go_wp2_with fail
                go_roundw
                case rel => exact ⟨j + 1, _, Sc4, by omega, by go_num, hC4, htt⟩
                case measure => simp [intOf]; omega
              · have hji : ¬ (j : Int) < (n : Int) := by omega
                have hP3 := hC.p
                have ht3 : total Q ≤ k + 1 := by omega
                clear hC htc
                have HS9 := Lib.hid (small_of (Q := Q) (k := k + 1) ht3 (by omega))
                go_wp2_with fail
                refine (alike_any 12 hP3.l hP3.x HI.out HS9.out (by omega)).mono ?_
                rintro e w9 ⟨rfl, hb9⟩
                have hP9 := hP3.kept hb9
                clear hb9
                go_wp2_with fail
                go_roundw
                case rel => exact ⟨k + 1, L2, Q, S2, U, by omega, by go_num, rfl, hP9, HI.out, ht3, HLN.out⟩
                case measure => simp [intOf]; omega
    · have hki : ¬ (k : Int) < (l.length : Int) := by omega
      go_wp2_with fail
      refine (known_any _).mono ?_
      rintro e w3 ⟨rfl, hb3⟩
      go_wp2_with fail
      go_ret
      exact ⟨rfl, below_step hP.b hb3⟩
set_option maxRecDepth 100000 in
set_option maxHeartbeats 1000000 in
theorem locksPlays_walk (n : Int) (p : Option Addr) (cc : Nat) (l : List Ac) (w : World) (h : Rd w w.heap.size p (acs l)) (hm : l.length ≤ maxLen) :
    Calls Try.prog 6 #[.int .i64 n, .slice p l.length cc] w fun e w' => e = .returned (.bool true) ∧ Below w.heap.size w w' := by
  unfold maxLen at hm
  by_cases hn1 : n < 1
  · go_enter Try.func6, Try.ntmps6
    go_wp2_with fail
    refine (known_any _).mono ?_
    rintro e w3 ⟨rfl, hb3⟩
    go_wp2_with fail
    go_ret
    exact ⟨rfl, hb3⟩
  · by_cases hn2 : 12 < n
    · have hn3 : 1 ≤ n := by omega
      clear hn1
      go_enter Try.func6, Try.ntmps6
      go_wp2_with fail
      refine (known_any _).mono ?_
      rintro e w3 ⟨rfl, hb3⟩
      go_wp2_with fail
      go_ret
      exact ⟨rfl, hb3⟩
    · have hn3 : 1 ≤ n := by omega
      have hn4 : n ≤ 12 := by omega
      by_cases hl : l.length ≤ 60
      · obtain ⟨n, rfl⟩ : ∃ k : Nat, n = (k : Int) := ⟨n.toNat, by omega⟩
        exact locksPlays_core n p cc l w (by omega) (by omega) hl h
      · have hl2 : (60 : Int) < (l.length : Int) := by omega
        clear hn1 hn2 hl
        go_enter Try.func6, Try.ntmps6
        go_wp2_with fail
        refine (known_any _).mono ?_
        rintro e w3 ⟨rfl, hb3⟩
        go_wp2_with fail
        go_ret
        exact ⟨rfl, hb3⟩
end Go.Proofs.Ythjakgjpnijmlaa
