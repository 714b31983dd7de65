/- StockPlays: the walk. -/
import Derived.Test.YtdancoblphkakaaLaw
import Derived.Test.YtdancoblphkakaaDoes2
namespace Go.Proofs.Ytdancoblphkakaa
open Go.RowKit

section
variable {w0 w w' : World} {l : List Ob} {m : List Sv} {c : List Bx} {X : Nat} {S : Nat → Prop} {x : Value} {G : List (List Int)} {D : List Int}
theorem doesA {G' : List (List Int)} {D' : List Int} {e0 : Int} (a : Ac) (h : All w0 w l m c) (i : Nat) (hi : m[i]? = some ⟨x, G, D⟩) (sG : Shape G D) (he : actE G D a = e0) (hG : actG G D a = G') (hD : actD G D a = D') :
    Calls Try.prog 29 #[x, .agg #[.int .i64 a.a, .int .i64 a.p, .int .i64 a.t, .int .i64 a.u]] w fun e w' => ∃ p z q b, e = .returned (.tuple #[.agg #[.slice p G'.length z, .slice q D'.length b], .int .i64 e0]) ∧ All w0 w' l (⟨.agg #[.slice p G'.length z, .slice q D'.length b], G', D'⟩ :: m) c := by
  subst he hG hD
  refine (does_any a (h.ro hi) sG).mono ?_
  rintro e w' ⟨v', rfl, hv, hb⟩
  obtain ⟨p, z, q, b, rfl⟩ := hv.shape
  exact ⟨p, z, q, b, rfl, h.addS hb hv⟩
theorem callsA {G' : List (List Int)} {D' : List Int} {e0 : Int} (a : Ac) (h : All w0 w l m c) (i : Nat) (hi : l[i]? = some ⟨X, S, G, D⟩) (he : actE G D a = e0) (hG : actG G D a = G') (hD : actD G D a = D') :
    Calls Try.prog 30 #[.pointer (some ⟨X, 0, none⟩), .agg #[.int .i64 a.a, .int .i64 a.p, .int .i64 a.t, .int .i64 a.u]] w fun e w' => e = .returned (.int .i64 e0) ∧ ∃ S', All w0 w' (l.set i ⟨X, S', G', D'⟩) m c := by
  subst he hG hD
  have h1 : ST w X S G D := h.at_ hi
  refine (calls_any a h1).mono ?_
  rintro e w' ⟨rfl, hs⟩
  exact ⟨rfl, h.step (o := ⟨X, S, G, D⟩) hi hs⟩
theorem restA (p u : Int) (h : All w0 w l m c) (i : Nat) (hi : l[i]? = some ⟨X, S, G, D⟩) : Calls Try.prog 18 #[.pointer (some ⟨X, 0, none⟩), .int .i64 p, .int .i64 u] w fun e w' => e = .returned (.int .i64 (restE G p u)) ∧ ∃ S', All w0 w' (l.set i ⟨X, S', restG G p u, D⟩) m c := by
  have h1 : ST w X S G D := h.at_ hi
  refine (restock_any p u h1).mono ?_
  rintro e w' ⟨rfl, hs⟩
  exact ⟨rfl, h.step (o := ⟨X, S, G, D⟩) hi hs⟩
theorem giveA (p t u : Int) (h : All w0 w l m c) (i : Nat) (hi : l[i]? = some ⟨X, S, G, D⟩) : Calls Try.prog 19 #[.pointer (some ⟨X, 0, none⟩), .int .i64 p, .int .i64 t, .int .i64 u] w fun e w' => e = .returned (.int .i64 (giveE G D p t u)) ∧ ∃ S', All w0 w' (l.set i ⟨X, S', giveG G D p t u, D⟩) m c := by
  have h1 : ST w X S G D := h.at_ hi
  refine (give_any p t u h1).mono ?_
  rintro e w' ⟨rfl, hs⟩
  exact ⟨rfl, h.step (o := ⟨X, S, G, D⟩) hi hs⟩
theorem sellA (p u : Int) (h : All w0 w l m c) (i : Nat) (hi : l[i]? = some ⟨X, S, G, D⟩) : Calls Try.prog 20 #[.pointer (some ⟨X, 0, none⟩), .int .i64 p, .int .i64 u] w fun e w' => e = .returned (.int .i64 (sellE G D p u)) ∧ ∃ S', All w0 w' (l.set i ⟨X, S', G, sellD G D p u⟩) m c := by
  have h1 : ST w X S G D := h.at_ hi
  refine (sell_any p u h1).mono ?_
  rintro e w' ⟨rfl, hs⟩
  exact ⟨rfl, h.step (o := ⟨X, S, G, D⟩) hi hs⟩
theorem valid_act (h : Valid G D) (a : Ac) : Valid (actG G D a) (actD G D a) := by
  by_cases hok : okP G.length a.p = true ∧ 0 ≤ a.u
  case neg => obtain ⟨_, e2, e3⟩ := act_bad (D := D) hok; rw [e2, e3]; exact h
  obtain ⟨hp, h0⟩ := hok
  obtain ⟨i, hpi, hi⟩ := okP_nat hp
  obtain ⟨hS, hR⟩ := h
  unfold actG actD
  by_cases ha : a.a = 0
  · rw [if_pos ha, if_pos ha]
    unfold restG
    by_cases e : restE G a.p a.u = 0
    · rw [if_pos e, hpi, Int.toNat_natCast]
      rw [restE, if_pos ⟨hp, h0⟩, hpi, Int.toNat_natCast] at e
      have hb := hS.num.g i i
      have : ¬ 1099511627776 - ga G i i < a.u := fun x => by rw [if_pos x] at e; exact absurd e (by decide)
      exact ⟨gset_shape hS hi hi ⟨by omega, by omega⟩, right_diag hS hR hi h0⟩
    · rw [if_neg e]; exact ⟨hS, hR⟩
  rw [if_neg ha, if_neg ha]
  by_cases ha1 : a.a = 1
  · rw [if_pos ha1, if_pos ha1]
    unfold giveG
    by_cases e : giveE G D a.p a.t a.u = 0
    · rw [if_pos e]
      by_cases ht : okP G.length a.t = true ∧ a.p ≠ a.t
      · obtain ⟨k, htk, hk⟩ := okP_nat ht.1
        have hne := ht.2
        rw [giveE, if_pos ⟨⟨hp, ht.1⟩, h0, ht.2⟩] at e
        rw [hpi, htk, Int.toNat_natCast, Int.toNat_natCast] at e ⊢
        have hb := hS.num.g i k
        by_cases x1 : 1099511627776 - ga G i k < a.u
        · rw [if_pos x1] at e; exact absurd e (by decide)
        · rw [if_neg x1] at e
          by_cases x2 : share G D i < a.u
          · rw [if_pos x2] at e; exact absurd e (by decide)
          · exact ⟨gset_shape hS hi hk ⟨by omega, by omega⟩, right_give hS hR hi hk (by omega) h0 (by omega)⟩
      · rw [giveE, if_neg (fun x => ht ⟨x.1.2, x.2.2⟩)] at e; exact absurd e (by decide)
    · rw [if_neg e]; exact ⟨hS, hR⟩
  · rw [if_neg ha1, if_neg ha1]
    unfold sellD
    by_cases e : sellE G D a.p a.u = 0
    · rw [if_pos e]
      rw [sellE, if_pos ⟨hp, h0⟩] at e
      rw [hpi, Int.toNat_natCast] at e ⊢
      have hb := hS.num.d i
      by_cases x1 : 1099511627776 - da D i < a.u
      · rw [if_pos x1] at e; exact absurd e (by decide)
      · rw [if_neg x1] at e
        by_cases x2 : share G D i < a.u
        · rw [if_pos x2] at e; exact absurd e (by decide)
        · exact ⟨dset_shape hS hi ⟨by omega, by omega⟩, right_sell hS hR hi (by omega)⟩
    · rw [if_neg e]; exact ⟨hS, hR⟩
end
theorem All.swap {w0 w : World} {m : List Sv} {c : List Bx} {a b : Ob} (h : All w0 w [a, b] m c) : All w0 w [b, a] m c := by
  have hm : ∀ o, o ∈ [b, a] → o ∈ [a, b] := fun o ho => by simp at ho ⊢; exact ho.symm
  refine ⟨⟨h.o.b, fun o ho => h.o.st o (hm o ho), ?_⟩, fun x hx => (h.s x hx).mono (fun b hb _ => ⟨hb.1, fun o ho => hb.2.1 o (hm o ho), hb.2.2⟩), fun x hx => ⟨(h.cx x hx).1, (h.cx x hx).2.1, fun o ho => (h.cx x hx).2.2 o (hm o ho)⟩, h.n⟩
  have h1 := h.o.ap
  simp only [List.pairwise_cons, List.mem_singleton, forall_eq] at h1 ⊢
  exact ⟨fun x hx hy => h1.1 x hy hx, by simp⟩
/-- While the calls are made. -/
def PlR (w wr : World) (X Y Nx No : Nat) (pg : Option Addr) (cg : Nat) (qd : Option Addr) (cd : Nat) (ph : Option Addr) (ch : Nat) (qe : Option Addr) (ce : Nat) (G : List (List Int)) (D : List Int) (H : List (List Int)) (E : List Int) : Prop :=
  ∃ SX SY, All w wr [⟨Y, SY, H, E⟩, ⟨X, SX, G, D⟩] [⟨.agg #[.slice pg G.length cg, .slice qd D.length cd], G, D⟩, ⟨.agg #[.slice ph H.length ch, .slice qe E.length ce], H, E⟩] [⟨No, 25, [.slice ph H.length ch, .slice qe E.length ce]⟩, ⟨Nx, 25, [.slice pg G.length cg, .slice qd D.length cd]⟩] ∧ Valid G D ∧ Valid H E
set_option maxRecDepth 100000 in
set_option maxHeartbeats 16000000 in
theorem stockPlays_core {w : World} {U : Nat → Prop} {v : Value} {G : List (List Int)} {D : List Int} (p : Option Addr) (cc : Nat) (l : List Ac) (hx : VS w U v G D) (hl : Rd w w.heap.size p (acs l)) (s1 : Small G D) (v1 : Valid G D) (h60 : l.length ≤ 60) :
    Calls Try.prog 7 #[v, .slice p l.length cc] w fun e w' => e = .returned (.bool true) ∧ Below w.heap.size w w' := by
  have HX := Lib.hid hx
  obtain ⟨pg, cg, qd, cd, rfl⟩ := hx.shape
  have S1 := Lib.hid s1
  have V1 := Lib.hid v1
  have i60 : (l.length : Int) ≤ 60 := by omega
  have HLR := Lib.hid hl
  clear hx s1 v1 hl
  go_enter Try.func7, Try.ntmps7
  go_wp2_with fail
  generalize hW : (World.alloc _ _) = W
  have hb1 : Below w.heap.size w W := by rw [← hW]; exact (Below.refl _ _).alloc (Nat.le_refl _) _
  have hA1 := ((All.nil w).arg HX.out).box hb1 (N := w.heap.size) (t := 25) (cs := [.slice pg G.length cg, .slice qd D.length cd]) (by rw [← hW]; exact Blk.new w 25 _) (Nat.le_refl _)
  obtain ⟨Nx, hNx⟩ : ∃ n, w.heap.size = n := ⟨_, rfl⟩
  rw [hNx] at hA1 ⊢
  clear hW hNx hb1
  have HA := Lib.hid hA1
  have c0 := (hA1.blk (i := 0) rfl).cell 0
  have c1 := (hA1.blk (i := 0) rfl).cell 1
  clear hA1
  refine (small_t (HA.out.ro (i := 0) rfl) S1.out).mono ?_
  rintro e w2 ⟨rfl, hb2⟩
  replace HA := Lib.hid (HA.out.kept hb2)
  clear c0 c1 hb2
  have c0 := (HA.out.blk (i := 0) rfl).cell 0
  have c1 := (HA.out.blk (i := 0) rfl).cell 1
  go_wp2_with fail
  refine (valid_t (HA.out.ro (i := 0) rfl) V1.out).mono ?_
  rintro e w2 ⟨rfl, hb2⟩
  replace HA := Lib.hid (HA.out.kept hb2)
  clear c0 c1 hb2
  have c0 := (HA.out.blk (i := 0) rfl).cell 0
  have c1 := (HA.out.blk (i := 0) rfl).cell 1
  go_wp2_with fail
  refine (own_vs (HA.out.ro (i := 0) rfl) S1.out).mono ?_
  rintro e w2 ⟨v2', rfl, hv2, hb2⟩
  replace HA := Lib.hid (HA.out.kept hb2)
  have HV2 := Lib.hid hv2
  clear c0 c1 hb2 hv2
  have c0 := (HA.out.blk (i := 0) rfl).cell 0
  have c1 := (HA.out.blk (i := 0) rfl).cell 1
  go_wp2_with fail
  refine (ofA HA.out HV2.out V1.out).mono ?_
  rintro e w2 ⟨X, SX, rfl, hA⟩
  replace HA := Lib.hid hA
  clear c0 c1 hA HV2
  have c0 := (HA.out.blk (i := 0) rfl).cell 0
  have c1 := (HA.out.blk (i := 0) rfl).cell 1
  go_wp2_with fail
  refine (copyA HA.out 0 rfl).mono ?_
  rintro e w2 ⟨Y, SY, rfl, hA⟩
  replace HA := Lib.hid hA
  clear c0 c1 hA
  have c0 := (HA.out.blk (i := 0) rfl).cell 0
  have c1 := (HA.out.blk (i := 0) rfl).cell 1
  go_upto_region 6 with fail
  generalize hW : (World.alloc _ _) = W
  have hA2 := (HA.out.box (w' := W) (by rw [← hW]; exact (Below.refl _ _).alloc (Nat.le_refl _) _) (N := w2.heap.size) (t := 25) (cs := [.slice pg G.length cg, .slice qd D.length cd]) (by rw [← hW]; exact Blk.new w2 25 _) (Nat.le_refl _))
  obtain ⟨No, hNo⟩ : ∃ n, w2.heap.size = n := ⟨_, rfl⟩
  rw [hNo] at hA2 ⊢
  have hPL : PlR w W X Y Nx No pg cg qd cd pg cg qd cd G D G D := ⟨SX, SY, hA2.less (List.Sublist.refl _) (fun x hx => by simp at hx ⊢; exact hx) (List.Sublist.refl _), V1.out, V1.out⟩
  clear hW hNo c0 c1 hA2 HA
  go_wp2_with fail
  go_loopw [5, 7, 9] (fun s mk i wr => ∃ (k : Nat) (X Y : Nat) (pg : Option Addr) (cg : Nat) (qd : Option Addr) (cd : Nat) (ph : Option Addr) (ch : Nat) (qe : Option Addr) (ce : Nat) (G : List (List Int)) (D : List Int) (H : List (List Int)) (E : List Int), k ≤ l.length ∧ i = .int .i64 k ∧ s = .pointer (some ⟨X, 0, none⟩) ∧ mk = .pointer (some ⟨Y, 0, none⟩) ∧ PlR w wr X Y Nx No pg cg qd cd ph ch qe ce G D H E) (fun _ _ i _ => l.length - (intOf i).toNat)
  case atStart => exact ⟨0, X, Y, _, _, _, _, _, _, _, _, _, _, _, _, Nat.zero_le _, rfl, rfl, rfl, hPL⟩
  case round =>
    clear hPL
    clear HX S1 V1
    obtain ⟨k, X, Y, pg, cg, qd, cd, ph, ch, qe, ce, G, D, H, E, hk, rfl, rfl, rfl, SX, SY, hA, hV, hVo⟩ := hrel
    have HV := Lib.hid hV
    have HVo := Lib.hid hVo
    have HA := Lib.hid hA
    clear hV hVo
    by_cases hlt : k < l.length
    · obtain ⟨b0, o0, rfl, l0, x0, x1, x2, x3⟩ := HLR.out.ac hlt
      have hki : (k : Int) < (l.length : Int) := by omega
      have x0 := (hA.b.cell (p := ⟨b0, o0 + k * 4, none⟩) l0).trans x0
      have x1 := (hA.b.cell (p := ⟨b0, o0 + k * 4 + 1, none⟩) l0).trans x1
      have x2 := (hA.b.cell (p := ⟨b0, o0 + k * 4 + 2, none⟩) l0).trans x2
      have x3 := (hA.b.cell (p := ⟨b0, o0 + k * 4 + 3, none⟩) l0).trans x3
      obtain ⟨⟨a, p, t, u⟩, hx⟩ : ∃ x, l[k] = x := ⟨_, rfl⟩
      rw [hx] at x0 x1 x2 x3
      clear hx hA
      dsimp only at x0 x1 x2 x3
      go_upto_region 12 with fail
      generalize hW : (World.alloc _ _) = W2
      have hWb : Below wr.heap.size wr W2 := by rw [← hW]; exact (Below.refl _ _).alloc (Nat.le_refl _) _
      have hBa : Blk W2 wr.heap.size 40 [.int .i64 a, .int .i64 p, .int .i64 t, .int .i64 u] := by rw [← hW]; exact Blk.new' _ 40 _ rfl
      replace HA := Lib.hid (HA.out.box hWb hBa (Nat.le_refl _))
      obtain ⟨Na, hNa⟩ : ∃ N, wr.heap.size = N := ⟨_, rfl⟩
      rw [hNa] at HA ⊢
      clear hW hWb hBa hNa x0 x1 x2 x3

      have x0 := (HA.out.blk (i := 0) rfl).cell 0
      have x1 := (HA.out.blk (i := 0) rfl).cell 1
      have x2 := (HA.out.blk (i := 0) rfl).cell 2
      have x3 := (HA.out.blk (i := 0) rfl).cell 3
      have d0 := (HA.out.blk (i := 1) rfl).cell 0
      have d1 := (HA.out.blk (i := 1) rfl).cell 1
      have c0 := (HA.out.blk (i := 2) rfl).cell 0
      have c1 := (HA.out.blk (i := 2) rfl).cell 1
      have fd0 := (HA.out.blk (i := 1) rfl).free 0
      have fd1 := (HA.out.blk (i := 1) rfl).free 1
      have fc0 := (HA.out.blk (i := 2) rfl).free 0
      have fc1 := (HA.out.blk (i := 2) rfl).free 1
      by_cases ha0 : a = 0
      · subst ha0
        obtain ⟨eE, heE⟩ : ∃ z, actE G D ⟨0, p, t, u⟩ = z := ⟨_, rfl⟩
        obtain ⟨rG, hrG⟩ : ∃ z, actG G D ⟨0, p, t, u⟩ = z := ⟨_, rfl⟩
        obtain ⟨rD, hrD⟩ : ∃ z, actD G D ⟨0, p, t, u⟩ = z := ⟨_, rfl⟩
        have HVn := Lib.hid (show Valid rG rD by rw [← hrG, ← hrD]; exact valid_act HV.out _)
        have heE := Lib.hid heE
        have hrG := Lib.hid hrG
        have hrD := Lib.hid hrD
        go_wp2_with fail
        refine (doesA ⟨0, p, t, u⟩ HA.out 0 rfl HV.out.1 heE.out hrG.out hrD.out).mono ?_
        rintro e w3 ⟨p3, z3, q3, d3, rfl, hA3⟩
        replace HA := Lib.hid hA3
        clear hA3
        clear x0 x1 x2 x3 d0 d1 c0 c1 fc0 fc1 fd0 fd1
        have x0 := (HA.out.blk (i := 0) rfl).cell 0
        have x1 := (HA.out.blk (i := 0) rfl).cell 1
        have x2 := (HA.out.blk (i := 0) rfl).cell 2
        have x3 := (HA.out.blk (i := 0) rfl).cell 3
        have d0 := (HA.out.blk (i := 1) rfl).cell 0
        have d1 := (HA.out.blk (i := 1) rfl).cell 1
        have c0 := (HA.out.blk (i := 2) rfl).cell 0
        have c1 := (HA.out.blk (i := 2) rfl).cell 1
        have fd0 := (HA.out.blk (i := 1) rfl).free 0
        have fd1 := (HA.out.blk (i := 1) rfl).free 1
        have fc0 := (HA.out.blk (i := 2) rfl).free 0
        have fc1 := (HA.out.blk (i := 2) rfl).free 1
        go_upto_region 21 with fail
        generalize hW : (World.alloc _ _) = W3
        replace HA := Lib.hid (HA.out.box (w' := W3) (by rw [← hW]; exact (Below.refl _ _).alloc (Nat.le_refl _) _) (N := w3.heap.size) (t := 25) (cs := [.slice p3 rG.length z3, .slice q3 rD.length d3]) (by rw [← hW]; exact Blk.new w3 25 _) (Nat.le_refl _))
        obtain ⟨Nn, hNn⟩ : ∃ n, w3.heap.size = n := ⟨_, rfl⟩
        rw [hNn] at HA ⊢
        clear hW hNn
        clear x0 x1 x2 x3 d0 d1 c0 c1 fc0 fc1 fd0 fd1
        have y0 := (HA.out.blk (i := 0) rfl).cell 0
        have y1 := (HA.out.blk (i := 0) rfl).cell 1
        have x0 := (HA.out.blk (i := 1) rfl).cell 0
        have x1 := (HA.out.blk (i := 1) rfl).cell 1
        have x2 := (HA.out.blk (i := 1) rfl).cell 2
        have x3 := (HA.out.blk (i := 1) rfl).cell 3
        have d0 := (HA.out.blk (i := 2) rfl).cell 0
        have d1 := (HA.out.blk (i := 2) rfl).cell 1
        have c0 := (HA.out.blk (i := 3) rfl).cell 0
        have c1 := (HA.out.blk (i := 3) rfl).cell 1
        have fd0 := (HA.out.blk (i := 2) rfl).free 0
        have fd1 := (HA.out.blk (i := 2) rfl).free 1
        have fc0 := (HA.out.blk (i := 3) rfl).free 0
        have fc1 := (HA.out.blk (i := 3) rfl).free 1
        go_wp2_with fail
        refine (callsA ⟨0, p, t, u⟩ HA.out 1 rfl heE.out hrG.out hrD.out).mono ?_
        rintro e w4 ⟨rfl, SX4, hA4⟩
        replace HA := Lib.hid hA4
        clear hA4
        clear y0 y1 x0 x1 x2 x3 d0 d1 c0 c1 fc0 fc1 fd0 fd1
        have y0 := (HA.out.blk (i := 0) rfl).cell 0
        have y1 := (HA.out.blk (i := 0) rfl).cell 1
        have x0 := (HA.out.blk (i := 1) rfl).cell 0
        have x1 := (HA.out.blk (i := 1) rfl).cell 1
        have x2 := (HA.out.blk (i := 1) rfl).cell 2
        have x3 := (HA.out.blk (i := 1) rfl).cell 3
        have d0 := (HA.out.blk (i := 2) rfl).cell 0
        have d1 := (HA.out.blk (i := 2) rfl).cell 1
        have c0 := (HA.out.blk (i := 3) rfl).cell 0
        have c1 := (HA.out.blk (i := 3) rfl).cell 1
        have fd0 := (HA.out.blk (i := 2) rfl).free 0
        have fd1 := (HA.out.blk (i := 2) rfl).free 1
        have fc0 := (HA.out.blk (i := 3) rfl).free 0
        have fc1 := (HA.out.blk (i := 3) rfl).free 1
        have HA5 := Lib.hid ((HA.out.put (i := 3) rfl 0 (.slice p3 rG.length z3)).put (i := 3) rfl 1 (.slice q3 rD.length d3))
        go_wp2_with fail
        refine (alikeN HA5.out 1 0 rfl rfl).mono ?_
        rintro e w6 ⟨rfl, hA6⟩
        have HF := Lib.hid (hA6.less (List.Sublist.refl _) (l' := [⟨Y, SY, H, E⟩, ⟨X, SX4, rG, rD⟩]) (m' := [⟨.agg #[.slice p3 rG.length z3, .slice q3 rD.length d3], rG, rD⟩, ⟨.agg #[.slice ph H.length ch, .slice qe E.length ce], H, E⟩]) (c' := [⟨No, 25, [.slice ph H.length ch, .slice qe E.length ce]⟩, ⟨Nx, 25, [.slice p3 rG.length z3, .slice q3 rD.length d3]⟩]) (fun x hx => (show List.Sublist _ _ from (by repeat (first | exact List.Sublist.slnil | apply List.Sublist.cons_cons | apply List.Sublist.cons))).subset hx) (by repeat (first | exact List.Sublist.slnil | apply List.Sublist.cons_cons | apply List.Sublist.cons)))
        clear hA6
        clear y0 y1 x0 x1 x2 x3 d0 d1 c0 c1 fc0 fc1 fd0 fd1
        go_wp2_with fail
        go_roundw
        case rel => exact ⟨k + 1, X, Y, _, _, _, _, _, _, _, _, _, _, _, _, by omega, by go_num, rfl, rfl, SX4, SY, HF.out, HVn.out, HVo.out⟩
        case measure => simp [intOf]; omega
      have hbha0 : (a == 0) = false := by rw [beq_eq_false_iff_ne]; exact ha0
      by_cases ha1 : a = 1
      · subst ha1
        obtain ⟨eE, heE⟩ : ∃ z, actE G D ⟨1, p, t, u⟩ = z := ⟨_, rfl⟩
        obtain ⟨rG, hrG⟩ : ∃ z, actG G D ⟨1, p, t, u⟩ = z := ⟨_, rfl⟩
        obtain ⟨rD, hrD⟩ : ∃ z, actD G D ⟨1, p, t, u⟩ = z := ⟨_, rfl⟩
        have HVn := Lib.hid (show Valid rG rD by rw [← hrG, ← hrD]; exact valid_act HV.out _)
        have heE := Lib.hid heE
        have hrG := Lib.hid hrG
        have hrD := Lib.hid hrD
        go_wp2_with fail
        refine (doesA ⟨1, p, t, u⟩ HA.out 0 rfl HV.out.1 heE.out hrG.out hrD.out).mono ?_
        rintro e w3 ⟨p3, z3, q3, d3, rfl, hA3⟩
        replace HA := Lib.hid hA3
        clear hA3
        clear x0 x1 x2 x3 d0 d1 c0 c1 fc0 fc1 fd0 fd1
        have x0 := (HA.out.blk (i := 0) rfl).cell 0
        have x1 := (HA.out.blk (i := 0) rfl).cell 1
        have x2 := (HA.out.blk (i := 0) rfl).cell 2
        have x3 := (HA.out.blk (i := 0) rfl).cell 3
        have d0 := (HA.out.blk (i := 1) rfl).cell 0
        have d1 := (HA.out.blk (i := 1) rfl).cell 1
        have c0 := (HA.out.blk (i := 2) rfl).cell 0
        have c1 := (HA.out.blk (i := 2) rfl).cell 1
        have fd0 := (HA.out.blk (i := 1) rfl).free 0
        have fd1 := (HA.out.blk (i := 1) rfl).free 1
        have fc0 := (HA.out.blk (i := 2) rfl).free 0
        have fc1 := (HA.out.blk (i := 2) rfl).free 1
        go_upto_region 21 with fail
        generalize hW : (World.alloc _ _) = W3
        replace HA := Lib.hid (HA.out.box (w' := W3) (by rw [← hW]; exact (Below.refl _ _).alloc (Nat.le_refl _) _) (N := w3.heap.size) (t := 25) (cs := [.slice p3 rG.length z3, .slice q3 rD.length d3]) (by rw [← hW]; exact Blk.new w3 25 _) (Nat.le_refl _))
        obtain ⟨Nn, hNn⟩ : ∃ n, w3.heap.size = n := ⟨_, rfl⟩
        rw [hNn] at HA ⊢
        clear hW hNn
        clear x0 x1 x2 x3 d0 d1 c0 c1 fc0 fc1 fd0 fd1
        have y0 := (HA.out.blk (i := 0) rfl).cell 0
        have y1 := (HA.out.blk (i := 0) rfl).cell 1
        have x0 := (HA.out.blk (i := 1) rfl).cell 0
        have x1 := (HA.out.blk (i := 1) rfl).cell 1
        have x2 := (HA.out.blk (i := 1) rfl).cell 2
        have x3 := (HA.out.blk (i := 1) rfl).cell 3
        have d0 := (HA.out.blk (i := 2) rfl).cell 0
        have d1 := (HA.out.blk (i := 2) rfl).cell 1
        have c0 := (HA.out.blk (i := 3) rfl).cell 0
        have c1 := (HA.out.blk (i := 3) rfl).cell 1
        have fd0 := (HA.out.blk (i := 2) rfl).free 0
        have fd1 := (HA.out.blk (i := 2) rfl).free 1
        have fc0 := (HA.out.blk (i := 3) rfl).free 0
        have fc1 := (HA.out.blk (i := 3) rfl).free 1
        go_wp2_with fail
        refine (callsA ⟨1, p, t, u⟩ HA.out 1 rfl heE.out hrG.out hrD.out).mono ?_
        rintro e w4 ⟨rfl, SX4, hA4⟩
        replace HA := Lib.hid hA4
        clear hA4
        clear y0 y1 x0 x1 x2 x3 d0 d1 c0 c1 fc0 fc1 fd0 fd1
        have y0 := (HA.out.blk (i := 0) rfl).cell 0
        have y1 := (HA.out.blk (i := 0) rfl).cell 1
        have x0 := (HA.out.blk (i := 1) rfl).cell 0
        have x1 := (HA.out.blk (i := 1) rfl).cell 1
        have x2 := (HA.out.blk (i := 1) rfl).cell 2
        have x3 := (HA.out.blk (i := 1) rfl).cell 3
        have d0 := (HA.out.blk (i := 2) rfl).cell 0
        have d1 := (HA.out.blk (i := 2) rfl).cell 1
        have c0 := (HA.out.blk (i := 3) rfl).cell 0
        have c1 := (HA.out.blk (i := 3) rfl).cell 1
        have fd0 := (HA.out.blk (i := 2) rfl).free 0
        have fd1 := (HA.out.blk (i := 2) rfl).free 1
        have fc0 := (HA.out.blk (i := 3) rfl).free 0
        have fc1 := (HA.out.blk (i := 3) rfl).free 1
        have HA5 := Lib.hid ((HA.out.put (i := 3) rfl 0 (.slice p3 rG.length z3)).put (i := 3) rfl 1 (.slice q3 rD.length d3))
        go_wp2_with fail
        refine (alikeN HA5.out 1 0 rfl rfl).mono ?_
        rintro e w6 ⟨rfl, hA6⟩
        have HF := Lib.hid (hA6.less (List.Sublist.refl _) (l' := [⟨Y, SY, H, E⟩, ⟨X, SX4, rG, rD⟩]) (m' := [⟨.agg #[.slice p3 rG.length z3, .slice q3 rD.length d3], rG, rD⟩, ⟨.agg #[.slice ph H.length ch, .slice qe E.length ce], H, E⟩]) (c' := [⟨No, 25, [.slice ph H.length ch, .slice qe E.length ce]⟩, ⟨Nx, 25, [.slice p3 rG.length z3, .slice q3 rD.length d3]⟩]) (fun x hx => (show List.Sublist _ _ from (by repeat (first | exact List.Sublist.slnil | apply List.Sublist.cons_cons | apply List.Sublist.cons))).subset hx) (by repeat (first | exact List.Sublist.slnil | apply List.Sublist.cons_cons | apply List.Sublist.cons)))
        clear hA6
        clear y0 y1 x0 x1 x2 x3 d0 d1 c0 c1 fc0 fc1 fd0 fd1
        go_wp2_with fail
        go_roundw
        case rel => exact ⟨k + 1, X, Y, _, _, _, _, _, _, _, _, _, _, _, _, by omega, by go_num, rfl, rfl, SX4, SY, HF.out, HVn.out, HVo.out⟩
        case measure => simp [intOf]; omega
      have hbha1 : (a == 1) = false := by rw [beq_eq_false_iff_ne]; exact ha1
      by_cases ha2 : a = 2
      · subst ha2
        obtain ⟨eE, heE⟩ : ∃ z, actE G D ⟨2, p, t, u⟩ = z := ⟨_, rfl⟩
        obtain ⟨rG, hrG⟩ : ∃ z, actG G D ⟨2, p, t, u⟩ = z := ⟨_, rfl⟩
        obtain ⟨rD, hrD⟩ : ∃ z, actD G D ⟨2, p, t, u⟩ = z := ⟨_, rfl⟩
        have HVn := Lib.hid (show Valid rG rD by rw [← hrG, ← hrD]; exact valid_act HV.out _)
        have heE := Lib.hid heE
        have hrG := Lib.hid hrG
        have hrD := Lib.hid hrD
        go_wp2_with fail
        refine (doesA ⟨2, p, t, u⟩ HA.out 0 rfl HV.out.1 heE.out hrG.out hrD.out).mono ?_
        rintro e w3 ⟨p3, z3, q3, d3, rfl, hA3⟩
        replace HA := Lib.hid hA3
        clear hA3
        clear x0 x1 x2 x3 d0 d1 c0 c1 fc0 fc1 fd0 fd1
        have x0 := (HA.out.blk (i := 0) rfl).cell 0
        have x1 := (HA.out.blk (i := 0) rfl).cell 1
        have x2 := (HA.out.blk (i := 0) rfl).cell 2
        have x3 := (HA.out.blk (i := 0) rfl).cell 3
        have d0 := (HA.out.blk (i := 1) rfl).cell 0
        have d1 := (HA.out.blk (i := 1) rfl).cell 1
        have c0 := (HA.out.blk (i := 2) rfl).cell 0
        have c1 := (HA.out.blk (i := 2) rfl).cell 1
        have fd0 := (HA.out.blk (i := 1) rfl).free 0
        have fd1 := (HA.out.blk (i := 1) rfl).free 1
        have fc0 := (HA.out.blk (i := 2) rfl).free 0
        have fc1 := (HA.out.blk (i := 2) rfl).free 1
        go_upto_region 21 with fail
        generalize hW : (World.alloc _ _) = W3
        replace HA := Lib.hid (HA.out.box (w' := W3) (by rw [← hW]; exact (Below.refl _ _).alloc (Nat.le_refl _) _) (N := w3.heap.size) (t := 25) (cs := [.slice p3 rG.length z3, .slice q3 rD.length d3]) (by rw [← hW]; exact Blk.new w3 25 _) (Nat.le_refl _))
        obtain ⟨Nn, hNn⟩ : ∃ n, w3.heap.size = n := ⟨_, rfl⟩
        rw [hNn] at HA ⊢
        clear hW hNn
        clear x0 x1 x2 x3 d0 d1 c0 c1 fc0 fc1 fd0 fd1
        have y0 := (HA.out.blk (i := 0) rfl).cell 0
        have y1 := (HA.out.blk (i := 0) rfl).cell 1
        have x0 := (HA.out.blk (i := 1) rfl).cell 0
        have x1 := (HA.out.blk (i := 1) rfl).cell 1
        have x2 := (HA.out.blk (i := 1) rfl).cell 2
        have x3 := (HA.out.blk (i := 1) rfl).cell 3
        have d0 := (HA.out.blk (i := 2) rfl).cell 0
        have d1 := (HA.out.blk (i := 2) rfl).cell 1
        have c0 := (HA.out.blk (i := 3) rfl).cell 0
        have c1 := (HA.out.blk (i := 3) rfl).cell 1
        have fd0 := (HA.out.blk (i := 2) rfl).free 0
        have fd1 := (HA.out.blk (i := 2) rfl).free 1
        have fc0 := (HA.out.blk (i := 3) rfl).free 0
        have fc1 := (HA.out.blk (i := 3) rfl).free 1
        go_wp2_with fail
        refine (callsA ⟨2, p, t, u⟩ HA.out 1 rfl heE.out hrG.out hrD.out).mono ?_
        rintro e w4 ⟨rfl, SX4, hA4⟩
        replace HA := Lib.hid hA4
        clear hA4
        clear y0 y1 x0 x1 x2 x3 d0 d1 c0 c1 fc0 fc1 fd0 fd1
        have y0 := (HA.out.blk (i := 0) rfl).cell 0
        have y1 := (HA.out.blk (i := 0) rfl).cell 1
        have x0 := (HA.out.blk (i := 1) rfl).cell 0
        have x1 := (HA.out.blk (i := 1) rfl).cell 1
        have x2 := (HA.out.blk (i := 1) rfl).cell 2
        have x3 := (HA.out.blk (i := 1) rfl).cell 3
        have d0 := (HA.out.blk (i := 2) rfl).cell 0
        have d1 := (HA.out.blk (i := 2) rfl).cell 1
        have c0 := (HA.out.blk (i := 3) rfl).cell 0
        have c1 := (HA.out.blk (i := 3) rfl).cell 1
        have fd0 := (HA.out.blk (i := 2) rfl).free 0
        have fd1 := (HA.out.blk (i := 2) rfl).free 1
        have fc0 := (HA.out.blk (i := 3) rfl).free 0
        have fc1 := (HA.out.blk (i := 3) rfl).free 1
        have HA5 := Lib.hid ((HA.out.put (i := 3) rfl 0 (.slice p3 rG.length z3)).put (i := 3) rfl 1 (.slice q3 rD.length d3))
        go_wp2_with fail
        refine (alikeN HA5.out 1 0 rfl rfl).mono ?_
        rintro e w6 ⟨rfl, hA6⟩
        have HF := Lib.hid (hA6.less (List.Sublist.refl _) (l' := [⟨Y, SY, H, E⟩, ⟨X, SX4, rG, rD⟩]) (m' := [⟨.agg #[.slice p3 rG.length z3, .slice q3 rD.length d3], rG, rD⟩, ⟨.agg #[.slice ph H.length ch, .slice qe E.length ce], H, E⟩]) (c' := [⟨No, 25, [.slice ph H.length ch, .slice qe E.length ce]⟩, ⟨Nx, 25, [.slice p3 rG.length z3, .slice q3 rD.length d3]⟩]) (fun x hx => (show List.Sublist _ _ from (by repeat (first | exact List.Sublist.slnil | apply List.Sublist.cons_cons | apply List.Sublist.cons))).subset hx) (by repeat (first | exact List.Sublist.slnil | apply List.Sublist.cons_cons | apply List.Sublist.cons)))
        clear hA6
        clear y0 y1 x0 x1 x2 x3 d0 d1 c0 c1 fc0 fc1 fd0 fd1
        go_wp2_with fail
        go_roundw
        case rel => exact ⟨k + 1, X, Y, _, _, _, _, _, _, _, _, _, _, _, _, by omega, by go_num, rfl, rfl, SX4, SY, HF.out, HVn.out, HVo.out⟩
        case measure => simp [intOf]; omega
      have hbha2 : (a == 2) = false := by rw [beq_eq_false_iff_ne]; exact ha2
      by_cases ha3 : a = 3
      · subst ha3
        obtain ⟨eE, heE⟩ : ∃ z, joinE G D H E = z := ⟨_, rfl⟩
        obtain ⟨rG, hrG⟩ : ∃ z, afterG G D H E = z := ⟨_, rfl⟩
        obtain ⟨rD, hrD⟩ : ∃ z, afterD G D H E = z := ⟨_, rfl⟩
        have HVn := Lib.hid (show Valid rG rD by rw [← hrG, ← hrD]; exact valid_after HV.out HVo.out.1)
        have heE := Lib.hid heE
        have hrG := Lib.hid hrG
        have hrD := Lib.hid hrD
        go_wp2_with fail
        refine (joinedN HA.out 0 1 rfl rfl HV.out.1 HVo.out.1 heE.out hrG.out hrD.out).mono ?_
        rintro e w3 ⟨p3, z3, q3, d3, rfl, hA3⟩
        replace HA := Lib.hid hA3
        clear hA3
        clear x0 x1 x2 x3 d0 d1 c0 c1 fc0 fc1 fd0 fd1
        have x0 := (HA.out.blk (i := 0) rfl).cell 0
        have x1 := (HA.out.blk (i := 0) rfl).cell 1
        have x2 := (HA.out.blk (i := 0) rfl).cell 2
        have x3 := (HA.out.blk (i := 0) rfl).cell 3
        have d0 := (HA.out.blk (i := 1) rfl).cell 0
        have d1 := (HA.out.blk (i := 1) rfl).cell 1
        have c0 := (HA.out.blk (i := 2) rfl).cell 0
        have c1 := (HA.out.blk (i := 2) rfl).cell 1
        have fd0 := (HA.out.blk (i := 1) rfl).free 0
        have fd1 := (HA.out.blk (i := 1) rfl).free 1
        have fc0 := (HA.out.blk (i := 2) rfl).free 0
        have fc1 := (HA.out.blk (i := 2) rfl).free 1
        go_upto_region 26 with fail
        generalize hW : (World.alloc _ _) = W3
        replace HA := Lib.hid (HA.out.box (w' := W3) (by rw [← hW]; exact (Below.refl _ _).alloc (Nat.le_refl _) _) (N := w3.heap.size) (t := 25) (cs := [.slice p3 rG.length z3, .slice q3 rD.length d3]) (by rw [← hW]; exact Blk.new w3 25 _) (Nat.le_refl _))
        obtain ⟨Nn, hNn⟩ : ∃ n, w3.heap.size = n := ⟨_, rfl⟩
        rw [hNn] at HA ⊢
        clear hW hNn
        clear x0 x1 x2 x3 d0 d1 c0 c1 fc0 fc1 fd0 fd1
        have y0 := (HA.out.blk (i := 0) rfl).cell 0
        have y1 := (HA.out.blk (i := 0) rfl).cell 1
        have x0 := (HA.out.blk (i := 1) rfl).cell 0
        have x1 := (HA.out.blk (i := 1) rfl).cell 1
        have x2 := (HA.out.blk (i := 1) rfl).cell 2
        have x3 := (HA.out.blk (i := 1) rfl).cell 3
        have d0 := (HA.out.blk (i := 2) rfl).cell 0
        have d1 := (HA.out.blk (i := 2) rfl).cell 1
        have c0 := (HA.out.blk (i := 3) rfl).cell 0
        have c1 := (HA.out.blk (i := 3) rfl).cell 1
        have fd0 := (HA.out.blk (i := 2) rfl).free 0
        have fd1 := (HA.out.blk (i := 2) rfl).free 1
        have fc0 := (HA.out.blk (i := 3) rfl).free 0
        have fc1 := (HA.out.blk (i := 3) rfl).free 1
        go_wp2_with fail
        refine (joinN HA.out 1 0 rfl rfl heE.out hrG.out hrD.out).mono ?_
        rintro e w4 ⟨rfl, SX4, hA4⟩
        replace HA := Lib.hid hA4
        clear hA4
        clear y0 y1 x0 x1 x2 x3 d0 d1 c0 c1 fc0 fc1 fd0 fd1
        have y0 := (HA.out.blk (i := 0) rfl).cell 0
        have y1 := (HA.out.blk (i := 0) rfl).cell 1
        have x0 := (HA.out.blk (i := 1) rfl).cell 0
        have x1 := (HA.out.blk (i := 1) rfl).cell 1
        have x2 := (HA.out.blk (i := 1) rfl).cell 2
        have x3 := (HA.out.blk (i := 1) rfl).cell 3
        have d0 := (HA.out.blk (i := 2) rfl).cell 0
        have d1 := (HA.out.blk (i := 2) rfl).cell 1
        have c0 := (HA.out.blk (i := 3) rfl).cell 0
        have c1 := (HA.out.blk (i := 3) rfl).cell 1
        have fd0 := (HA.out.blk (i := 2) rfl).free 0
        have fd1 := (HA.out.blk (i := 2) rfl).free 1
        have fc0 := (HA.out.blk (i := 3) rfl).free 0
        have fc1 := (HA.out.blk (i := 3) rfl).free 1
        go_wp2_with fail
        refine (alikeN HA.out 0 2 rfl rfl).mono ?_
        rintro e w5 ⟨rfl, hA5⟩
        replace HA := Lib.hid hA5
        clear hA5
        clear y0 y1 x0 x1 x2 x3 d0 d1 c0 c1 fc0 fc1 fd0 fd1
        have y0 := (HA.out.blk (i := 0) rfl).cell 0
        have y1 := (HA.out.blk (i := 0) rfl).cell 1
        have x0 := (HA.out.blk (i := 1) rfl).cell 0
        have x1 := (HA.out.blk (i := 1) rfl).cell 1
        have x2 := (HA.out.blk (i := 1) rfl).cell 2
        have x3 := (HA.out.blk (i := 1) rfl).cell 3
        have d0 := (HA.out.blk (i := 2) rfl).cell 0
        have d1 := (HA.out.blk (i := 2) rfl).cell 1
        have c0 := (HA.out.blk (i := 3) rfl).cell 0
        have c1 := (HA.out.blk (i := 3) rfl).cell 1
        have fd0 := (HA.out.blk (i := 2) rfl).free 0
        have fd1 := (HA.out.blk (i := 2) rfl).free 1
        have fc0 := (HA.out.blk (i := 3) rfl).free 0
        have fc1 := (HA.out.blk (i := 3) rfl).free 1
        have HA5 := Lib.hid ((HA.out.put (i := 3) rfl 0 (.slice p3 rG.length z3)).put (i := 3) rfl 1 (.slice q3 rD.length d3))
        go_wp2_with fail
        refine (alikeN HA5.out 1 0 rfl rfl).mono ?_
        rintro e w6 ⟨rfl, hA6⟩
        have HF := Lib.hid (hA6.less (List.Sublist.refl _) (l' := [⟨Y, SY, H, E⟩, ⟨X, SX4, rG, rD⟩]) (m' := [⟨.agg #[.slice p3 rG.length z3, .slice q3 rD.length d3], rG, rD⟩, ⟨.agg #[.slice ph H.length ch, .slice qe E.length ce], H, E⟩]) (c' := [⟨No, 25, [.slice ph H.length ch, .slice qe E.length ce]⟩, ⟨Nx, 25, [.slice p3 rG.length z3, .slice q3 rD.length d3]⟩]) (fun x hx => (show List.Sublist _ _ from (by repeat (first | exact List.Sublist.slnil | apply List.Sublist.cons_cons | apply List.Sublist.cons))).subset hx) (by repeat (first | exact List.Sublist.slnil | apply List.Sublist.cons_cons | apply List.Sublist.cons)))
        clear hA6
        clear y0 y1 x0 x1 x2 x3 d0 d1 c0 c1 fc0 fc1 fd0 fd1
        go_wp2_with fail
        go_roundw
        case rel => exact ⟨k + 1, X, Y, _, _, _, _, _, _, _, _, _, _, _, _, by omega, by go_num, rfl, rfl, SX4, SY, HF.out, HVn.out, HVo.out⟩
        case measure => simp [intOf]; omega
      have hbha3 : (a == 3) = false := by rw [beq_eq_false_iff_ne]; exact ha3
      by_cases ha4 : a = 4
      · subst ha4
        go_upto_region 30 with fail
        refine wp_region_noPanic ?_
        refine wp_region_held_drew (S := fun w' => w'.cell? ⟨Nx, 0, none⟩ = some (.slice pg G.length cg) ∧ w'.cell? ⟨Nx, 1, none⟩ = some (.slice qd D.length cd)) (by kernel_rfl) (⟨c0, c1⟩) (fun hHeld => ?_)
        refine wpAnyH_take (i := 0) (oi := ⟨some 106, _, _, _, _, _⟩) (v := ?_) rfl (by kernel_rfl) (by kernel_rfl) (by kernel_rfl) (fun _ _ _ h => h) (Or.inl ⟨by rfl, ?_⟩) hHeld ?_
        rotate_left
        · (intro w hSw; obtain ⟨s0, s1⟩ := hSw; go_simp; try with_reducible rfl)
        try simp only [Act.put, List.setIfInBounds_toArray, List.set_cons_zero, List.set_cons_succ]
        refine wpAnyH_take (i := 2) (oi := ⟨some 108, _, _, _, _, _⟩) (v := ?_) rfl (by kernel_rfl) (by kernel_rfl) (by kernel_rfl) (fun _ _ _ h => h) (Or.inl ⟨by rfl, ?_⟩) hHeld ?_
        rotate_left
        · (intro w hSw; obtain ⟨s0, s1⟩ := hSw; go_simp; try with_reducible rfl)
        try simp only [Act.put, List.setIfInBounds_toArray, List.set_cons_zero, List.set_cons_succ]
        refine wpAnyH_ready (rs := [1]) (by kernel_rfl) (by simp) ?_
        refine (AllReadyH.cons (o := ⟨some 107, _, _, _, _, _⟩) rfl (fun K hK => ?_) AllReadyH.nil)
        go_simp
        (refine (copyA (HA.out.kept (Below.refl _ _).drew) 1 rfl).mono ?_; rintro e w4 ⟨Y2, SY2, rfl, hA4⟩)
        have HA4 := Lib.hid hA4
        clear hA4
        refine hK.out _ _ (⟨(HA4.out.blk (i := 2) rfl).cell 0, (HA4.out.blk (i := 2) rfl).cell 1⟩) (fun hHeld => ?_)
        clear hK K
        try simp only [Act.put, List.setIfInBounds_toArray, List.set_cons_zero, List.set_cons_succ]
        refine wpAnyH_take (i := 3) (oi := ⟨some 7, _, _, _, _, _⟩) (v := ?_) rfl (by kernel_rfl) (by kernel_rfl) (by kernel_rfl) (fun _ _ _ h => h) (Or.inl ⟨by rfl, ?_⟩) hHeld ?_
        rotate_left
        · (intro w hSw; obtain ⟨s0, s1⟩ := hSw; go_simp; try with_reducible rfl)
        try simp only [Act.put, List.setIfInBounds_toArray, List.set_cons_zero, List.set_cons_succ]
        refine wpAnyH_ready (rs := [4]) (by kernel_rfl) (by simp) ?_
        refine (AllReadyH.cons (o := ⟨none, _, _, _, _, _⟩) rfl (fun K hK => ?_) AllReadyH.nil)
        have d0 := (HA4.out.blk (i := 1) rfl).cell 0
        have d1 := (HA4.out.blk (i := 1) rfl).cell 1
        have fd0 := (HA4.out.blk (i := 1) rfl).free 0
        have fd1 := (HA4.out.blk (i := 1) rfl).free 1
        have HA5 := Lib.hid ((HA4.out.put (i := 1) rfl 0 (.slice pg G.length cg)).put (i := 1) rfl 1 (.slice qd D.length cd))
        go_simp
        refine hK.out _ _ (⟨(HA5.out.blk (i := 2) rfl).cell 0, (HA5.out.blk (i := 2) rfl).cell 1⟩) (fun hHeld => ?_)
        clear hK K
        try simp only [Act.put, List.setIfInBounds_toArray, List.set_cons_zero, List.set_cons_succ]
        refine wpAnyH_done (by kernel_rfl) ?_ _
        refine NoPanic.normal ?_
        clear d0 d1 fd0 fd1
        clear x0 x1 x2 x3 d0 d1 c0 c1 fc0 fc1 fd0 fd1
        have c0 := (HA5.out.blk (i := 2) rfl).cell 0
        have c1 := (HA5.out.blk (i := 2) rfl).cell 1
        go_wp2_with fail
        refine (alikeN HA5.out 2 0 rfl rfl).mono ?_
        rintro e w6 ⟨rfl, hA6⟩
        have HF := Lib.hid (hA6.less (l' := [⟨Y2, SY2, G, D⟩, ⟨X, SX, G, D⟩]) (by repeat (first | exact List.Sublist.slnil | apply List.Sublist.cons_cons | apply List.Sublist.cons)) (m' := [⟨.agg #[.slice pg G.length cg, .slice qd D.length cd], G, D⟩, ⟨.agg #[.slice pg G.length cg, .slice qd D.length cd], G, D⟩]) (c' := [⟨No, 25, [.slice pg G.length cg, .slice qd D.length cd]⟩, ⟨Nx, 25, [.slice pg G.length cg, .slice qd D.length cd]⟩]) (fun x hx => by simp at hx; subst hx; exact List.mem_cons_self) (by repeat (first | exact List.Sublist.slnil | apply List.Sublist.cons_cons | apply List.Sublist.cons)))
        clear hA6 c0 c1
        go_wp2_with fail
        go_roundw
        case rel => exact ⟨k + 1, X, Y2, _, _, _, _, _, _, _, _, _, _, _, _, by omega, by go_num, rfl, rfl, SX, SY2, HF.out, HV.out, HV.out⟩
        case measure => simp [intOf]; omega
      have hbha4 : (a == 4) = false := by rw [beq_eq_false_iff_ne]; exact ha4
      clear ha0 ha1 ha2 ha3 ha4
      go_wp2_with fail
      refine (copyA HA.out 1 rfl).mono ?_
      rintro e w4 ⟨C, SC, rfl, hA4⟩
      replace HA := Lib.hid hA4
      clear hA4
      clear x0 x1 x2 x3 d0 d1 c0 c1 fc0 fc1 fd0 fd1
      have x0 := (HA.out.blk (i := 0) rfl).cell 0
      have x1 := (HA.out.blk (i := 0) rfl).cell 1
      have x2 := (HA.out.blk (i := 0) rfl).cell 2
      have x3 := (HA.out.blk (i := 0) rfl).cell 3
      have d0 := (HA.out.blk (i := 1) rfl).cell 0
      have d1 := (HA.out.blk (i := 1) rfl).cell 1
      have c0 := (HA.out.blk (i := 2) rfl).cell 0
      have c1 := (HA.out.blk (i := 2) rfl).cell 1
      have fd0 := (HA.out.blk (i := 1) rfl).free 0
      have fd1 := (HA.out.blk (i := 1) rfl).free 1
      have fc0 := (HA.out.blk (i := 2) rfl).free 0
      have fc1 := (HA.out.blk (i := 2) rfl).free 1
      go_wp2_with fail
      refine (restA 0 1 HA.out 2 rfl).mono ?_
      rintro e w5 ⟨rfl, SX5, hA5⟩
      replace HA := Lib.hid hA5
      clear hA5
      generalize restE G 0 1 = e5
      generalize restG G 0 1 = G5 at HA
      clear x0 x1 x2 x3 d0 d1 c0 c1 fc0 fc1 fd0 fd1
      have x0 := (HA.out.blk (i := 0) rfl).cell 0
      have x1 := (HA.out.blk (i := 0) rfl).cell 1
      have x2 := (HA.out.blk (i := 0) rfl).cell 2
      have x3 := (HA.out.blk (i := 0) rfl).cell 3
      have d0 := (HA.out.blk (i := 1) rfl).cell 0
      have d1 := (HA.out.blk (i := 1) rfl).cell 1
      have c0 := (HA.out.blk (i := 2) rfl).cell 0
      have c1 := (HA.out.blk (i := 2) rfl).cell 1
      have fd0 := (HA.out.blk (i := 1) rfl).free 0
      have fd1 := (HA.out.blk (i := 1) rfl).free 1
      have fc0 := (HA.out.blk (i := 2) rfl).free 0
      have fc1 := (HA.out.blk (i := 2) rfl).free 1
      go_wp2_with fail
      refine (sellA 0 1 HA.out 2 rfl).mono ?_
      rintro e w6 ⟨rfl, SX6, hA6⟩
      replace HA := Lib.hid hA6
      clear hA6
      generalize sellE G5 D 0 1 = e6
      generalize sellD G5 D 0 1 = D6 at HA
      clear x0 x1 x2 x3 d0 d1 c0 c1 fc0 fc1 fd0 fd1
      have x0 := (HA.out.blk (i := 0) rfl).cell 0
      have x1 := (HA.out.blk (i := 0) rfl).cell 1
      have x2 := (HA.out.blk (i := 0) rfl).cell 2
      have x3 := (HA.out.blk (i := 0) rfl).cell 3
      have d0 := (HA.out.blk (i := 1) rfl).cell 0
      have d1 := (HA.out.blk (i := 1) rfl).cell 1
      have c0 := (HA.out.blk (i := 2) rfl).cell 0
      have c1 := (HA.out.blk (i := 2) rfl).cell 1
      have fd0 := (HA.out.blk (i := 1) rfl).free 0
      have fd1 := (HA.out.blk (i := 1) rfl).free 1
      have fc0 := (HA.out.blk (i := 2) rfl).free 0
      have fc1 := (HA.out.blk (i := 2) rfl).free 1
      go_wp2_with fail
      refine (alikeN HA.out 0 0 rfl rfl).mono ?_
      rintro e w7 ⟨rfl, hA7⟩
      have HF := Lib.hid (hA7.less (l' := [⟨C, SC, G, D⟩, ⟨Y, SY, H, E⟩]) (by repeat (first | exact List.Sublist.slnil | apply List.Sublist.cons_cons | apply List.Sublist.cons)) (m' := [⟨.agg #[.slice pg G.length cg, .slice qd D.length cd], G, D⟩, ⟨.agg #[.slice ph H.length ch, .slice qe E.length ce], H, E⟩]) (c' := [⟨No, 25, [.slice ph H.length ch, .slice qe E.length ce]⟩, ⟨Nx, 25, [.slice pg G.length cg, .slice qd D.length cd]⟩]) (fun x hx => hx) (by repeat (first | exact List.Sublist.slnil | apply List.Sublist.cons_cons | apply List.Sublist.cons))).swap
      clear hA7
      clear x0 x1 x2 x3 d0 d1 c0 c1 fc0 fc1 fd0 fd1
      go_wp2_with fail
      go_roundw
      case rel => exact ⟨k + 1, C, Y, _, _, _, _, _, _, _, _, _, _, _, _, by omega, by go_num, rfl, rfl, SC, SY, HF.out, HV.out, HVo.out⟩
      case measure => simp [intOf]; omega
    · clear hA
      go_wp2_with fail
      refine (known_any _).mono ?_
      rintro e w9 ⟨rfl, hb9⟩
      have HP := Lib.hid (HA.out.kept hb9).b
      clear hb9
      go_wp2_with fail
      go_ret
      exact ⟨rfl, HP.out⟩

theorem stockPlays_walk {w : World} {U : Nat → Prop} {v : Value} {G : List (List Int)} {D : List Int} (p : Option Addr) (cc : Nat) (l : List Ac) (hx : VS w U v G D) (hl : Rd w w.heap.size p (acs l)) :
    Calls Try.prog 7 #[v, .slice p l.length cc] w fun e w' => e = .returned (.bool true) ∧ Below w.heap.size w w' := by
  by_cases s1 : Small G D
  case pos =>
    by_cases v1 : Valid G D
    case pos =>
      by_cases h60 : l.length ≤ 60
      case pos => exact stockPlays_core p cc l hx hl s1 v1 h60
      case neg =>
        have i60 : 60 < (l.length : Int) := by omega
        have HX := Lib.hid hx
        obtain ⟨pg, cg, qd, cd, rfl⟩ := hx.shape
        clear hx hl
        go_enter Try.func7, Try.ntmps7
        go_wp2_with fail
        generalize hW : (World.alloc _ _) = W
        have hb1 : Below w.heap.size w W := by rw [← hW]; exact (Below.refl _ _).alloc (Nat.le_refl _) _
        have hA1 := ((All.nil w).arg HX.out).box hb1 (N := w.heap.size) (t := 25) (cs := [.slice pg G.length cg, .slice qd D.length cd]) (by rw [← hW]; exact Blk.new w 25 _) (Nat.le_refl _)
        obtain ⟨Nx, hNx⟩ : ∃ n, w.heap.size = n := ⟨_, rfl⟩
        rw [hNx] at hA1 ⊢
        clear hW hNx hb1
        have HA := Lib.hid hA1
        have c0 := (hA1.blk (i := 0) rfl).cell 0
        have c1 := (hA1.blk (i := 0) rfl).cell 1
        clear hA1
        go_wp2_with fail
        refine (small_t (HA.out.ro (i := 0) rfl) s1).mono ?_
        rintro e w2 ⟨rfl, hb2⟩
        replace HA := Lib.hid (HA.out.kept hb2)
        clear c0 c1 hb2
        have c0 := (HA.out.blk (i := 0) rfl).cell 0
        have c1 := (HA.out.blk (i := 0) rfl).cell 1
        go_wp2_with fail
        refine (valid_t (HA.out.ro (i := 0) rfl) v1).mono ?_
        rintro e w2 ⟨rfl, hb2⟩
        replace HA := Lib.hid (HA.out.kept hb2)
        clear c0 c1 hb2
        go_wp2_with fail
        refine (known_any _).mono ?_
        rintro e w9 ⟨rfl, hb9⟩
        have HO := Lib.hid (HA.out.kept hb9).b
        clear hb9
        go_wp2_with fail
        go_ret
        exact ⟨rfl, HO.out⟩
    case neg =>
      have HX := Lib.hid hx
      obtain ⟨pg, cg, qd, cd, rfl⟩ := hx.shape
      clear hx hl
      go_enter Try.func7, Try.ntmps7
      go_wp2_with fail
      generalize hW : (World.alloc _ _) = W
      have hb1 : Below w.heap.size w W := by rw [← hW]; exact (Below.refl _ _).alloc (Nat.le_refl _) _
      have hA1 := ((All.nil w).arg HX.out).box hb1 (N := w.heap.size) (t := 25) (cs := [.slice pg G.length cg, .slice qd D.length cd]) (by rw [← hW]; exact Blk.new w 25 _) (Nat.le_refl _)
      obtain ⟨Nx, hNx⟩ : ∃ n, w.heap.size = n := ⟨_, rfl⟩
      rw [hNx] at hA1 ⊢
      clear hW hNx hb1
      have HA := Lib.hid hA1
      have c0 := (hA1.blk (i := 0) rfl).cell 0
      have c1 := (hA1.blk (i := 0) rfl).cell 1
      clear hA1
      go_wp2_with fail
      refine (small_t (HA.out.ro (i := 0) rfl) s1).mono ?_
      rintro e w2 ⟨rfl, hb2⟩
      replace HA := Lib.hid (HA.out.kept hb2)
      clear c0 c1 hb2
      have c0 := (HA.out.blk (i := 0) rfl).cell 0
      have c1 := (HA.out.blk (i := 0) rfl).cell 1
      go_wp2_with fail
      refine (valid_f (HA.out.ro (i := 0) rfl) v1).mono ?_
      rintro e w2 ⟨rfl, hb2⟩
      replace HA := Lib.hid (HA.out.kept hb2)
      clear c0 c1 hb2
      go_wp2_with fail
      refine (known_any _).mono ?_
      rintro e w9 ⟨rfl, hb9⟩
      have HO := Lib.hid (HA.out.kept hb9).b
      clear hb9
      go_wp2_with fail
      go_ret
      exact ⟨rfl, HO.out⟩
  case neg =>
    have HX := Lib.hid hx
    obtain ⟨pg, cg, qd, cd, rfl⟩ := hx.shape
    clear hx hl
    go_enter Try.func7, Try.ntmps7
    go_wp2_with fail
    generalize hW : (World.alloc _ _) = W
    have hb1 : Below w.heap.size w W := by rw [← hW]; exact (Below.refl _ _).alloc (Nat.le_refl _) _
    have hA1 := ((All.nil w).arg HX.out).box hb1 (N := w.heap.size) (t := 25) (cs := [.slice pg G.length cg, .slice qd D.length cd]) (by rw [← hW]; exact Blk.new w 25 _) (Nat.le_refl _)
    obtain ⟨Nx, hNx⟩ : ∃ n, w.heap.size = n := ⟨_, rfl⟩
    rw [hNx] at hA1 ⊢
    clear hW hNx hb1
    have HA := Lib.hid hA1
    have c0 := (hA1.blk (i := 0) rfl).cell 0
    have c1 := (hA1.blk (i := 0) rfl).cell 1
    clear hA1
    go_wp2_with fail
    refine (small_f (HA.out.ro (i := 0) rfl) s1).mono ?_
    rintro e w2 ⟨rfl, hb2⟩
    replace HA := Lib.hid (HA.out.kept hb2)
    clear c0 c1 hb2
    go_wp2_with fail
    refine (known_any _).mono ?_
    rintro e w9 ⟨rfl, hb9⟩
    have HO := Lib.hid (HA.out.kept hb9).b
    clear hb9
    go_wp2_with fail
    go_ret
    exact ⟨rfl, HO.out⟩
end Go.Proofs.Ytdancoblphkakaa
