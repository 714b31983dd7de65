/- StockHolds: the walk. -/
import Derived.Test.YtdancoblphkakaaMany
namespace Go.Proofs.Ytdancoblphkakaa
open Go.RowKit

theorem ptr_info : (Try.prog.info? 28).map (fun i => (i.zero, i.size, i.bytes)) = some (some (.pointer none), 1, 8) := by kernel_rfl
def ptrs (X : Nat → Nat) (k : Nat) : List Value := (List.range k).map fun i => .pointer (some ⟨X i, 0, none⟩)
theorem ptrs_snoc (X : Nat → Nat) (k C : Nat) : ptrs X k ++ [.pointer (some ⟨C, 0, none⟩)] = ptrs (fun i => if i = k then C else X i) (k + 1) := by
  unfold ptrs
  rw [List.range_succ, List.map_append]
  congr 1
  · refine List.map_congr_left fun i hi => ?_
    have : i ≠ k := by simp at hi; omega
    simp [this]
  · simp
theorem ptrs_at {X : Nat → Nat} {n i : Nat} (h : i < n) : (ptrs X n)[i]? = some (.pointer (some ⟨X i, 0, none⟩)) := by simp [ptrs, h]
theorem ptrs_len (X : Nat → Nat) (n : Nat) : (ptrs X n).length = n := by simp [ptrs]
section
variable {w0 w w' : World} {l : List Ob} {m : List Sv} {c : List Bx} {G : List (List Int)} {D : List Int}
theorem All.add2 {X : Nat} (h : All w0 w l [] []) (k : NewSt w X G D w') : ∃ S, All w0 w' (⟨X, S, G, D⟩ :: l) [] [] ∧ ∀ b, S b → w.heap.size ≤ b := by
  have hb : Below w.heap.size w w' := k.below
  obtain ⟨S, h1, h2, h3⟩ := k
  have hsz := h.o.b.size
  refine ⟨S, ⟨⟨below_step h.o.b h2, fun o ho => ?_, List.pairwise_cons.2 ⟨fun o ho b hb hs => ?_, h.o.ap⟩⟩, by simp, by simp, .nil⟩, h3⟩
  · rcases List.mem_cons.1 ho with rfl | ho
    · exact ⟨h1, fun b hb => by have := h3 b hb; omega⟩
    · exact ⟨(h.o.st o ho).1.kept h2, (h.o.st o ho).2⟩
  · have := (h.o.st o ho).1.lt b hs
    have := h3 b hb
    omega
end
/-- While the copies are made. -/
def MkP (w wr : World) (n k : Nat) (X0 : Nat) (v1 : Value) : Prop := ∃ S0 X S, All w wr (⟨X0, S0, zerG n, zer n⟩ :: obs k X S (fun _ => (⟨zerG n, zer n⟩ : S2))) [] [] ∧ wr.ownsRow w.heap.size 28 1 v1 k (ptrs X k) ∧ ∀ b, v1.ownBlock = some b → ∀ o ∈ (⟨X0, S0, zerG n, zer n⟩ :: obs k X S (fun _ => (⟨zerG n, zer n⟩ : S2)) : List Ob), ¬ o.S b
theorem MkP.first {w wr : World} {n k X0 : Nat} {v1 : Value} (h : MkP w wr n k X0 v1) : ∃ S0, ST wr X0 S0 (zerG n) (zer n) := by
  obtain ⟨S0, X, S, hA, _⟩ := h
  exact ⟨S0, hA.at_ (i := 0) rfl⟩
theorem MkP.own {w wr : World} {n k X0 : Nat} {v1 : Value} (h : MkP w wr n k X0 v1) : ∃ xs, wr.ownsRow w.heap.size 28 1 v1 k xs := by
  obtain ⟨S0, X, S, _, h1, _⟩ := h
  exact ⟨_, h1⟩
theorem MkP.step {w wr w2 w3 : World} {n k X0 C : Nat} {v1 v2 : Value} {xs : List Value} (h : MkP w wr n k X0 v1) (hx : wr.ownsRow w.heap.size 28 1 v1 k xs) (hN : NewSt wr C (zerG n) (zer n) w2) (ho : w3.ownsRow w.heap.size 28 1 v2 (k + 1) (xs ++ [.pointer (some ⟨C, 0, none⟩)])) (hat : v2.ownBlock = v1.ownBlock ∨ ∀ b, v2.ownBlock = some b → w2.heap.size ≤ b) (hg : w2.grownBy w3 v1.ownBlock) : MkP w w3 n (k + 1) X0 v2 := by
  obtain ⟨S0, X, S, hA, hown, hdis⟩ := h
  have hxs : xs = ptrs X k := by
    rcases hx.2 with ⟨e1, e2⟩ | ⟨g, cap, cur, e1, _, e2, e3, e4, e5, e6⟩
    · have l1 := hx.1
      subst e2
      have : xs = [] := List.eq_nil_of_length_eq_zero (by simpa using l1)
      rw [this]; rfl
    · rcases hown.2 with ⟨f1, f2⟩ | ⟨g', cap', cur', f1, _, f2, f3, f4, f5, f6⟩
      · rw [e1] at f1; cases f1
      · rw [e1] at f1
        injection f1 with f1
        injection f1 with f1
        injection f1 with f1
        subst f1
        rw [e2] at f2
        injection f2 with f2
        injection f2 with f2
        subst f2
        rw [← e6, ← f6]
  subst hxs
  have hA' := hA
  obtain ⟨SC, hA2, hSC⟩ := hA.add2 hN
  have hb := hN.below
  have hall : ∀ b, v1.ownBlock = some b → ∀ o ∈ (⟨C, SC, zerG n, zer n⟩ :: ⟨X0, S0, zerG n, zer n⟩ :: obs k X S (fun _ => (⟨zerG n, zer n⟩ : S2)) : List Ob), ¬ o.S b := by
    intro b hv o ho hs
    rcases List.mem_cons.1 ho with rfl | ho
    · have := hSC b hs; have := (own_lt hx b hv).2; omega
    · exact hdis b hv o ho hs
  have hA3 : All w w3 (⟨C, SC, zerG n, zer n⟩ :: ⟨X0, S0, zerG n, zer n⟩ :: obs k X S (fun _ => (⟨zerG n, zer n⟩ : S2))) [] [] :=
    hA2.fr0 (T := fun b => v1.ownBlock = some b) ((Fr.refl _ _).gb hg (fun b hb => .inl hb)) (fun b hb => ⟨(own_lt hx b hb).1, hall b hb⟩)
  refine ⟨S0, fun i => if i = k then C else X i, fun i => if i = k then SC else S i, ?_, by rw [← ptrs_snoc]; exact ho, fun b hv o ho2 hs => ?_⟩
  · refine hA3.perm ?_
    rw [← obs_snoc k X S (fun _ => (⟨zerG n, zer n⟩ : S2)) C SC (fun _ => rfl)]
    exact (List.perm_append_singleton _ (_ :: obs k X S (fun _ => (⟨zerG n, zer n⟩ : S2)))).symm
  · have ho3 : o ∈ (⟨C, SC, zerG n, zer n⟩ :: ⟨X0, S0, zerG n, zer n⟩ :: obs k X S (fun _ => (⟨zerG n, zer n⟩ : S2)) : List Ob) := by
      rw [← obs_snoc k X S (fun _ => (⟨zerG n, zer n⟩ : S2)) C SC (fun _ => rfl)] at ho2
      simp only [List.mem_cons, List.mem_append, List.not_mem_nil, or_false] at ho2 ⊢
      rcases ho2 with h | h | h
      · exact .inr (.inl h)
      · exact .inr (.inr h)
      · exact .inl h
    rcases hat with hat | hat
    · exact hall b (by rw [← hat]; exact hv) o ho3 hs
    · have h1 := hat b hv
      have h2 := (hA2.o.st o ho3).1.lt b hs
      omega
/-- All copies are there. -/
theorem MkP.done {w wr : World} {n X0 : Nat} {v1 : Value} (h : MkP w wr n n X0 v1) (hn : 1 ≤ n) : ∃ g cap cs X S, v1 = .slice (some ⟨g, 0, none⟩) n cap ∧ All w wr (obs n X S (fun _ => (⟨zerG n, zer n⟩ : S2))) [] [⟨g, 28, cs⟩] ∧ ptrs X n <+: cs := by
  obtain ⟨S0, X, S, hA, hown, hdis⟩ := h
  rcases hown.2 with ⟨_, h2⟩ | ⟨g, cap, cur, hv, hg, hh, h1, h2, h3, h4⟩
  · omega
  · have hB : Blk wr g 28 cur.toList := by unfold Blk; simpa using hh
    have hA2 := (hA.mkbox hB hg (hdis g (by rw [hv]; rfl))).less (l' := obs n X S (fun _ => (⟨zerG n, zer n⟩ : S2))) (List.sublist_cons_self _ _) (m' := []) (by simp) (List.Sublist.refl _)
    refine ⟨g, cap, cur.toList, X, S, hv, hA2, ?_⟩
    rw [← h4]
    exact List.take_prefix _ _
theorem nat_mod (p : Int) (n : Nat) (hn : 1 ≤ n) : ∃ i : Nat, i < n ∧ (i : Int) = (p % 18446744073709551616) % (n : Int) := by
  have h1 := Int.emod_nonneg (p % 18446744073709551616) (show (n : Int) ≠ 0 by omega)
  have h2 := Int.emod_lt_of_pos (p % 18446744073709551616) (show (0 : Int) < n by omega)
  exact ⟨((p % 18446744073709551616) % (n : Int)).toNat, by omega, by omega⟩
theorem pm_ok (p : Int) (n : Nat) (hn : 1 ≤ n) (h6 : n ≤ 6) : ∃ i : Nat, i < n ∧ wrap64 ((IntKind.u64.wrap p).tmod (n : Int)) = (i : Int) := by
  obtain ⟨i, hi, e⟩ := nat_mod p n hn
  refine ⟨i, hi, ?_⟩
  have h1 : IntKind.u64.wrap p = p % 18446744073709551616 := by simp [IntKind.wrap, IntKind.bits, IntKind.signed]
  have h2 : 0 ≤ p % 18446744073709551616 := Int.emod_nonneg _ (by decide)
  rw [h1, Int.tmod_eq_emod_of_nonneg h2, ← e]
  unfold wrap64
  omega
set_option maxRecDepth 100000 in
set_option maxHeartbeats 32000000 in
theorem stockHolds_core (n : Nat) (p : Option Addr) (cc : Nat) (l : List Ac) (w : World) (h1 : 1 ≤ n) (h6 : n ≤ 6) (h80 : l.length ≤ 80) (hl : Rd w w.heap.size p (acs l)) (hw : ∀ x ∈ l, x.Ok) :
    Calls Try.prog 5 #[.int .i64 n, .slice p l.length cc] w fun e w' => e = .returned (.bool true) ∧ Below w.heap.size w w' := by
  have i1 : (1 : Int) ≤ (n : Int) := by omega
  have i1b : decide ((n : Int) < 1) = false := by simp; omega
  have i6 : (n : Int) ≤ 6 := by omega
  have i6b : decide (6 < (n : Int)) = false := by simp; omega
  have i80 : (l.length : Int) ≤ 80 := by omega
  have i80b : decide (80 < (l.length : Int)) = false := by simp; omega
  have HLR := Lib.hid hl
  have HOK := Lib.hid hw
  clear hl hw
  go_enter Try.func5, Try.ntmps5
  go_wp2_with fail
  refine (newA (All.nil w) n h1 (by omega)).mono ?_
  rintro e w1 ⟨X0, S0, rfl, hA1⟩
  have hP0 : MkP w w1 n 0 X0 (.slice none 0 0) := ⟨S0, fun _ => 0, fun _ _ => False, hA1, World.ownsRow_nil _ _ _ _, fun b hb => by cases hb⟩
  clear hA1
  go_wp2_with fail
  go_loopw [7, 8] (fun a i wr => ∃ (k : Nat) (v1 : Value), k ≤ n ∧ i = .int .i64 k ∧ a = v1 ∧ MkP w wr n k X0 v1) (fun _ i _ => n - (intOf i).toNat)
  case atStart => exact ⟨0, _, Nat.zero_le _, rfl, rfl, hP0⟩
  case round =>
    clear hP0
    obtain ⟨k, v1, hk, rfl, rfl, hP⟩ := hrel
    by_cases hlt : k < n
    · have hki : (k : Int) < (n : Int) := by omega
      obtain ⟨SF, hST⟩ := hP.first
      obtain ⟨xs, hown⟩ := hP.own
      have HP := Lib.hid hP
      clear hP
      go_wp2_with fail
      refine (copy_any hST).mono ?_
      rintro e w2 ⟨C, rfl, hN⟩
      have HOW := Lib.hid hown
      have hown2 := own_kept hown hN.below
      have HN := Lib.hid hN
      have hbs := hN.below.size
      clear hN hST hown
      go_wp2_with (at_builtin; refine wpList_app1 rfl (.tmp 57) (.tmp 59) 44 rfl w.heap.size 28 _ 8 Try.underlying44 ptr_info rfl _ k xs rfl hown2 (.pointer (some ⟨C, 0, none⟩)) rfl rfl (by omega) (by omega) (by have := (HP.out).own; obtain ⟨_, _, _, hA, _⟩ := HP.out; have := hA.b.size; omega) ?_; intro v2 w3 hown3 _ hat3 hg3)
      have HS := Lib.hid (HP.out.step HOW.out HN.out hown3 hat3 hg3)
      clear hown3 hat3 hg3 hown2
      go_wp2_with fail
      go_roundw
      case rel => exact ⟨k + 1, _, by omega, by go_num, rfl, HS.out⟩
      case measure => simp [intOf]; omega
    · have hkn : k = n := by omega
      subst hkn
      obtain ⟨g, cap, cs, X, S, rfl, hA, hpre⟩ := hP.done h1
      have HPRE := Lib.hid hpre
      have HS0 := Lib.hid (sys_new h1 (show k ≤ 16 by omega))
      clear hP hpre
      have HA := Lib.hid hA
      clear hA
      go_wp2_with fail
      go_loopw [10, 11, 12] (fun r s i wr => ∃ (m : Nat) (S : Nat → Nat → Prop) (z : Nat → S2) (R T : Int), m ≤ l.length ∧ i = .int .i64 m ∧ r = .int .i64 R ∧ s = .int .i64 T ∧ All w wr (obs k X S z) [] [⟨g, 28, cs⟩] ∧ Sys k z R T m) (fun _ _ i _ => l.length - (intOf i).toNat)
      case atStart => exact ⟨0, S, _, 0, 0, Nat.zero_le _, rfl, rfl, rfl, HA.out, HS0.out⟩
      case round =>
        clear HA HS0
        clear S
        obtain ⟨m, S, z, R, T, hm, rfl, rfl, rfl, hA, hS⟩ := hrel
        have HA := Lib.hid hA
        have HS := Lib.hid hS
        by_cases hlt2 : m < l.length
        · obtain ⟨b0, o0, rfl, l0, x0, x1, x2, x3⟩ := HLR.out.ac hlt2
          have hmi : (m : Int) < (l.length : Int) := by omega
          have x0 := (hA.b.cell (p := ⟨b0, o0 + m * 4, none⟩) l0).trans x0
          have x1 := (hA.b.cell (p := ⟨b0, o0 + m * 4 + 1, none⟩) l0).trans x1
          have x2 := (hA.b.cell (p := ⟨b0, o0 + m * 4 + 2, none⟩) l0).trans x2
          have x3 := (hA.b.cell (p := ⟨b0, o0 + m * 4 + 3, none⟩) l0).trans x3
          have hok := HOK.out _ (List.getElem_mem hlt2)
          obtain ⟨⟨a, p, t, u⟩, hx⟩ : ∃ x, l[m] = x := ⟨_, rfl⟩
          rw [hx] at x0 x1 x2 x3 hok
          dsimp only at x0 x1 x2 x3
          obtain ⟨ok1, ok2, ok3, ok4⟩ := hok
          clear hx hA hS
          simp [Lit.wf, IntKind.min, IntKind.max, IntKind.signed, IntKind.bits] at ok1 ok2 ok3 ok4
          go_upto_region 19 with fail
          generalize hW : (World.alloc _ _) = W2
          have hWb : Below wr.heap.size wr W2 := by rw [← hW]; exact (Below.refl _ _).alloc (Nat.le_refl _) _
          have hBa : Blk W2 wr.heap.size 40 [.int .i64 a, .int .i64 p, .int .i64 t, .int .i64 u] := by rw [← hW]; exact Blk.new' _ 40 _ rfl
          replace HA := Lib.hid (HA.out.box hWb hBa (Nat.le_refl _))
          obtain ⟨Na, hNa⟩ : ∃ N, wr.heap.size = N := ⟨_, rfl⟩
          rw [hNa] at HA ⊢
          clear hW hWb hBa hNa x0 x1 x2 x3
          have x0 := (HA.out.blk (i := 0) rfl).cell 0
          have x1 := (HA.out.blk (i := 0) rfl).cell 1
          have x2 := (HA.out.blk (i := 0) rfl).cell 2
          have x3 := (HA.out.blk (i := 0) rfl).cell 3
          by_cases hu0 : 0 ≤ u
          · have hu0b : decide (u < 0) = false := by simp; omega
            by_cases hu1 : u ≤ 1073741824
            · have hu1b : decide (1073741824 < u) = false := by simp; omega

              obtain ⟨i, hi, ei⟩ := pm_ok p k h1 h6
              obtain ⟨j, hj, ej⟩ := pm_ok t k h1 h6
              have HEI := Lib.hid ei
              have HEJ := Lib.hid ej
              clear ei ej
              go_upto_region 23 with fail
              rw [HEI.out, HEJ.out]
              clear HEI HEJ
              have hii : (i : Int) < (k : Int) := by omega
              have hjj : (j : Int) < (k : Int) := by omega
              have HCS := Lib.hid (show ∀ q, q < k → cs[q]? = some (.pointer (some ⟨X q, 0, none⟩)) from fun q hq => by
                obtain ⟨tt, ht⟩ := HPRE.out
                rw [← ht, List.getElem?_append_left (by rw [ptrs_len]; exact hq), ptrs_at hq])
              have y0 : W2.cell? ⟨g, i, none⟩ = some (.pointer (some ⟨X i, 0, none⟩)) := ((HA.out.blk (i := 1) rfl).cell i).trans (HCS.out i hi)
              have m80 : m < 80 := by omega
              have r0 := HS.out.nonneg
              have r1 := HS.out.le
              have r2 : R ≤ 85899345920 := by have := HS.out.uR; omega
              by_cases ha0 : a = 0
              · subst ha0
                obtain ⟨hE, hN⟩ := HS.out.restock' m80 hi hu0 hu1
                have HRM := Lib.hid (restM HA.out hi u)
                rw [hE] at HRM
                obtain ⟨z2, hz2⟩ : ∃ z2, upd z i ⟨restG (z i).G i u, (z i).D⟩ = z2 := ⟨_, rfl⟩
                rw [hz2] at HRM hN
                have HN := Lib.hid hN
                clear hE hN hz2
                go_wp2_with fail
                refine HRM.out.mono ?_
                rintro e w3 ⟨rfl, S3, hA3⟩
                replace HA := Lib.hid hA3
                clear hA3 y0
                clear x0 x1 x2 x3
                have x0 := (HA.out.blk (i := 0) rfl).cell 0
                have x1 := (HA.out.blk (i := 0) rfl).cell 1
                have x2 := (HA.out.blk (i := 0) rfl).cell 2
                have x3 := (HA.out.blk (i := 0) rfl).cell 3
                have q1 := HN.out.le
                have q1b : decide ((R + u) < T) = false := by simp; omega
                have q2 := HN.out.sold hi
                have q3 := HN.out.left hi
                have HSO := Lib.hid (sold_any (ST_M HA.out hi))
                have HLE := Lib.hid (fun w9 h9 => left_any (ST_M (HA.out.kept (w' := w9) h9) hi))
                generalize soldAcc (z2 i).D (z2 i).G.length = so at q2 HSO
                generalize leftAcc (z2 i).G (z2 i).D (z2 i).G.length = le9 at q3 HLE
                have q2b : decide (T < so) = false := by simp; omega
                have q3b : decide (le9 < 0) = false := by simp; omega
                go_wp2_with fail
                refine HSO.out.mono ?_
                rintro e w8 ⟨rfl, hw8⟩
                have HW8 := Lib.hid hw8
                clear hw8
                go_wp2_with fail
                refine (HLE.out w8 (by rw [HW8.out]; exact Below.refl _ _)).mono ?_
                rintro e w9 ⟨rfl, hb9⟩
                have HF := Lib.hid ((show All w w8 _ _ _ by rw [HW8.out]; exact HA.out).kept hb9)
                clear hb9
                go_wp2_with fail
                go_roundw
                case rel => exact ⟨m + 1, _, z2, (R + u), T, by omega, by go_num, rfl, rfl, HF.out.less (List.Sublist.refl _) (fun x hx => hx) (List.sublist_cons_self _ _), HN.out⟩
                case measure => simp [intOf]; omega
              have hb0 : (a == 0) = false := by rw [beq_eq_false_iff_ne]; exact ha0
              by_cases ha1 : a = 1
              · subst ha1
                by_cases hij : i = j
                · subst hij
                  have hne : ((i : Int) != (i : Int)) = false := by simp
                  obtain ⟨z2, hz2⟩ : ∃ z2, z2 = z := ⟨_, rfl⟩
                  rw [← hz2] at HA
                  have HN := Lib.hid (show Sys k z2 R T (m + 1) by rw [hz2]; exact HS.out.mono)
                  clear hz2
                  have q1 := HN.out.le
                  have q1b : decide (R < T) = false := by simp; omega
                  have q2 := HN.out.sold hi
                  have q3 := HN.out.left hi
                  have HSO := Lib.hid (sold_any (ST_M HA.out hi))
                  have HLE := Lib.hid (fun w9 h9 => left_any (ST_M (HA.out.kept (w' := w9) h9) hi))
                  generalize soldAcc (z2 i).D (z2 i).G.length = so at q2 HSO
                  generalize leftAcc (z2 i).G (z2 i).D (z2 i).G.length = le9 at q3 HLE
                  have q2b : decide (T < so) = false := by simp; omega
                  have q3b : decide (le9 < 0) = false := by simp; omega
                  go_wp2_with fail
                  refine HSO.out.mono ?_
                  rintro e w8 ⟨rfl, hw8⟩
                  have HW8 := Lib.hid hw8
                  clear hw8
                  go_wp2_with fail
                  refine (HLE.out w8 (by rw [HW8.out]; exact Below.refl _ _)).mono ?_
                  rintro e w9 ⟨rfl, hb9⟩
                  have HF := Lib.hid ((show All w w8 _ _ _ by rw [HW8.out]; exact HA.out).kept hb9)
                  clear hb9
                  go_wp2_with fail
                  go_roundw
                  case rel => exact ⟨m + 1, _, z2, R, T, by omega, by go_num, rfl, rfl, HF.out.less (List.Sublist.refl _) (fun x hx => hx) (List.sublist_cons_self _ _), HN.out⟩
                  case measure => simp [intOf]; omega
                · have hne : ((i : Int) != (j : Int)) = true := by rw [bne_iff_ne]; omega
                  have okp : okP (z i).G.length (i : Int) = true := (okP_iff _ _).2 ⟨by omega, by rw [(HS.out.sh i hi).2]; exact hii⟩
                  have HSH := Lib.hid (Share_any (i : Int) (ST_M HA.out hi))
                  rw [show shareN (z i).G (z i).D i = share (z i).G (z i).D i by rw [shareN, if_pos okp, Int.toNat_natCast], show shareE (z i).G i = 0 by rw [shareE, if_pos okp]] at HSH
                  have hsb := share_bd (HS.out.sh i hi).1.num (HS.out.sh i hi).1.2.1 i
                  clear okp
                  obtain ⟨hE, hN⟩ := HS.out.give' m80 hi hj (fun e => hij e) hu0 hu1
                  have HGV := Lib.hid (fun w9 (h9 : Below W2.heap.size W2 w9) => giveM (t := j) (HA.out.kept h9) hi u)
                  obtain ⟨z2, hz2⟩ : ∃ z2, upd z i ⟨giveG (z i).G (z i).D i j u, (z i).D⟩ = z2 := ⟨_, rfl⟩
                  obtain ⟨E9, hE9⟩ : ∃ x, giveE (z i).G (z i).D i j u = x := ⟨_, rfl⟩
                  rw [hz2] at HGV hN
                  rw [hE9] at HGV hE
                  have HN := Lib.hid hN
                  have E9iff := Lib.hid hE
                  clear hE hN hz2 hE9
                  by_cases hle : u ≤ share (z i).G (z i).D i
                  · have he9 : E9 = 0 := E9iff.out.2 hle
                    subst he9
                    have hleb : decide (u ≤ share (z i).G (z i).D i) = true := by simp; omega
                    generalize share (z i).G (z i).D i = sh at HSH hsb hle hleb E9iff
                    obtain ⟨hs1, hs2⟩ := hsb
                    go_wp2_with fail
                    refine HSH.out.mono ?_
                    rintro e w3 ⟨rfl, hb3⟩
                    replace HA := Lib.hid (HA.out.kept hb3)
                    have HB3 := Lib.hid hb3
                    clear hb3 y0
                    clear x0 x1 x2 x3
                    have x0 := (HA.out.blk (i := 0) rfl).cell 0
                    have x1 := (HA.out.blk (i := 0) rfl).cell 1
                    have x2 := (HA.out.blk (i := 0) rfl).cell 2
                    have x3 := (HA.out.blk (i := 0) rfl).cell 3
                    go_upto_region 32 with fail
                    refine wp_region_noPanic ?_
                    refine wp_region_held_drew (S := fun w' => w'.cell? ⟨Na, 3, none⟩ = some (.int .i64 u)) (by kernel_rfl) (x3) (fun hHeld => ?_)
                    refine wpAnyH_take (i := 0) (oi := ⟨some 123, _, _, _, _, _⟩) (v := ?_) rfl (by kernel_rfl) (by kernel_rfl) (by kernel_rfl) (fun _ _ _ h => h) (Or.inl ⟨by rfl, ?_⟩) hHeld ?_
                    rotate_left
                    · (intro w hSw; have s0 := hSw; go_simp; try with_reducible rfl)
                    try simp only [Act.put, List.setIfInBounds_toArray, List.set_cons_zero, List.set_cons_succ]
                    refine wpAnyH_take (i := 1) (oi := ⟨some 124, _, _, _, _, _⟩) (v := ?_) rfl (by kernel_rfl) (by kernel_rfl) (by kernel_rfl) (fun _ _ _ h => h) (Or.inl ⟨by rfl, ?_⟩) hHeld ?_
                    rotate_left
                    · (intro w hSw; have s0 := hSw; go_simp; try with_reducible rfl)
                    try simp only [Act.put, List.setIfInBounds_toArray, List.set_cons_zero, List.set_cons_succ]
                    refine wpAnyH_take (i := 2) (oi := ⟨some 125, _, _, _, _, _⟩) (v := ?_) rfl (by kernel_rfl) (by kernel_rfl) (by kernel_rfl) (fun _ _ _ h => h) (Or.inl ⟨by rfl, ?_⟩) hHeld ?_
                    rotate_left
                    · (intro w hSw; have s0 := hSw; go_simp; try with_reducible rfl)
                    try simp only [Act.put, List.setIfInBounds_toArray, List.set_cons_zero, List.set_cons_succ]
                    refine wpAnyH_take (i := 3) (oi := ⟨some 126, _, _, _, _, _⟩) (v := ?_) rfl (by kernel_rfl) (by kernel_rfl) (by kernel_rfl) (fun _ _ _ h => h) (Or.inl ⟨by rfl, ?_⟩) hHeld ?_
                    rotate_left
                    · (intro w hSw; have s0 := hSw; go_simp; try with_reducible rfl)
                    try simp only [Act.put, List.setIfInBounds_toArray, List.set_cons_zero, List.set_cons_succ]
                    refine wpAnyH_take (i := 4) (oi := ⟨some 127, _, _, _, _, _⟩) (v := ?_) rfl (by kernel_rfl) (by kernel_rfl) (by kernel_rfl) (fun _ _ _ h => h) (Or.inl ⟨by rfl, ?_⟩) hHeld ?_
                    rotate_left
                    · (intro w hSw; have s0 := hSw; go_simp; try with_reducible rfl)
                    try simp only [Act.put, List.setIfInBounds_toArray, List.set_cons_zero, List.set_cons_succ]
                    refine wpAnyH_take (i := 5) (oi := ⟨some 128, _, _, _, _, _⟩) (v := ?_) rfl (by kernel_rfl) (by kernel_rfl) (by kernel_rfl) (fun _ _ _ h => h) (Or.inl ⟨by rfl, ?_⟩) hHeld ?_
                    rotate_left
                    · (intro w hSw; have s0 := hSw; go_simp; try with_reducible rfl)
                    try simp only [Act.put, List.setIfInBounds_toArray, List.set_cons_zero, List.set_cons_succ]
                    refine wpAnyH_take (i := 6) (oi := ⟨some 129, _, _, _, _, _⟩) (v := ?_) rfl (by kernel_rfl) (by kernel_rfl) (by kernel_rfl) (fun _ _ _ h => h) (Or.inl ⟨by rfl, ?_⟩) hHeld ?_
                    rotate_left
                    · (intro w hSw; have s0 := hSw; go_simp; try with_reducible rfl)
                    try simp only [Act.put, List.setIfInBounds_toArray, List.set_cons_zero, List.set_cons_succ]
                    refine wpAnyH_take (i := 7) (oi := ⟨some 130, _, _, _, _, _⟩) (v := ?_) rfl (by kernel_rfl) (by kernel_rfl) (by kernel_rfl) (fun _ _ _ h => h) (Or.inl ⟨by rfl, ?_⟩) hHeld ?_
                    rotate_left
                    · (intro w hSw; have s0 := hSw; go_simp; try with_reducible rfl)
                    try simp only [Act.put, List.setIfInBounds_toArray, List.set_cons_zero, List.set_cons_succ]
                    refine wpAnyH_take (i := 10) (oi := ⟨some 133, _, _, _, _, _⟩) (v := ?_) rfl (by kernel_rfl) (by kernel_rfl) (by kernel_rfl) (fun _ _ _ h => h) (Or.inl ⟨by rfl, ?_⟩) hHeld ?_
                    rotate_left
                    · (intro w hSw; have s0 := hSw; go_simp; try with_reducible rfl)
                    try simp only [Act.put, List.setIfInBounds_toArray, List.set_cons_zero, List.set_cons_succ]
                    refine wpAnyH_take (i := 11) (oi := ⟨some 134, _, _, _, _, _⟩) (v := ?_) rfl (by kernel_rfl) (by kernel_rfl) (by kernel_rfl) (fun _ _ _ h => h) (Or.inl ⟨by rfl, ?_⟩) hHeld ?_
                    rotate_left
                    · (intro w hSw; have s0 := hSw; go_simp; try with_reducible rfl)
                    try simp only [Act.put, List.setIfInBounds_toArray, List.set_cons_zero, List.set_cons_succ]
                    refine wpAnyH_take (i := 12) (oi := ⟨some 135, _, _, _, _, _⟩) (v := ?_) rfl (by kernel_rfl) (by kernel_rfl) (by kernel_rfl) (fun _ _ _ h => h) (Or.inl ⟨by rfl, ?_⟩) hHeld ?_
                    rotate_left
                    · (intro w hSw; have s0 := hSw; go_simp; try with_reducible rfl)
                    try simp only [Act.put, List.setIfInBounds_toArray, List.set_cons_zero, List.set_cons_succ]
                    refine wpAnyH_take (i := 13) (oi := ⟨some 136, _, _, _, _, _⟩) (v := ?_) rfl (by kernel_rfl) (by kernel_rfl) (by kernel_rfl) (fun _ _ _ h => h) (Or.inl ⟨by rfl, ?_⟩) hHeld ?_
                    rotate_left
                    · (intro w hSw; have s0 := hSw; go_simp; try with_reducible rfl)
                    try simp only [Act.put, List.setIfInBounds_toArray, List.set_cons_zero, List.set_cons_succ]
                    refine wpAnyH_ready (rs := [8]) (by kernel_rfl) (by simp) ?_
                    refine (AllReadyH.cons (o := ⟨some 131, _, _, _, _, _⟩) rfl (fun K hK => ?_) AllReadyH.nil)
                    go_simp
                    (refine (HGV.out _ (HB3.out.trans ((Below.refl _ _).drew.mono HB3.out.size))).mono ?_; rintro e w4 ⟨rfl, S4, hA4⟩)
                    have HA4 := Lib.hid hA4
                    clear hA4
                    refine hK.out _ _ ((HA4.out.blk (i := 0) rfl).cell 3) (fun hHeld => ?_)
                    clear hK K
                    try simp only [Act.put, List.setIfInBounds_toArray, List.set_cons_zero, List.set_cons_succ]
                    refine wpAnyH_take (i := 9) (oi := ⟨some 132, _, _, _, _, _⟩) (v := ?_) rfl (by kernel_rfl) (by kernel_rfl) (by kernel_rfl) (fun _ _ _ h => h) (Or.inl ⟨by rfl, ?_⟩) hHeld ?_
                    rotate_left
                    · (intro w hSw; have s0 := hSw; go_simp; try with_reducible rfl)
                    try simp only [Act.put, List.setIfInBounds_toArray, List.set_cons_zero, List.set_cons_succ]
                    refine wpAnyH_take (i := 14) (oi := ⟨some 137, _, _, _, _, _⟩) (v := ?_) rfl (by kernel_rfl) (by kernel_rfl) (by kernel_rfl) (fun _ _ _ h => h) (Or.inl ⟨by rfl, ?_⟩) hHeld ?_
                    rotate_left
                    · (intro w hSw; have s0 := hSw; go_simp; try with_reducible rfl)
                    try simp only [Act.put, List.setIfInBounds_toArray, List.set_cons_zero, List.set_cons_succ]
                    refine wpAnyH_take (i := 15) (oi := ⟨some 138, _, _, _, _, _⟩) (v := ?_) rfl (by kernel_rfl) (by kernel_rfl) (by kernel_rfl) (fun _ _ _ h => h) (Or.inl ⟨by rfl, ?_⟩) hHeld ?_
                    rotate_left
                    · (intro w hSw; have s0 := hSw; go_simp; try with_reducible rfl)
                    try simp only [Act.put, List.setIfInBounds_toArray, List.set_cons_zero, List.set_cons_succ]
                    refine wpAnyH_done (by kernel_rfl) ?_ _
                    refine NoPanic.normal ?_
                    replace HA := HA4
                    clear HA4 HB3 HGV HSH E9iff
                    clear x0 x1 x2 x3
                    have x0 := (HA.out.blk (i := 0) rfl).cell 0
                    have x1 := (HA.out.blk (i := 0) rfl).cell 1
                    have x2 := (HA.out.blk (i := 0) rfl).cell 2
                    have x3 := (HA.out.blk (i := 0) rfl).cell 3
                    have q1 := HN.out.le
                    have q1b : decide (R < T) = false := by simp; omega
                    have q2 := HN.out.sold hi
                    have q3 := HN.out.left hi
                    have HSO := Lib.hid (sold_any (ST_M HA.out hi))
                    have HLE := Lib.hid (fun w9 h9 => left_any (ST_M (HA.out.kept (w' := w9) h9) hi))
                    generalize soldAcc (z2 i).D (z2 i).G.length = so at q2 HSO
                    generalize leftAcc (z2 i).G (z2 i).D (z2 i).G.length = le9 at q3 HLE
                    have q2b : decide (T < so) = false := by simp; omega
                    have q3b : decide (le9 < 0) = false := by simp; omega
                    go_wp2_with fail
                    refine HSO.out.mono ?_
                    rintro e w8 ⟨rfl, hw8⟩
                    have HW8 := Lib.hid hw8
                    clear hw8
                    go_wp2_with fail
                    refine (HLE.out w8 (by rw [HW8.out]; exact Below.refl _ _)).mono ?_
                    rintro e w9 ⟨rfl, hb9⟩
                    have HF := Lib.hid ((show All w w8 _ _ _ by rw [HW8.out]; exact HA.out).kept hb9)
                    clear hb9
                    go_wp2_with fail
                    go_roundw
                    case rel => exact ⟨m + 1, _, z2, R, T, by omega, by go_num, rfl, rfl, HF.out.less (List.Sublist.refl _) (fun x hx => hx) (List.sublist_cons_self _ _), HN.out⟩
                    case measure => simp [intOf]; omega
                  · have he9 : (E9 == 0) = false := by rw [beq_eq_false_iff_ne]; exact fun x => hle (E9iff.out.1 x)
                    have hleb : decide (u ≤ share (z i).G (z i).D i) = false := by simp; omega
                    generalize share (z i).G (z i).D i = sh at HSH hsb hle hleb E9iff
                    obtain ⟨hs1, hs2⟩ := hsb
                    go_wp2_with fail
                    refine HSH.out.mono ?_
                    rintro e w3 ⟨rfl, hb3⟩
                    replace HA := Lib.hid (HA.out.kept hb3)
                    have HB3 := Lib.hid hb3
                    clear hb3 y0
                    clear x0 x1 x2 x3
                    have x0 := (HA.out.blk (i := 0) rfl).cell 0
                    have x1 := (HA.out.blk (i := 0) rfl).cell 1
                    have x2 := (HA.out.blk (i := 0) rfl).cell 2
                    have x3 := (HA.out.blk (i := 0) rfl).cell 3
                    go_upto_region 32 with fail
                    refine wp_region_noPanic ?_
                    refine wp_region_held_drew (S := fun w' => w'.cell? ⟨Na, 3, none⟩ = some (.int .i64 u)) (by kernel_rfl) (x3) (fun hHeld => ?_)
                    refine wpAnyH_take (i := 0) (oi := ⟨some 123, _, _, _, _, _⟩) (v := ?_) rfl (by kernel_rfl) (by kernel_rfl) (by kernel_rfl) (fun _ _ _ h => h) (Or.inl ⟨by rfl, ?_⟩) hHeld ?_
                    rotate_left
                    · (intro w hSw; have s0 := hSw; go_simp; try with_reducible rfl)
                    try simp only [Act.put, List.setIfInBounds_toArray, List.set_cons_zero, List.set_cons_succ]
                    refine wpAnyH_take (i := 1) (oi := ⟨some 124, _, _, _, _, _⟩) (v := ?_) rfl (by kernel_rfl) (by kernel_rfl) (by kernel_rfl) (fun _ _ _ h => h) (Or.inl ⟨by rfl, ?_⟩) hHeld ?_
                    rotate_left
                    · (intro w hSw; have s0 := hSw; go_simp; try with_reducible rfl)
                    try simp only [Act.put, List.setIfInBounds_toArray, List.set_cons_zero, List.set_cons_succ]
                    refine wpAnyH_take (i := 2) (oi := ⟨some 125, _, _, _, _, _⟩) (v := ?_) rfl (by kernel_rfl) (by kernel_rfl) (by kernel_rfl) (fun _ _ _ h => h) (Or.inl ⟨by rfl, ?_⟩) hHeld ?_
                    rotate_left
                    · (intro w hSw; have s0 := hSw; go_simp; try with_reducible rfl)
                    try simp only [Act.put, List.setIfInBounds_toArray, List.set_cons_zero, List.set_cons_succ]
                    refine wpAnyH_take (i := 3) (oi := ⟨some 126, _, _, _, _, _⟩) (v := ?_) rfl (by kernel_rfl) (by kernel_rfl) (by kernel_rfl) (fun _ _ _ h => h) (Or.inl ⟨by rfl, ?_⟩) hHeld ?_
                    rotate_left
                    · (intro w hSw; have s0 := hSw; go_simp; try with_reducible rfl)
                    try simp only [Act.put, List.setIfInBounds_toArray, List.set_cons_zero, List.set_cons_succ]
                    refine wpAnyH_take (i := 4) (oi := ⟨some 127, _, _, _, _, _⟩) (v := ?_) rfl (by kernel_rfl) (by kernel_rfl) (by kernel_rfl) (fun _ _ _ h => h) (Or.inl ⟨by rfl, ?_⟩) hHeld ?_
                    rotate_left
                    · (intro w hSw; have s0 := hSw; go_simp; try with_reducible rfl)
                    try simp only [Act.put, List.setIfInBounds_toArray, List.set_cons_zero, List.set_cons_succ]
                    refine wpAnyH_take (i := 5) (oi := ⟨some 128, _, _, _, _, _⟩) (v := ?_) rfl (by kernel_rfl) (by kernel_rfl) (by kernel_rfl) (fun _ _ _ h => h) (Or.inl ⟨by rfl, ?_⟩) hHeld ?_
                    rotate_left
                    · (intro w hSw; have s0 := hSw; go_simp; try with_reducible rfl)
                    try simp only [Act.put, List.setIfInBounds_toArray, List.set_cons_zero, List.set_cons_succ]
                    refine wpAnyH_take (i := 6) (oi := ⟨some 129, _, _, _, _, _⟩) (v := ?_) rfl (by kernel_rfl) (by kernel_rfl) (by kernel_rfl) (fun _ _ _ h => h) (Or.inl ⟨by rfl, ?_⟩) hHeld ?_
                    rotate_left
                    · (intro w hSw; have s0 := hSw; go_simp; try with_reducible rfl)
                    try simp only [Act.put, List.setIfInBounds_toArray, List.set_cons_zero, List.set_cons_succ]
                    refine wpAnyH_take (i := 7) (oi := ⟨some 130, _, _, _, _, _⟩) (v := ?_) rfl (by kernel_rfl) (by kernel_rfl) (by kernel_rfl) (fun _ _ _ h => h) (Or.inl ⟨by rfl, ?_⟩) hHeld ?_
                    rotate_left
                    · (intro w hSw; have s0 := hSw; go_simp; try with_reducible rfl)
                    try simp only [Act.put, List.setIfInBounds_toArray, List.set_cons_zero, List.set_cons_succ]
                    refine wpAnyH_take (i := 10) (oi := ⟨some 133, _, _, _, _, _⟩) (v := ?_) rfl (by kernel_rfl) (by kernel_rfl) (by kernel_rfl) (fun _ _ _ h => h) (Or.inl ⟨by rfl, ?_⟩) hHeld ?_
                    rotate_left
                    · (intro w hSw; have s0 := hSw; go_simp; try with_reducible rfl)
                    try simp only [Act.put, List.setIfInBounds_toArray, List.set_cons_zero, List.set_cons_succ]
                    refine wpAnyH_take (i := 11) (oi := ⟨some 134, _, _, _, _, _⟩) (v := ?_) rfl (by kernel_rfl) (by kernel_rfl) (by kernel_rfl) (fun _ _ _ h => h) (Or.inl ⟨by rfl, ?_⟩) hHeld ?_
                    rotate_left
                    · (intro w hSw; have s0 := hSw; go_simp; try with_reducible rfl)
                    try simp only [Act.put, List.setIfInBounds_toArray, List.set_cons_zero, List.set_cons_succ]
                    refine wpAnyH_take (i := 12) (oi := ⟨some 135, _, _, _, _, _⟩) (v := ?_) rfl (by kernel_rfl) (by kernel_rfl) (by kernel_rfl) (fun _ _ _ h => h) (Or.inl ⟨by rfl, ?_⟩) hHeld ?_
                    rotate_left
                    · (intro w hSw; have s0 := hSw; go_simp; try with_reducible rfl)
                    try simp only [Act.put, List.setIfInBounds_toArray, List.set_cons_zero, List.set_cons_succ]
                    refine wpAnyH_take (i := 13) (oi := ⟨some 136, _, _, _, _, _⟩) (v := ?_) rfl (by kernel_rfl) (by kernel_rfl) (by kernel_rfl) (fun _ _ _ h => h) (Or.inl ⟨by rfl, ?_⟩) hHeld ?_
                    rotate_left
                    · (intro w hSw; have s0 := hSw; go_simp; try with_reducible rfl)
                    try simp only [Act.put, List.setIfInBounds_toArray, List.set_cons_zero, List.set_cons_succ]
                    refine wpAnyH_ready (rs := [8]) (by kernel_rfl) (by simp) ?_
                    refine (AllReadyH.cons (o := ⟨some 131, _, _, _, _, _⟩) rfl (fun K hK => ?_) AllReadyH.nil)
                    go_simp
                    (refine (HGV.out _ (HB3.out.trans ((Below.refl _ _).drew.mono HB3.out.size))).mono ?_; rintro e w4 ⟨rfl, S4, hA4⟩)
                    have HA4 := Lib.hid hA4
                    clear hA4
                    refine hK.out _ _ ((HA4.out.blk (i := 0) rfl).cell 3) (fun hHeld => ?_)
                    clear hK K
                    try simp only [Act.put, List.setIfInBounds_toArray, List.set_cons_zero, List.set_cons_succ]
                    refine wpAnyH_take (i := 9) (oi := ⟨some 132, _, _, _, _, _⟩) (v := ?_) rfl (by kernel_rfl) (by kernel_rfl) (by kernel_rfl) (fun _ _ _ h => h) (Or.inl ⟨by rfl, ?_⟩) hHeld ?_
                    rotate_left
                    · (intro w hSw; have s0 := hSw; go_simp; try with_reducible rfl)
                    try simp only [Act.put, List.setIfInBounds_toArray, List.set_cons_zero, List.set_cons_succ]
                    refine wpAnyH_take (i := 14) (oi := ⟨some 137, _, _, _, _, _⟩) (v := ?_) rfl (by kernel_rfl) (by kernel_rfl) (by kernel_rfl) (fun _ _ _ h => h) (Or.inl ⟨by rfl, ?_⟩) hHeld ?_
                    rotate_left
                    · (intro w hSw; have s0 := hSw; go_simp; try with_reducible rfl)
                    try simp only [Act.put, List.setIfInBounds_toArray, List.set_cons_zero, List.set_cons_succ]
                    refine wpAnyH_take (i := 15) (oi := ⟨some 138, _, _, _, _, _⟩) (v := ?_) rfl (by kernel_rfl) (by kernel_rfl) (by kernel_rfl) (fun _ _ _ h => h) (Or.inl ⟨by rfl, ?_⟩) hHeld ?_
                    rotate_left
                    · (intro w hSw; have s0 := hSw; go_simp; try with_reducible rfl)
                    try simp only [Act.put, List.setIfInBounds_toArray, List.set_cons_zero, List.set_cons_succ]
                    refine wpAnyH_done (by kernel_rfl) ?_ _
                    refine NoPanic.normal ?_
                    replace HA := HA4
                    clear HA4 HB3 HGV HSH E9iff
                    clear x0 x1 x2 x3
                    have x0 := (HA.out.blk (i := 0) rfl).cell 0
                    have x1 := (HA.out.blk (i := 0) rfl).cell 1
                    have x2 := (HA.out.blk (i := 0) rfl).cell 2
                    have x3 := (HA.out.blk (i := 0) rfl).cell 3
                    have q1 := HN.out.le
                    have q1b : decide (R < T) = false := by simp; omega
                    have q2 := HN.out.sold hi
                    have q3 := HN.out.left hi
                    have HSO := Lib.hid (sold_any (ST_M HA.out hi))
                    have HLE := Lib.hid (fun w9 h9 => left_any (ST_M (HA.out.kept (w' := w9) h9) hi))
                    generalize soldAcc (z2 i).D (z2 i).G.length = so at q2 HSO
                    generalize leftAcc (z2 i).G (z2 i).D (z2 i).G.length = le9 at q3 HLE
                    have q2b : decide (T < so) = false := by simp; omega
                    have q3b : decide (le9 < 0) = false := by simp; omega
                    go_wp2_with fail
                    refine HSO.out.mono ?_
                    rintro e w8 ⟨rfl, hw8⟩
                    have HW8 := Lib.hid hw8
                    clear hw8
                    go_wp2_with fail
                    refine (HLE.out w8 (by rw [HW8.out]; exact Below.refl _ _)).mono ?_
                    rintro e w9 ⟨rfl, hb9⟩
                    have HF := Lib.hid ((show All w w8 _ _ _ by rw [HW8.out]; exact HA.out).kept hb9)
                    clear hb9
                    go_wp2_with fail
                    go_roundw
                    case rel => exact ⟨m + 1, _, z2, R, T, by omega, by go_num, rfl, rfl, HF.out.less (List.Sublist.refl _) (fun x hx => hx) (List.sublist_cons_self _ _), HN.out⟩
                    case measure => simp [intOf]; omega
              have hb1 : (a == 1) = false := by rw [beq_eq_false_iff_ne]; exact ha1
              by_cases ha2 : a = 2
              · subst ha2
                have okp : okP (z i).G.length (i : Int) = true := (okP_iff _ _).2 ⟨by omega, by rw [(HS.out.sh i hi).2]; exact hii⟩
                have HSH := Lib.hid (Share_any (i : Int) (ST_M HA.out hi))
                rw [show shareN (z i).G (z i).D i = share (z i).G (z i).D i by rw [shareN, if_pos okp, Int.toNat_natCast], show shareE (z i).G i = 0 by rw [shareE, if_pos okp]] at HSH
                have hsb := share_bd (HS.out.sh i hi).1.num (HS.out.sh i hi).1.2.1 i
                clear okp
                obtain ⟨hE, hN⟩ := HS.out.sell' m80 hi hu0 hu1
                have HGV := Lib.hid (fun w9 (h9 : Below W2.heap.size W2 w9) => sellM (HA.out.kept h9) hi u)
                obtain ⟨z2, hz2⟩ : ∃ z2, upd z i ⟨(z i).G, sellD (z i).G (z i).D i u⟩ = z2 := ⟨_, rfl⟩
                obtain ⟨E9, hE9⟩ : ∃ x, sellE (z i).G (z i).D i u = x := ⟨_, rfl⟩
                rw [hz2] at HGV hN
                rw [hE9] at HGV hE
                have HN0 := Lib.hid hN
                have E9iff := Lib.hid hE
                clear hE hN hz2 hE9
                by_cases hle : u ≤ share (z i).G (z i).D i
                · have he9 : E9 = 0 := E9iff.out.2 hle
                  subst he9
                  have hleb : decide (u ≤ share (z i).G (z i).D i) = true := by simp; omega
                  have HNN := Lib.hid (show Sys k z2 R (T + u) (m + 1) by have h := HN0.out; rw [if_pos hle] at h; exact h)
                  clear HN0
                  have HN := HNN
                  clear HNN
                  generalize share (z i).G (z i).D i = sh at HSH hsb hle hleb E9iff
                  obtain ⟨hs1, hs2⟩ := hsb
                  go_wp2_with fail
                  refine HSH.out.mono ?_
                  rintro e w3 ⟨rfl, hb3⟩
                  replace HA := Lib.hid (HA.out.kept hb3)
                  have HB3 := Lib.hid hb3
                  clear hb3 y0
                  clear x0 x1 x2 x3
                  have x0 := (HA.out.blk (i := 0) rfl).cell 0
                  have x1 := (HA.out.blk (i := 0) rfl).cell 1
                  have x2 := (HA.out.blk (i := 0) rfl).cell 2
                  have x3 := (HA.out.blk (i := 0) rfl).cell 3
                  go_upto_region 36 with fail
                  refine wp_region_noPanic ?_
                  refine wp_region_held_drew (S := fun w' => w'.cell? ⟨Na, 3, none⟩ = some (.int .i64 u)) (by kernel_rfl) (x3) (fun hHeld => ?_)
                  refine wpAnyH_take (i := 0) (oi := ⟨some 147, _, _, _, _, _⟩) (v := ?_) rfl (by kernel_rfl) (by kernel_rfl) (by kernel_rfl) (fun _ _ _ h => h) (Or.inl ⟨by rfl, ?_⟩) hHeld ?_
                  rotate_left
                  · (intro w hSw; have s0 := hSw; go_simp; try with_reducible rfl)
                  try simp only [Act.put, List.setIfInBounds_toArray, List.set_cons_zero, List.set_cons_succ]
                  refine wpAnyH_take (i := 1) (oi := ⟨some 148, _, _, _, _, _⟩) (v := ?_) rfl (by kernel_rfl) (by kernel_rfl) (by kernel_rfl) (fun _ _ _ h => h) (Or.inl ⟨by rfl, ?_⟩) hHeld ?_
                  rotate_left
                  · (intro w hSw; have s0 := hSw; go_simp; try with_reducible rfl)
                  try simp only [Act.put, List.setIfInBounds_toArray, List.set_cons_zero, List.set_cons_succ]
                  refine wpAnyH_take (i := 2) (oi := ⟨some 149, _, _, _, _, _⟩) (v := ?_) rfl (by kernel_rfl) (by kernel_rfl) (by kernel_rfl) (fun _ _ _ h => h) (Or.inl ⟨by rfl, ?_⟩) hHeld ?_
                  rotate_left
                  · (intro w hSw; have s0 := hSw; go_simp; try with_reducible rfl)
                  try simp only [Act.put, List.setIfInBounds_toArray, List.set_cons_zero, List.set_cons_succ]
                  refine wpAnyH_take (i := 3) (oi := ⟨some 150, _, _, _, _, _⟩) (v := ?_) rfl (by kernel_rfl) (by kernel_rfl) (by kernel_rfl) (fun _ _ _ h => h) (Or.inl ⟨by rfl, ?_⟩) hHeld ?_
                  rotate_left
                  · (intro w hSw; have s0 := hSw; go_simp; try with_reducible rfl)
                  try simp only [Act.put, List.setIfInBounds_toArray, List.set_cons_zero, List.set_cons_succ]
                  refine wpAnyH_take (i := 4) (oi := ⟨some 151, _, _, _, _, _⟩) (v := ?_) rfl (by kernel_rfl) (by kernel_rfl) (by kernel_rfl) (fun _ _ _ h => h) (Or.inl ⟨by rfl, ?_⟩) hHeld ?_
                  rotate_left
                  · (intro w hSw; have s0 := hSw; go_simp; try with_reducible rfl)
                  try simp only [Act.put, List.setIfInBounds_toArray, List.set_cons_zero, List.set_cons_succ]
                  refine wpAnyH_take (i := 5) (oi := ⟨some 152, _, _, _, _, _⟩) (v := ?_) rfl (by kernel_rfl) (by kernel_rfl) (by kernel_rfl) (fun _ _ _ h => h) (Or.inl ⟨by rfl, ?_⟩) hHeld ?_
                  rotate_left
                  · (intro w hSw; have s0 := hSw; go_simp; try with_reducible rfl)
                  try simp only [Act.put, List.setIfInBounds_toArray, List.set_cons_zero, List.set_cons_succ]
                  refine wpAnyH_take (i := 6) (oi := ⟨some 153, _, _, _, _, _⟩) (v := ?_) rfl (by kernel_rfl) (by kernel_rfl) (by kernel_rfl) (fun _ _ _ h => h) (Or.inl ⟨by rfl, ?_⟩) hHeld ?_
                  rotate_left
                  · (intro w hSw; have s0 := hSw; go_simp; try with_reducible rfl)
                  try simp only [Act.put, List.setIfInBounds_toArray, List.set_cons_zero, List.set_cons_succ]
                  refine wpAnyH_take (i := 9) (oi := ⟨some 156, _, _, _, _, _⟩) (v := ?_) rfl (by kernel_rfl) (by kernel_rfl) (by kernel_rfl) (fun _ _ _ h => h) (Or.inl ⟨by rfl, ?_⟩) hHeld ?_
                  rotate_left
                  · (intro w hSw; have s0 := hSw; go_simp; try with_reducible rfl)
                  try simp only [Act.put, List.setIfInBounds_toArray, List.set_cons_zero, List.set_cons_succ]
                  refine wpAnyH_take (i := 10) (oi := ⟨some 157, _, _, _, _, _⟩) (v := ?_) rfl (by kernel_rfl) (by kernel_rfl) (by kernel_rfl) (fun _ _ _ h => h) (Or.inl ⟨by rfl, ?_⟩) hHeld ?_
                  rotate_left
                  · (intro w hSw; have s0 := hSw; go_simp; try with_reducible rfl)
                  try simp only [Act.put, List.setIfInBounds_toArray, List.set_cons_zero, List.set_cons_succ]
                  refine wpAnyH_take (i := 11) (oi := ⟨some 158, _, _, _, _, _⟩) (v := ?_) rfl (by kernel_rfl) (by kernel_rfl) (by kernel_rfl) (fun _ _ _ h => h) (Or.inl ⟨by rfl, ?_⟩) hHeld ?_
                  rotate_left
                  · (intro w hSw; have s0 := hSw; go_simp; try with_reducible rfl)
                  try simp only [Act.put, List.setIfInBounds_toArray, List.set_cons_zero, List.set_cons_succ]
                  refine wpAnyH_take (i := 12) (oi := ⟨some 159, _, _, _, _, _⟩) (v := ?_) rfl (by kernel_rfl) (by kernel_rfl) (by kernel_rfl) (fun _ _ _ h => h) (Or.inl ⟨by rfl, ?_⟩) hHeld ?_
                  rotate_left
                  · (intro w hSw; have s0 := hSw; go_simp; try with_reducible rfl)
                  try simp only [Act.put, List.setIfInBounds_toArray, List.set_cons_zero, List.set_cons_succ]
                  refine wpAnyH_ready (rs := [7]) (by kernel_rfl) (by simp) ?_
                  refine (AllReadyH.cons (o := ⟨some 154, _, _, _, _, _⟩) rfl (fun K hK => ?_) AllReadyH.nil)
                  go_simp
                  (refine (HGV.out _ (HB3.out.trans ((Below.refl _ _).drew.mono HB3.out.size))).mono ?_; rintro e w4 ⟨rfl, S4, hA4⟩)
                  have HA4 := Lib.hid hA4
                  clear hA4
                  refine hK.out _ _ ((HA4.out.blk (i := 0) rfl).cell 3) (fun hHeld => ?_)
                  clear hK K
                  try simp only [Act.put, List.setIfInBounds_toArray, List.set_cons_zero, List.set_cons_succ]
                  refine wpAnyH_take (i := 8) (oi := ⟨some 155, _, _, _, _, _⟩) (v := ?_) rfl (by kernel_rfl) (by kernel_rfl) (by kernel_rfl) (fun _ _ _ h => h) (Or.inl ⟨by rfl, ?_⟩) hHeld ?_
                  rotate_left
                  · (intro w hSw; have s0 := hSw; go_simp; try with_reducible rfl)
                  try simp only [Act.put, List.setIfInBounds_toArray, List.set_cons_zero, List.set_cons_succ]
                  refine wpAnyH_take (i := 13) (oi := ⟨some 160, _, _, _, _, _⟩) (v := ?_) rfl (by kernel_rfl) (by kernel_rfl) (by kernel_rfl) (fun _ _ _ h => h) (Or.inl ⟨by rfl, ?_⟩) hHeld ?_
                  rotate_left
                  · (intro w hSw; have s0 := hSw; go_simp; try with_reducible rfl)
                  try simp only [Act.put, List.setIfInBounds_toArray, List.set_cons_zero, List.set_cons_succ]
                  refine wpAnyH_take (i := 14) (oi := ⟨some 161, _, _, _, _, _⟩) (v := ?_) rfl (by kernel_rfl) (by kernel_rfl) (by kernel_rfl) (fun _ _ _ h => h) (Or.inl ⟨by rfl, ?_⟩) hHeld ?_
                  rotate_left
                  · (intro w hSw; have s0 := hSw; go_simp; try with_reducible rfl)
                  try simp only [Act.put, List.setIfInBounds_toArray, List.set_cons_zero, List.set_cons_succ]
                  refine wpAnyH_done (by kernel_rfl) ?_ _
                  refine NoPanic.normal ?_
                  replace HA := HA4
                  clear HA4 HB3 HGV HSH E9iff
                  clear x0 x1 x2 x3
                  have x0 := (HA.out.blk (i := 0) rfl).cell 0
                  have x1 := (HA.out.blk (i := 0) rfl).cell 1
                  have x2 := (HA.out.blk (i := 0) rfl).cell 2
                  have x3 := (HA.out.blk (i := 0) rfl).cell 3
                  have q1 := HN.out.le
                  have q1b : decide (R < (T + u)) = false := by simp; omega
                  have q2 := HN.out.sold hi
                  have q3 := HN.out.left hi
                  have HSO := Lib.hid (sold_any (ST_M HA.out hi))
                  have HLE := Lib.hid (fun w9 h9 => left_any (ST_M (HA.out.kept (w' := w9) h9) hi))
                  generalize soldAcc (z2 i).D (z2 i).G.length = so at q2 HSO
                  generalize leftAcc (z2 i).G (z2 i).D (z2 i).G.length = le9 at q3 HLE
                  have q2b : decide ((T + u) < so) = false := by simp; omega
                  have q3b : decide (le9 < 0) = false := by simp; omega
                  go_wp2_with fail
                  refine HSO.out.mono ?_
                  rintro e w8 ⟨rfl, hw8⟩
                  have HW8 := Lib.hid hw8
                  clear hw8
                  go_wp2_with fail
                  refine (HLE.out w8 (by rw [HW8.out]; exact Below.refl _ _)).mono ?_
                  rintro e w9 ⟨rfl, hb9⟩
                  have HF := Lib.hid ((show All w w8 _ _ _ by rw [HW8.out]; exact HA.out).kept hb9)
                  clear hb9
                  go_wp2_with fail
                  go_roundw
                  case rel => exact ⟨m + 1, _, z2, R, (T + u), by omega, by go_num, rfl, rfl, HF.out.less (List.Sublist.refl _) (fun x hx => hx) (List.sublist_cons_self _ _), HN.out⟩
                  case measure => simp [intOf]; omega
                · have he9 : (E9 == 0) = false := by rw [beq_eq_false_iff_ne]; exact fun x => hle (E9iff.out.1 x)
                  have hleb : decide (u ≤ share (z i).G (z i).D i) = false := by simp; omega
                  have HNN := Lib.hid (show Sys k z2 R T (m + 1) by have h := HN0.out; rw [if_neg hle] at h; exact h)
                  clear HN0
                  have HN := HNN
                  clear HNN
                  generalize share (z i).G (z i).D i = sh at HSH hsb hle hleb E9iff
                  obtain ⟨hs1, hs2⟩ := hsb
                  go_wp2_with fail
                  refine HSH.out.mono ?_
                  rintro e w3 ⟨rfl, hb3⟩
                  replace HA := Lib.hid (HA.out.kept hb3)
                  have HB3 := Lib.hid hb3
                  clear hb3 y0
                  clear x0 x1 x2 x3
                  have x0 := (HA.out.blk (i := 0) rfl).cell 0
                  have x1 := (HA.out.blk (i := 0) rfl).cell 1
                  have x2 := (HA.out.blk (i := 0) rfl).cell 2
                  have x3 := (HA.out.blk (i := 0) rfl).cell 3
                  go_upto_region 36 with fail
                  refine wp_region_noPanic ?_
                  refine wp_region_held_drew (S := fun w' => w'.cell? ⟨Na, 3, none⟩ = some (.int .i64 u)) (by kernel_rfl) (x3) (fun hHeld => ?_)
                  refine wpAnyH_take (i := 0) (oi := ⟨some 147, _, _, _, _, _⟩) (v := ?_) rfl (by kernel_rfl) (by kernel_rfl) (by kernel_rfl) (fun _ _ _ h => h) (Or.inl ⟨by rfl, ?_⟩) hHeld ?_
                  rotate_left
                  · (intro w hSw; have s0 := hSw; go_simp; try with_reducible rfl)
                  try simp only [Act.put, List.setIfInBounds_toArray, List.set_cons_zero, List.set_cons_succ]
                  refine wpAnyH_take (i := 1) (oi := ⟨some 148, _, _, _, _, _⟩) (v := ?_) rfl (by kernel_rfl) (by kernel_rfl) (by kernel_rfl) (fun _ _ _ h => h) (Or.inl ⟨by rfl, ?_⟩) hHeld ?_
                  rotate_left
                  · (intro w hSw; have s0 := hSw; go_simp; try with_reducible rfl)
                  try simp only [Act.put, List.setIfInBounds_toArray, List.set_cons_zero, List.set_cons_succ]
                  refine wpAnyH_take (i := 2) (oi := ⟨some 149, _, _, _, _, _⟩) (v := ?_) rfl (by kernel_rfl) (by kernel_rfl) (by kernel_rfl) (fun _ _ _ h => h) (Or.inl ⟨by rfl, ?_⟩) hHeld ?_
                  rotate_left
                  · (intro w hSw; have s0 := hSw; go_simp; try with_reducible rfl)
                  try simp only [Act.put, List.setIfInBounds_toArray, List.set_cons_zero, List.set_cons_succ]
                  refine wpAnyH_take (i := 3) (oi := ⟨some 150, _, _, _, _, _⟩) (v := ?_) rfl (by kernel_rfl) (by kernel_rfl) (by kernel_rfl) (fun _ _ _ h => h) (Or.inl ⟨by rfl, ?_⟩) hHeld ?_
                  rotate_left
                  · (intro w hSw; have s0 := hSw; go_simp; try with_reducible rfl)
                  try simp only [Act.put, List.setIfInBounds_toArray, List.set_cons_zero, List.set_cons_succ]
                  refine wpAnyH_take (i := 4) (oi := ⟨some 151, _, _, _, _, _⟩) (v := ?_) rfl (by kernel_rfl) (by kernel_rfl) (by kernel_rfl) (fun _ _ _ h => h) (Or.inl ⟨by rfl, ?_⟩) hHeld ?_
                  rotate_left
                  · (intro w hSw; have s0 := hSw; go_simp; try with_reducible rfl)
                  try simp only [Act.put, List.setIfInBounds_toArray, List.set_cons_zero, List.set_cons_succ]
                  refine wpAnyH_take (i := 5) (oi := ⟨some 152, _, _, _, _, _⟩) (v := ?_) rfl (by kernel_rfl) (by kernel_rfl) (by kernel_rfl) (fun _ _ _ h => h) (Or.inl ⟨by rfl, ?_⟩) hHeld ?_
                  rotate_left
                  · (intro w hSw; have s0 := hSw; go_simp; try with_reducible rfl)
                  try simp only [Act.put, List.setIfInBounds_toArray, List.set_cons_zero, List.set_cons_succ]
                  refine wpAnyH_take (i := 6) (oi := ⟨some 153, _, _, _, _, _⟩) (v := ?_) rfl (by kernel_rfl) (by kernel_rfl) (by kernel_rfl) (fun _ _ _ h => h) (Or.inl ⟨by rfl, ?_⟩) hHeld ?_
                  rotate_left
                  · (intro w hSw; have s0 := hSw; go_simp; try with_reducible rfl)
                  try simp only [Act.put, List.setIfInBounds_toArray, List.set_cons_zero, List.set_cons_succ]
                  refine wpAnyH_take (i := 9) (oi := ⟨some 156, _, _, _, _, _⟩) (v := ?_) rfl (by kernel_rfl) (by kernel_rfl) (by kernel_rfl) (fun _ _ _ h => h) (Or.inl ⟨by rfl, ?_⟩) hHeld ?_
                  rotate_left
                  · (intro w hSw; have s0 := hSw; go_simp; try with_reducible rfl)
                  try simp only [Act.put, List.setIfInBounds_toArray, List.set_cons_zero, List.set_cons_succ]
                  refine wpAnyH_take (i := 10) (oi := ⟨some 157, _, _, _, _, _⟩) (v := ?_) rfl (by kernel_rfl) (by kernel_rfl) (by kernel_rfl) (fun _ _ _ h => h) (Or.inl ⟨by rfl, ?_⟩) hHeld ?_
                  rotate_left
                  · (intro w hSw; have s0 := hSw; go_simp; try with_reducible rfl)
                  try simp only [Act.put, List.setIfInBounds_toArray, List.set_cons_zero, List.set_cons_succ]
                  refine wpAnyH_take (i := 11) (oi := ⟨some 158, _, _, _, _, _⟩) (v := ?_) rfl (by kernel_rfl) (by kernel_rfl) (by kernel_rfl) (fun _ _ _ h => h) (Or.inl ⟨by rfl, ?_⟩) hHeld ?_
                  rotate_left
                  · (intro w hSw; have s0 := hSw; go_simp; try with_reducible rfl)
                  try simp only [Act.put, List.setIfInBounds_toArray, List.set_cons_zero, List.set_cons_succ]
                  refine wpAnyH_take (i := 12) (oi := ⟨some 159, _, _, _, _, _⟩) (v := ?_) rfl (by kernel_rfl) (by kernel_rfl) (by kernel_rfl) (fun _ _ _ h => h) (Or.inl ⟨by rfl, ?_⟩) hHeld ?_
                  rotate_left
                  · (intro w hSw; have s0 := hSw; go_simp; try with_reducible rfl)
                  try simp only [Act.put, List.setIfInBounds_toArray, List.set_cons_zero, List.set_cons_succ]
                  refine wpAnyH_ready (rs := [7]) (by kernel_rfl) (by simp) ?_
                  refine (AllReadyH.cons (o := ⟨some 154, _, _, _, _, _⟩) rfl (fun K hK => ?_) AllReadyH.nil)
                  go_simp
                  (refine (HGV.out _ (HB3.out.trans ((Below.refl _ _).drew.mono HB3.out.size))).mono ?_; rintro e w4 ⟨rfl, S4, hA4⟩)
                  have HA4 := Lib.hid hA4
                  clear hA4
                  refine hK.out _ _ ((HA4.out.blk (i := 0) rfl).cell 3) (fun hHeld => ?_)
                  clear hK K
                  try simp only [Act.put, List.setIfInBounds_toArray, List.set_cons_zero, List.set_cons_succ]
                  refine wpAnyH_take (i := 8) (oi := ⟨some 155, _, _, _, _, _⟩) (v := ?_) rfl (by kernel_rfl) (by kernel_rfl) (by kernel_rfl) (fun _ _ _ h => h) (Or.inl ⟨by rfl, ?_⟩) hHeld ?_
                  rotate_left
                  · (intro w hSw; have s0 := hSw; go_simp; try with_reducible rfl)
                  try simp only [Act.put, List.setIfInBounds_toArray, List.set_cons_zero, List.set_cons_succ]
                  refine wpAnyH_take (i := 13) (oi := ⟨some 160, _, _, _, _, _⟩) (v := ?_) rfl (by kernel_rfl) (by kernel_rfl) (by kernel_rfl) (fun _ _ _ h => h) (Or.inl ⟨by rfl, ?_⟩) hHeld ?_
                  rotate_left
                  · (intro w hSw; have s0 := hSw; go_simp; try with_reducible rfl)
                  try simp only [Act.put, List.setIfInBounds_toArray, List.set_cons_zero, List.set_cons_succ]
                  refine wpAnyH_take (i := 14) (oi := ⟨some 161, _, _, _, _, _⟩) (v := ?_) rfl (by kernel_rfl) (by kernel_rfl) (by kernel_rfl) (fun _ _ _ h => h) (Or.inl ⟨by rfl, ?_⟩) hHeld ?_
                  rotate_left
                  · (intro w hSw; have s0 := hSw; go_simp; try with_reducible rfl)
                  try simp only [Act.put, List.setIfInBounds_toArray, List.set_cons_zero, List.set_cons_succ]
                  refine wpAnyH_done (by kernel_rfl) ?_ _
                  refine NoPanic.normal ?_
                  replace HA := HA4
                  clear HA4 HB3 HGV HSH E9iff
                  clear x0 x1 x2 x3
                  have x0 := (HA.out.blk (i := 0) rfl).cell 0
                  have x1 := (HA.out.blk (i := 0) rfl).cell 1
                  have x2 := (HA.out.blk (i := 0) rfl).cell 2
                  have x3 := (HA.out.blk (i := 0) rfl).cell 3
                  have q1 := HN.out.le
                  have q1b : decide (R < T) = false := by simp; omega
                  have q2 := HN.out.sold hi
                  have q3 := HN.out.left hi
                  have HSO := Lib.hid (sold_any (ST_M HA.out hi))
                  have HLE := Lib.hid (fun w9 h9 => left_any (ST_M (HA.out.kept (w' := w9) h9) hi))
                  generalize soldAcc (z2 i).D (z2 i).G.length = so at q2 HSO
                  generalize leftAcc (z2 i).G (z2 i).D (z2 i).G.length = le9 at q3 HLE
                  have q2b : decide (T < so) = false := by simp; omega
                  have q3b : decide (le9 < 0) = false := by simp; omega
                  go_wp2_with fail
                  refine HSO.out.mono ?_
                  rintro e w8 ⟨rfl, hw8⟩
                  have HW8 := Lib.hid hw8
                  clear hw8
                  go_wp2_with fail
                  refine (HLE.out w8 (by rw [HW8.out]; exact Below.refl _ _)).mono ?_
                  rintro e w9 ⟨rfl, hb9⟩
                  have HF := Lib.hid ((show All w w8 _ _ _ by rw [HW8.out]; exact HA.out).kept hb9)
                  clear hb9
                  go_wp2_with fail
                  go_roundw
                  case rel => exact ⟨m + 1, _, z2, R, T, by omega, by go_num, rfl, rfl, HF.out.less (List.Sublist.refl _) (fun x hx => hx) (List.sublist_cons_self _ _), HN.out⟩
                  case measure => simp [intOf]; omega
              have hb2 : (a == 2) = false := by rw [beq_eq_false_iff_ne]; exact ha2
              by_cases ha3 : a = 3
              · subst ha3
                obtain ⟨hE, hN⟩ := HS.out.join hi hj
                have y1 : W2.cell? ⟨g, j, none⟩ = some (.pointer (some ⟨X j, 0, none⟩)) := ((HA.out.blk (i := 1) rfl).cell j).trans (HCS.out j hj)
                have HRM := Lib.hid (joinM HA.out hi hj hE)
                obtain ⟨z2, hz2⟩ : ∃ z2, upd z i (joinS (z i) (z j)) = z2 := ⟨_, rfl⟩
                rw [hz2] at HRM hN
                have HN := Lib.hid hN.mono
                clear hE hN hz2
                go_wp2_with fail
                refine HRM.out.mono ?_
                rintro e w3 ⟨rfl, S3, hA3⟩
                replace HA := Lib.hid hA3
                clear hA3 y0 y1
                clear x0 x1 x2 x3
                have x0 := (HA.out.blk (i := 0) rfl).cell 0
                have x1 := (HA.out.blk (i := 0) rfl).cell 1
                have x2 := (HA.out.blk (i := 0) rfl).cell 2
                have x3 := (HA.out.blk (i := 0) rfl).cell 3
                have q1 := HN.out.le
                have q1b : decide (R < T) = false := by simp; omega
                have q2 := HN.out.sold hi
                have q3 := HN.out.left hi
                have HSO := Lib.hid (sold_any (ST_M HA.out hi))
                have HLE := Lib.hid (fun w9 h9 => left_any (ST_M (HA.out.kept (w' := w9) h9) hi))
                generalize soldAcc (z2 i).D (z2 i).G.length = so at q2 HSO
                generalize leftAcc (z2 i).G (z2 i).D (z2 i).G.length = le9 at q3 HLE
                have q2b : decide (T < so) = false := by simp; omega
                have q3b : decide (le9 < 0) = false := by simp; omega
                go_wp2_with fail
                refine HSO.out.mono ?_
                rintro e w8 ⟨rfl, hw8⟩
                have HW8 := Lib.hid hw8
                clear hw8
                go_wp2_with fail
                refine (HLE.out w8 (by rw [HW8.out]; exact Below.refl _ _)).mono ?_
                rintro e w9 ⟨rfl, hb9⟩
                have HF := Lib.hid ((show All w w8 _ _ _ by rw [HW8.out]; exact HA.out).kept hb9)
                clear hb9
                go_wp2_with fail
                go_roundw
                case rel => exact ⟨m + 1, _, z2, R, T, by omega, by go_num, rfl, rfl, HF.out.less (List.Sublist.refl _) (fun x hx => hx) (List.sublist_cons_self _ _), HN.out⟩
                case measure => simp [intOf]; omega
              have hb3 : (a == 3) = false := by rw [beq_eq_false_iff_ne]; exact ha3
              clear ha0 ha1 ha2 ha3
              obtain ⟨z2, hz2⟩ : ∃ z2, z2 = z := ⟨_, rfl⟩
              rw [← hz2] at HA
              have HN := Lib.hid (show Sys k z2 R T (m + 1) by rw [hz2]; exact HS.out.mono)
              clear hz2
              have q1 := HN.out.le
              have q1b : decide (R < T) = false := by simp; omega
              have q2 := HN.out.sold hi
              have q3 := HN.out.left hi
              have HSO := Lib.hid (sold_any (ST_M HA.out hi))
              have HLE := Lib.hid (fun w9 h9 => left_any (ST_M (HA.out.kept (w' := w9) h9) hi))
              generalize soldAcc (z2 i).D (z2 i).G.length = so at q2 HSO
              generalize leftAcc (z2 i).G (z2 i).D (z2 i).G.length = le9 at q3 HLE
              have q2b : decide (T < so) = false := by simp; omega
              have q3b : decide (le9 < 0) = false := by simp; omega
              go_wp2_with fail
              refine HSO.out.mono ?_
              rintro e w8 ⟨rfl, hw8⟩
              have HW8 := Lib.hid hw8
              clear hw8
              go_wp2_with fail
              refine (HLE.out w8 (by rw [HW8.out]; exact Below.refl _ _)).mono ?_
              rintro e w9 ⟨rfl, hb9⟩
              have HF := Lib.hid ((show All w w8 _ _ _ by rw [HW8.out]; exact HA.out).kept hb9)
              clear hb9
              go_wp2_with fail
              go_roundw
              case rel => exact ⟨m + 1, _, z2, R, T, by omega, by go_num, rfl, rfl, HF.out.less (List.Sublist.refl _) (fun x hx => hx) (List.sublist_cons_self _ _), HN.out⟩
              case measure => simp [intOf]; omega
            · have hu1b : 1073741824 < u := by omega
              clear hu1
              go_wp2_with fail
              refine (known_any _).mono ?_
              rintro e w9 ⟨rfl, hb9⟩
              have HP := Lib.hid (HA.out.kept hb9).b
              clear hb9
              go_wp2_with fail
              go_ret
              exact ⟨rfl, HP.out⟩
          · have hu0b : u < 0 := by omega
            clear hu0
            go_wp2_with fail
            refine (known_any _).mono ?_
            rintro e w9 ⟨rfl, hb9⟩
            have HP := Lib.hid (HA.out.kept hb9).b
            clear hb9
            go_wp2_with fail
            go_ret
            exact ⟨rfl, HP.out⟩
        · have HCS := Lib.hid (show ∀ q, q < k → cs[q]? = some (.pointer (some ⟨X q, 0, none⟩)) from fun q hq => by
            obtain ⟨tt, ht⟩ := HPRE.out
            rw [← ht, List.getElem?_append_left (by rw [ptrs_len]; exact hq), ptrs_at hq])
          have r0 := hS.nonneg
          have r1 := hS.le
          have r2 : R ≤ 85899345920 := by have := hS.uR; omega
          clear hA hS
          go_wp2_with fail
          go_loopw [21] (fun i wr => ∃ (t : Nat) (S : Nat → Nat → Prop) (z : Nat → S2), t ≤ 2 ∧ i = .int .i64 t ∧ All w wr (obs k X S z) [] [⟨g, 28, cs⟩] ∧ Sys k z R T m ∧ (1 ≤ t → ∀ c, c < k → Knows k z c k)) (fun i _ => 2 - (intOf i).toNat)
          case atStart => exact ⟨0, S, z, by omega, rfl, HA.out, HS.out, fun h => by omega⟩
          case round =>
            clear HA HS
            clear S z
            obtain ⟨t, S, z, ht, rfl, hA, hS, hK⟩ := hrel
            have HA := Lib.hid hA
            have HS := Lib.hid hS
            have HK := Lib.hid hK
            clear hA hS hK
            by_cases hlt3 : t < 2
            · have hti : (t : Int) < 2 := by omega
              go_wp2_with fail
              go_loopw [22] (fun i wr => ∃ (c : Nat) (S : Nat → Nat → Prop) (z : Nat → S2), c ≤ k ∧ i = .int .i64 c ∧ All w wr (obs k X S z) [] [⟨g, 28, cs⟩] ∧ Sys k z R T m ∧ ∀ a, a < c → a < k → Knows k z a k) (fun i _ => k - (intOf i).toNat)
              case atStart => exact ⟨0, S, z, Nat.zero_le _, rfl, HA.out, HS.out, fun a h => by omega⟩
              case round =>
                clear HA HS HK
                clear S z
                obtain ⟨c, S, z, hc, rfl, hA, hS, hK⟩ := hrel
                have HA := Lib.hid hA
                have HS := Lib.hid hS
                have HK := Lib.hid hK
                clear hA hS hK
                by_cases hlt4 : c < k
                · have hci : (c : Int) < (k : Int) := by omega
                  go_wp2_with fail
                  go_loopw [23] (fun i wr => ∃ (d : Nat) (S : Nat → Nat → Prop) (z : Nat → S2), d ≤ k ∧ i = .int .i64 d ∧ All w wr (obs k X S z) [] [⟨g, 28, cs⟩] ∧ Sys k z R T m ∧ (∀ a, a < c → a < k → Knows k z a k) ∧ Knows k z c d) (fun i _ => k - (intOf i).toNat)
                  case atStart => exact ⟨0, S, z, Nat.zero_le _, rfl, HA.out, HS.out, HK.out, fun p hp => by omega⟩
                  case round =>
                    clear HA HS HK
                    clear S z
                    obtain ⟨d, S, z, hd, rfl, hA, hS, hK, hKc⟩ := hrel
                    have HA := Lib.hid hA
                    have HS := Lib.hid hS
                    have HK := Lib.hid hK
                    have HKc := Lib.hid hKc
                    clear hA hS hK hKc
                    by_cases hlt5 : d < k
                    · have hdi : (d : Int) < (k : Int) := by omega
                      have y0 : wr.cell? ⟨g, c, none⟩ = some (.pointer (some ⟨X c, 0, none⟩)) := ((HA.out.blk (i := 0) rfl).cell c).trans (HCS.out c hlt4)
                      have y1 : wr.cell? ⟨g, d, none⟩ = some (.pointer (some ⟨X d, 0, none⟩)) := ((HA.out.blk (i := 0) rfl).cell d).trans (HCS.out d hlt5)
                      obtain ⟨hE, hN⟩ := HS.out.join hlt4 hlt5
                      have HRM := Lib.hid (joinM (HA.out.kept (Below.refl _ _).drew) hlt4 hlt5 hE)
                      have HN := Lib.hid hN
                      have HK2 := Lib.hid (show ∀ a, a < c → a < k → Knows k (upd z c (joinS (z c) (z d))) a k from fun a ha hak => HS.out.still hlt4 hlt5 (by omega) (HK.out a ha hak))
                      have HKc2 := Lib.hid (HS.out.knows (k := 0) hlt4 hlt5 HKc.out)
                      generalize upd z c (joinS (z c) (z d)) = z2 at HRM HN HK2 HKc2
                      clear hE hN
                      go_upto_region 54 with fail
                      refine wp_region_noPanic ?_
                      refine wp_region_held_drew (S := fun w' => w'.cell? ⟨g, c, none⟩ = some (.pointer (some ⟨X c, 0, none⟩)) ∧ w'.cell? ⟨g, d, none⟩ = some (.pointer (some ⟨X d, 0, none⟩))) (by kernel_rfl) (⟨y0, y1⟩) (fun hHeld => ?_)
                      refine wpAnyH_take (i := 0) (oi := ⟨some 207, _, _, _, _, _⟩) (v := ?_) rfl (by kernel_rfl) (by kernel_rfl) (by kernel_rfl) (fun _ _ _ h => h) (Or.inl ⟨by rfl, ?_⟩) hHeld ?_
                      rotate_left
                      · (intro w hSw; obtain ⟨s0, s1⟩ := hSw; go_simp; try with_reducible rfl)
                      try simp only [Act.put, List.setIfInBounds_toArray, List.set_cons_zero, List.set_cons_succ]
                      refine wpAnyH_take (i := 1) (oi := ⟨some 208, _, _, _, _, _⟩) (v := ?_) rfl (by kernel_rfl) (by kernel_rfl) (by kernel_rfl) (fun _ _ _ h => h) (Or.inl ⟨by rfl, ?_⟩) hHeld ?_
                      rotate_left
                      · (intro w hSw; obtain ⟨s0, s1⟩ := hSw; go_simp; try with_reducible rfl)
                      try simp only [Act.put, List.setIfInBounds_toArray, List.set_cons_zero, List.set_cons_succ]
                      refine wpAnyH_take (i := 2) (oi := ⟨some 209, _, _, _, _, _⟩) (v := ?_) rfl (by kernel_rfl) (by kernel_rfl) (by kernel_rfl) (fun _ _ _ h => h) (Or.inl ⟨by rfl, ?_⟩) hHeld ?_
                      rotate_left
                      · (intro w hSw; obtain ⟨s0, s1⟩ := hSw; go_simp; try with_reducible rfl)
                      try simp only [Act.put, List.setIfInBounds_toArray, List.set_cons_zero, List.set_cons_succ]
                      refine wpAnyH_take (i := 3) (oi := ⟨some 210, _, _, _, _, _⟩) (v := ?_) rfl (by kernel_rfl) (by kernel_rfl) (by kernel_rfl) (fun _ _ _ h => h) (Or.inl ⟨by rfl, ?_⟩) hHeld ?_
                      rotate_left
                      · (intro w hSw; obtain ⟨s0, s1⟩ := hSw; go_simp; try with_reducible rfl)
                      try simp only [Act.put, List.setIfInBounds_toArray, List.set_cons_zero, List.set_cons_succ]
                      refine wpAnyH_take (i := 4) (oi := ⟨some 211, _, _, _, _, _⟩) (v := ?_) rfl (by kernel_rfl) (by kernel_rfl) (by kernel_rfl) (fun _ _ _ h => h) (Or.inl ⟨by rfl, ?_⟩) hHeld ?_
                      rotate_left
                      · (intro w hSw; obtain ⟨s0, s1⟩ := hSw; go_simp; try with_reducible rfl)
                      try simp only [Act.put, List.setIfInBounds_toArray, List.set_cons_zero, List.set_cons_succ]
                      refine wpAnyH_take (i := 5) (oi := ⟨some 212, _, _, _, _, _⟩) (v := ?_) rfl (by kernel_rfl) (by kernel_rfl) (by kernel_rfl) (fun _ _ _ h => h) (Or.inl ⟨by rfl, ?_⟩) hHeld ?_
                      rotate_left
                      · (intro w hSw; obtain ⟨s0, s1⟩ := hSw; go_simp; try with_reducible rfl)
                      try simp only [Act.put, List.setIfInBounds_toArray, List.set_cons_zero, List.set_cons_succ]
                      refine wpAnyH_take (i := 6) (oi := ⟨some 213, _, _, _, _, _⟩) (v := ?_) rfl (by kernel_rfl) (by kernel_rfl) (by kernel_rfl) (fun _ _ _ h => h) (Or.inl ⟨by rfl, ?_⟩) hHeld ?_
                      rotate_left
                      · (intro w hSw; obtain ⟨s0, s1⟩ := hSw; go_simp; try with_reducible rfl)
                      try simp only [Act.put, List.setIfInBounds_toArray, List.set_cons_zero, List.set_cons_succ]
                      refine wpAnyH_take (i := 7) (oi := ⟨some 214, _, _, _, _, _⟩) (v := ?_) rfl (by kernel_rfl) (by kernel_rfl) (by kernel_rfl) (fun _ _ _ h => h) (Or.inl ⟨by rfl, ?_⟩) hHeld ?_
                      rotate_left
                      · (intro w hSw; obtain ⟨s0, s1⟩ := hSw; go_simp; try with_reducible rfl)
                      try simp only [Act.put, List.setIfInBounds_toArray, List.set_cons_zero, List.set_cons_succ]
                      refine wpAnyH_ready (rs := [8]) (by kernel_rfl) (by simp) ?_
                      refine (AllReadyH.cons (o := ⟨some 215, _, _, _, _, _⟩) rfl (fun K hK => ?_) AllReadyH.nil)
                      go_simp
                      (refine HRM.out.mono ?_; rintro e w4 ⟨rfl, S4, hA4⟩)
                      have HA4 := Lib.hid hA4
                      clear hA4
                      refine hK.out _ _ (⟨((HA4.out.blk (i := 0) rfl).cell c).trans (HCS.out c hlt4), ((HA4.out.blk (i := 0) rfl).cell d).trans (HCS.out d hlt5)⟩) (fun hHeld => ?_)
                      clear hK K
                      try simp only [Act.put, List.setIfInBounds_toArray, List.set_cons_zero, List.set_cons_succ]
                      refine wpAnyH_take (i := 9) (oi := ⟨some 216, _, _, _, _, _⟩) (v := ?_) rfl (by kernel_rfl) (by kernel_rfl) (by kernel_rfl) (fun _ _ _ h => h) (Or.inl ⟨by rfl, ?_⟩) hHeld ?_
                      rotate_left
                      · (intro w hSw; obtain ⟨s0, s1⟩ := hSw; go_simp; try with_reducible rfl)
                      try simp only [Act.put, List.setIfInBounds_toArray, List.set_cons_zero, List.set_cons_succ]
                      refine wpAnyH_done (by kernel_rfl) ?_ _
                      refine NoPanic.normal ?_
                      clear y0 y1
                      go_wp2_with fail
                      go_roundw
                      case rel => exact ⟨d + 1, S4, z2, by omega, by go_num, HA4.out, HN.out, HK2.out, HKc2.out⟩
                      case measure => simp [intOf]; omega
                    · have hdk : d = k := by omega
                      have HK2 := Lib.hid (show ∀ a, a < c + 1 → a < k → Knows k z a k from fun a ha hak => by
                        by_cases e : a = c
                        · subst e; have := HKc.out; rw [hdk] at this; exact this
                        · exact HK.out a (by omega) hak)
                      clear hdk
                      go_wp2_with fail
                      go_roundw
                      case rel => exact ⟨c + 1, S, z, by omega, by go_num, HA.out, HS.out, HK2.out⟩
                      case measure => simp [intOf]; omega
                · have HK2 := Lib.hid (show 1 ≤ t + 1 → ∀ c, c < k → Knows k z c k from fun _ a ha => HK.out a (by omega) ha)
                  go_wp2_with fail
                  go_roundw
                  case rel => exact ⟨t + 1, S, z, by omega, by go_num, HA.out, HS.out, HK2.out⟩
                  case measure => simp [intOf]; omega
            · have HKA := Lib.hid (HK.out (by omega))
              have h0k : 0 < k := by omega
              go_wp2_with fail
              go_loopw [24] (fun i wr' => ∃ c : Nat, c ≤ k ∧ i = .int .i64 c ∧ All w wr' (obs k X S z) [] [⟨g, 28, cs⟩]) (fun i _ => k - (intOf i).toNat)
              case atStart => exact ⟨0, Nat.zero_le _, rfl, HA.out⟩
              case round =>
                clear HA
                obtain ⟨c, hc, rfl, hA⟩ := hrel
                have HA := Lib.hid hA
                clear hA
                by_cases hlt4 : c < k
                · have hci : (c : Int) < (k : Int) := by omega
                  have y0 : wr.cell? ⟨g, c, none⟩ = some (.pointer (some ⟨X c, 0, none⟩)) := ((HA.out.blk (i := 0) rfl).cell c).trans (HCS.out c hlt4)
                  have y1 : wr.cell? ⟨g, 0, none⟩ = some (.pointer (some ⟨X 0, 0, none⟩)) := ((HA.out.blk (i := 0) rfl).cell 0).trans (HCS.out 0 h0k)
                  have hgl : g < wr.heap.size := (HA.out.blk (i := 0) rfl).lt
                  have hEQ := HS.out.all_eq hlt4 h0k (HKA.out c hlt4) (HKA.out 0 h0k)
                  obtain ⟨hL, hSo⟩ := HS.out.sums h0k (HKA.out 0 h0k)
                  have HSTc := Lib.hid (show ∀ w9, Below wr.heap.size wr w9 → ST w9 (X c) (S c) (z 0).G (z 0).D from fun w9 h9 => by have h := ST_M (HA.out.kept h9) hlt4; rw [hEQ] at h; exact h)
                  have HST0 := Lib.hid (show ∀ w9, Below wr.heap.size wr w9 → ST w9 (X 0) (S 0) (z 0).G (z 0).D from fun w9 h9 => ST_M (HA.out.kept h9) h0k)
                  have HLF := Lib.hid (fun w9 h9 => left_any (HSTc.out w9 h9))
                  have HSF := Lib.hid (fun w9 h9 => sold_any (HSTc.out w9 h9))
                  rw [hL] at HLF
                  rw [hSo] at HSF
                  have HSH := Lib.hid (HS.out.sh 0 h0k)
                  have hn8 : (z 0).G.length ≤ 20 := by have := (HS.out.sh 0 h0k).2; omega
                  have hwr : IntKind.i64.wrap (R - T) = R - T := IntWalk.i64_in _ (by omega)
                  have hneq : ((R - T) != (R - T)) = false := by simp
                  have hneq2 : (T != T) = false := by simp
                  clear hEQ hL hSo
                  go_upto_region 59 with fail
                  refine wp_region_noPanic ?_
                  refine wp_region_held_drew (S := fun w' => w'.cell? ⟨g, c, none⟩ = some (.pointer (some ⟨X c, 0, none⟩)) ∧ w'.cell? ⟨g, 0, none⟩ = some (.pointer (some ⟨X 0, 0, none⟩))) (by kernel_rfl) (⟨y0, y1⟩) (fun hHeld => ?_)
                  refine wpAnyH_take (i := 0) (oi := ⟨some 222, _, _, _, _, _⟩) (v := ?_) rfl (by kernel_rfl) (by kernel_rfl) (by kernel_rfl) (fun _ _ _ h => h) (Or.inl ⟨by rfl, ?_⟩) hHeld ?_
                  rotate_left
                  · (intro w hSw; obtain ⟨s0, s1⟩ := hSw; go_simp; try with_reducible rfl)
                  try simp only [Act.put, List.setIfInBounds_toArray, List.set_cons_zero, List.set_cons_succ]
                  refine wpAnyH_take (i := 1) (oi := ⟨some 223, _, _, _, _, _⟩) (v := ?_) rfl (by kernel_rfl) (by kernel_rfl) (by kernel_rfl) (fun _ _ _ h => h) (Or.inl ⟨by rfl, ?_⟩) hHeld ?_
                  rotate_left
                  · (intro w hSw; obtain ⟨s0, s1⟩ := hSw; go_simp; try with_reducible rfl)
                  try simp only [Act.put, List.setIfInBounds_toArray, List.set_cons_zero, List.set_cons_succ]
                  refine wpAnyH_take (i := 2) (oi := ⟨some 224, _, _, _, _, _⟩) (v := ?_) rfl (by kernel_rfl) (by kernel_rfl) (by kernel_rfl) (fun _ _ _ h => h) (Or.inl ⟨by rfl, ?_⟩) hHeld ?_
                  rotate_left
                  · (intro w hSw; obtain ⟨s0, s1⟩ := hSw; go_simp; try with_reducible rfl)
                  try simp only [Act.put, List.setIfInBounds_toArray, List.set_cons_zero, List.set_cons_succ]
                  refine wpAnyH_take (i := 3) (oi := ⟨some 225, _, _, _, _, _⟩) (v := ?_) rfl (by kernel_rfl) (by kernel_rfl) (by kernel_rfl) (fun _ _ _ h => h) (Or.inl ⟨by rfl, ?_⟩) hHeld ?_
                  rotate_left
                  · (intro w hSw; obtain ⟨s0, s1⟩ := hSw; go_simp; try with_reducible rfl)
                  try simp only [Act.put, List.setIfInBounds_toArray, List.set_cons_zero, List.set_cons_succ]
                  refine wpAnyH_take (i := 5) (oi := ⟨some 227, _, _, _, _, _⟩) (v := ?_) rfl (by kernel_rfl) (by kernel_rfl) (by kernel_rfl) (fun _ _ _ h => h) (Or.inl ⟨by rfl, ?_⟩) hHeld ?_
                  rotate_left
                  · (intro w hSw; obtain ⟨s0, s1⟩ := hSw; go_simp; try with_reducible rfl)
                  try simp only [Act.put, List.setIfInBounds_toArray, List.set_cons_zero, List.set_cons_succ]
                  refine wpAnyH_take (i := 6) (oi := ⟨some 228, _, _, _, _, _⟩) (v := ?_) rfl (by kernel_rfl) (by kernel_rfl) (by kernel_rfl) (fun _ _ _ h => h) (Or.inl ⟨by rfl, ?_⟩) hHeld ?_
                  rotate_left
                  · (intro w hSw; obtain ⟨s0, s1⟩ := hSw; go_simp; try with_reducible rfl)
                  try simp only [Act.put, List.setIfInBounds_toArray, List.set_cons_zero, List.set_cons_succ]
                  refine wpAnyH_take (i := 7) (oi := ⟨some 229, _, _, _, _, _⟩) (v := ?_) rfl (by kernel_rfl) (by kernel_rfl) (by kernel_rfl) (fun _ _ _ h => h) (Or.inl ⟨by rfl, ?_⟩) hHeld ?_
                  rotate_left
                  · (intro w hSw; obtain ⟨s0, s1⟩ := hSw; go_simp; try with_reducible rfl)
                  try simp only [Act.put, List.setIfInBounds_toArray, List.set_cons_zero, List.set_cons_succ]
                  refine wpAnyH_ready (rs := [4]) (by kernel_rfl) (by simp) ?_
                  refine (AllReadyH.cons (o := ⟨some 226, _, _, _, _, _⟩) rfl (fun K hK => ?_) AllReadyH.nil)
                  go_simp
                  (refine (state_any (HSTc.out _ (Below.refl wr.heap.size wr).drew)).mono ?_; rintro e w4 ⟨ob1, rs1, db1, dc1, rfl, hM1⟩)
                  have hb4 : Below wr.heap.size wr w4 := (Below.refl wr.heap.size wr).drew.trans hM1.r.hb
                  refine hK.out _ _ (⟨((hb4).cell (p := ⟨g, c, none⟩) hgl).trans y0, ((hb4).cell (p := ⟨g, 0, none⟩) hgl).trans y1⟩) (fun hHeld => ?_)
                  clear hK K
                  try simp only [Act.put, List.setIfInBounds_toArray, List.set_cons_zero, List.set_cons_succ]
                  refine wpAnyH_ready (rs := [8]) (by kernel_rfl) (by simp) ?_
                  refine (AllReadyH.cons (o := ⟨some 230, _, _, _, _, _⟩) rfl (fun K hK => ?_) AllReadyH.nil)
                  go_simp
                  (refine (state_any (HST0.out _ hb4)).mono ?_; rintro e w5 ⟨ob2, rs2, db2, dc2, rfl, hM2⟩)
                  have hb5 := below_step hb4 hM2.r.hb
                  refine hK.out _ _ (⟨((hb5).cell (p := ⟨g, c, none⟩) hgl).trans y0, ((hb5).cell (p := ⟨g, 0, none⟩) hgl).trans y1⟩) (fun hHeld => ?_)
                  clear hK K
                  try simp only [Act.put, List.setIfInBounds_toArray, List.set_cons_zero, List.set_cons_succ]
                  refine wpAnyH_ready (rs := [9]) (by kernel_rfl) (by simp) ?_
                  refine (AllReadyH.cons (o := ⟨some 231, _, _, _, _, _⟩) rfl (fun K hK => ?_) AllReadyH.nil)
                  go_simp
                  (refine (same_any (some ⟨ob1, 0, none⟩) (some ⟨db1, 0, none⟩) (some ⟨ob2, 0, none⟩) (some ⟨db2, 0, none⟩) (z 0).G.length dc1 (z 0).G.length dc2 (z 0).G.length (z 0).G.length ((hM1.mr HSH.out.1.len).kept hM2.r.hb) (hM1.hD.rd.kept hM2.r.hb) (hM2.mr HSH.out.1.len) hM2.hD.rd rfl HSH.out.1.2.2.1 hn8 hn8 (fun l9 hl9 => by obtain ⟨q, hq, rfl⟩ := List.mem_iff_getElem.1 hl9; rw [HSH.out.1.len q hq]; exact hn8)).mono ?_; rintro e w6 ⟨rfl, hb6'⟩)
                  have hb6 := below_step hb5 hb6'
                  refine hK.out _ _ (⟨((hb6).cell (p := ⟨g, c, none⟩) hgl).trans y0, ((hb6).cell (p := ⟨g, 0, none⟩) hgl).trans y1⟩) (fun hHeld => ?_)
                  clear hK K
                  try simp only [Act.put, List.setIfInBounds_toArray, List.set_cons_zero, List.set_cons_succ]
                  refine wpAnyH_take (i := 10) (oi := ⟨some 232, _, _, _, _, _⟩) (v := ?_) rfl (by kernel_rfl) (by kernel_rfl) (by kernel_rfl) (fun _ _ _ h => h) (Or.inl ⟨by rfl, ?_⟩) hHeld ?_
                  rotate_left
                  · (intro w hSw; obtain ⟨s0, s1⟩ := hSw; go_simp; try with_reducible rfl)
                  try simp only [Act.put, List.setIfInBounds_toArray, List.set_cons_zero, List.set_cons_succ]
                  refine wpAnyH_take (i := 11) (oi := ⟨some 233, _, _, _, _, _⟩) (v := ?_) rfl (by kernel_rfl) (by kernel_rfl) (by kernel_rfl) (fun _ _ _ h => h) (Or.inl ⟨by rfl, ?_⟩) hHeld ?_
                  rotate_left
                  · (intro w hSw; obtain ⟨s0, s1⟩ := hSw; go_simp; try with_reducible rfl)
                  try simp only [Act.put, List.setIfInBounds_toArray, List.set_cons_zero, List.set_cons_succ]
                  refine wpAnyH_take (i := 12) (oi := ⟨some 234, _, _, _, _, _⟩) (v := ?_) rfl (by kernel_rfl) (by kernel_rfl) (by kernel_rfl) (fun _ _ _ h => h) (Or.inl ⟨by rfl, ?_⟩) hHeld ?_
                  rotate_left
                  · (intro w hSw; obtain ⟨s0, s1⟩ := hSw; go_simp; try with_reducible rfl)
                  try simp only [Act.put, List.setIfInBounds_toArray, List.set_cons_zero, List.set_cons_succ]
                  refine wpAnyH_take (i := 13) (oi := ⟨some 235, _, _, _, _, _⟩) (v := ?_) rfl (by kernel_rfl) (by kernel_rfl) (by kernel_rfl) (fun _ _ _ h => h) (Or.inl ⟨by rfl, ?_⟩) hHeld ?_
                  rotate_left
                  · (intro w hSw; obtain ⟨s0, s1⟩ := hSw; go_simp; try with_reducible rfl)
                  try simp only [Act.put, List.setIfInBounds_toArray, List.set_cons_zero, List.set_cons_succ]
                  refine wpAnyH_take (i := 14) (oi := ⟨some 236, _, _, _, _, _⟩) (v := ?_) rfl (by kernel_rfl) (by kernel_rfl) (by kernel_rfl) (fun _ _ _ h => h) (Or.inl ⟨by rfl, ?_⟩) hHeld ?_
                  rotate_left
                  · (intro w hSw; obtain ⟨s0, s1⟩ := hSw; go_simp; try with_reducible rfl)
                  try simp only [Act.put, List.setIfInBounds_toArray, List.set_cons_zero, List.set_cons_succ]
                  refine wpAnyH_take (i := 15) (oi := ⟨some 237, _, _, _, _, _⟩) (v := ?_) rfl (by kernel_rfl) (by kernel_rfl) (by kernel_rfl) (fun _ _ _ h => h) (Or.inl ⟨by rfl, ?_⟩) hHeld ?_
                  rotate_left
                  · (intro w hSw; obtain ⟨s0, s1⟩ := hSw; go_simp; try with_reducible rfl)
                  try simp only [Act.put, List.setIfInBounds_toArray, List.set_cons_zero, List.set_cons_succ]
                  refine wpAnyH_take (i := 17) (oi := ⟨some 239, _, _, _, _, _⟩) (v := ?_) rfl (by kernel_rfl) (by kernel_rfl) (by kernel_rfl) (fun _ _ _ h => h) (Or.inl ⟨by rfl, ?_⟩) hHeld ?_
                  rotate_left
                  · (intro w hSw; obtain ⟨s0, s1⟩ := hSw; go_simp; try with_reducible rfl)
                  try simp only [Act.put, List.setIfInBounds_toArray, List.set_cons_zero, List.set_cons_succ]
                  refine wpAnyH_take (i := 18) (oi := ⟨some 240, _, _, _, _, _⟩) (v := ?_) rfl (by kernel_rfl) (by kernel_rfl) (by kernel_rfl) (fun _ _ _ h => h) (Or.inl ⟨by rfl, ?_⟩) hHeld ?_
                  rotate_left
                  · (intro w hSw; obtain ⟨s0, s1⟩ := hSw; go_simp; try with_reducible rfl)
                  try simp only [Act.put, List.setIfInBounds_toArray, List.set_cons_zero, List.set_cons_succ]
                  refine wpAnyH_take (i := 19) (oi := ⟨some 241, _, _, _, _, _⟩) (v := ?_) rfl (by kernel_rfl) (by kernel_rfl) (by kernel_rfl) (fun _ _ _ h => h) (Or.inl ⟨by rfl, ?_⟩) hHeld ?_
                  rotate_left
                  · (intro w hSw; obtain ⟨s0, s1⟩ := hSw; go_simp; try with_reducible rfl)
                  try simp only [Act.put, List.setIfInBounds_toArray, List.set_cons_zero, List.set_cons_succ]
                  refine wpAnyH_ready (rs := [16]) (by kernel_rfl) (by simp) ?_
                  refine (AllReadyH.cons (o := ⟨some 238, _, _, _, _, _⟩) rfl (fun K hK => ?_) AllReadyH.nil)
                  go_simp
                  (refine (HLF.out _ hb6).mono ?_; rintro e w7 ⟨rfl, hb7'⟩)
                  have hb7 := below_step hb6 hb7'
                  refine hK.out _ _ (⟨((hb7).cell (p := ⟨g, c, none⟩) hgl).trans y0, ((hb7).cell (p := ⟨g, 0, none⟩) hgl).trans y1⟩) (fun hHeld => ?_)
                  clear hK K
                  try simp only [Act.put, List.setIfInBounds_toArray, List.set_cons_zero, List.set_cons_succ]
                  refine wpAnyH_take (i := 20) (oi := ⟨some 242, _, _, _, _, _⟩) (v := ?_) rfl (by kernel_rfl) (by kernel_rfl) (by kernel_rfl) (fun _ _ _ h => h) (Or.inl ⟨by rfl, ?_⟩) hHeld ?_
                  rotate_left
                  · (intro w hSw; obtain ⟨s0, s1⟩ := hSw; go_simp; try with_reducible rfl)
                  try simp only [Act.put, List.setIfInBounds_toArray, List.set_cons_zero, List.set_cons_succ]
                  refine wpAnyH_take (i := 21) (oi := ⟨some 243, _, _, _, _, _⟩) (v := ?_) rfl (by kernel_rfl) (by kernel_rfl) (by kernel_rfl) (fun _ _ _ h => h) (Or.inl ⟨by rfl, ?_⟩) hHeld ?_
                  rotate_left
                  · (intro w hSw; obtain ⟨s0, s1⟩ := hSw; go_simp; try with_reducible rfl)
                  try simp only [Act.put, List.setIfInBounds_toArray, List.set_cons_zero, List.set_cons_succ]
                  refine wpAnyH_take (i := 22) (oi := ⟨some 244, _, _, _, _, _⟩) (v := ?_) rfl (by kernel_rfl) (by kernel_rfl) (by kernel_rfl) (fun _ _ _ h => h) (Or.inl ⟨by rfl, ?_⟩) hHeld ?_
                  rotate_left
                  · (intro w hSw; obtain ⟨s0, s1⟩ := hSw; go_simp; try with_reducible rfl)
                  try simp only [Act.put, List.setIfInBounds_toArray, List.set_cons_zero, List.set_cons_succ]
                  refine wpAnyH_take (i := 23) (oi := ⟨some 245, _, _, _, _, _⟩) (v := ?_) rfl (by kernel_rfl) (by kernel_rfl) (by kernel_rfl) (fun _ _ _ h => h) (Or.inl ⟨by rfl, ?_⟩) hHeld ?_
                  rotate_left
                  · (intro w hSw; obtain ⟨s0, s1⟩ := hSw; go_simp; try with_reducible rfl)
                  try simp only [Act.put, List.setIfInBounds_toArray, List.set_cons_zero, List.set_cons_succ]
                  refine wpAnyH_take (i := 24) (oi := ⟨some 246, _, _, _, _, _⟩) (v := ?_) rfl (by kernel_rfl) (by kernel_rfl) (by kernel_rfl) (fun _ _ _ h => h) (Or.inl ⟨by rfl, ?_⟩) hHeld ?_
                  rotate_left
                  · (intro w hSw; obtain ⟨s0, s1⟩ := hSw; go_simp; try with_reducible rfl)
                  try simp only [Act.put, List.setIfInBounds_toArray, List.set_cons_zero, List.set_cons_succ]
                  refine wpAnyH_take (i := 25) (oi := ⟨some 247, _, _, _, _, _⟩) (v := ?_) rfl (by kernel_rfl) (by kernel_rfl) (by kernel_rfl) (fun _ _ _ h => h) (Or.inl ⟨by rfl, ?_⟩) hHeld ?_
                  rotate_left
                  · (intro w hSw; obtain ⟨s0, s1⟩ := hSw; go_simp; try with_reducible rfl)
                  try simp only [Act.put, List.setIfInBounds_toArray, List.set_cons_zero, List.set_cons_succ]
                  refine wpAnyH_take (i := 26) (oi := ⟨some 248, _, _, _, _, _⟩) (v := ?_) rfl (by kernel_rfl) (by kernel_rfl) (by kernel_rfl) (fun _ _ _ h => h) (Or.inl ⟨by rfl, ?_⟩) hHeld ?_
                  rotate_left
                  · (intro w hSw; obtain ⟨s0, s1⟩ := hSw; go_simp; try with_reducible rfl)
                  try simp only [Act.put, List.setIfInBounds_toArray, List.set_cons_zero, List.set_cons_succ]
                  refine wpAnyH_take (i := 28) (oi := ⟨some 250, _, _, _, _, _⟩) (v := ?_) rfl (by kernel_rfl) (by kernel_rfl) (by kernel_rfl) (fun _ _ _ h => h) (Or.inl ⟨by rfl, ?_⟩) hHeld ?_
                  rotate_left
                  · (intro w hSw; obtain ⟨s0, s1⟩ := hSw; go_simp; try with_reducible rfl)
                  try simp only [Act.put, List.setIfInBounds_toArray, List.set_cons_zero, List.set_cons_succ]
                  refine wpAnyH_ready (rs := [27]) (by kernel_rfl) (by simp) ?_
                  refine (AllReadyH.cons (o := ⟨some 249, _, _, _, _, _⟩) rfl (fun K hK => ?_) AllReadyH.nil)
                  go_simp
                  (refine (HSF.out _ hb7).mono ?_; rintro e w8 ⟨rfl, hw8⟩)
                  have HW8 := Lib.hid hw8
                  clear hw8
                  have hb8 : Below wr.heap.size wr w8 := by rw [HW8.out]; exact hb7
                  refine hK.out _ _ (⟨((hb8).cell (p := ⟨g, c, none⟩) hgl).trans y0, ((hb8).cell (p := ⟨g, 0, none⟩) hgl).trans y1⟩) (fun hHeld => ?_)
                  clear hK K
                  try simp only [Act.put, List.setIfInBounds_toArray, List.set_cons_zero, List.set_cons_succ]
                  refine wpAnyH_take (i := 29) (oi := ⟨some 251, _, _, _, _, _⟩) (v := ?_) rfl (by kernel_rfl) (by kernel_rfl) (by kernel_rfl) (fun _ _ _ h => h) (Or.inl ⟨by rfl, ?_⟩) hHeld ?_
                  rotate_left
                  · (intro w hSw; obtain ⟨s0, s1⟩ := hSw; go_simp; try with_reducible rfl)
                  try simp only [Act.put, List.setIfInBounds_toArray, List.set_cons_zero, List.set_cons_succ]
                  refine wpAnyH_take (i := 30) (oi := ⟨some 252, _, _, _, _, _⟩) (v := ?_) rfl (by kernel_rfl) (by kernel_rfl) (by kernel_rfl) (fun _ _ _ h => h) (Or.inl ⟨by rfl, ?_⟩) hHeld ?_
                  rotate_left
                  · (intro w hSw; obtain ⟨s0, s1⟩ := hSw; go_simp; try with_reducible rfl)
                  try simp only [Act.put, List.setIfInBounds_toArray, List.set_cons_zero, List.set_cons_succ]
                  refine wpAnyH_done (by kernel_rfl) ?_ _
                  refine NoPanic.normal ?_
                  have HF := Lib.hid (HA.out.kept hb8)
                  clear y0 y1 hb8 hb7 hb7' hb6 hb6' hb5 hb4 hM1 hM2 hwr hneq hneq2
                  go_wp2_with fail
                  go_roundw
                  case rel => exact ⟨c + 1, by omega, by go_num, HF.out⟩
                  case measure => simp [intOf]; omega
                · go_wp2_with fail
                  refine (known_any _).mono ?_
                  rintro e w9 ⟨rfl, hb9⟩
                  have HP := Lib.hid (HA.out.kept hb9).b
                  clear hb9
                  go_wp2_with fail
                  go_ret
                  exact ⟨rfl, HP.out⟩
end Go.Proofs.Ytdancoblphkakaa
