/- does, calls: the law's calls. -/
import Derived.Test.YtdancoblphkakaaDoes
import Derived.IntWalk
namespace Go.Proofs.Ytdancoblphkakaa
open Go.RowKit

theorem below2 (w : World) (o1 o2 : Obj) : Below w.heap.size w ((w.alloc o1).alloc o2) := ((Below.refl _ _).alloc (Nat.le_refl _) _).alloc (by simp) _
theorem below3 (w : World) (o1 o2 o3 : Obj) : Below w.heap.size w (((w.alloc o1).alloc o2).alloc o3) := (below2 w o1 o2).alloc (by simp <;> omega) _

theorem does_low {w : World} {U : Nat → Prop} {G : List (List Int)} {D : List Int} (pg qd : Option Addr) (cg cd : Nat) (a p t u : Int) (hv : VS w U (.agg #[.slice pg G.length cg, .slice qd G.length cd]) G D) (h : p < 0) :
    Calls Try.prog 29 #[.agg #[.slice pg G.length cg, .slice qd G.length cd], .agg #[.int .i64 a, .int .i64 p, .int .i64 t, .int .i64 u]] w (RetSE w U G D 2) := by
  have HX := Lib.hid (show VS w U (.agg #[.slice pg G.length cg, .slice qd G.length cd]) G D from hv)
  clear hv
  go_enter Try.func29, Try.ntmps29
  go_wp2_with fail
  generalize hW : (World.alloc _ _) = W
  have hWb : Below w.heap.size w W := by rw [← hW]; exact below3 w _ _ _
  have hB3 : Blk W (w.heap.size + 1 + 1) 25 [.slice pg G.length cg, .slice qd G.length cd] := by rw [← hW]; exact Blk.new' _ 25 _ (by simp)
  refine bodyPost_ret (results_pair rfl _ _ (w.heap.size + 1 + 1) 25 _ (0, 0) _ _ (by rfl) hB3 Try.underlying25 (by rfl) (by kernel_rfl) (by rfl)) rfl ?_
  exact ⟨_, rfl, (HX.out.kept hWb).or, hWb⟩

theorem does_high {w : World} {U : Nat → Prop} {G : List (List Int)} {D : List Int} (pg qd : Option Addr) (cg cd : Nat) (a p t u : Int) (hv : VS w U (.agg #[.slice pg G.length cg, .slice qd G.length cd]) G D) (h1 : 0 ≤ p) (h : (G.length : Int) ≤ p) :
    Calls Try.prog 29 #[.agg #[.slice pg G.length cg, .slice qd G.length cd], .agg #[.int .i64 a, .int .i64 p, .int .i64 t, .int .i64 u]] w (RetSE w U G D 2) := by
  have HX := Lib.hid (show VS w U (.agg #[.slice pg G.length cg, .slice qd G.length cd]) G D from hv)
  have hb : decide (p < 0) = false := by simp; omega
  clear hv
  go_enter Try.func29, Try.ntmps29
  go_wp2_with fail
  generalize hW : (World.alloc _ _) = W
  have hWb : Below w.heap.size w W := by rw [← hW]; exact below3 w _ _ _
  have hB3 : Blk W (w.heap.size + 1 + 1) 25 [.slice pg G.length cg, .slice qd G.length cd] := by rw [← hW]; exact Blk.new' _ 25 _ (by simp)
  refine bodyPost_ret (results_pair rfl _ _ (w.heap.size + 1 + 1) 25 _ (0, 0) _ _ (by rfl) hB3 Try.underlying25 (by rfl) (by kernel_rfl) (by rfl)) rfl ?_
  exact ⟨_, rfl, (HX.out.kept hWb).or, hWb⟩

theorem does_neg {w : World} {U : Nat → Prop} {G : List (List Int)} {D : List Int} (pg qd : Option Addr) (cg cd : Nat) (a p t u : Int) (hv : VS w U (.agg #[.slice pg G.length cg, .slice qd G.length cd]) G D) (h1 : 0 ≤ p) (h : p < (G.length : Int)) (h2 : u < 0) :
    Calls Try.prog 29 #[.agg #[.slice pg G.length cg, .slice qd G.length cd], .agg #[.int .i64 a, .int .i64 p, .int .i64 t, .int .i64 u]] w (RetSE w U G D 2) := by
  have HX := Lib.hid (show VS w U (.agg #[.slice pg G.length cg, .slice qd G.length cd]) G D from hv)
  have hb : decide (p < 0) = false := by simp; omega
  have hb2 : decide ((G.length : Int) ≤ p) = false := by simp; omega
  clear hv
  go_enter Try.func29, Try.ntmps29
  go_wp2_with fail
  generalize hW : (World.alloc _ _) = W
  have hWb : Below w.heap.size w W := by rw [← hW]; exact below3 w _ _ _
  have hB3 : Blk W (w.heap.size + 1 + 1) 25 [.slice pg G.length cg, .slice qd G.length cd] := by rw [← hW]; exact Blk.new' _ 25 _ (by simp)
  refine bodyPost_ret (results_pair rfl _ _ (w.heap.size + 1 + 1) 25 _ (0, 0) _ _ (by rfl) hB3 Try.underlying25 (by rfl) (by kernel_rfl) (by rfl)) rfl ?_
  exact ⟨_, rfl, (HX.out.kept hWb).or, hWb⟩

theorem does_t0 {w : World} {U : Nat → Prop} {G : List (List Int)} {D : List Int} (pg qd : Option Addr) (cg cd : Nat) (a p t u : Int) (hv : VS w U (.agg #[.slice pg G.length cg, .slice qd G.length cd]) G D) (h1 : 0 ≤ p) (h : p < (G.length : Int)) (h2 : 0 ≤ u) (ha : a = 1) (h3 : t < 0) :
    Calls Try.prog 29 #[.agg #[.slice pg G.length cg, .slice qd G.length cd], .agg #[.int .i64 a, .int .i64 p, .int .i64 t, .int .i64 u]] w (RetSE w U G D 2) := by
  have HX := Lib.hid (show VS w U (.agg #[.slice pg G.length cg, .slice qd G.length cd]) G D from hv)
  have hb : decide (p < 0) = false := by simp; omega
  have hb2 : decide ((G.length : Int) ≤ p) = false := by simp; omega
  have hb3 : decide (u < 0) = false := by simp; omega
  have ha0 : (a == 0) = false := by rw [beq_eq_false_iff_ne]; omega
  have ha1 : (a == 1) = true := by rw [beq_iff_eq]; exact ha
  clear ha
  clear hv
  go_enter Try.func29, Try.ntmps29
  go_wp2_with fail
  generalize hW : (World.alloc _ _) = W
  have hWb : Below w.heap.size w W := by rw [← hW]; exact below3 w _ _ _
  have hB3 : Blk W (w.heap.size + 1 + 1) 25 [.slice pg G.length cg, .slice qd G.length cd] := by rw [← hW]; exact Blk.new' _ 25 _ (by simp)
  refine bodyPost_ret (results_pair rfl _ _ (w.heap.size + 1 + 1) 25 _ (0, 0) _ _ (by rfl) hB3 Try.underlying25 (by rfl) (by kernel_rfl) (by rfl)) rfl ?_
  exact ⟨_, rfl, (HX.out.kept hWb).or, hWb⟩

theorem does_t1 {w : World} {U : Nat → Prop} {G : List (List Int)} {D : List Int} (pg qd : Option Addr) (cg cd : Nat) (a p t u : Int) (hv : VS w U (.agg #[.slice pg G.length cg, .slice qd G.length cd]) G D) (h1 : 0 ≤ p) (h : p < (G.length : Int)) (h2 : 0 ≤ u) (ha : a = 1) (h3 : 0 ≤ t) (h4 : (G.length : Int) ≤ t) :
    Calls Try.prog 29 #[.agg #[.slice pg G.length cg, .slice qd G.length cd], .agg #[.int .i64 a, .int .i64 p, .int .i64 t, .int .i64 u]] w (RetSE w U G D 2) := by
  have HX := Lib.hid (show VS w U (.agg #[.slice pg G.length cg, .slice qd G.length cd]) G D from hv)
  have hb : decide (p < 0) = false := by simp; omega
  have hb2 : decide ((G.length : Int) ≤ p) = false := by simp; omega
  have hb3 : decide (u < 0) = false := by simp; omega
  have ha0 : (a == 0) = false := by rw [beq_eq_false_iff_ne]; omega
  have ha1 : (a == 1) = true := by rw [beq_iff_eq]; exact ha
  have hb4 : decide (t < 0) = false := by simp; omega
  clear ha
  clear hv
  go_enter Try.func29, Try.ntmps29
  go_wp2_with fail
  generalize hW : (World.alloc _ _) = W
  have hWb : Below w.heap.size w W := by rw [← hW]; exact below3 w _ _ _
  have hB3 : Blk W (w.heap.size + 1 + 1) 25 [.slice pg G.length cg, .slice qd G.length cd] := by rw [← hW]; exact Blk.new' _ 25 _ (by simp)
  refine bodyPost_ret (results_pair rfl _ _ (w.heap.size + 1 + 1) 25 _ (0, 0) _ _ (by rfl) hB3 Try.underlying25 (by rfl) (by kernel_rfl) (by rfl)) rfl ?_
  exact ⟨_, rfl, (HX.out.kept hWb).or, hWb⟩

theorem does_t2 {w : World} {U : Nat → Prop} {G : List (List Int)} {D : List Int} (pg qd : Option Addr) (cg cd : Nat) (a p t u : Int) (hv : VS w U (.agg #[.slice pg G.length cg, .slice qd G.length cd]) G D) (h1 : 0 ≤ p) (h : p < (G.length : Int)) (h2 : 0 ≤ u) (ha : a = 1) (h3 : 0 ≤ t) (h4 : t < (G.length : Int)) (h5 : t = p) :
    Calls Try.prog 29 #[.agg #[.slice pg G.length cg, .slice qd G.length cd], .agg #[.int .i64 a, .int .i64 p, .int .i64 t, .int .i64 u]] w (RetSE w U G D 2) := by
  have HX := Lib.hid (show VS w U (.agg #[.slice pg G.length cg, .slice qd G.length cd]) G D from hv)
  have hb : decide (p < 0) = false := by simp; omega
  have hb2 : decide ((G.length : Int) ≤ p) = false := by simp; omega
  have hb3 : decide (u < 0) = false := by simp; omega
  have ha0 : (a == 0) = false := by rw [beq_eq_false_iff_ne]; omega
  have ha1 : (a == 1) = true := by rw [beq_iff_eq]; exact ha
  have hb4 : decide (t < 0) = false := by simp; omega
  have hb5 : decide ((G.length : Int) ≤ t) = false := by simp; omega
  have hb6 : (t == p) = true := by rw [beq_iff_eq]; exact h5
  clear ha h5
  clear hv
  go_enter Try.func29, Try.ntmps29
  go_wp2_with fail
  generalize hW : (World.alloc _ _) = W
  have hWb : Below w.heap.size w W := by rw [← hW]; exact below3 w _ _ _
  have hB3 : Blk W (w.heap.size + 1 + 1) 25 [.slice pg G.length cg, .slice qd G.length cd] := by rw [← hW]; exact Blk.new' _ 25 _ (by simp)
  refine bodyPost_ret (results_pair rfl _ _ (w.heap.size + 1 + 1) 25 _ (0, 0) _ _ (by rfl) hB3 Try.underlying25 (by rfl) (by kernel_rfl) (by rfl)) rfl ?_
  exact ⟨_, rfl, (HX.out.kept hWb).or, hWb⟩

theorem does_give {w : World} {U : Nat → Prop} {G : List (List Int)} {D : List Int} (pg qd : Option Addr) (cg cd : Nat) (a p t u : Int) (hv : VS w U (.agg #[.slice pg G.length cg, .slice qd G.length cd]) G D) (h1 : 0 ≤ p) (h : p < (G.length : Int)) (h2 : 0 ≤ u) (ha : a = 1) (h3 : 0 ≤ t) (h4 : t < (G.length : Int)) (h5 : t ≠ p) {rG : List (List Int)} {rD : List Int} {e0 : Int}
    (hc : ∀ w1 U1, VS w1 U1 (.agg #[.slice pg G.length cg, .slice qd G.length cd]) G D → Calls Try.prog 43 #[.agg #[.slice pg G.length cg, .slice qd G.length cd], .int .i64 p, .int .i64 t, .int .i64 u] w1 (RetSE w1 U1 rG rD e0)) :
    Calls Try.prog 29 #[.agg #[.slice pg G.length cg, .slice qd G.length cd], .agg #[.int .i64 a, .int .i64 p, .int .i64 t, .int .i64 u]] w (RetSE w U rG rD e0) := by
  have HX := Lib.hid (show VS w U (.agg #[.slice pg G.length cg, .slice qd G.length cd]) G D from hv)
  have HC := Lib.hid hc
  have hb : decide (p < 0) = false := by simp; omega
  have hb2 : decide ((G.length : Int) ≤ p) = false := by simp; omega
  have hb3 : decide (u < 0) = false := by simp; omega
  have ha0 : (a == 0) = false := by rw [beq_eq_false_iff_ne]; omega
  have ha1 : (a == 1) = true := by rw [beq_iff_eq]; exact ha
  have hb4 : decide (t < 0) = false := by simp; omega
  have hb5 : decide ((G.length : Int) ≤ t) = false := by simp; omega
  have hb6 : (t == p) = false := by rw [beq_eq_false_iff_ne]; exact h5
  clear ha h5
  clear hv hc
  go_enter Try.func29, Try.ntmps29
  go_wp2_with fail
  generalize hW : (World.alloc _ _) = W
  have hWb : Below w.heap.size w W := by rw [← hW]; exact below3 w _ _ _
  have hB1 : Blk W w.heap.size 25 [.slice pg G.length cg, .slice qd G.length cd] := by rw [← hW]; exact ((Blk.new w 25 _).alloc _).alloc _
  have hB2 : Blk W (w.heap.size + 1) 40 [.int .i64 a, .int .i64 p, .int .i64 t, .int .i64 u] := by rw [← hW]; exact (Blk.new' _ 40 _ (by simp)).alloc _
  have hB3 : Blk W (w.heap.size + 1 + 1) 25 [.slice none 0 0, .slice none 0 0] := by rw [← hW]; exact Blk.new' _ 25 _ (by simp)
  have hsz : W.heap.size = w.heap.size + 3 := by rw [← hW]; simp
  obtain ⟨Na, hNa⟩ : ∃ N, w.heap.size = N := ⟨_, rfl⟩
  obtain ⟨Nb, hNb⟩ : ∃ N, Na + 1 = N := ⟨_, rfl⟩
  obtain ⟨R, hRe⟩ : ∃ N, Nb + 1 = N := ⟨_, rfl⟩
  rw [hNa] at hB1 hB2 hB3 ⊢
  rw [hNb] at hB2 hB3 ⊢
  rw [hRe] at hB3 ⊢
  have HRW := Lib.hid (show w.heap.size ≤ R ∧ R < W.heap.size by omega)
  have HB := Lib.hid hWb
  have HB1 := Lib.hid hB1
  have HB2 := Lib.hid hB2
  have HB3 := Lib.hid hB3
  have c0 := hB1.cell 0
  have c1 := hB1.cell 1
  have x0 := hB2.cell 0
  have x1 := hB2.cell 1
  have x2 := hB2.cell 2
  have x3 := hB2.cell 3
  have r0 := hB3.cell 0
  have r1 := hB3.cell 1
  have g0 := hB3.free 0
  have g1 := hB3.free 1
  have HWR := Lib.hid (fun (W3 : World) (hb3 : Below W.heap.size W W3) (a b : Value) => ((HB.out.trans (hb3.mono HB.out.size)).setCell (p := ⟨R, 0, none⟩) HRW.out.1 a).setCell (p := ⟨R, 1, none⟩) HRW.out.1 b)
  have HFR := Lib.hid (fun (W3 : World) (a b : Value) => ((Fr.refl (fun b => b = R) W3).set ⟨R, 0, none⟩ a (.inl rfl)).set ⟨R, 1, none⟩ b (.inl rfl))
  clear hW hNa hNb hRe hsz hWb hB1 hB2 hB3
  go_wp2_with fail
  refine (HC.out W (fun b => U b ∧ b < w.heap.size) ((VS.mono HX.out (fun b h1 h2 => ⟨h1, h2⟩)).kept HB.out)).mono ?_
  rintro e w1 ⟨v1, rfl, hv1, hb1⟩
  obtain ⟨p1, a1, q1, d1, rfl⟩ := hv1.shape
  have HV1 := Lib.hid hv1
  have HI := Lib.hid hb1
  have hB3 := HB3.out.kept hb1
  have r0 := hB3.cell 0
  have r1 := hB3.cell 1
  have g0 := hB3.free 0
  have g1 := hB3.free 1
  have HB4 := Lib.hid hB3
  clear hv1 hb1 hB3 c0 c1 x0 x1 x2 x3
  go_wp2_with fail
  try simp only [Exit.inBlock, Exit.then]
  have hZ := (HB4.out.set_ 0 (.slice p1 rG.length a1)).set_ 1 (.slice q1 rD.length d1)
  have HZD : Blk _ R 25 [.slice p1 rG.length a1, .slice q1 rD.length d1] := hZ
  refine bodyPost_ret (results_pair rfl _ _ R 25 _ (0, 0) _ _ (by rfl) HZD Try.underlying25 (by rfl) (by kernel_rfl) (by rfl)) rfl ?_
  refine ⟨_, rfl, (((HV1.out.fr (HFR.out _ _ _) (fun b hb e => ?_)).mono (fun b hb _ => ?_))), HWR.out _ HI.out _ _⟩
  · have h1 := HRW.out
    rcases hb with hb | hb
    · have := hb.2; omega
    · omega
  · rcases hb with hb | hb
    · exact Or.inl hb.1
    · exact Or.inr (Nat.le_trans HB.out.size hb)

theorem does_sell {w : World} {U : Nat → Prop} {G : List (List Int)} {D : List Int} (pg qd : Option Addr) (cg cd : Nat) (a p t u : Int) (hv : VS w U (.agg #[.slice pg G.length cg, .slice qd G.length cd]) G D) (h1 : 0 ≤ p) (h : p < (G.length : Int)) (h2 : 0 ≤ u) (ha0 : a ≠ 0) (ha1 : a ≠ 1) {rG : List (List Int)} {rD : List Int} {e0 : Int}
    (hc : ∀ w1 U1, VS w1 U1 (.agg #[.slice pg G.length cg, .slice qd G.length cd]) G D → Calls Try.prog 43 #[.agg #[.slice pg G.length cg, .slice qd G.length cd], .int .i64 p, .int .i64 (-1), .int .i64 u] w1 (RetSE w1 U1 rG rD e0)) :
    Calls Try.prog 29 #[.agg #[.slice pg G.length cg, .slice qd G.length cd], .agg #[.int .i64 a, .int .i64 p, .int .i64 t, .int .i64 u]] w (RetSE w U rG rD e0) := by
  have HX := Lib.hid (show VS w U (.agg #[.slice pg G.length cg, .slice qd G.length cd]) G D from hv)
  have HC := Lib.hid hc
  have hb : decide (p < 0) = false := by simp; omega
  have hb2 : decide ((G.length : Int) ≤ p) = false := by simp; omega
  have hb3 : decide (u < 0) = false := by simp; omega
  have ha0b : (a == 0) = false := by rw [beq_eq_false_iff_ne]; exact ha0
  have ha1b : (a == 1) = false := by rw [beq_eq_false_iff_ne]; exact ha1
  clear ha0 ha1
  clear hv hc
  go_enter Try.func29, Try.ntmps29
  go_wp2_with fail
  generalize hW : (World.alloc _ _) = W
  have hWb : Below w.heap.size w W := by rw [← hW]; exact below3 w _ _ _
  have hB1 : Blk W w.heap.size 25 [.slice pg G.length cg, .slice qd G.length cd] := by rw [← hW]; exact ((Blk.new w 25 _).alloc _).alloc _
  have hB2 : Blk W (w.heap.size + 1) 40 [.int .i64 a, .int .i64 p, .int .i64 t, .int .i64 u] := by rw [← hW]; exact (Blk.new' _ 40 _ (by simp)).alloc _
  have hB3 : Blk W (w.heap.size + 1 + 1) 25 [.slice none 0 0, .slice none 0 0] := by rw [← hW]; exact Blk.new' _ 25 _ (by simp)
  have hsz : W.heap.size = w.heap.size + 3 := by rw [← hW]; simp
  obtain ⟨Na, hNa⟩ : ∃ N, w.heap.size = N := ⟨_, rfl⟩
  obtain ⟨Nb, hNb⟩ : ∃ N, Na + 1 = N := ⟨_, rfl⟩
  obtain ⟨R, hRe⟩ : ∃ N, Nb + 1 = N := ⟨_, rfl⟩
  rw [hNa] at hB1 hB2 hB3 ⊢
  rw [hNb] at hB2 hB3 ⊢
  rw [hRe] at hB3 ⊢
  have HRW := Lib.hid (show w.heap.size ≤ R ∧ R < W.heap.size by omega)
  have HB := Lib.hid hWb
  have HB1 := Lib.hid hB1
  have HB2 := Lib.hid hB2
  have HB3 := Lib.hid hB3
  have c0 := hB1.cell 0
  have c1 := hB1.cell 1
  have x0 := hB2.cell 0
  have x1 := hB2.cell 1
  have x2 := hB2.cell 2
  have x3 := hB2.cell 3
  have r0 := hB3.cell 0
  have r1 := hB3.cell 1
  have g0 := hB3.free 0
  have g1 := hB3.free 1
  have HWR := Lib.hid (fun (W3 : World) (hb3 : Below W.heap.size W W3) (a b : Value) => ((HB.out.trans (hb3.mono HB.out.size)).setCell (p := ⟨R, 0, none⟩) HRW.out.1 a).setCell (p := ⟨R, 1, none⟩) HRW.out.1 b)
  have HFR := Lib.hid (fun (W3 : World) (a b : Value) => ((Fr.refl (fun b => b = R) W3).set ⟨R, 0, none⟩ a (.inl rfl)).set ⟨R, 1, none⟩ b (.inl rfl))
  clear hW hNa hNb hRe hsz hWb hB1 hB2 hB3
  go_wp2_with fail
  refine (HC.out W (fun b => U b ∧ b < w.heap.size) ((VS.mono HX.out (fun b h1 h2 => ⟨h1, h2⟩)).kept HB.out)).mono ?_
  rintro e w1 ⟨v1, rfl, hv1, hb1⟩
  obtain ⟨p1, a1, q1, d1, rfl⟩ := hv1.shape
  have HV1 := Lib.hid hv1
  have HI := Lib.hid hb1
  have hB3 := HB3.out.kept hb1
  have r0 := hB3.cell 0
  have r1 := hB3.cell 1
  have g0 := hB3.free 0
  have g1 := hB3.free 1
  have HB4 := Lib.hid hB3
  clear hv1 hb1 hB3 c0 c1 x0 x1 x2 x3
  go_wp2_with fail
  try simp only [Exit.inBlock, Exit.then]
  have hZ := (HB4.out.set_ 0 (.slice p1 rG.length a1)).set_ 1 (.slice q1 rD.length d1)
  have HZD : Blk _ R 25 [.slice p1 rG.length a1, .slice q1 rD.length d1] := hZ
  refine bodyPost_ret (results_pair rfl _ _ R 25 _ (0, 0) _ _ (by rfl) HZD Try.underlying25 (by rfl) (by kernel_rfl) (by rfl)) rfl ?_
  refine ⟨_, rfl, (((HV1.out.fr (HFR.out _ _ _) (fun b hb e => ?_)).mono (fun b hb _ => ?_))), HWR.out _ HI.out _ _⟩
  · have h1 := HRW.out
    rcases hb with hb | hb
    · have := hb.2; omega
    · omega
  · rcases hb with hb | hb
    · exact Or.inl hb.1
    · exact Or.inr (Nat.le_trans HB.out.size hb)

set_option maxHeartbeats 4000000 in
theorem does_rest {w : World} {U : Nat → Prop} {G : List (List Int)} {D : List Int} (pg qd : Option Addr) (cg cd : Nat) (a t u : Int) (i : Nat) (hv : VS w U (.agg #[.slice pg G.length cg, .slice qd G.length cd]) G D) (hS : Shape G D) (hi : i < G.length) (h2 : 0 ≤ u) (ha : a = 0) :
    Calls Try.prog 29 #[.agg #[.slice pg G.length cg, .slice qd G.length cd], .agg #[.int .i64 a, .int .i64 i, .int .i64 t, .int .i64 u]] w (RetSE w U (restG G i u) D (restE G i u)) := by
  obtain ⟨p, hp⟩ : ∃ p : Int, (i : Int) = p := ⟨_, rfl⟩
  have h1 : 0 ≤ (i : Int) := by omega
  have h : (i : Int) < (G.length : Int) := by omega
  have HX := Lib.hid (show VS w U (.agg #[.slice pg G.length cg, .slice qd G.length cd]) G D from hv)
  have hb : decide ((i : Int) < 0) = false := by simp
  have hb2 : decide (G.length ≤ i) = false := by simp; omega
  have hb3 : decide (u < 0) = false := by simp; omega
  have ha0 : (a == 0) = true := by rw [beq_iff_eq]; exact ha
  obtain ⟨p', a', q', d', he', hM, hR⟩ := hv.reads
  obtain ⟨rfl, rfl, rfl, rfl⟩ : pg = p' ∧ cg = a' ∧ qd = q' ∧ cd = d' := by
    simp at he'
    exact ⟨he'.1.1, he'.1.2, he'.2.1, he'.2.2.2⟩
  have HLD := Lib.hid hS.2.2.1
  have HSL := Lib.hid hS.len
  have HE := Lib.hid (show restE G i u = if 1099511627776 - ga G i i < u then 7 else 0 by rw [restE, if_pos ⟨(okP_iff _ _).2 ⟨h1, h⟩, h2⟩, Int.toNat_natCast])
  have HR2 := Lib.hid (show ∀ z, restE G i u = z → restG G i u = if z = 0 then gset G i i (ga G i i + u) else G from fun z hz => by rw [restG, hz, Int.toNat_natCast])
  obtain ⟨eE, heE⟩ : ∃ z, restE G i u = z := ⟨_, rfl⟩
  obtain ⟨rG, hrG⟩ : ∃ z, restG G i u = z := ⟨_, rfl⟩
  rw [heE, hrG]
  have HEE := Lib.hid heE
  have HRG := Lib.hid hrG
  have HM := Lib.hid hM
  have HRR := Lib.hid hR
  obtain ⟨b3, b4⟩ := hS.num.g i i
  have n1 := hS.1
  have n16 := hS.2.1
  clear heE hrG hS hM hR hv he' hp ha
  go_enter Try.func29, Try.ntmps29
  go_upto_region 6 with fail
  generalize hW : (World.alloc _ _) = W
  have hWb : Below w.heap.size w W := by rw [← hW]; exact below3 w _ _ _
  have hB1 : Blk W w.heap.size 25 [.slice pg G.length cg, .slice qd G.length cd] := by rw [← hW]; exact ((Blk.new w 25 _).alloc _).alloc _
  have hB2 : Blk W (w.heap.size + 1) 40 [.int .i64 a,   .int .i64 i, .int .i64 t, .int .i64 u] := by rw [← hW]; exact (Blk.new' _ 40 _ (by simp)).alloc _
  have hB3 : Blk W (w.heap.size + 1 + 1) 25 [.slice none 0 0, .slice none 0 0] := by rw [← hW]; exact Blk.new' _ 25 _ (by simp)
  have hsz : W.heap.size = w.heap.size + 3 := by rw [← hW]; simp
  obtain ⟨Na, hNa⟩ : ∃ N, w.heap.size = N := ⟨_, rfl⟩
  obtain ⟨Nb, hNb⟩ : ∃ N, Na + 1 = N := ⟨_, rfl⟩
  obtain ⟨R, hRe⟩ : ∃ N, Nb + 1 = N := ⟨_, rfl⟩
  rw [hNa] at hB1 hB2 hB3 ⊢
  rw [hNb] at hB2 hB3 ⊢
  rw [hRe] at hB3 ⊢
  have HRW := Lib.hid (show w.heap.size ≤ R ∧ R < W.heap.size by omega)
  have HB := Lib.hid hWb
  have HB1 := Lib.hid hB1
  have HB2 := Lib.hid hB2
  have HB3 := Lib.hid hB3
  have c0 := hB1.cell 0
  have c1 := hB1.cell 1
  have x0 := hB2.cell 0
  have x1 := hB2.cell 1
  have x2 := hB2.cell 2
  have x3 := hB2.cell 3
  have r0 := hB3.cell 0
  have r1 := hB3.cell 1
  have g0 := hB3.free 0
  have g1 := hB3.free 1
  have HWR := Lib.hid (fun (W3 : World) (hb3 : Below W.heap.size W W3) (a b : Value) => ((HB.out.trans (hb3.mono HB.out.size)).setCell (p := ⟨R, 0, none⟩) HRW.out.1 a).setCell (p := ⟨R, 1, none⟩) HRW.out.1 b)
  have HFR := Lib.hid (fun (W3 : World) (a b : Value) => ((Fr.refl (fun b => b = R) W3).set ⟨R, 0, none⟩ a (.inl rfl)).set ⟨R, 1, none⟩ b (.inl rfl))
  clear hW hNa hNb hRe hsz hWb hB1 hB2 hB3
  obtain ⟨b1, o1, q3, c2, rfl, l1, y1, ry⟩ := HM.out.at_ hi
  obtain ⟨b2, o2, rfl, l2, y2⟩ := ry.int (k := i) (by rw [HSL.out i hi]; exact hi)
  rw [← ga_at hi (by rw [HSL.out i hi]; exact hi)] at y2
  rw [HSL.out i hi] at y1
  have y1 := (HB.out.cell (p := ⟨b1, o1 + i, none⟩) l1).trans y1
  have y2 := (HB.out.cell (p := ⟨b2, o2 + i, none⟩) l2).trans y2
  have HOW := Lib.hid (own_any (w := W.drew) (some ⟨b1, o1, none⟩) qd cg cd (HM.out.kept HB.out.drew) (HRR.out.kept HB.out.drew) (by omega) (fun j hj => by rw [HSL.out j hj]; omega) (by rw [HLD.out]; omega))
  rw [HLD.out] at HOW
  obtain ⟨z, hz⟩ : ∃ z, ga G i i = z := ⟨_, rfl⟩
  have HZ := Lib.hid hz
  rw [hz] at y2 b3 b4 HE HR2
  clear hz ry
  have hwr : IntKind.i64.wrap (1099511627776 - z) = 1099511627776 - z := IntWalk.i64_in _ (by omega)
  refine wp_region_noPanic ?_
  refine wp_region_held_drew (S := fun w' => w'.cell? ⟨Nb, 3, none⟩ = some (.int .i64 u) ∧ w'.cell? ⟨Na, 0, none⟩ = some (.slice (some ⟨b1, o1, none⟩) G.length cg) ∧ w'.cell? ⟨Nb, 1, none⟩ = some (.int .i64 i) ∧ w'.cell? ⟨b1, o1 + i, none⟩ = some (.slice (some ⟨b2, o2, none⟩) G.length c2) ∧ w'.cell? ⟨b2, o2 + i, none⟩ = some (.int .i64 z)) (by kernel_rfl) (⟨x3, c0, x1, y1, y2⟩) (fun hHeld => ?_)
  refine wpAnyH_take (i := 0) (oi := ⟨some 30, _, _, _, _, _⟩) (v := ?_) rfl (by kernel_rfl) (by kernel_rfl) (by kernel_rfl) (fun _ _ _ h => h) (Or.inl ⟨by rfl, ?_⟩) hHeld ?_
  rotate_left
  · (intro w hSw; obtain ⟨s0, s1, s2, s3, s4⟩ := hSw; go_simp; try with_reducible rfl)
  try simp only [Act.put, List.setIfInBounds_toArray, List.set_cons_zero, List.set_cons_succ]
  refine wpAnyH_take (i := 1) (oi := ⟨some 31, _, _, _, _, _⟩) (v := ?_) rfl (by kernel_rfl) (by kernel_rfl) (by kernel_rfl) (fun _ _ _ h => h) (Or.inl ⟨by rfl, ?_⟩) hHeld ?_
  rotate_left
  · (intro w hSw; obtain ⟨s0, s1, s2, s3, s4⟩ := hSw; go_simp; try with_reducible rfl)
  try simp only [Act.put, List.setIfInBounds_toArray, List.set_cons_zero, List.set_cons_succ]
  refine wpAnyH_take (i := 2) (oi := ⟨some 32, _, _, _, _, _⟩) (v := ?_) rfl (by kernel_rfl) (by kernel_rfl) (by kernel_rfl) (fun _ _ _ h => h) (Or.inl ⟨by rfl, ?_⟩) hHeld ?_
  rotate_left
  · (intro w hSw; obtain ⟨s0, s1, s2, s3, s4⟩ := hSw; go_simp; try with_reducible rfl)
  try simp only [Act.put, List.setIfInBounds_toArray, List.set_cons_zero, List.set_cons_succ]
  refine wpAnyH_take (i := 3) (oi := ⟨some 33, _, _, _, _, _⟩) (v := ?_) rfl (by kernel_rfl) (by kernel_rfl) (by kernel_rfl) (fun _ _ _ h => h) (Or.inl ⟨by rfl, ?_⟩) hHeld ?_
  rotate_left
  · (intro w hSw; obtain ⟨s0, s1, s2, s3, s4⟩ := hSw; go_simp; try with_reducible rfl)
  try simp only [Act.put, List.setIfInBounds_toArray, List.set_cons_zero, List.set_cons_succ]
  refine wpAnyH_take (i := 4) (oi := ⟨some 34, _, _, _, _, _⟩) (v := ?_) rfl (by kernel_rfl) (by kernel_rfl) (by kernel_rfl) (fun _ _ _ h => h) (Or.inl ⟨by rfl, ?_⟩) hHeld ?_
  rotate_left
  · (intro w hSw; obtain ⟨s0, s1, s2, s3, s4⟩ := hSw; go_simp; try with_reducible rfl)
  try simp only [Act.put, List.setIfInBounds_toArray, List.set_cons_zero, List.set_cons_succ]
  refine wpAnyH_take (i := 5) (oi := ⟨some 35, _, _, _, _, _⟩) (v := ?_) rfl (by kernel_rfl) (by kernel_rfl) (by kernel_rfl) (fun _ _ _ h => h) (Or.inl ⟨by rfl, ?_⟩) hHeld ?_
  rotate_left
  · (intro w hSw; obtain ⟨s0, s1, s2, s3, s4⟩ := hSw; go_simp; try with_reducible rfl)
  try simp only [Act.put, List.setIfInBounds_toArray, List.set_cons_zero, List.set_cons_succ]
  refine wpAnyH_take (i := 6) (oi := ⟨some 36, _, _, _, _, _⟩) (v := ?_) rfl (by kernel_rfl) (by kernel_rfl) (by kernel_rfl) (fun _ _ _ h => h) (Or.inl ⟨by rfl, ?_⟩) hHeld ?_
  rotate_left
  · (intro w hSw; obtain ⟨s0, s1, s2, s3, s4⟩ := hSw; go_simp; try with_reducible rfl)
  try simp only [Act.put, List.setIfInBounds_toArray, List.set_cons_zero, List.set_cons_succ]
  refine wpAnyH_take (i := 7) (oi := ⟨some 37, _, _, _, _, _⟩) (v := ?_) rfl (by kernel_rfl) (by kernel_rfl) (by kernel_rfl) (fun _ _ _ h => h) (Or.inl ⟨by rfl, ?_⟩) hHeld ?_
  rotate_left
  · (intro w hSw; obtain ⟨s0, s1, s2, s3, s4⟩ := hSw; go_simp; try with_reducible rfl)
  try simp only [Act.put, List.setIfInBounds_toArray, List.set_cons_zero, List.set_cons_succ]
  refine wpAnyH_take (i := 8) (oi := ⟨some 38, _, _, _, _, _⟩) (v := ?_) rfl (by kernel_rfl) (by kernel_rfl) (by kernel_rfl) (fun _ _ _ h => h) (Or.inl ⟨by rfl, ?_⟩) hHeld ?_
  rotate_left
  · (intro w hSw; obtain ⟨s0, s1, s2, s3, s4⟩ := hSw; go_simp; try with_reducible rfl)
  try simp only [Act.put, List.setIfInBounds_toArray, List.set_cons_zero, List.set_cons_succ]
  refine wpAnyH_take (i := 9) (oi := ⟨some 39, _, _, _, _, _⟩) (v := ?_) rfl (by kernel_rfl) (by kernel_rfl) (by kernel_rfl) (fun _ _ _ h => h) (Or.inl ⟨by rfl, ?_⟩) hHeld ?_
  rotate_left
  · (intro w hSw; obtain ⟨s0, s1, s2, s3, s4⟩ := hSw; go_simp; try with_reducible rfl)
  try simp only [Act.put, List.setIfInBounds_toArray, List.set_cons_zero, List.set_cons_succ]
  refine wpAnyH_take (i := 10) (oi := ⟨some 40, _, _, _, _, _⟩) (v := ?_) rfl (by kernel_rfl) (by kernel_rfl) (by kernel_rfl) (fun _ _ _ h => h) (Or.inl ⟨by rfl, ?_⟩) hHeld ?_
  rotate_left
  · (intro w hSw; obtain ⟨s0, s1, s2, s3, s4⟩ := hSw; go_simp; try with_reducible rfl)
  try simp only [Act.put, List.setIfInBounds_toArray, List.set_cons_zero, List.set_cons_succ]
  refine wpAnyH_take (i := 11) (oi := ⟨some 41, _, _, _, _, _⟩) (v := ?_) rfl (by kernel_rfl) (by kernel_rfl) (by kernel_rfl) (fun _ _ _ h => h) (Or.inl ⟨by rfl, ?_⟩) hHeld ?_
  rotate_left
  · (intro w hSw; obtain ⟨s0, s1, s2, s3, s4⟩ := hSw; go_simp; try with_reducible rfl)
  try simp only [Act.put, List.setIfInBounds_toArray, List.set_cons_zero, List.set_cons_succ]
  refine wpAnyH_take (i := 12) (oi := ⟨some 42, _, _, _, _, _⟩) (v := ?_) rfl (by kernel_rfl) (by kernel_rfl) (by kernel_rfl) (fun _ _ _ h => h) (Or.inl ⟨by rfl, ?_⟩) hHeld ?_
  rotate_left
  · (intro w hSw; obtain ⟨s0, s1, s2, s3, s4⟩ := hSw; go_simp; try with_reducible rfl)
  try simp only [Act.put, List.setIfInBounds_toArray, List.set_cons_zero, List.set_cons_succ]
  refine wpAnyH_take (i := 13) (oi := ⟨some 43, _, _, _, _, _⟩) (v := ?_) rfl (by kernel_rfl) (by kernel_rfl) (by kernel_rfl) (fun _ _ _ h => h) (Or.inl ⟨by rfl, ?_⟩) hHeld ?_
  rotate_left
  · (intro w hSw; obtain ⟨s0, s1, s2, s3, s4⟩ := hSw; go_simp; try with_reducible rfl)
  try simp only [Act.put, List.setIfInBounds_toArray, List.set_cons_zero, List.set_cons_succ]
  refine wpAnyH_done (by kernel_rfl) ?_ _
  refine NoPanic.normal ?_
  clear y1 y2 hwr
  by_cases h7 : 1099511627776 - z < u
  · have e1 : eE = 7 := by rw [← HEE.out, HE.out, if_pos h7]
    have e2 := HR2.out 7 (HEE.out.trans e1)
    rw [if_neg (by decide), HRG.out] at e2
    have E1 := Lib.hid e1
    have E2 := Lib.hid e2
    have HI := Lib.hid (Below.refl W.heap.size W).drew
    clear e1 e2
    go_wp2_with fail
    try simp only [Exit.inBlock, Exit.then]
    have hZ := ((HB3.out.kept HI.out).set_ 0 (.slice (some ⟨b1, o1, none⟩) G.length cg)).set_ 1 (.slice qd G.length cd)
    have HZD : Blk _ R 25 [.slice (some ⟨b1, o1, none⟩) G.length cg, .slice qd G.length cd] := hZ
    have e1 := E1.out
    have e2 := E2.out
    subst e1 e2
    refine bodyPost_ret (results_pair rfl _ _ R 25 _ (0, 0) _ _ (by rfl) HZD Try.underlying25 (by rfl) (by kernel_rfl) (by rfl)) rfl ?_
    exact ⟨_, rfl, (HX.out.kept (HWR.out _ HI.out _ _)).or, HWR.out _ HI.out _ _⟩
  · have h7i : u ≤ 1099511627776 - z := by omega
    have h7b : decide (1099511627776 - z < u) = false := by simp; omega
    have e1 : eE = 0 := by rw [← HEE.out, HE.out, if_neg h7]
    have e2 := HR2.out 0 (HEE.out.trans e1)
    rw [if_pos rfl, HRG.out] at e2
    have E1 := Lib.hid e1
    have E2 := Lib.hid e2
    clear e1 e2 h7
    go_wp2_with fail
    refine HOW.out.mono ?_
    rintro e w1 ⟨v1, v2, vs, rfl, hOS, hb1'⟩
    have hb1 : Below W.heap.size W w1 := (Below.refl W.heap.size W).drew.trans hb1'
    obtain ⟨gb, gc, db, dc, rs, rfl, rfl, hO⟩ := hOS.blocks n1 HSL.out HLD.out
    clear hOS hb1'
    obtain ⟨r, cr, y1, y2, y3, hr, hr2⟩ := hO.atG hi
    have er : (rs[i]).1 = r := by rw [hr2]
    have y4 := y2.cell (i := i) (by rw [y3]; exact hi)
    rw [← ga_at hi (by rw [y3]; exact hi), HZ.out] at y4
    have f4 := y2.free i
    have hset := hO.setG hi hr hi (z + u)
    rw [er] at hset
    have hlo : W.heap.size ≤ r := by rw [← er]; exact hO.lo.2.2 _ (List.getElem_mem hr)
    have lr : r < w1.heap.size := y2.lt
    go_upto_region 9 with fail
    generalize hV : (World.alloc _ _) = V
    have hVb : Below w1.heap.size w1 V := by rw [← hV]; exact (Below.refl _ _).alloc (Nat.le_refl _) _
    have hBO : Blk V w1.heap.size 25 [.slice (some ⟨gb, 0, none⟩) G.length gc, .slice (some ⟨db, 0, none⟩) G.length dc] := by rw [← hV]; exact Blk.new w1 25 _
    obtain ⟨Ob, hOb⟩ : ∃ N, w1.heap.size = N := ⟨_, rfl⟩
    have HOb := Lib.hid hOb
    have y1 := (hVb.cell (p := ⟨gb, i, none⟩) (by obtain ⟨cs, h, _⟩ := hO.hG; exact h.lt)).trans y1
    have y4 := (hVb.cell (p := ⟨r, i, none⟩) lr).trans y4
    have f4 := (hVb.frozen (p := ⟨r, i, none⟩) lr).trans f4
    rw [hOb] at hBO lr ⊢
    have hne9 : r ≠ Ob := by omega
    have hne8 : Ob ≠ r := by omega
    have hrg : r ≠ gb := by rw [← er]; exact hO.neR hr hi
    have hbV := below_step hb1 hVb
    have hB1 := HB1.out.kept hbV
    have hB2 := HB2.out.kept hbV
    have hB3 := HB3.out.kept hbV
    have c0 := hBO.cell 0
    have c1 := hBO.cell 1
    have x1 := hB2.cell 1
    have x3 := hB2.cell 3
    have hne7 : R ≠ r := by have := HRW.out.2; omega
    have hne6 : r ≠ R := by omega
    have hne5 : R ≠ Ob := by have := HRW.out.2; omega
    have hne4 : Ob ≠ R := by omega
    have hsum : z + u ≤ 1099511627776 := by omega
    have hsum0 : 0 ≤ z + u := by omega
    have hwr : IntKind.i64.wrap (z + u) = z + u := IntWalk.i64_in _ (by omega)
    -- behind the store
    have hbS : Below W.heap.size W (V.setCell ⟨r, i, none⟩ (.int .i64 (z + u))).drew := (hbV.setCell (p := ⟨r, i, none⟩) hlo _).drew
    have hBOS : Blk (V.setCell ⟨r, i, none⟩ (.int .i64 (z + u))).drew Ob 25 [.slice (some ⟨gb, 0, none⟩) G.length gc, .slice (some ⟨db, 0, none⟩) G.length dc] := hBO.far (p := ⟨r, i, none⟩) hne8 _
    have K0 := Lib.hid (hBOS.cell 0)
    have K1 := Lib.hid ((HB2.out.kept hbS).cell 1)
    have K2 := Lib.hid (show ((V.setCell ⟨r, i, none⟩ (.int .i64 (z + u))).drew).cell? ⟨gb, i, none⟩ = some (.slice (some ⟨r, 0, none⟩) G.length cr) from (World.cell?_of_block (a := ⟨gb, i, none⟩) (Below.heap_setCell V ⟨r, i, none⟩ _ gb (fun e => hrg e.symm))).trans y1)
    have K3 := Lib.hid ((HB2.out.kept hbS).cell 3)
    have HBS := Lib.hid hbS
    have HBOS := Lib.hid hBOS
    have HB3S := Lib.hid (HB3.out.kept hbS)
    have HB3V := Lib.hid hB3
    have HBOV := Lib.hid hBO
    have hO2 := (hO.kept hVb).setG hi hr hi (z + u)
    rw [er] at hO2
    have HVAL := Lib.hid (hO2.kept (Below.refl _ _).drew).val
    clear hV hOb hVb hO hset hBO hB1 hB2 hB3 hb1 y2 y3 hr2 er hlo hbV hbS hBOS hO2 hr
    refine wp_region_noPanic ?_
    refine wp_region_held_drew (S := fun w' => w'.cell? ⟨Ob, 0, none⟩ = some (.slice (some ⟨gb, 0, none⟩) G.length gc) ∧ w'.cell? ⟨Nb, 1, none⟩ = some (.int .i64 i) ∧ w'.cell? ⟨gb, i, none⟩ = some (.slice (some ⟨r, 0, none⟩) G.length cr) ∧ w'.cell? ⟨Nb, 3, none⟩ = some (.int .i64 u)) (by kernel_rfl) (⟨c0, x1, y1, x3⟩) (fun hHeld => ?_)
    refine wpAnyH_take (i := 0) (oi := ⟨some 47, _, _, _, _, _⟩) (v := ?_) rfl (by kernel_rfl) (by kernel_rfl) (by kernel_rfl) (fun _ _ _ h => h) (Or.inl ⟨by rfl, ?_⟩) hHeld ?_
    rotate_left
    · (intro w hSw; obtain ⟨s0, s1, s2, s3⟩ := hSw; go_simp; try with_reducible rfl)
    try simp only [Act.put, List.setIfInBounds_toArray, List.set_cons_zero, List.set_cons_succ]
    refine wpAnyH_take (i := 1) (oi := ⟨some 48, _, _, _, _, _⟩) (v := ?_) rfl (by kernel_rfl) (by kernel_rfl) (by kernel_rfl) (fun _ _ _ h => h) (Or.inl ⟨by rfl, ?_⟩) hHeld ?_
    rotate_left
    · (intro w hSw; obtain ⟨s0, s1, s2, s3⟩ := hSw; go_simp; try with_reducible rfl)
    try simp only [Act.put, List.setIfInBounds_toArray, List.set_cons_zero, List.set_cons_succ]
    refine wpAnyH_take (i := 2) (oi := ⟨some 49, _, _, _, _, _⟩) (v := ?_) rfl (by kernel_rfl) (by kernel_rfl) (by kernel_rfl) (fun _ _ _ h => h) (Or.inl ⟨by rfl, ?_⟩) hHeld ?_
    rotate_left
    · (intro w hSw; obtain ⟨s0, s1, s2, s3⟩ := hSw; go_simp; try with_reducible rfl)
    try simp only [Act.put, List.setIfInBounds_toArray, List.set_cons_zero, List.set_cons_succ]
    refine wpAnyH_take (i := 3) (oi := ⟨some 50, _, _, _, _, _⟩) (v := ?_) rfl (by kernel_rfl) (by kernel_rfl) (by kernel_rfl) (fun _ _ _ h => h) (Or.inl ⟨by rfl, ?_⟩) hHeld ?_
    rotate_left
    · (intro w hSw; obtain ⟨s0, s1, s2, s3⟩ := hSw; go_simp; try with_reducible rfl)
    try simp only [Act.put, List.setIfInBounds_toArray, List.set_cons_zero, List.set_cons_succ]
    refine wpAnyH_take (i := 4) (oi := ⟨some 51, _, _, _, _, _⟩) (v := ?_) rfl (by kernel_rfl) (by kernel_rfl) (by kernel_rfl) (fun _ _ _ h => h) (Or.inl ⟨by rfl, ?_⟩) hHeld ?_
    rotate_left
    · (intro w hSw; obtain ⟨s0, s1, s2, s3⟩ := hSw; go_simp; try with_reducible rfl)
    try simp only [Act.put, List.setIfInBounds_toArray, List.set_cons_zero, List.set_cons_succ]
    refine wpAnyH_take (i := 5) (oi := ⟨some 52, _, _, _, _, _⟩) (v := ?_) rfl (by kernel_rfl) (by kernel_rfl) (by kernel_rfl) (fun _ _ _ h => h) (Or.inl ⟨by rfl, ?_⟩) hHeld ?_
    rotate_left
    · (intro w hSw; obtain ⟨s0, s1, s2, s3⟩ := hSw; go_simp; try with_reducible rfl)
    try simp only [Act.put, List.setIfInBounds_toArray, List.set_cons_zero, List.set_cons_succ]
    refine wpAnyH_take (i := 6) (oi := ⟨some 53, _, _, _, _, _⟩) (v := ?_) rfl (by kernel_rfl) (by kernel_rfl) (by kernel_rfl) (fun _ _ _ h => h) (Or.inl ⟨by rfl, ?_⟩) hHeld ?_
    rotate_left
    · (intro w hSw; obtain ⟨s0, s1, s2, s3⟩ := hSw; go_simp; try with_reducible rfl)
    try simp only [Act.put, List.setIfInBounds_toArray, List.set_cons_zero, List.set_cons_succ]
    refine wpAnyH_take (i := 7) (oi := ⟨some 54, _, _, _, _, _⟩) (v := ?_) rfl (by kernel_rfl) (by kernel_rfl) (by kernel_rfl) (fun _ _ _ h => h) (Or.inl ⟨by rfl, ?_⟩) hHeld ?_
    rotate_left
    · (intro w hSw; obtain ⟨s0, s1, s2, s3⟩ := hSw; go_simp; try with_reducible rfl)
    try simp only [Act.put, List.setIfInBounds_toArray, List.set_cons_zero, List.set_cons_succ]
    refine wpAnyH_take (i := 8) (oi := ⟨some 55, _, _, _, _, _⟩) (v := ?_) rfl (by kernel_rfl) (by kernel_rfl) (by kernel_rfl) (fun _ _ _ h => h) (Or.inl ⟨by rfl, ?_⟩) hHeld ?_
    rotate_left
    · (intro w hSw; obtain ⟨s0, s1, s2, s3⟩ := hSw; go_simp; try with_reducible rfl)
    try simp only [Act.put, List.setIfInBounds_toArray, List.set_cons_zero, List.set_cons_succ]
    refine wpAnyH_take (i := 9) (oi := ⟨some 56, _, _, _, _, _⟩) (v := ?_) rfl (by kernel_rfl) (by kernel_rfl) (by kernel_rfl) (fun _ _ _ h => h) (Or.inl ⟨by rfl, ?_⟩) hHeld ?_
    rotate_left
    · (intro w hSw; obtain ⟨s0, s1, s2, s3⟩ := hSw; go_simp; try with_reducible rfl)
    try simp only [Act.put, List.setIfInBounds_toArray, List.set_cons_zero, List.set_cons_succ]
    refine wpAnyH_take (i := 10) (oi := ⟨some 57, _, _, _, _, _⟩) (v := ?_) rfl (by kernel_rfl) (by kernel_rfl) (by kernel_rfl) (fun _ _ _ h => h) (Or.inl ⟨by rfl, ?_⟩) hHeld ?_
    rotate_left
    · (intro w hSw; obtain ⟨s0, s1, s2, s3⟩ := hSw; go_simp; try with_reducible rfl)
    try simp only [Act.put, List.setIfInBounds_toArray, List.set_cons_zero, List.set_cons_succ]
    refine wpAnyH_take (i := 11) (oi := ⟨some 58, _, _, _, _, _⟩) (v := ?_) rfl (by kernel_rfl) (by kernel_rfl) (by kernel_rfl) (fun _ _ _ h => h) (Or.inl ⟨by rfl, ?_⟩) hHeld ?_
    rotate_left
    · (intro w hSw; obtain ⟨s0, s1, s2, s3⟩ := hSw; go_simp; try with_reducible rfl)
    try simp only [Act.put, List.setIfInBounds_toArray, List.set_cons_zero, List.set_cons_succ]
    refine wpAnyH_take (i := 12) (oi := ⟨some 59, _, _, _, _, _⟩) (v := ?_) rfl (by kernel_rfl) (by kernel_rfl) (by kernel_rfl) (fun _ _ _ h => h) (Or.inl ⟨by rfl, ?_⟩) hHeld ?_
    rotate_left
    · (intro w hSw; obtain ⟨s0, s1, s2, s3⟩ := hSw; go_simp; try with_reducible rfl)
    try simp only [Act.put, List.setIfInBounds_toArray, List.set_cons_zero, List.set_cons_succ]
    refine wpAnyH_take (i := 13) (oi := ⟨some 60, _, _, _, _, _⟩) (v := ?_) rfl (by kernel_rfl) (by kernel_rfl) (by kernel_rfl) (fun _ _ _ h => h) (Or.inl ⟨by rfl, ?_⟩) hHeld ?_
    rotate_left
    · (intro w hSw; obtain ⟨s0, s1, s2, s3⟩ := hSw; go_simp; try with_reducible rfl)
    try simp only [Act.put, List.setIfInBounds_toArray, List.set_cons_zero, List.set_cons_succ]
    refine wpAnyH_take (i := 14) (oi := ⟨some 61, _, _, _, _, _⟩) (v := ?_) rfl (by kernel_rfl) (by kernel_rfl) (by kernel_rfl) (fun _ _ _ h => h) (Or.inl ⟨by rfl, ?_⟩) hHeld ?_
    rotate_left
    · (intro w hSw; obtain ⟨s0, s1, s2, s3⟩ := hSw; go_simp; try with_reducible rfl)
    try simp only [Act.put, List.setIfInBounds_toArray, List.set_cons_zero, List.set_cons_succ]
    refine wpAnyH_take (i := 15) (oi := ⟨some 62, _, _, _, _, _⟩) (v := ?_) rfl (by kernel_rfl) (by kernel_rfl) (by kernel_rfl) (fun _ _ _ h => h) (Or.inl ⟨by rfl, ?_⟩) hHeld ?_
    rotate_left
    · (intro w hSw; obtain ⟨s0, s1, s2, s3⟩ := hSw; go_simp; try with_reducible rfl)
    try simp only [Act.put, List.setIfInBounds_toArray, List.set_cons_zero, List.set_cons_succ]
    refine wpAnyH_take (i := 16) (oi := ⟨some 63, _, _, _, _, _⟩) (v := ?_) rfl (by kernel_rfl) (by kernel_rfl) (by kernel_rfl) (fun _ _ _ h => h) (Or.inl ⟨by rfl, ?_⟩) hHeld ?_
    rotate_left
    · (intro w hSw; obtain ⟨s0, s1, s2, s3⟩ := hSw; go_simp; try with_reducible rfl)
    try simp only [Act.put, List.setIfInBounds_toArray, List.set_cons_zero, List.set_cons_succ]
    refine wpAnyH_take (i := 18) (oi := ⟨some 65, _, _, _, _, _⟩) (v := ?_) rfl (by kernel_rfl) (by kernel_rfl) (by kernel_rfl) (fun _ _ _ h => h) (Or.inl ⟨by rfl, ?_⟩) hHeld ?_
    rotate_left
    · (intro w hSw; obtain ⟨s0, s1, s2, s3⟩ := hSw; go_simp; try with_reducible rfl)
    try simp only [Act.put, List.setIfInBounds_toArray, List.set_cons_zero, List.set_cons_succ]
    refine wpAnyH_take (i := 19) (oi := ⟨some 66, _, _, _, _, _⟩) (v := ?_) rfl (by kernel_rfl) (by kernel_rfl) (by kernel_rfl) (fun _ _ _ h => h) (Or.inl ⟨by rfl, ?_⟩) hHeld ?_
    rotate_left
    · (intro w hSw; obtain ⟨s0, s1, s2, s3⟩ := hSw; go_simp; try with_reducible rfl)
    try simp only [Act.put, List.setIfInBounds_toArray, List.set_cons_zero, List.set_cons_succ]
    refine wpAnyH_ready (rs := [17]) (by kernel_rfl) (by simp) ?_
    refine (AllReadyH.cons (o := ⟨some 64, _, _, _, _, _⟩) rfl (fun K hK => ?_) AllReadyH.nil)
    go_simp
    refine hK.out _ _ (⟨c0, x1, y1, x3⟩) (fun hHeld => ?_)
    clear hK K
    try simp only [Act.put, List.setIfInBounds_toArray, List.set_cons_zero, List.set_cons_succ]
    refine wpAnyH_take (i := 20) (oi := ⟨some 67, _, _, _, _, _⟩) (v := ?_) rfl (by kernel_rfl) (by kernel_rfl) (by kernel_rfl) (fun _ _ _ h => h) (Or.inl ⟨by rfl, ?_⟩) hHeld ?_
    rotate_left
    · (intro w hSw; obtain ⟨s0, s1, s2, s3⟩ := hSw; go_simp; try with_reducible rfl)
    try simp only [Act.put, List.setIfInBounds_toArray, List.set_cons_zero, List.set_cons_succ]
    refine wpAnyH_take (i := 21) (oi := ⟨some 68, _, _, _, _, _⟩) (v := ?_) rfl (by kernel_rfl) (by kernel_rfl) (by kernel_rfl) (fun _ _ _ h => h) (Or.inl ⟨by rfl, ?_⟩) hHeld ?_
    rotate_left
    · (intro w hSw; obtain ⟨s0, s1, s2, s3⟩ := hSw; go_simp; try with_reducible rfl)
    try simp only [Act.put, List.setIfInBounds_toArray, List.set_cons_zero, List.set_cons_succ]
    refine wpAnyH_ready (rs := [22]) (by kernel_rfl) (by simp) ?_
    refine (AllReadyH.cons (o := ⟨none, _, _, _, _, _⟩) rfl (fun K hK => ?_) AllReadyH.nil)
    go_simp
    refine hK.out _ _ (⟨K0.out, K1.out, K2.out, K3.out⟩) (fun hHeld => ?_)
    clear hK K
    try simp only [Act.put, List.setIfInBounds_toArray, List.set_cons_zero, List.set_cons_succ]
    refine wpAnyH_done (by kernel_rfl) ?_ _
    refine NoPanic.normal ?_
    clear y1 y4 f4 hwr c0 c1 x1 x3 K0 K1 K2 K3
    have c0 := HBOV.out.cell 0
    have c1 := HBOV.out.cell 1
    have r0 := HB3V.out.cell 0
    have r1 := HB3V.out.cell 1
    have g0 := HB3V.out.free 0
    have g1 := HB3V.out.free 1
    go_wp2_with fail
    try simp only [Exit.inBlock, Exit.then]
    have hZ := (HB3S.out.set_ 0 (.slice (some ⟨gb, 0, none⟩) G.length gc)).set_ 1 (.slice (some ⟨db, 0, none⟩) G.length dc)
    have HZD : Blk _ R 25 [.slice (some ⟨gb, 0, none⟩) G.length gc, .slice (some ⟨db, 0, none⟩) G.length dc] := hZ
    have e1 := E1.out
    have e2 := E2.out
    subst e1 e2
    refine bodyPost_ret (results_pair rfl _ _ R 25 _ (0, 0) _ _ (by rfl) HZD Try.underlying25 (by rfl) (by kernel_rfl) (by rfl)) rfl ?_
    have hval := HVAL.out
    rw [gset_len] at hval
    refine ⟨_, rfl, ((hval.fr (HFR.out _ _ _) (fun b hb e => ?_)).mono (fun b hb _ => Or.inr ?_)), HWR.out _ HBS.out _ _⟩
    · have := HRW.out.2; have : W.heap.size ≤ b := hb; omega
    · have := HB.out.size; have : W.heap.size ≤ b := hb; omega

/-! ### one call of the law -/
def actE (G : List (List Int)) (D : List Int) (x : Ac) : Int := if x.a = 0 then restE G x.p x.u else if x.a = 1 then giveE G D x.p x.t x.u else sellE G D x.p x.u
def actG (G : List (List Int)) (D : List Int) (x : Ac) : List (List Int) := if x.a = 0 then restG G x.p x.u else if x.a = 1 then giveG G D x.p x.t x.u else G
def actD (G : List (List Int)) (D : List Int) (x : Ac) : List Int := if x.a = 0 then D else if x.a = 1 then D else sellD G D x.p x.u
theorem act_bad {G : List (List Int)} {D : List Int} {x : Ac} (h : ¬ (okP G.length x.p = true ∧ 0 ≤ x.u)) : actE G D x = 2 ∧ actG G D x = G ∧ actD G D x = D := by
  have e1 : restE G x.p x.u = 2 := by rw [restE, if_neg h]
  have e2 : giveE G D x.p x.t x.u = 2 := by rw [giveE, if_neg (fun k => h ⟨k.1.1, k.2.1⟩)]
  have e3 : sellE G D x.p x.u = 2 := by rw [sellE, if_neg h]
  unfold actE actG actD restG giveG sellD
  rw [e1, e2, e3]
  refine ⟨?_, ?_, ?_⟩
  · split
    · rfl
    · split <;> rfl
  · split
    · rfl
    · split <;> rfl
  · split
    · rfl
    · split <;> rfl
theorem does_any {w : World} {U : Nat → Prop} {v : Value} {G : List (List Int)} {D : List Int} (x : Ac) (hv : VS w U v G D) (hS : Shape G D) :
    Calls Try.prog 29 #[v, .agg #[.int .i64 x.a, .int .i64 x.p, .int .i64 x.t, .int .i64 x.u]] w (RetSE w U (actG G D x) (actD G D x) (actE G D x)) := by
  obtain ⟨pg, cg, qd, cd, rfl⟩ := hv.shape
  rw [hS.2.2.1] at hv ⊢
  by_cases h : okP G.length x.p = true ∧ 0 ≤ x.u
  case neg =>
    obtain ⟨e1, e2, e3⟩ := act_bad (D := D) h
    rw [e1, e2, e3]
    by_cases h1 : 0 ≤ x.p
    · by_cases h2 : x.p < (G.length : Int)
      · exact does_neg pg qd cg cd x.a x.p x.t x.u hv h1 h2 (by
          have : ¬ 0 ≤ x.u := fun h3 => h ⟨(okP_iff _ _).2 ⟨h1, h2⟩, h3⟩
          omega)
      · exact does_high pg qd cg cd x.a x.p x.t x.u hv h1 (by omega)
    · exact does_low pg qd cg cd x.a x.p x.t x.u hv (by omega)
  obtain ⟨hp, h2⟩ := h
  obtain ⟨i, hpi, hi⟩ := okP_nat hp
  have h1 : 0 ≤ x.p := by omega
  have hl : x.p < (G.length : Int) := by omega
  by_cases ha : x.a = 0
  · have e1 : actE G D x = restE G x.p x.u := by rw [actE, if_pos ha]
    have e2 : actG G D x = restG G x.p x.u := by rw [actG, if_pos ha]
    have e3 : actD G D x = D := by rw [actD, if_pos ha]
    rw [e1, e2, e3, hpi]
    exact does_rest pg qd cg cd x.a x.t x.u i hv hS hi h2 ha
  by_cases ha1 : x.a = 1
  · have e1 : actE G D x = giveE G D x.p x.t x.u := by rw [actE, if_neg ha, if_pos ha1]
    have e2 : actG G D x = giveG G D x.p x.t x.u := by rw [actG, if_neg ha, if_pos ha1]
    have e3 : actD G D x = D := by rw [actD, if_neg ha, if_pos ha1]
    rw [e1, e2, e3]
    by_cases ht : okP G.length x.t = true ∧ x.p ≠ x.t
    · obtain ⟨k, htk, hk⟩ := okP_nat ht.1
      refine does_give pg qd cg cd x.a x.p x.t x.u hv h1 hl h2 ha1 (by omega) (by omega) (fun e => ht.2 e.symm) (fun w1 U1 hv1 => ?_)
      have hv2 : VS w1 U1 (.agg #[.slice pg G.length cg, .slice qd G.length cd]) G D := hv1
      rw [hpi, htk]
      exact spendsG i k hk x.u hv2 hS hi (by have := ht.2; omega) h2
    · have e4 : giveE G D x.p x.t x.u = 2 := by rw [giveE, if_neg (fun e => ht ⟨e.1.2, e.2.2⟩)]
      have e5 : giveG G D x.p x.t x.u = G := by rw [giveG, e4]; rfl
      rw [e4, e5]
      by_cases h3 : 0 ≤ x.t
      · by_cases h4 : x.t < (G.length : Int)
        · exact does_t2 pg qd cg cd x.a x.p x.t x.u hv h1 hl h2 ha1 h3 h4 (by
            by_cases e : x.t = x.p
            · exact e
            · exact absurd ⟨(okP_iff _ _).2 ⟨h3, h4⟩, fun e2 => e e2.symm⟩ ht)
        · exact does_t1 pg qd cg cd x.a x.p x.t x.u hv h1 hl h2 ha1 h3 (by omega)
      · exact does_t0 pg qd cg cd x.a x.p x.t x.u hv h1 hl h2 ha1 (by omega)
  · have e1 : actE G D x = sellE G D x.p x.u := by rw [actE, if_neg ha, if_neg ha1]
    have e2 : actG G D x = G := by rw [actG, if_neg ha, if_neg ha1]
    have e3 : actD G D x = sellD G D x.p x.u := by rw [actD, if_neg ha, if_neg ha1]
    rw [e1, e2, e3]
    refine does_sell pg qd cg cd x.a x.p x.t x.u hv h1 hl h2 ha ha1 (fun w1 U1 hv1 => ?_)
    rw [hpi]
    exact spendsD i x.u hv1 hS hi h2
set_option maxHeartbeats 1000000 in
theorem calls_any {w : World} {X : Nat} {S : Nat → Prop} {G : List (List Int)} {D : List Int} (x : Ac) (h : ST w X S G D) :
    Calls Try.prog 30 #[.pointer (some ⟨X, 0, none⟩), .agg #[.int .i64 x.a, .int .i64 x.p, .int .i64 x.t, .int .i64 x.u]] w fun e w' => e = .returned (.int .i64 (actE G D x)) ∧ StW w w' X S (actG G D x) (actD G D x) := by
  obtain ⟨a, p, t, u⟩ := x
  have HH := Lib.hid h
  clear h
  by_cases ha : a = 0
  · have e1 : actE G D ⟨a, p, t, u⟩ = restE G p u := by rw [actE, if_pos ha]
    have e2 : actG G D ⟨a, p, t, u⟩ = restG G p u := by rw [actG, if_pos ha]
    have e3 : actD G D ⟨a, p, t, u⟩ = D := by rw [actD, if_pos ha]
    rw [e1, e2, e3]
    have ha0 : (a == 0) = true := by rw [beq_iff_eq]; exact ha
    dsimp only
    clear e1 e2 e3 ha
    go_enter Try.func30, Try.ntmps30
    go_wp2_with fail
    generalize hW : (World.alloc _ _) = W
    have hWb : Below w.heap.size w W := by rw [← hW]; exact (Below.refl _ _).alloc (Nat.le_refl _) _
    have HWB := Lib.hid hWb
    clear hW
    refine (restock_any p u (HH.out.kept hWb)).mono ?_
    rintro e w2 ⟨rfl, hs⟩
    have HS := Lib.hid (StW.first hWb hs)
    clear hs hWb
    go_wp2_with fail
    go_ret
    exact ⟨rfl, HS.out⟩
  have ha0 : (a == 0) = false := by rw [beq_eq_false_iff_ne]; exact ha
  by_cases ha1 : a = 1
  · have e1 : actE G D ⟨a, p, t, u⟩ = giveE G D p t u := by rw [actE, if_neg ha, if_pos ha1]
    have e2 : actG G D ⟨a, p, t, u⟩ = giveG G D p t u := by rw [actG, if_neg ha, if_pos ha1]
    have e3 : actD G D ⟨a, p, t, u⟩ = D := by rw [actD, if_neg ha, if_pos ha1]
    rw [e1, e2, e3]
    have hb1 : (a == 1) = true := by rw [beq_iff_eq]; exact ha1
    dsimp only
    clear e1 e2 e3 ha ha1
    go_enter Try.func30, Try.ntmps30
    go_wp2_with fail
    generalize hW : (World.alloc _ _) = W
    have hWb : Below w.heap.size w W := by rw [← hW]; exact (Below.refl _ _).alloc (Nat.le_refl _) _
    clear hW
    refine (give_any p t u (HH.out.kept hWb)).mono ?_
    rintro e w2 ⟨rfl, hs⟩
    have HS := Lib.hid (StW.first hWb hs)
    clear hs hWb
    go_wp2_with fail
    go_ret
    exact ⟨rfl, HS.out⟩
  · have e1 : actE G D ⟨a, p, t, u⟩ = sellE G D p u := by rw [actE, if_neg ha, if_neg ha1]
    have e2 : actG G D ⟨a, p, t, u⟩ = G := by rw [actG, if_neg ha, if_neg ha1]
    have e3 : actD G D ⟨a, p, t, u⟩ = sellD G D p u := by rw [actD, if_neg ha, if_neg ha1]
    rw [e1, e2, e3]
    have hb1 : (a == 1) = false := by rw [beq_eq_false_iff_ne]; exact ha1
    dsimp only
    clear e1 e2 e3 ha ha1
    go_enter Try.func30, Try.ntmps30
    go_wp2_with fail
    generalize hW : (World.alloc _ _) = W
    have hWb : Below w.heap.size w W := by rw [← hW]; exact (Below.refl _ _).alloc (Nat.le_refl _) _
    clear hW
    refine (sell_any p u (HH.out.kept hWb)).mono ?_
    rintro e w2 ⟨rfl, hs⟩
    have HS := Lib.hid (StW.first hWb hs)
    clear hs hWb
    go_wp2_with fail
    go_ret
    exact ⟨rfl, HS.out⟩
end Go.Proofs.Ytdancoblphkakaa
