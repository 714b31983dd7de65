/- Worst and Fair. -/
import Derived.Test.YtfidnecdojgkjaaWaits
namespace Go.Proofs.Ytfidnecdojgkjaa
open Go.RowKit

theorem loadVar_one {P : Program} {w : World} {ty : TypeId} {k : IntKind} {a : Addr} {v : Value} (hu : P.underlying ty = some (.int k)) (hc : w.cell? a = some v) : (loadVar ty a).run P w = .ok v w := by
  simp [loadVar, isAgg, run_underlying hu, Result.andThen, hc]
theorem results_cct {P : Program} {fn : Func} {p q r : Tmp} {ty : TypeId} {k : IntKind} (h : fn.results = #[.cell p ty, .cell q ty, .tmp r]) (tmps : Array Value) (w : World) (a b : Addr) (x y z : Value) (hu : P.underlying ty = some (.int k))
    (hp : tmps.getD p undef = .pointer (some a)) (hq : tmps.getD q undef = .pointer (some b)) (hx : w.cell? a = some x) (hy : w.cell? b = some y) (hz : tmps.getD r undef = z) : (results fn tmps).run P w = .ok (.tuple #[x, y, z]) w := by
  subst hz
  have hp' : tmps[p]?.getD undef = .pointer (some a) := by simpa using hp
  have hq' : tmps[q]?.getD undef = .pointer (some b) := by simpa using hq
  simp [results, h, hp', hq', asAddr, loadVar_one hu hx, loadVar_one hu hy, Result.andThen]
theorem enters {f : FuncId} {fn : Func} {c : Code} (hf : Try.prog.funcs[f]? = some fn) (hname : (fn.name == "runtime.NumGoroutine") = false) (hb : fn.body = some c) (args : Array Value) (w : World) :
    (callFunc f args).run Try.prog w = .ok (.enter f args) w := by
  have h1 : fn.name ≠ "runtime.NumGoroutine" := by simpa using hname
  simp [callFunc, hf, h1, hb]

/-- The two boxes that a function made on the spot holds. -/
def Two (w : World) (g h : Nat) (x y : Int) : Prop := Blk w g 3 [.int .i64 x] ∧ Blk w h 3 [.int .i64 y]
theorem Two.same {w w' : World} {g h : Nat} {x y : Int} (t : Two w g h x y) (h1 : w'.heap[g]? = w.heap[g]?) (h2 : w'.heap[h]? = w.heap[h]?) : Two w' g h x y := ⟨t.1.same h1, t.2.same h2⟩
theorem worst1_any {w : World} {g h : Nat} (s : Int × Nat) (k : Nat) (x : Int) (n : Nat) (H : Two w g h s.2 s.1) (hgh : g ≠ h) :
    Calls Try.prog 37 #[.int .i64 k, .int .i64 x, .int .i64 n, .pointer (some ⟨g, 0, none⟩), .pointer (some ⟨h, 0, none⟩)] w fun e w' => e = .returned (.bool (fW s k x n).2) ∧ Two w' g h (fW s k x n).1.2 (fW s k x n).1.1 ∧ Fr (fun b => b = g ∨ b = h) w w' := by
  obtain ⟨t, m⟩ := s
  have c0 := H.1.cell 0
  have c1 := H.2.cell 0
  have f0 := H.1.free 0
  have f1 := H.2.free 0
  simp only [List.getElem?_cons_zero] at c0 c1
  have HH := Lib.hid H
  have hhg : h ≠ g := fun e => hgh e.symm
  by_cases hm : m < n
  · have hmi : (m : Int) < (n : Int) := by omega
    have HF := Lib.hid (show fW (t, m) k x n = ((x, n), true) by simp [fW, hm])
    rw [HF.out]
    clear H hm
    go_enter Try.func37, Try.ntmps37
    go_wp2_with fail
    go_ret
    refine ⟨rfl, ⟨?_, ?_⟩, ((Fr.refl _ _).set _ _ (.inl (.inr rfl))).set _ _ (.inl (.inl rfl))⟩
    · exact (HH.out.1.far (p := ⟨h, 0, none⟩) hgh _).set_ 0 _
    · exact (HH.out.2.set_ 0 _).far (p := ⟨g, 0, none⟩) hhg _
  · have hmi : decide (m < n) = false := by simp; omega
    have HF := Lib.hid (show fW (t, m) k x n = ((t, m), true) by simp [fW, hm])
    rw [HF.out]
    clear H hm
    go_enter Try.func37, Try.ntmps37
    go_wp2_with fail
    go_ret
    exact ⟨rfl, HH.out, Fr.refl _ _⟩
theorem fair1_any {w : World} {g h : Nat} (b : Int) (s : Int) (k : Nat) (x : Int) (n : Nat) (H : Two w g h b s) (hgh : g ≠ h) :
    Calls Try.prog 38 #[.int .i64 k, .int .i64 x, .int .i64 n, .pointer (some ⟨g, 0, none⟩), .pointer (some ⟨h, 0, none⟩)] w fun e w' => e = .returned (.bool (fF b s k x n).2) ∧ Two w' g h b (fF b s k x n).1 ∧ Fr (fun b => b = g ∨ b = h) w w' := by
  have c0 := H.1.cell 0
  have c1 := H.2.cell 0
  have f0 := H.1.free 0
  have f1 := H.2.free 0
  simp only [List.getElem?_cons_zero] at c0 c1
  have HH := Lib.hid H
  have hhg : h ≠ g := fun e => hgh e.symm
  by_cases hm : b ≤ (n : Int)
  · have HF := Lib.hid (show fF b s k x n = ((k : Int), decide ((k : Int) < 0)) by simp [fF, hm])
    rw [HF.out]
    clear H
    go_enter Try.func38, Try.ntmps38
    go_wp2_with fail
    go_ret
    exact ⟨rfl, ⟨HH.out.1.far (p := ⟨h, 0, none⟩) hgh _, HH.out.2.set_ 0 _⟩, (Fr.refl _ _).set _ _ (.inl (.inr rfl))⟩
  · have hmi : decide (b ≤ (n : Int)) = false := by simp; omega
    have HF := Lib.hid (show fF b s k x n = (s, decide (s < 0)) by simp [fF, hm])
    rw [HF.out]
    clear H hm
    go_enter Try.func38, Try.ntmps38
    go_wp2_with fail
    go_ret
    exact ⟨rfl, HH.out, Fr.refl _ _⟩
def woT (T : List Tn) : Int := if runE T = 0 then (worstF T).1 else 0
def woN (T : List Tn) : Int := if runE T = 0 then (worstF T).2 else 0
set_option maxRecDepth 100000 in
theorem worst_any {w : World} (p : Option Addr) (c : Nat) (l : List Tp) (h : TR w w.heap.size p l) (hl : l.length ≤ 1000000) :
    Calls Try.prog 23 #[.slice p l.length c] w fun e w' => e = .returned (.tuple #[.int .i64 (woT (l.map Tp.tn)), .int .i64 (woN (l.map Tp.tn)), .int .i64 (runE (l.map Tp.tn))]) ∧ Below w.heap.size w w' := by
  obtain ⟨T, hT⟩ : ∃ T, l.map Tp.tn = T := ⟨_, rfl⟩
  obtain ⟨wa, hwa⟩ : ∃ wa, (w.alloc (.cells #[.int .i64 0] 3)).alloc (.cells #[.int .i64 0] 3) = wa := ⟨_, rfl⟩
  have hB0 : Below w.heap.size w wa := by rw [← hwa]; exact ((Below.refl _ _).alloc (Nat.le_refl _) _).alloc (by simp) _
  have hZ : wa.heap.size = w.heap.size + 2 := by rw [← hwa]; simp
  have HT2 := Lib.hid (show Two wa (w.heap.size + 1) w.heap.size 0 0 by rw [← hwa]; exact ⟨Blk.new' _ 3 _ (by simp), (Blk.new w 3 _).alloc _⟩)
  have HVd := Lib.hid (valid_any p c l (h.kept hB0) hl)
  have HOK := Lib.hid (fun (he : runE T = 0) (x : Tp) (hx : x ∈ l) => enB_range ((runE_zero he).2 x.tn (by rw [← hT]; exact List.mem_map_of_mem hx)).1)
  have HWt := Lib.hid (fun (he : runE T = 0) (w1 : World) (hb : Below wa.heap.size wa w1) => waits_any fW (0, 0) (fun s w' => Two w' (w.heap.size + 1) w.heap.size s.2 s.1) (fun b => b = w.heap.size + 1 ∨ b = w.heap.size) 37 (.pointer (some ⟨w.heap.size + 1, 0, none⟩)) (.pointer (some ⟨w.heap.size, 0, none⟩)) w.heap.size (w := w1) p c l
    (h.below (Below.trans hB0 (hb.mono hB0.size))) (Nat.le_trans hB0.size hb.size) (fun b hb' => by have := hb.size; omega) hl (HOK.out he) (HT2.out.same (hb.block _ (by omega)) (hb.block _ (by omega)))
    (fun args w => enters Try.func37 rfl rfl args w) (fun s w1 w2 h1 h2 => h1.same (h2 _ (.inl rfl)) (h2 _ (.inr rfl)))
    (fun s w1 k x n h1 _ _ => worst1_any s k x n h1 (by omega)))
  rw [hT] at HVd HWt ⊢
  have HU := Lib.hid hwa
  have HB0 := Lib.hid hB0
  have HZZ := Lib.hid hZ
  have HLT := Lib.hid (show wa.heap.size ≤ wa.heap.size from Nat.le_refl _)
  rw [show waitF fW (0, 0) T = (worstF T, true) from waitF_W T] at HWt
  have HE1 := Lib.hid (show runE T = 0 → woT T = (worstF T).1 ∧ woN T = (worstF T).2 from fun h => ⟨if_pos h, if_pos h⟩)
  have HE2 := Lib.hid (show runE T ≠ 0 → woT T = 0 ∧ woN T = 0 from fun h => ⟨if_neg h, if_neg h⟩)
  generalize woT T = rT at *
  generalize woN T = rN at *
  obtain ⟨t0, n0⟩ := worstF T
  generalize runE T = r at *
  generalize l.length = n at *
  clear h hT hB0 hZ hl HOK
  by_cases hr : r = 0
  · subst hr
    obtain ⟨e1, e2⟩ := HE1.out rfl
    try simp only at e1 e2
    subst e1 e2
    have HW := Lib.hid (HWt.out rfl)
    clear HWt HE1 HE2
    go_enter Try.func23, Try.ntmps23
    go_wp2_with fail
    refine HVd.out.mono ?_
    rintro e w1 ⟨rfl, hb1⟩
    have HB1 := Lib.hid hb1
    clear hb1
    go_wp2_with fail
    refine (HW.out w1 HB1.out).mono ?_
    rintro e w2 ⟨rfl, ht2, hf2⟩
    have HT3 := Lib.hid ht2
    have HF2 := Lib.hid hf2
    have c0 := ht2.1.cell 0
    have c1 := ht2.2.cell 0
    have f0 := ht2.1.free 0
    have f1 := ht2.2.free 0
    simp only [List.getElem?_cons_zero] at c0 c1
    clear ht2 hf2 hwa
    go_wp2_with fail
    go_region
    go_wp2_with fail
    try simp only [Exit.inBlock, Exit.then]
    have k1 := ((HT3.out.2.set_ 0 (.int .i64 (worstF T).1)).far (p := ⟨w.heap.size + 1, 0, none⟩) (by simp) (.int .i64 (worstF T).2)).cell 0
    have k2 := ((HT3.out.1.far (p := ⟨w.heap.size, 0, none⟩) (by simp) (.int .i64 (worstF T).1)).set_ 0 (.int .i64 (worstF T).2)).cell 0
    simp only [List.set_cons_zero, List.getElem?_cons_zero] at k1 k2
    refine bodyPost_ret (results_cct (k := .i64) rfl _ _ ⟨w.heap.size, 0, none⟩ ⟨w.heap.size + 1, 0, none⟩ _ _ _ Try.underlying3 rfl rfl k1 k2 rfl) rfl ?_
    refine ⟨rfl, ?_⟩
    have hB1 := below_step HB0.out HB1.out
    have hF := (((HF2.out.set ⟨w.heap.size, 0, none⟩ (.int .i64 (worstF T).1) (.inl (.inr rfl))).set ⟨w.heap.size + 1, 0, none⟩ (.int .i64 (worstF T).2) (.inl (.inl rfl)))).drew
    exact Fr.below hB1 hF (fun b hb => by omega)
  · have hr2 : (r == 0) = false := by simpa using hr
    obtain ⟨e1, e2⟩ := HE2.out hr
    subst e1 e2
    have HRR := Lib.hid hr
    clear HWt HE1 HE2 hr
    go_enter Try.func23, Try.ntmps23
    go_wp2_with fail
    refine HVd.out.mono ?_
    rintro e w1 ⟨rfl, hb1⟩
    have HB1 := Lib.hid hb1
    have HT3 := Lib.hid (HT2.out.same (hb1.block (w.heap.size + 1) (by have := HZZ.out; omega)) (hb1.block w.heap.size (by have := HZZ.out; omega)))
    have f0 := HT3.out.1.free 0
    have f1 := HT3.out.2.free 0
    have c0 := HT3.out.1.cell 0
    have c1 := HT3.out.2.cell 0
    simp only [List.getElem?_cons_zero] at c0 c1
    clear hb1 hwa
    go_wp2_with fail
    try simp only [Exit.inBlock, Exit.then]
    have k1 := ((HT3.out.2.set_ 0 (.int .i64 0)).far (p := ⟨w.heap.size + 1, 0, none⟩) (by simp) (.int .i64 0)).cell 0
    have k2 := ((HT3.out.1.far (p := ⟨w.heap.size, 0, none⟩) (by simp) (.int .i64 0)).set_ 0 (.int .i64 0)).cell 0
    simp only [List.set_cons_zero, List.getElem?_cons_zero] at k1 k2
    refine bodyPost_ret (results_cct (k := .i64) rfl _ _ ⟨w.heap.size, 0, none⟩ ⟨w.heap.size + 1, 0, none⟩ _ _ _ Try.underlying3 rfl rfl k1 k2 rfl) rfl ?_
    refine ⟨rfl, ?_⟩
    have hF := (((Fr.refl (fun b => b = w.heap.size + 1 ∨ b = w.heap.size) w1).set ⟨w.heap.size, 0, none⟩ (.int .i64 0) (.inl (.inr rfl))).set ⟨w.heap.size + 1, 0, none⟩ (.int .i64 0) (.inl (.inl rfl)))
    exact Fr.below (below_step HB0.out HB1.out) hF (fun b hb => by omega)
/-- What Fair returns. -/
def faE (T : List Tn) (b : Int) : Int := if runE T = 0 then (if b < 1 then 2 else 0) else runE T
def faI (T : List Tn) (b : Int) : Int := if runE T = 0 then (if b < 1 then 0 else fairF T b) else 0
set_option maxRecDepth 100000 in
theorem fair_any {w : World} (p : Option Addr) (c : Nat) (l : List Tp) (b : Int) (h : TR w w.heap.size p l) (hl : l.length ≤ 1000000) :
    Calls Try.prog 24 #[.slice p l.length c, .int .i64 b] w fun e w' => e = .returned (.tuple #[.int .i64 (faI (l.map Tp.tn) b), .int .i64 (faE (l.map Tp.tn) b)]) ∧ Below w.heap.size w w' := by
  obtain ⟨T, hT⟩ : ∃ T, l.map Tp.tn = T := ⟨_, rfl⟩
  obtain ⟨wa, hwa⟩ : ∃ wa, w.alloc (.cells #[.int .i64 b] 3) = wa := ⟨_, rfl⟩
  have hB0 : Below w.heap.size w wa := by rw [← hwa]; exact (Below.refl _ _).alloc (Nat.le_refl _) _
  have hZ : wa.heap.size = w.heap.size + 1 := by rw [← hwa]; simp
  have HX := Lib.hid (show Blk wa w.heap.size 3 [.int .i64 b] by rw [← hwa]; exact Blk.new w 3 _)
  have HVd := Lib.hid (valid_any p c l (h.kept hB0) hl)
  have HOK := Lib.hid (fun (he : runE T = 0) (x : Tp) (hx : x ∈ l) => enB_range ((runE_zero he).2 x.tn (by rw [← hT]; exact List.mem_map_of_mem hx)).1)
  have HWt := Lib.hid (fun (he : runE T = 0) (w1 : World) (g : Nat) (hb : Below wa.heap.size wa w1) (hg : wa.heap.size ≤ g) (hg2 : Blk w1 g 3 [.int .i64 (-1)]) => waits_any (fF b) (-1) (fun s w' => Two w' w.heap.size g b s) (fun b => b = w.heap.size ∨ b = g) 38 (.pointer (some ⟨w.heap.size, 0, none⟩)) (.pointer (some ⟨g, 0, none⟩)) w.heap.size (w := w1) p c l
    (h.below (Below.trans hB0 (hb.mono hB0.size))) (Nat.le_trans hB0.size hb.size) (fun b hb' => by have := hb.size; have := hg2.lt; omega) hl (HOK.out he) ⟨HX.out.kept hb, hg2⟩
    (fun args w => enters Try.func38 rfl rfl args w) (fun s w1 w2 h1 h2 => h1.same (h2 _ (.inl rfl)) (h2 _ (.inr rfl)))
    (fun s w1 k x n h1 _ _ => fair1_any b s k x n h1 (by omega)))
  rw [hT] at HVd HWt ⊢
  have HU := Lib.hid hwa
  have HB0 := Lib.hid hB0
  have HZZ := Lib.hid hZ
  have HFF := Lib.hid (fun (hb : 1 ≤ b) => waitF_F (T := T) hb)
  have HE1 := Lib.hid (show runE T ≠ 0 → faI T b = 0 ∧ faE T b = runE T from fun h => ⟨if_neg h, if_neg h⟩)
  have HE2 := Lib.hid (show runE T = 0 → b < 1 → faI T b = 0 ∧ faE T b = 2 from fun h hb => ⟨(if_pos h).trans (if_pos hb), (if_pos h).trans (if_pos hb)⟩)
  have HE3 := Lib.hid (show runE T = 0 → ¬ b < 1 → faI T b = fairF T b ∧ faE T b = 0 from fun h hb => ⟨(if_pos h).trans (if_neg hb), (if_pos h).trans (if_neg hb)⟩)
  generalize faI T b = rI at *
  generalize faE T b = rE at *
  generalize fairF T b = F at *
  generalize runE T = r at *
  generalize l.length = n at *
  have c0 := HX.out.cell 0
  simp only [List.getElem?_cons_zero] at c0
  clear h hT hB0 hZ hl HOK
  by_cases hr : r = 0
  · subst hr
    by_cases hb : b < 1
    · obtain ⟨e1, e2⟩ := HE2.out rfl hb
      subst e1 e2
      clear HWt HE1 HE2 HE3 HFF
      go_enter Try.func24, Try.ntmps24
      go_wp2_with fail
      refine HVd.out.mono ?_
      rintro e w1 ⟨rfl, hb1⟩
      have HB1 := Lib.hid hb1
      have c1 := (HX.out.kept hb1).cell 0
      simp only [List.getElem?_cons_zero] at c1
      clear hb1 hwa
      go_wp2_with fail
      go_ret2
      exact ⟨rfl, below_step HB0.out HB1.out⟩
    · have hb2 : decide (b < 1) = false := by simpa using hb
      obtain ⟨e1, e2⟩ := HE3.out rfl hb
      subst e1 e2
      have HF1 := Lib.hid (HFF.out (by omega))
      have HW := Lib.hid (HWt.out rfl)
      clear HWt HE1 HE2 HE3 HFF hb
      go_enter Try.func24, Try.ntmps24
      go_wp2_with fail
      refine HVd.out.mono ?_
      rintro e w1 ⟨rfl, hb1⟩
      have HB1 := Lib.hid hb1
      have c1 := (HX.out.kept hb1).cell 0
      simp only [List.getElem?_cons_zero] at c1
      clear hb1 hwa
      go_wp2_with fail
      refine (HW.out _ w1.heap.size (HB1.out.alloc HB1.out.size _) HB1.out.size (Blk.new w1 3 _)).mono ?_
      rintro e w2 ⟨rfl, ht2, hf2⟩
      have c2 := ht2.2.cell 0
      rw [HF1.out] at c2
      simp only [List.getElem?_cons_zero] at c2
      have HF2 := Lib.hid hf2
      clear ht2 hf2
      go_wp2_with fail
      go_ret2
      refine ⟨rfl, ?_⟩
      exact Fr.below (below_step HB0.out (HB1.out.alloc HB1.out.size _)) HF2.out (fun b hb => by have := HB1.out.size; have := HZZ.out; omega)
  · have hr2 : (r == 0) = false := by simpa using hr
    obtain ⟨e1, e2⟩ := HE1.out hr
    subst e1 e2
    clear HWt HE1 HE2 HE3 HFF hr
    go_enter Try.func24, Try.ntmps24
    go_wp2_with fail
    refine HVd.out.mono ?_
    rintro e w1 ⟨rfl, hb1⟩
    have HB1 := Lib.hid hb1
    clear hb1 hwa
    go_wp2_with fail
    go_ret2
    exact ⟨rfl, below_step HB0.out HB1.out⟩
end Go.Proofs.Ytfidnecdojgkjaa
