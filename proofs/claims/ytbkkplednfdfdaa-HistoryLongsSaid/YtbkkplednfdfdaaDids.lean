/- Steps without lists (bare), in memory; what a call and an answer are copied to. -/
import Derived.Test.YtbkkplednfdfdaaEvsA
namespace Go.Proofs.Ytbkkplednfdfdaa
open Go.RowKit
set_option linter.unusedVariables false

/-- A step whose call and answer hold no lists. -/
structure Dd where
  task : Int
  step : Int
  stripe : Int
  waits : Bool
  next : Int
  made : Bool
  op : Int
  key : ByteArray
  oth : ByteArray
  item : ByteArray
  qty : Int
  aop : Int
  aerr : Int
  acnt : Int
def Dd.cells (d : Dd) : List Value := [.int .i64 d.task, .int .i64 d.step, .int .i64 d.stripe, .bool d.waits, .int .i64 d.next, .slice none 0 0, .bool d.made, .int .i64 d.op, .string d.key, .string d.oth, .string d.item, .int .i64 d.qty, .slice none 0 0, .int .i64 d.aop, .int .i64 d.aerr, .int .i64 d.acnt, .slice none 0 0, .slice none 0 0]
def dds (l : List Dd) : List Value := l.flatMap Dd.cells
theorem dds_cons (m : Dd) (l : List Dd) : dds (m :: l) = m.cells ++ dds l := rfl
theorem dds_len : ∀ l : List Dd, (dds l).length = l.length * 18
  | [] => rfl
  | m :: l => by rw [dds_cons, List.length_append, dds_len l]; simp only [Dd.cells, List.length_cons, List.length_nil]; omega
theorem dds_at : ∀ (l : List Dd) (k : Nat) (h : k < l.length) (i : Nat) (hi : i < 18), (dds l)[k * 18 + i]? = (l[k]).cells[i]?
  | m :: l, 0, _, i, hi => by
    rw [dds_cons, List.getElem?_append_left (by simp only [Dd.cells, List.length_cons, List.length_nil]; omega)]
    simp
  | m :: l, k + 1, h, i, hi => by
    rw [dds_cons, List.getElem?_append_right (by simp only [Dd.cells, List.length_cons, List.length_nil]; omega)]
    have := dds_at l k (by simpa using h) i hi
    rw [show (k + 1) * 18 + i - m.cells.length = k * 18 + i by simp only [Dd.cells, List.length_cons, List.length_nil]; omega, this]
    simp
theorem dds_rd {w : World} {B : Nat} {p : Option Addr} {l : List Dd} (h : Rd w B p (dds l)) {k : Nat} (hk : k < l.length) :
    ∃ b o, p = some ⟨b, o, none⟩ ∧ b < B ∧ ∀ i u, (l[k]).cells[i]? = some u → w.cell? ⟨b, o + k * 18 + i, none⟩ = some u := by
  obtain ⟨b, o, hp, hb, _, hc⟩ := h.at_ (k := k * 18) (by rw [dds_len]; omega)
  refine ⟨b, o, hp, hb, fun i u hu => ?_⟩
  have hi : i < 18 := by
    have := (List.getElem?_eq_some_iff.1 hu).1
    simpa [Dd.cells] using this
  have := hc (k * 18 + i) u (by rw [dds_at l k hk i hi]; exact hu)
  rw [Nat.add_assoc]
  exact this
theorem Blk.got {w : World} {g : Nat} {t : TypeId} {cs : List Value} (h : Blk w g t cs) (i : Nat) (u : Value) (hu : cs[i]? = some u) : w.cell? ⟨g, i, none⟩ = some u := by rw [h.cell]; exact hu

/-! ### copies -/
theorem clone41_nil (w : World) : Calls Try.prog 41 #[.slice none 0 0] w fun e w' => e = .returned (.slice none 0 0) ∧ w' = w := by
  have he := fun w => Lib.run_eql_slice_nil (P := Try.prog) w 37 5 none 0 0 0 0 Try.underlying37
  go_enter Try.func41, Try.ntmps41
  go_wp2_with fail
  go_ret
  exact ⟨rfl, rfl⟩
theorem clone42_nil (w : World) : Calls Try.prog 42 #[.slice none 0 0] w fun e w' => e = .returned (.slice none 0 0) ∧ w' = w := by
  have he := fun w => Lib.run_eql_slice_nil (P := Try.prog) w 33 43 none 0 0 0 0 Try.underlying33
  go_enter Try.func42, Try.ntmps42
  go_wp2_with fail
  go_ret
  exact ⟨rfl, rfl⟩
theorem clone43_nil (w : World) : Calls Try.prog 43 #[.slice none 0 0] w fun e w' => e = .returned (.slice none 0 0) ∧ w' = w := by
  have he := fun w => Lib.run_eql_slice_nil (P := Try.prog) w 34 37 none 0 0 0 0 Try.underlying34
  go_enter Try.func43, Try.ntmps43
  go_wp2_with fail
  go_ret
  exact ⟨rfl, rfl⟩
theorem results_cell_row {P : Program} {fn : Func} {p : Tmp} {ty : TypeId} (h : fn.results = #[.cell p ty]) (tmps : Array Value) (w : World) (g : Nat) (t : TypeId) (cs : Array Value) (fr : Nat × Nat) (d : TypeDesc)
    (hp : tmps.getD p undef = .pointer (some ⟨g, 0, none⟩)) (hg : w.heap[g]? = some (.cells cs t fr)) (hu : P.underlying ty = some d) (hd : (match d with | .struct _ | .array _ _ => true | _ => false) = true) (hi : (P.info? ty).map (·.size) = some cs.size) :
    (results fn tmps).run P w = .ok (.agg cs) w := by
  have hp' : tmps[p]?.getD undef = .pointer (some ⟨g, 0, none⟩) := by simpa using hp
  simp [results, h, hp', asAddr, run_loadVar_row w g t ty cs fr d hg hu hd hi]
set_option maxRecDepth 100000 in
theorem call_any (w : World) (op : Int) (key oth item : ByteArray) (qty : Int) :
    Calls Try.prog 39 #[.agg #[.int .i64 op, .string key, .string oth, .string item, .int .i64 qty, .slice none 0 0]] w fun e w' => e = .returned (.agg #[.int .i64 op, .string key, .string oth, .string item, .int .i64 qty, .slice none 0 0]) ∧ Below w.heap.size w w' := by
  have HC := Lib.hid clone41_nil
  go_enter Try.func39, Try.ntmps39
  go_wp2_with fail
  refine (HC.out _).mono ?_
  rintro e w1 ⟨rfl, rfl⟩
  go_wp2_with fail
  try simp only [Exit.inBlock, Exit.then]
  have hZ := Blk.new' (n := w.heap.size + 1) (w.alloc (.cells #[.int .i64 op, .string key, .string oth, .string item, .int .i64 qty, .slice none 0 0] 39)) 39 [.int .i64 op, .string key, .string oth, .string item, .int .i64 qty, .slice none 0 0] (by simp)
  refine bodyPost_ret (results_cell_row rfl _ _ (w.heap.size + 1) 39 _ (0, 0) _ (by rfl) hZ Try.underlying39 (by rfl) (by kernel_rfl)) rfl ?_
  exact ⟨rfl, below_al (below_al (Below.refl _ _) _) _⟩
set_option maxRecDepth 100000 in
theorem answer_any (w : World) (op err cnt : Int) :
    Calls Try.prog 40 #[.agg #[.int .i64 op, .int .i64 err, .int .i64 cnt, .slice none 0 0, .slice none 0 0]] w fun e w' => e = .returned (.agg #[.int .i64 op, .int .i64 err, .int .i64 cnt, .slice none 0 0, .slice none 0 0]) ∧ Below w.heap.size w w' := by
  have HC := Lib.hid clone42_nil
  have HD := Lib.hid clone43_nil
  go_enter Try.func40, Try.ntmps40
  go_upto_region 1 with fail
  have HA := Lib.hid (show Blk ((w.alloc (.cells #[.int .i64 op, .int .i64 err, .int .i64 cnt, .slice none 0 0, .slice none 0 0] 36)).alloc (.cells #[.int .i64 0, .int .i64 0, .int .i64 0, .slice none 0 0, .slice none 0 0] 36)) w.heap.size 36 [.int .i64 op, .int .i64 err, .int .i64 cnt, .slice none 0 0, .slice none 0 0] from (Blk.new w 36 _).alloc _)
  have HZ := Lib.hid (show Blk ((w.alloc (.cells #[.int .i64 op, .int .i64 err, .int .i64 cnt, .slice none 0 0, .slice none 0 0] 36)).alloc (.cells #[.int .i64 0, .int .i64 0, .int .i64 0, .slice none 0 0, .slice none 0 0] 36)) (w.heap.size + 1) 36 [.int .i64 0, .int .i64 0, .int .i64 0, .slice none 0 0, .slice none 0 0] from Blk.new' _ 36 _ (by simp))
  have HB := Lib.hid (below_al (below_al (Below.refl w.heap.size w) (.cells #[.int .i64 op, .int .i64 err, .int .i64 cnt, .slice none 0 0, .slice none 0 0] 36)) (.cells #[.int .i64 0, .int .i64 0, .int .i64 0, .slice none 0 0, .slice none 0 0] 36))
  have HZE := Lib.hid (Nat.le_refl w.heap.size)
  generalize (w.alloc (.cells #[.int .i64 op, .int .i64 err, .int .i64 cnt, .slice none 0 0, .slice none 0 0] 36)).alloc (.cells #[.int .i64 0, .int .i64 0, .int .i64 0, .slice none 0 0, .slice none 0 0] 36) = wa at *
  obtain ⟨z, hz⟩ : ∃ z, w.heap.size = z := ⟨_, rfl⟩
  rw [hz] at HA HZ ⊢
  replace HZE := Lib.hid (show w.heap.size ≤ z by omega)
  clear hz
  refine wp_region_noPanic ?_
  refine wp_region_held_drew (S := fun w' => w'.cell? ⟨z, 3, none⟩ = some (.slice none 0 0) ∧ w'.cell? ⟨z, 4, none⟩ = some (.slice none 0 0)) (by kernel_rfl) (⟨HA.out.cell 3, HA.out.cell 4⟩) (fun hHeld => ?_)
  refine wpAnyH_take (i := 0) (oi := ⟨some 5, _, _, _, _, _⟩) (v := ?_) rfl (by kernel_rfl) (by kernel_rfl) (by kernel_rfl) (fun _ _ _ h => h) (Or.inl ⟨by rfl, ?_⟩) hHeld ?_
  rotate_left
  · (intro w hSw; obtain ⟨hq1, hq2⟩ := hSw; go_simp; try with_reducible rfl)
  try simp only [Act.put, List.setIfInBounds_toArray, List.set_cons_zero, List.set_cons_succ]
  refine wpAnyH_take (i := 1) (oi := ⟨some 6, _, _, _, _, _⟩) (v := ?_) rfl (by kernel_rfl) (by kernel_rfl) (by kernel_rfl) (fun _ _ _ h => h) (Or.inl ⟨by rfl, ?_⟩) hHeld ?_
  rotate_left
  · (intro w hSw; obtain ⟨hq1, hq2⟩ := hSw; go_simp; try with_reducible rfl)
  try simp only [Act.put, List.setIfInBounds_toArray, List.set_cons_zero, List.set_cons_succ]
  refine wpAnyH_take (i := 3) (oi := ⟨some 8, _, _, _, _, _⟩) (v := ?_) rfl (by kernel_rfl) (by kernel_rfl) (by kernel_rfl) (fun _ _ _ h => h) (Or.inl ⟨by rfl, ?_⟩) hHeld ?_
  rotate_left
  · (intro w hSw; obtain ⟨hq1, hq2⟩ := hSw; go_simp; try with_reducible rfl)
  try simp only [Act.put, List.setIfInBounds_toArray, List.set_cons_zero, List.set_cons_succ]
  refine wpAnyH_take (i := 4) (oi := ⟨some 9, _, _, _, _, _⟩) (v := ?_) rfl (by kernel_rfl) (by kernel_rfl) (by kernel_rfl) (fun _ _ _ h => h) (Or.inl ⟨by rfl, ?_⟩) hHeld ?_
  rotate_left
  · (intro w hSw; obtain ⟨hq1, hq2⟩ := hSw; go_simp; try with_reducible rfl)
  try simp only [Act.put, List.setIfInBounds_toArray, List.set_cons_zero, List.set_cons_succ]
  refine wpAnyH_ready (rs := [2]) (by kernel_rfl) (by simp) ?_
  refine (AllReadyH.cons (o := ⟨some 7, _, _, _, _, _⟩) rfl (fun K hK => ?_) AllReadyH.nil)
  go_simp
  (refine (HC.out _).mono ?_; rintro e w1 ⟨rfl, rfl⟩)
  refine hK.out _ _ (⟨HA.out.cell 3, HA.out.cell 4⟩) (fun hHeld => ?_)
  clear hK K
  try simp only [Act.put, List.setIfInBounds_toArray, List.set_cons_zero, List.set_cons_succ]
  refine wpAnyH_take (i := 6) (oi := ⟨some 11, _, _, _, _, _⟩) (v := ?_) rfl (by kernel_rfl) (by kernel_rfl) (by kernel_rfl) (fun _ _ _ h => h) (Or.inl ⟨by rfl, ?_⟩) hHeld ?_
  rotate_left
  · (intro w hSw; obtain ⟨hq1, hq2⟩ := hSw; go_simp; try with_reducible rfl)
  try simp only [Act.put, List.setIfInBounds_toArray, List.set_cons_zero, List.set_cons_succ]
  refine wpAnyH_ready (rs := [5]) (by kernel_rfl) (by simp) ?_
  refine (AllReadyH.cons (o := ⟨some 10, _, _, _, _, _⟩) rfl (fun K hK => ?_) AllReadyH.nil)
  go_simp
  (refine (HD.out _).mono ?_; rintro e w1 ⟨rfl, rfl⟩)
  have hf3 : wa.frozen? ⟨z, 3, none⟩ = false := HA.out.free 3
  have hc3 : wa.cell? ⟨z, 3, none⟩ = some (.slice none 0 0) := HA.out.cell 3
  refine hK.out _ _ (⟨HA.out.cell 3, HA.out.cell 4⟩) (fun hHeld => ?_)
  clear hK K
  try simp only [Act.put, List.setIfInBounds_toArray, List.set_cons_zero, List.set_cons_succ]
  refine wpAnyH_ready (rs := [7]) (by kernel_rfl) (by simp) ?_
  refine (AllReadyH.cons (o := ⟨none, _, _, _, _, _⟩) rfl (fun K hK => ?_) AllReadyH.nil)
  go_simp
  have HA7 := Lib.hid (show Blk (wa.setCell ⟨z, 3, none⟩ (.slice none 0 0)).drew z 36 [.int .i64 op, .int .i64 err, .int .i64 cnt, .slice none 0 0, .slice none 0 0] from HA.out.set_ 3 (.slice none 0 0))
  have HZ7 := Lib.hid (show Blk (wa.setCell ⟨z, 3, none⟩ (.slice none 0 0)).drew (z + 1) 36 [.int .i64 0, .int .i64 0, .int .i64 0, .slice none 0 0, .slice none 0 0] from HZ.out.far (p := ⟨z, 3, none⟩) (by simp) _)
  have hf4 := HA7.out.free 4
  have hc4 := HA7.out.got 4 _ rfl
  have hf5 : wa.frozen? ⟨z, 4, none⟩ = false := HA.out.free 4
  have hc5 : wa.cell? ⟨z, 4, none⟩ = some (.slice none 0 0) := HA.out.cell 4
  clear hf3 hc3
  refine hK.out _ _ (⟨HA7.out.cell 3, HA7.out.cell 4⟩) (fun hHeld => ?_)
  clear hK K
  try simp only [Act.put, List.setIfInBounds_toArray, List.set_cons_zero, List.set_cons_succ]
  refine wpAnyH_take (i := 8) (oi := ⟨some 12, _, _, _, _, _⟩) (v := ?_) rfl (by kernel_rfl) (by kernel_rfl) (by kernel_rfl) (fun _ _ _ h => h) (Or.inl ⟨by rfl, ?_⟩) hHeld ?_
  rotate_left
  · (intro w hSw; obtain ⟨hq1, hq2⟩ := hSw; go_simp; try with_reducible rfl)
  try simp only [Act.put, List.setIfInBounds_toArray, List.set_cons_zero, List.set_cons_succ]
  refine wpAnyH_ready (rs := [9]) (by kernel_rfl) (by simp) ?_
  refine (AllReadyH.cons (o := ⟨none, _, _, _, _, _⟩) rfl (fun K hK => ?_) AllReadyH.nil)
  go_simp
  have HA8 := Lib.hid (show Blk ((wa.setCell ⟨z, 3, none⟩ (.slice none 0 0)).setCell ⟨z, 4, none⟩ (.slice none 0 0)).drew z 36 [.int .i64 op, .int .i64 err, .int .i64 cnt, .slice none 0 0, .slice none 0 0] from (HA.out.set_ 3 (.slice none 0 0)).set_ 4 (.slice none 0 0))
  have HZ8 := Lib.hid (show Blk ((wa.setCell ⟨z, 3, none⟩ (.slice none 0 0)).setCell ⟨z, 4, none⟩ (.slice none 0 0)).drew (z + 1) 36 [.int .i64 0, .int .i64 0, .int .i64 0, .slice none 0 0, .slice none 0 0] from (HZ.out.far (p := ⟨z, 3, none⟩) (by simp) _).far (p := ⟨z, 4, none⟩) (by simp) _)
  clear hf4 hc4 hf5 hc5
  refine hK.out _ _ (⟨HA8.out.cell 3, HA8.out.cell 4⟩) (fun hHeld => ?_)
  clear hK K
  try simp only [Act.put, List.setIfInBounds_toArray, List.set_cons_zero, List.set_cons_succ]
  refine wpAnyH_done (by kernel_rfl) ?_ _
  refine NoPanic.normal ?_
  clear hHeld
  have HW := Lib.hid (show Fr (fun x => x = z) wa ((wa.setCell ⟨z, 3, none⟩ (.slice none 0 0)).setCell ⟨z, 4, none⟩ (.slice none 0 0)).drew from (((Fr.refl (fun x => x = z) wa).set ⟨z, 3, none⟩ _ (.inl rfl)).set ⟨z, 4, none⟩ _ (.inl rfl)).drew)
  generalize ((wa.setCell ⟨z, 3, none⟩ (.slice none 0 0)).setCell ⟨z, 4, none⟩ (.slice none 0 0)).drew = w9 at *
  have a0 := HA8.out.got 0 _ rfl
  have a1 := HA8.out.got 1 _ rfl
  have a2 := HA8.out.got 2 _ rfl
  have a3 := HA8.out.got 3 _ rfl
  have a4 := HA8.out.got 4 _ rfl
  have z0 := HZ8.out.got 0 _ rfl
  have z1 := HZ8.out.got 1 _ rfl
  have z2 := HZ8.out.got 2 _ rfl
  have z3 := HZ8.out.got 3 _ rfl
  have z4 := HZ8.out.got 4 _ rfl
  have y0 := HZ8.out.free 0
  have y1 := HZ8.out.free 1
  have y2 := HZ8.out.free 2
  have y3 := HZ8.out.free 3
  have y4 := HZ8.out.free 4
  go_wp2_with fail
  go_loop [16] (fun i => i = .int .i64 0) (fun _ => 0)
  case atStart => rfl
  case round =>
    subst hrel
    go_wp2_with fail
    try simp only [Exit.inBlock, Exit.then]
    have hT := ((((HZ8.out.set_ 0 (.int .i64 op)).set_ 1 (.int .i64 err)).set_ 2 (.int .i64 cnt)).set_ 3 (.slice none 0 0)).set_ 4 (.slice none 0 0)
    have hF := (((((Fr.refl (fun x => x = z + 1) w9).set ⟨z + 1, 0, none⟩ (.int .i64 op) (.inl rfl)).set ⟨z + 1, 1, none⟩ (.int .i64 err) (.inl rfl)).set ⟨z + 1, 2, none⟩ (.int .i64 cnt) (.inl rfl)).set ⟨z + 1, 3, none⟩ (.slice none 0 0) (.inl rfl)).set ⟨z + 1, 4, none⟩ (.slice none 0 0) (.inl rfl)
    have hT2 : Blk _ (z + 1) 36 [.int .i64 op, .int .i64 err, .int .i64 cnt, .slice none 0 0, .slice none 0 0] := hT
    refine bodyPost_ret (results_cell_row rfl _ _ (z + 1) 36 _ (0, 0) _ (by rfl) hT2 Try.underlying36 (by rfl) (by kernel_rfl)) rfl ?_
    exact ⟨rfl, Fr.below (Fr.below HB.out HW.out (fun x hx => by have := HZE.out; omega)) hF (fun x hx => by have := HZE.out; omega)⟩
end Go.Proofs.Ytbkkplednfdfdaa
