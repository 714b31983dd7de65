/- The reference's event. Printed by hist_w.py. -/
import Derived.Test.YtbkkplednfdfdaaPDefs
import Derived.Test.YtbkkplednfdfdaaEqE
import Derived.Test.YtbkkplednfdfdaaSt
import Derived.Deep.DeepCutAuto
namespace Go.Proofs.Ytbkkplednfdfdaa
open Go.RowKit Go.Maps

theorem wpList_stE {P : Program} {ops : Array Oper} {rest : List Oper} {op : Oper} {a : Act} {w : World} {Q : Exit → Act → World → Prop} (hgd : op.guard = none) (hdn : op.dst = none) (ty : TypeId) (x y : Operand) (ho : op.op = .store ty x y)
    (b o : Nat) (hx : a.eval x = .pointer (some ⟨b, o, none⟩)) (A : Array Value) (hy : a.eval y = .agg A) (t : TypeId) (cs cs' : List Value) (hb : Blk w b t cs) (hl : o + A.size ≤ cs.length)
    (hi : (P.info? ty).map (·.size) = some A.size) (h1 : A.toList.all (·.oneCell') = true) (hcs : putAt cs o A.toList = cs')
    (h : ∀ w', Blk w' b t cs' → Fr (fun x => x = b) w w' → wpList P ops Q rest a w') : wpList P ops Q (op :: rest) a w :=
  wpList_st hgd ty x y ho b o hx A hy t cs cs' hb hl hi h1 hcs (fun w' h1 h2 => by rw [hdn]; exact h w' h1 h2)
theorem putAt_mid : ∀ (vs cs pre : List Value), cs.length = vs.length → putAt (pre ++ cs) pre.length vs = pre ++ vs
  | [], [], _, _ => rfl
  | v :: vs, c :: cs, pre, h => by
    have h1 : (pre ++ c :: cs).set pre.length v = (pre ++ [v]) ++ cs := by rw [List.set_append_right _ _ (Nat.le_refl _)]; simp
    have h2 := putAt_mid vs cs (pre ++ [v]) (by simpa using h)
    rw [putAt, h1, show pre.length + 1 = (pre ++ [v]).length by simp, h2]
    simp
/-- A store of a whole struct into a block of its own. -/
theorem wpList_stF {P : Program} {ops : Array Oper} {rest : List Oper} {op : Oper} {a : Act} {w : World} {Q : Exit → Act → World → Prop} (hgd : op.guard = none) (hdn : op.dst = none) (ty : TypeId) (x y : Operand) (ho : op.op = .store ty x y)
    (b : Nat) (hx : a.eval x = .pointer (some ⟨b, 0, none⟩)) (A : Array Value) (hy : a.eval y = .agg A) (t : TypeId) (cs : List Value) (hb : Blk w b t cs) (hl : cs.length = A.toList.length)
    (hi : (P.info? ty).map (·.size) = some A.size) (h1 : A.toList.all (·.oneCell') = true)
    (h : ∀ w', Blk w' b t A.toList → Fr (fun x => x = b) w w' → wpList P ops Q rest a w') : wpList P ops Q (op :: rest) a w :=
  wpList_st hgd ty x y ho b 0 hx A hy t cs A.toList hb (by rw [hl]; simp) hi h1 (by have := putAt_mid A.toList cs [] hl; simpa using this) (fun w' h1 h2 => by rw [hdn]; exact h w' h1 h2)
def RetE (w : World) (R : Rdr) (q : PE) (e : Ending) (w' : World) : Prop := ∃ x : Ev, e = .returned x.agg ∧ EvR R x q ∧ Below w.heap.size w w'
set_option maxRecDepth 100000 in
set_option maxHeartbeats 8000000 in
theorem event_any (w : World) (R : Rdr) (hR : ∀ t, R t none []) (p : Option Addr) (c : Nat) (ds : List Di) (l : List PD) (h : Rd w w.heap.size p (dis ds)) (hn : ds.length = l.length) (hc : ds.length ≤ c) (hl : ds.length ≤ 4100)
    (hd : ∀ (j : Nat) (d : Di) (q : PD), ds[j]? = some d → l[j]? = some q → DiR (R) d q) (i : Nat) (hi : i < ds.length) :
    Calls Try.prog 29 #[.slice p ds.length c, .int .i64 i] w (RetE w R (pevent l i)) := by
  have HRN := Lib.hid hR
  have HR := Lib.hid h
  have HD := Lib.hid hd
  have hk3 : i < l.length := by omega
  obtain ⟨b, o, rfl, hb, hc9⟩ := dis_rd h hi
  have hdd := hd i _ _ (List.getElem?_eq_getElem hi) (List.getElem?_eq_getElem hk3)
  have HPE := Lib.hid (show pevent l i = prl i (decide (l[i].step = 7)) i (l.drop i) (pnew i l[i] (decide (l[i].step = 7))) by simp [pevent, List.getElem?_eq_getElem hk3])
  obtain ⟨d, hd9⟩ : ∃ d, ds[i] = d := ⟨_, rfl⟩
  obtain ⟨pd, hq9⟩ : ∃ pd, l[i] = pd := ⟨_, rfl⟩
  rw [hd9] at hc9 hdd
  rw [hq9] at hdd HPE
  obtain ⟨dtask, dstep, dstripe, dwaits, dnext, dvq, dvn, dvc, dmk, dop, dkey, doth, ditem, dqty, ddq, ddn, ddc, daop, daerr, dacnt, dlq, dln, dlc, dbq, dbn, dbc⟩ := d
  have HDD := Lib.hid hdd
  obtain ⟨lk, hlk⟩ : ∃ lk, lk = decide (pd.step = 7) := ⟨_, rfl⟩
  have HLK := Lib.hid hlk
  rw [← hlk] at HPE
  have HRK := Lib.hid (show ∀ w', Below w.heap.size w w' → w'.rangeAt b (o + i * 18) [.int .i64 dtask, .int .i64 dstep, .int .i64 dstripe, .bool dwaits, .int .i64 dnext, .slice dvq dvn dvc, .bool dmk, .int .i64 dop, .string dkey, .string doth, .string ditem, .int .i64 dqty, .slice ddq ddn ddc, .int .i64 daop, .int .i64 daerr, .int .i64 dacnt, .slice dlq dln dlc, .slice dbq dbn dbc] from fun w' hb' j v hv => (hb'.cell (p := ⟨b, o + i * 18 + j, none⟩) hb).trans (hc9 j v hv))
  have HCK := Lib.hid (show ∀ w', Below w.heap.size w w' → w'.rangeAt b (o + i * 18 + 7) [.int .i64 dop, .string dkey, .string doth, .string ditem, .int .i64 dqty, .slice ddq ddn ddc] from fun w' hb' j v hv => by
    rw [Nat.add_assoc (o + i * 18)]
    refine HRK.out w' hb' (7 + j) v ?_
    have hj : j < 6 := (List.getElem?_eq_some_iff.1 hv).1
    match j, hj with
    | 0, _ => exact hv
    | 1, _ => exact hv
    | 2, _ => exact hv
    | 3, _ => exact hv
    | 4, _ => exact hv
    | 5, _ => exact hv)
  obtain ⟨n, hn9⟩ : ∃ n, ds.length = n := ⟨_, rfl⟩
  have HN := Lib.hid hn9
  have HLN := Lib.hid (show l.length = n by omega)
  rw [hn9] at hc hl hi ⊢
  have hni : (n : Int) ≤ 4100 := by omega
  have hii : (i : Int) < (n : Int) := by omega
  have HB1 := Lib.hid (below_al (Below.refl w.heap.size w) (.cells #[.int .i64 0, .int .i64 0, .string ⟨#[]⟩, .string ⟨#[]⟩, .string ⟨#[]⟩, .int .i64 0, .slice none 0 0, .int .i64 0, .int .i64 0, .int .i64 0, .slice none 0 0, .slice none 0 0, .int .i64 0, .int .i64 0, .int .i64 0] 41))
  have HZ1 := Lib.hid (Blk.new w 41 [.int .i64 0, .int .i64 0, .string ⟨#[]⟩, .string ⟨#[]⟩, .string ⟨#[]⟩, .int .i64 0, .slice none 0 0, .int .i64 0, .int .i64 0, .int .i64 0, .slice none 0 0, .slice none 0 0, .int .i64 0, .int .i64 0, .int .i64 0])
  clear h hn hd hk3 hb hc9 hdd hd9 hq9 hlk hn9 hR
  go_enter Try.func29, Try.ntmps29
  go_upto_region 1 with fail
  obtain ⟨z, hz⟩ : ∃ z, w.heap.size = z := ⟨_, rfl⟩
  have HZW : Hid (w.heap.size ≤ z) := Lib.hid (by omega)
  rw [hz] at HZ1 ⊢
  clear hz
  generalize w.alloc (.cells #[.int .i64 0, .int .i64 0, .string ⟨#[]⟩, .string ⟨#[]⟩, .string ⟨#[]⟩, .int .i64 0, .slice none 0 0, .int .i64 0, .int .i64 0, .int .i64 0, .slice none 0 0, .slice none 0 0, .int .i64 0, .int .i64 0, .int .i64 0] 41) = w1 at *
  have HG1 := Lib.hid (HRK.out w1 HB1.out)
  have HC1 := Lib.hid (HCK.out w1 HB1.out)
  have HGa := Lib.hid (HRK.out (w1.alloc (.cells #[.int .i64 0, .int .i64 0, .string ⟨#[]⟩, .string ⟨#[]⟩, .string ⟨#[]⟩, .int .i64 0, .slice none 0 0, .int .i64 0, .int .i64 0, .int .i64 0, .slice none 0 0, .slice none 0 0, .int .i64 0, .int .i64 0, .int .i64 0] 41)) (HB1.out.trans ((below_al (Below.refl w1.heap.size w1) (.cells #[.int .i64 0, .int .i64 0, .string ⟨#[]⟩, .string ⟨#[]⟩, .string ⟨#[]⟩, .int .i64 0, .slice none 0 0, .int .i64 0, .int .i64 0, .int .i64 0, .slice none 0 0, .slice none 0 0, .int .i64 0, .int .i64 0, .int .i64 0] 41)).mono HB1.out.size)))
  have HCa := Lib.hid (HCK.out (w1.alloc (.cells #[.int .i64 0, .int .i64 0, .string ⟨#[]⟩, .string ⟨#[]⟩, .string ⟨#[]⟩, .int .i64 0, .slice none 0 0, .int .i64 0, .int .i64 0, .int .i64 0, .slice none 0 0, .slice none 0 0, .int .i64 0, .int .i64 0, .int .i64 0] 41)) (HB1.out.trans ((below_al (Below.refl w1.heap.size w1) (.cells #[.int .i64 0, .int .i64 0, .string ⟨#[]⟩, .string ⟨#[]⟩, .string ⟨#[]⟩, .int .i64 0, .slice none 0 0, .int .i64 0, .int .i64 0, .int .i64 0, .slice none 0 0, .slice none 0 0, .int .i64 0, .int .i64 0, .int .i64 0] 41)).mono HB1.out.size)))
  have HNB := Lib.hid (Blk.new w1 41 [.int .i64 0, .int .i64 0, .string ⟨#[]⟩, .string ⟨#[]⟩, .string ⟨#[]⟩, .int .i64 0, .slice none 0 0, .int .i64 0, .int .i64 0, .int .i64 0, .slice none 0 0, .slice none 0 0, .int .i64 0, .int .i64 0, .int .i64 0])
  refine wp_region_noPanic ?_
  refine wp_region_held_drew (S := fun w' => w'.cell? ⟨b, o + i * 18, none⟩ = some (.int .i64 dtask) ∧ w'.rangeAt b (o + i * 18 + 7) [.int .i64 dop, .string dkey, .string doth, .string ditem, .int .i64 dqty, .slice ddq ddn ddc]) (by kernel_rfl) (⟨HG1.out 0 _ rfl, HC1.out⟩) (fun hHeld => ?_)
  refine wpAnyH_take (i := 0) (oi := ⟨some 8, _, _, _, _, _⟩) (v := ?_) rfl (by kernel_rfl) (by kernel_rfl) (by kernel_rfl) (fun _ _ _ h => h) (Or.inl ⟨by rfl, ?_⟩) hHeld ?_
  rotate_left
  · (intro w hSw; obtain ⟨hq0, hq1⟩ := hSw; go_simp; try with_reducible rfl)
  try simp only [Act.put, List.setIfInBounds_toArray, List.set_cons_zero, List.set_cons_succ]
  refine wpAnyH_take (i := 1) (oi := ⟨some 9, _, _, _, _, _⟩) (v := ?_) rfl (by kernel_rfl) (by kernel_rfl) (by kernel_rfl) (fun _ _ _ h => h) (Or.inl ⟨by rfl, ?_⟩) hHeld ?_
  rotate_left
  · (intro w hSw; obtain ⟨hq0, hq1⟩ := hSw; go_simp; try with_reducible rfl)
  try simp only [Act.put, List.setIfInBounds_toArray, List.set_cons_zero, List.set_cons_succ]
  refine wpAnyH_take (i := 2) (oi := ⟨some 10, _, _, _, _, _⟩) (v := ?_) rfl (by kernel_rfl) (by kernel_rfl) (by kernel_rfl) (fun _ _ _ h => h) (Or.inl ⟨by rfl, ?_⟩) hHeld ?_
  rotate_left
  · (intro w hSw; obtain ⟨hq0, hq1⟩ := hSw; go_simp; try with_reducible rfl)
  try simp only [Act.put, List.setIfInBounds_toArray, List.set_cons_zero, List.set_cons_succ]
  refine wpAnyH_take (i := 3) (oi := ⟨some 11, _, _, _, _, _⟩) (v := ?_) rfl (by kernel_rfl) (by kernel_rfl) (by kernel_rfl) (fun _ _ _ h => h) (Or.inl ⟨by rfl, ?_⟩) hHeld ?_
  rotate_left
  · (intro w hSw; obtain ⟨hq0, hq1⟩ := hSw; go_simp; try with_reducible rfl)
  try simp only [Act.put, List.setIfInBounds_toArray, List.set_cons_zero, List.set_cons_succ]
  refine wpAnyH_take (i := 4) (oi := ⟨some 12, _, _, _, _, _⟩) (v := ?_) rfl (by kernel_rfl) (by kernel_rfl) (by kernel_rfl) (fun _ _ _ h => h) (Or.inl ⟨by rfl, ?_⟩) hHeld ?_
  rotate_left
  · (intro w hSw; obtain ⟨hq0, hq1⟩ := hSw; go_simp; try with_reducible rfl)
  try simp only [Act.put, List.setIfInBounds_toArray, List.set_cons_zero, List.set_cons_succ]
  refine wpAnyH_take (i := 5) (oi := ⟨some 13, _, _, _, _, _⟩) (v := ?_) rfl (by kernel_rfl) (by kernel_rfl) (by kernel_rfl) (fun _ _ _ h => h) (Or.inl ⟨by rfl, ?_⟩) hHeld ?_
  rotate_left
  · (intro w hSw; obtain ⟨hq0, hq1⟩ := hSw; go_simp; try with_reducible rfl)
  try simp only [Act.put, List.setIfInBounds_toArray, List.set_cons_zero, List.set_cons_succ]
  refine wpAnyH_take (i := 6) (oi := ⟨some 14, _, _, _, _, _⟩) (v := ?_) rfl (by kernel_rfl) (by kernel_rfl) (by kernel_rfl) (fun _ _ _ h => h) (Or.inl ⟨by rfl, ?_⟩) hHeld ?_
  rotate_left
  · (intro w hSw; obtain ⟨hq0, hq1⟩ := hSw; go_simp; try with_reducible rfl)
  try simp only [Act.put, List.setIfInBounds_toArray, List.set_cons_zero, List.set_cons_succ]
  refine wpAnyH_take (i := 7) (oi := ⟨some 15, _, _, _, _, _⟩) (v := ?_) rfl (by kernel_rfl) (by kernel_rfl) (by kernel_rfl) (fun _ _ _ h => h) (Or.inl ⟨by rfl, ?_⟩) hHeld ?_
  rotate_left
  · (intro w hSw; obtain ⟨hq0, hq1⟩ := hSw; go_simp; try with_reducible rfl)
  try simp only [Act.put, List.setIfInBounds_toArray, List.set_cons_zero, List.set_cons_succ]
  refine wpAnyH_take (i := 8) (oi := ⟨some 16, _, _, _, _, _⟩) (v := ?_) rfl (by kernel_rfl) (by kernel_rfl) (by kernel_rfl) (fun _ _ _ h => h) (Or.inl ⟨by rfl, ?_⟩) hHeld ?_
  rotate_left
  · (intro w hSw; obtain ⟨hq0, hq1⟩ := hSw; go_simp; try with_reducible rfl)
  try simp only [Act.put, List.setIfInBounds_toArray, List.set_cons_zero, List.set_cons_succ]
  refine wpAnyH_take (i := 9) (oi := ⟨some 17, _, _, _, _, _⟩) (v := .agg #[.int .i64 dop, .string dkey, .string doth, .string ditem, .int .i64 dqty, .slice ddq ddn ddc]) rfl (by kernel_rfl) (by kernel_rfl) (by kernel_rfl) (fun _ _ _ h => h) (yieldsIf_load_mid (by rfl) 39 (.tmp 16) rfl b (o + i * 18 + 7) rfl [.int .i64 dop, .string dkey, .string doth, .string ditem, .int .i64 dqty, .slice ddq ddn ddc] _ (fun _ h => h.2) Try.underlying39 rfl info39) hHeld ?_
  try simp only [Act.put, List.setIfInBounds_toArray, List.set_cons_zero, List.set_cons_succ]
  refine wpAnyH_take (i := 10) (oi := ⟨some 18, _, _, _, _, _⟩) (v := ?_) rfl (by kernel_rfl) (by kernel_rfl) (by kernel_rfl) (fun _ _ _ h => h) (Or.inl ⟨by rfl, ?_⟩) hHeld ?_
  rotate_left
  · (intro w hSw; obtain ⟨hq0, hq1⟩ := hSw; go_simp; try with_reducible rfl)
  try simp only [Act.put, List.setIfInBounds_toArray, List.set_cons_zero, List.set_cons_succ]
  refine wpAnyH_take (i := 11) (oi := ⟨some 19, _, _, _, _, _⟩) (v := ?_) rfl (by kernel_rfl) (by kernel_rfl) (by kernel_rfl) (fun _ _ _ h => h) (Or.inl ⟨by rfl, ?_⟩) hHeld ?_
  rotate_left
  · (intro w hSw; obtain ⟨hq0, hq1⟩ := hSw; go_simp; try with_reducible rfl)
  try simp only [Act.put, List.setIfInBounds_toArray, List.set_cons_zero, List.set_cons_succ]
  refine wpAnyH_ready (rs := [12]) (by kernel_rfl) (by simp) ?_
  refine AllReadyH.cons (o := ⟨some 5, _, _, _, _, _⟩) rfl (fun K hK => ?_) AllReadyH.nil
  go_simp
  refine hK.out _ _ (⟨HGa.out 0 _ rfl, HCa.out⟩) (fun hHeld => ?_)
  clear hK K
  try simp only [Act.put, List.setIfInBounds_toArray, List.set_cons_zero, List.set_cons_succ]
  refine wpAnyH_ready (rs := [13]) (by kernel_rfl) (by simp) ?_
  refine AllReadyH.cons (o := ⟨none, _, _, _, _, _⟩) rfl (fun K hK => ?_) AllReadyH.nil
  (refine step_st (by rfl) 41 (.tmp 5) (.tmp 19) (by rfl) w1.heap.size 0 (by rfl) #[.int .i64 dtask, .int .i64 dop, .string dkey, .string doth, .string ditem, .int .i64 dqty, .slice ddq ddn ddc, .int .i64 0, .int .i64 0, .int .i64 0, .slice none 0 0, .slice none 0 0, .int .i64 i, .int .i64 (-1), .int .i64 (-1)] (by rfl) 41 _ [.int .i64 dtask, .int .i64 dop, .string dkey, .string doth, .string ditem, .int .i64 dqty, .slice ddq ddn ddc, .int .i64 0, .int .i64 0, .int .i64 0, .slice none 0 0, .slice none 0 0, .int .i64 i, .int .i64 (-1), .int .i64 (-1)] (by exact HNB.out) (by simp) info41 (by rfl) (by rfl) ?_; intro w6 hb6 hf6)
  replace hf6 : Fr (fun x => x = w1.heap.size) (w1.alloc (.cells #[.int .i64 0, .int .i64 0, .string ⟨#[]⟩, .string ⟨#[]⟩, .string ⟨#[]⟩, .int .i64 0, .slice none 0 0, .int .i64 0, .int .i64 0, .int .i64 0, .slice none 0 0, .slice none 0 0, .int .i64 0, .int .i64 0, .int .i64 0] 41)) w6 := ⟨hf6.os, hf6.tape, hf6.output, hf6.size, hf6.block⟩
  have HX6 := Lib.hid hb6
  have HB6 := Lib.hid (HB1.out.trans ((Fr.below (below_al (Below.refl w1.heap.size w1) (.cells #[.int .i64 0, .int .i64 0, .string ⟨#[]⟩, .string ⟨#[]⟩, .string ⟨#[]⟩, .int .i64 0, .slice none 0 0, .int .i64 0, .int .i64 0, .int .i64 0, .slice none 0 0, .slice none 0 0, .int .i64 0, .int .i64 0, .int .i64 0] 41)) hf6 (fun x hx => by have hx : x = w1.heap.size := hx; omega)).mono HB1.out.size))
  have HZ6 := Lib.hid ((HZ1.out.alloc (.cells #[.int .i64 0, .int .i64 0, .string ⟨#[]⟩, .string ⟨#[]⟩, .string ⟨#[]⟩, .int .i64 0, .slice none 0 0, .int .i64 0, .int .i64 0, .int .i64 0, .slice none 0 0, .slice none 0 0, .int .i64 0, .int .i64 0, .int .i64 0] 41)).fr hf6 (fun e => by have e : z = w1.heap.size := e; have := HZ1.out.lt; omega))
  have HYZ : Hid (w1.heap.size ≠ z) := Lib.hid (fun e => by have := HZ1.out.lt; omega)
  have HYW : Hid (w.heap.size ≤ w1.heap.size) := Lib.hid HB1.out.size
  clear hb6 hf6
  have HG6 := Lib.hid (HRK.out w6 HB6.out)
  refine hK.out _ _ ⟨HG6.out 0 _ rfl, HCK.out w6 HB6.out⟩ (fun hHeld => ?_)
  clear hK K
  try simp only [Act.put, List.setIfInBounds_toArray, List.set_cons_zero, List.set_cons_succ]
  refine wpAnyH_done (by kernel_rfl) ?_ _
  refine NoPanic.normal ?_
  clear hHeld HNB HGa HCa HC1 HG1 HZ1 HB1
  obtain ⟨y, hy⟩ : ∃ y, w1.heap.size = y := ⟨_, rfl⟩
  rw [hy] at HX6 HYZ HYW ⊢
  clear hy
  have s1 := HG6.out 1 _ rfl
  go_upto_if 25 with fail
  clear s1
  go_cut [] (fun wx => ∃ x : Ev, Hid (Blk wx y 41 x.cells ∧ EvR (R) x (pnew i pd lk) ∧ Blk wx z 41 [.int .i64 0, .int .i64 0, .string ⟨#[]⟩, .string ⟨#[]⟩, .string ⟨#[]⟩, .int .i64 0, .slice none 0 0, .int .i64 0, .int .i64 0, .int .i64 0, .slice none 0 0, .slice none 0 0, .int .i64 0, .int .i64 0, .int .i64 0] ∧ Below w.heap.size w wx))
  case first =>
    by_cases hlk : dstep = 7
    · subst hlk
      have hlk2 : lk = true := by rw [HLK.out]; simp [← HDD.out.step]
      subst hlk2
      go_wp2_with (refine wpList_stE rfl rfl 39 (.tmp 27) (.tmp 26) rfl y 1 rfl #[.int .i64 0, .string ⟨#[]⟩, .string ⟨#[]⟩, .string ⟨#[]⟩, .int .i64 0, .slice none 0 0] rfl 41 _ [.int .i64 dtask, .int .i64 0, .string ⟨#[]⟩, .string ⟨#[]⟩, .string ⟨#[]⟩, .int .i64 0, .slice none 0 0, .int .i64 0, .int .i64 0, .int .i64 0, .slice none 0 0, .slice none 0 0, .int .i64 i, .int .i64 (-1), .int .i64 (-1)] HX6.out (by simp) info39 (by rfl) (by rfl) ?_; intro w7 hb7 hf7)
      have HB7 := Lib.hid (Fr.below HB6.out hf7 (fun x hx => by have hx : x = y := hx; have := HYW.out; omega))
      have HZ7 := Lib.hid (HZ6.out.fr hf7 (fun e => HYZ.out e.symm))
      have HX7 := Lib.hid hb7
      clear hb7 hf7
      go_meet
      exact ⟨⟨dtask, i, (-1), (-1), 0, ⟨#[]⟩, ⟨#[]⟩, ⟨#[]⟩, 0, none, 0, 0, 0, 0, 0, none, 0, 0, none, 0, 0⟩, Lib.hid ⟨HX7.out, ⟨HDD.out.task, rfl, rfl, rfl, CR.zero _ HRN.out, AR.zero _ HRN.out⟩, HZ7.out, HB7.out⟩⟩
    · have hlk2 : lk = false := by rw [HLK.out]; simp [← HDD.out.step, hlk]
      subst hlk2
      have hlk3 : (dstep == 7) = false := by simpa using hlk
      clear hlk
      go_wp2_with fail
      go_meet
      exact ⟨⟨dtask, i, (-1), (-1), dop, dkey, doth, ditem, dqty, ddq, ddn, ddc, 0, 0, 0, none, 0, 0, none, 0, 0⟩, Lib.hid ⟨HX6.out, ⟨HDD.out.task, rfl, rfl, rfl, HDD.out.c, AR.zero _ HRN.out⟩, HZ6.out, HB6.out⟩⟩
  case rest =>
    obtain ⟨x, H0⟩ := hcut
    clear HX6 HZ6 HB6 HG6
    generalize wc = w7 at *
    go_wp2_with fail
    go_loopw [6] (fun s wr => ∃ (k : Nat) (x : Ev) (q : PE), i ≤ k ∧ k ≤ n ∧ s = .int .i64 k ∧ Hid (Blk wr y 41 x.cells ∧ EvR (R) x q ∧ Blk wr z 41 [.int .i64 0, .int .i64 0, .string ⟨#[]⟩, .string ⟨#[]⟩, .string ⟨#[]⟩, .int .i64 0, .slice none 0 0, .int .i64 0, .int .i64 0, .int .i64 0, .slice none 0 0, .slice none 0 0, .int .i64 0, .int .i64 0, .int .i64 0] ∧ Below w.heap.size w wr ∧ pevent l i = prl i lk k (l.drop k) q)) (fun s _ => n - (intOf s).toNat)
    case atStart => exact ⟨i, x, pnew i pd lk, Nat.le_refl _, by omega, rfl, Lib.hid ⟨H0.out.1, H0.out.2.1, H0.out.2.2.1, H0.out.2.2.2, HPE.out⟩⟩
    case round =>
      clear H0
      obtain ⟨k, x, q, hik, hk, rfl, HI⟩ := hrel
      by_cases hlt : k < n
      · have hki : (k : Int) < (n : Int) := by omega
        have hk2 : k < ds.length := by rw [HN.out]; exact hlt
        have hk3 : k < l.length := by rw [HLN.out]; exact hlt
        obtain ⟨b9, o9, hp9, hb9, hc9⟩ := dis_rd HR.out hk2
        injection hp9 with hp9
        injection hp9 with e1 e2
        subst e1 e2
        have hee := HD.out k _ _ (List.getElem?_eq_getElem hk2) (List.getElem?_eq_getElem hk3)
        have HPR := Lib.hid (show pevent l i = (if l[k].task = q.task then (if i < k ∧ l[k].step = 7 then q else prl i lk (k + 1) (l.drop (k + 1)) (pup2 k l[k] (pup1 k lk l[k] q))) else prl i lk (k + 1) (l.drop (k + 1)) q) by rw [HI.out.2.2.2.2, List.drop_eq_getElem_cons hk3]; rfl)
        obtain ⟨e, he⟩ : ∃ e, ds[k] = e := ⟨_, rfl⟩
        obtain ⟨pe, hpe⟩ : ∃ pe, l[k] = pe := ⟨_, rfl⟩
        rw [he] at hc9 hee
        rw [hpe] at hee HPR
        obtain ⟨etask, estep, estripe, ewaits, enext, evq, evn, evc, emk, eop, ekey, eoth, eitem, eqty, edq, edn, edc, eaop, eaerr, eacnt, elq, eln, elc, ebq, ebn, ebc⟩ := e
        have HEE := Lib.hid hee
        have HRGk := Lib.hid (show wr.rangeAt b (o + k * 18) [.int .i64 etask, .int .i64 estep, .int .i64 estripe, .bool ewaits, .int .i64 enext, .slice evq evn evc, .bool emk, .int .i64 eop, .string ekey, .string eoth, .string eitem, .int .i64 eqty, .slice edq edn edc, .int .i64 eaop, .int .i64 eaerr, .int .i64 eacnt, .slice elq eln elc, .slice ebq ebn ebc] from fun j u hu => (HI.out.2.2.2.1.cell (p := ⟨b, o + k * 18 + j, none⟩) hb9).trans (hc9 j u hu))
        have HAZ := Lib.hid (Blk.new wr 51 [.int .i64 0, .int .i64 0, .int .i64 0, .bool false, .int .i64 0, .slice none 0 0, .bool false, .int .i64 0, .string ⟨#[]⟩, .string ⟨#[]⟩, .string ⟨#[]⟩, .int .i64 0, .slice none 0 0, .int .i64 0, .int .i64 0, .int .i64 0, .slice none 0 0, .slice none 0 0])
        have HAB := Lib.hid (below_al (Below.refl wr.heap.size wr) (.cells #[.int .i64 0, .int .i64 0, .int .i64 0, .bool false, .int .i64 0, .slice none 0 0, .bool false, .int .i64 0, .string ⟨#[]⟩, .string ⟨#[]⟩, .string ⟨#[]⟩, .int .i64 0, .slice none 0 0, .int .i64 0, .int .i64 0, .int .i64 0, .slice none 0 0, .slice none 0 0] 51))
        have HXA := Lib.hid (HI.out.1.alloc (.cells #[.int .i64 0, .int .i64 0, .int .i64 0, .bool false, .int .i64 0, .slice none 0 0, .bool false, .int .i64 0, .string ⟨#[]⟩, .string ⟨#[]⟩, .string ⟨#[]⟩, .int .i64 0, .slice none 0 0, .int .i64 0, .int .i64 0, .int .i64 0, .slice none 0 0, .slice none 0 0] 51))
        have HZA := Lib.hid (HI.out.2.2.1.alloc (.cells #[.int .i64 0, .int .i64 0, .int .i64 0, .bool false, .int .i64 0, .slice none 0 0, .bool false, .int .i64 0, .string ⟨#[]⟩, .string ⟨#[]⟩, .string ⟨#[]⟩, .int .i64 0, .slice none 0 0, .int .i64 0, .int .i64 0, .int .i64 0, .slice none 0 0, .slice none 0 0] 51))
        have HYL := Lib.hid HI.out.1.lt
        have HZL := Lib.hid HI.out.2.2.1.lt
        have HIB := Lib.hid HI.out.2.2.2.1
        have HE := Lib.hid HI.out.2.1
        clear hc9 hb9 hk2 hk3 hee he hpe HI
        go_upto_region 8 with (first | refine wpList_ld rfl 51 (.tmp 37) rfl b (o + k * 18) rfl #[.int .i64 etask, .int .i64 estep, .int .i64 estripe, .bool ewaits, .int .i64 enext, .slice evq evn evc, .bool emk, .int .i64 eop, .string ekey, .string eoth, .string eitem, .int .i64 eqty, .slice edq edn edc, .int .i64 eaop, .int .i64 eaerr, .int .i64 eacnt, .slice elq eln elc, .slice ebq ebn ebc] [.int .i64 etask, .int .i64 estep, .int .i64 estripe, .bool ewaits, .int .i64 enext, .slice evq evn evc, .bool emk, .int .i64 eop, .string ekey, .string eoth, .string eitem, .int .i64 eqty, .slice edq edn edc, .int .i64 eaop, .int .i64 eaerr, .int .i64 eacnt, .slice elq eln elc, .slice ebq ebn ebc] rfl _ HRGk.out Try.underlying51 rfl info51 ?_ | (refine wpList_stF rfl rfl 51 (.tmp 7) (.tmp 38) rfl wr.heap.size rfl #[.int .i64 etask, .int .i64 estep, .int .i64 estripe, .bool ewaits, .int .i64 enext, .slice evq evn evc, .bool emk, .int .i64 eop, .string ekey, .string eoth, .string eitem, .int .i64 eqty, .slice edq edn edc, .int .i64 eaop, .int .i64 eaerr, .int .i64 eacnt, .slice elq eln elc, .slice ebq ebn ebc] rfl 51 _ HAZ.out (by rfl) info51 (by rfl) ?_; intro w2 hb2 hf2; have HD2 : Hid (Blk w2 wr.heap.size 51 [.int .i64 etask, .int .i64 estep, .int .i64 estripe, .bool ewaits, .int .i64 enext, .slice evq evn evc, .bool emk, .int .i64 eop, .string ekey, .string eoth, .string eitem, .int .i64 eqty, .slice edq edn edc, .int .i64 eaop, .int .i64 eaerr, .int .i64 eacnt, .slice elq eln elc, .slice ebq ebn ebc]) := Lib.hid hb2; have HF2 := Lib.hid hf2; clear hb2 hf2))
        have HX2 := Lib.hid (HXA.out.fr HF2.out (fun e => by have e : y = wr.heap.size := e; have := HYL.out; omega))
        have HZ2 := Lib.hid (HZA.out.fr HF2.out (fun e => by have e : z = wr.heap.size := e; have := HZL.out; omega))
        have HB2 := Lib.hid (HIB.out.trans ((Fr.below HAB.out HF2.out (fun x hx => by have hx : x = wr.heap.size := hx; omega)).mono HIB.out.size))
        obtain ⟨v, hv⟩ : ∃ v, wr.heap.size = v := ⟨_, rfl⟩
        have HVY : Hid (v ≠ y) := Lib.hid (by have := HYL.out; omega)
        rw [hv] at HD2 ⊢
        clear HXA HZA HF2 HAB HAZ HRGk HYL HZL HIB hv
        obtain ⟨xt, xa, xm, xn, xop, xkey, xoth, xitem, xqty, xdq, xdn, xdc, xaop, xaerr, xacnt, xlq, xln, xlc, xbq, xbn, xbc⟩ := x
        simp only [Ev.cells] at HX2
        by_cases ht : etask = xt
        · have ht' : xt = etask := ht.symm
          subst ht'
          clear ht
          have HPS := Lib.hid (show pevent l i = (if i < k ∧ pe.step = 7 then q else prl i lk (k + 1) (l.drop (k + 1)) (pup2 k pe (pup1 k lk pe q))) by rw [HPR.out, if_pos (by rw [← HEE.out.task, ← HE.out.task])])
          obtain ⟨v9, hv9⟩ : ∃ v9, v9 = decide (i < k ∧ estep = 7) := ⟨_, rfl⟩
          have HV9 := Lib.hid hv9
          clear hv9 HPR
          have d1 := HD2.out.got 1 _ rfl
          have d0 := HD2.out.got 0 _ rfl
          have x0 := HX2.out.got 0 _ rfl
          go_upto_region 9 with fail
          clear d0 x0
          go_cut [51] from 44 to 51 (fun c wx => c = .bool v9 ∧ wx = w2)
          case first =>
            by_cases hgt : i < k
            · have hgi : (i : Int) < (k : Int) := by omega
              by_cases h7 : estep = 7
              · have hv : v9 = true := by rw [HV9.out]; simp [hgt, h7]
                subst hv
                subst h7
                clear HV9
                go_wp2_with fail
                go_meet
                exact ⟨rfl, rfl⟩
              · have h7' : (estep == 7) = false := by simpa using h7
                have hv : v9 = false := by rw [HV9.out]; simp [h7]
                subst hv
                clear HV9 h7
                go_wp2_with fail
                go_meet
                exact ⟨rfl, rfl⟩
            · have hgi : ¬ (i : Int) < (k : Int) := by omega
              have hgd : decide ((i : Int) < (k : Int)) = false := by simpa using hgi
              have hv : v9 = false := by rw [HV9.out]; simp [hgt]
              subst hv
              clear HV9
              go_wp2_with fail
              go_meet
              exact ⟨rfl, rfl⟩
          case rest =>
            obtain ⟨rfl, hwc⟩ := hcut
            subst hwc
            generalize wc = w2 at *
            clear d1
            cases v9 with
            | true =>
              have HQ := Lib.hid (show pevent l i = q by rw [HPS.out]; have h := HV9.out.symm; rw [decide_eq_true_eq] at h; rw [if_pos ⟨h.1, by rw [← HEE.out.step]; exact h.2⟩])
              have HXk := Lib.hid HX2.out
              have HZk := Lib.hid HZ2.out
              have HBk := Lib.hid HB2.out
              clear HX2 HZ2 HB2 HD2 HPS HV9
              go_wp2_with (first | refine wpList_ld rfl 41 (.tmp 5) rfl y 0 rfl #[.int .i64 xt, .int .i64 xop, .string xkey, .string xoth, .string xitem, .int .i64 xqty, .slice xdq xdn xdc, .int .i64 xaop, .int .i64 xaerr, .int .i64 xacnt, .slice xlq xln xlc, .slice xbq xbn xbc, .int .i64 xa, .int .i64 xm, .int .i64 xn] [.int .i64 xt, .int .i64 xop, .string xkey, .string xoth, .string xitem, .int .i64 xqty, .slice xdq xdn xdc, .int .i64 xaop, .int .i64 xaerr, .int .i64 xacnt, .slice xlq xln xlc, .slice xbq xbn xbc, .int .i64 xa, .int .i64 xm, .int .i64 xn] rfl _ HXk.out.range Try.underlying41 rfl info41 ?_ | (refine wpList_stF rfl rfl 41 (.tmp 4) (.tmp 75) rfl z rfl #[.int .i64 xt, .int .i64 xop, .string xkey, .string xoth, .string xitem, .int .i64 xqty, .slice xdq xdn xdc, .int .i64 xaop, .int .i64 xaerr, .int .i64 xacnt, .slice xlq xln xlc, .slice xbq xbn xbc, .int .i64 xa, .int .i64 xm, .int .i64 xn] rfl 41 _ HZk.out (by rfl) info41 (by rfl) ?_; intro w9 hb9 hf9))
              try simp only [Exit.inBlock, Exit.then]
              refine bodyPost_ret (results_cell_row rfl _ _ z 41 _ (0, 0) _ (by rfl) (show Blk w9 z 41 [.int .i64 xt, .int .i64 xop, .string xkey, .string xoth, .string xitem, .int .i64 xqty, .slice xdq xdn xdc, .int .i64 xaop, .int .i64 xaerr, .int .i64 xacnt, .slice xlq xln xlc, .slice xbq xbn xbc, .int .i64 xa, .int .i64 xm, .int .i64 xn] from hb9) Try.underlying41 (by rfl) (by kernel_rfl)) rfl ?_
              exact ⟨_, rfl, by rw [HQ.out]; exact HE.out, Fr.below HBk.out hf9 (fun x hx => by have hx : x = z := hx; have := HZW.out; omega)⟩
            | false =>
              have HPT := Lib.hid (show pevent l i = prl i lk (k + 1) (l.drop (k + 1)) (pup2 k pe (pup1 k lk pe q)) by rw [HPS.out]; have h := HV9.out.symm; rw [decide_eq_false_iff_not] at h; rw [if_neg (fun e => h ⟨e.1, HEE.out.step.trans e.2⟩)])
              clear HPS HV9
              have d6 := HD2.out.got 6 _ rfl
              go_upto_if 53 with fail
              go_cut [] from 54 to 69 (fun wx => ∃ x1 : Ev, Hid (Blk wx y 41 x1.cells ∧ Blk wx v 51 [.int .i64 xt, .int .i64 estep, .int .i64 estripe, .bool ewaits, .int .i64 enext, .slice evq evn evc, .bool emk, .int .i64 eop, .string ekey, .string eoth, .string eitem, .int .i64 eqty, .slice edq edn edc, .int .i64 eaop, .int .i64 eaerr, .int .i64 eacnt, .slice elq eln elc, .slice ebq ebn ebc] ∧ EvR (R) x1 (pup1 k lk pe q) ∧ Blk wx z 41 [.int .i64 0, .int .i64 0, .string ⟨#[]⟩, .string ⟨#[]⟩, .string ⟨#[]⟩, .int .i64 0, .slice none 0 0, .int .i64 0, .int .i64 0, .int .i64 0, .slice none 0 0, .slice none 0 0, .int .i64 0, .int .i64 0, .int .i64 0] ∧ Below w.heap.size w wx))
              case first =>
                clear d6
                cases emk with
                | true =>
                  go_upto_region 11 with fail
                  refine wp_region_noPanic ?_
                  refine wp_region_held_drew (S := fun w' => w'.rangeAt v 7 [.int .i64 eop, .string ekey, .string eoth, .string eitem, .int .i64 eqty, .slice edq edn edc] ∧ w'.rangeAt v 13 [.int .i64 eaop, .int .i64 eaerr, .int .i64 eacnt, .slice elq eln elc, .slice ebq ebn ebc]) (by kernel_rfl) (⟨HD2.out.sub [_, _, _, _, _, _, _] [.int .i64 eop, .string ekey, .string eoth, .string eitem, .int .i64 eqty, .slice edq edn edc] [_, _, _, _, _], HD2.out.sub [_, _, _, _, _, _, _, _, _, _, _, _, _] [.int .i64 eaop, .int .i64 eaerr, .int .i64 eacnt, .slice elq eln elc, .slice ebq ebn ebc] []⟩) (fun hHeld => ?_)
                  refine wpAnyH_take (i := 0) (oi := ⟨some 54, _, _, _, _, _⟩) (v := ?_) rfl (by kernel_rfl) (by kernel_rfl) (by kernel_rfl) (fun _ _ _ h => h) (Or.inl ⟨by rfl, ?_⟩) hHeld ?_
                  rotate_left
                  · (intro w hSw; obtain ⟨hq0, hq1⟩ := hSw; go_simp; try with_reducible rfl)
                  try simp only [Act.put, List.setIfInBounds_toArray, List.set_cons_zero, List.set_cons_succ]
                  refine wpAnyH_take (i := 1) (oi := ⟨some 55, _, _, _, _, _⟩) (v := ?_) rfl (by kernel_rfl) (by kernel_rfl) (by kernel_rfl) (fun _ _ _ h => h) (Or.inl ⟨by rfl, ?_⟩) hHeld ?_
                  rotate_left
                  · (intro w hSw; obtain ⟨hq0, hq1⟩ := hSw; go_simp; try with_reducible rfl)
                  try simp only [Act.put, List.setIfInBounds_toArray, List.set_cons_zero, List.set_cons_succ]
                  refine wpAnyH_take (i := 2) (oi := ⟨some 56, _, _, _, _, _⟩) (v := .agg #[.int .i64 eop, .string ekey, .string eoth, .string eitem, .int .i64 eqty, .slice edq edn edc]) rfl (by kernel_rfl) (by kernel_rfl) (by kernel_rfl) (fun _ _ _ h => h) (yieldsIf_load_mid (by rfl) 39 (.tmp 55) rfl v 7 rfl [.int .i64 eop, .string ekey, .string eoth, .string eitem, .int .i64 eqty, .slice edq edn edc] _ (fun _ h => h.1) Try.underlying39 rfl info39) hHeld ?_
                  try simp only [Act.put, List.setIfInBounds_toArray, List.set_cons_zero, List.set_cons_succ]
                  refine wpAnyH_take (i := 3) (oi := ⟨some 57, _, _, _, _, _⟩) (v := ?_) rfl (by kernel_rfl) (by kernel_rfl) (by kernel_rfl) (fun _ _ _ h => h) (Or.inl ⟨by rfl, ?_⟩) hHeld ?_
                  rotate_left
                  · (intro w hSw; obtain ⟨hq0, hq1⟩ := hSw; go_simp; try with_reducible rfl)
                  try simp only [Act.put, List.setIfInBounds_toArray, List.set_cons_zero, List.set_cons_succ]
                  refine wpAnyH_take (i := 4) (oi := ⟨some 58, _, _, _, _, _⟩) (v := .agg #[.int .i64 eaop, .int .i64 eaerr, .int .i64 eacnt, .slice elq eln elc, .slice ebq ebn ebc]) rfl (by kernel_rfl) (by kernel_rfl) (by kernel_rfl) (fun _ _ _ h => h) (yieldsIf_load_mid (by rfl) 36 (.tmp 57) rfl v 13 rfl [.int .i64 eaop, .int .i64 eaerr, .int .i64 eacnt, .slice elq eln elc, .slice ebq ebn ebc] _ (fun _ h => h.2) Try.underlying36 rfl info36) hHeld ?_
                  try simp only [Act.put, List.setIfInBounds_toArray, List.set_cons_zero, List.set_cons_succ]
                  refine wpAnyH_take (i := 5) (oi := ⟨some 59, _, _, _, _, _⟩) (v := ?_) rfl (by kernel_rfl) (by kernel_rfl) (by kernel_rfl) (fun _ _ _ h => h) (Or.inl ⟨by rfl, ?_⟩) hHeld ?_
                  rotate_left
                  · (intro w hSw; obtain ⟨hq0, hq1⟩ := hSw; go_simp; try with_reducible rfl)
                  try simp only [Act.put, List.setIfInBounds_toArray, List.set_cons_zero, List.set_cons_succ]
                  refine wpAnyH_ready (rs := [6]) (by kernel_rfl) (by simp) ?_
                  refine AllReadyH.cons (o := ⟨none, _, _, _, _, _⟩) rfl (fun K hK => ?_) AllReadyH.nil
                  have t13 := HX2.out.got 13 _ rfl
                  have f13 := HX2.out.free 13
                  go_simp
                  clear t13 f13
                  have HX3 : Hid (Blk (w2.setCell ⟨y, 13, none⟩ (.int .i64 k)) y 41 [.int .i64 xt, .int .i64 xop, .string xkey, .string xoth, .string xitem, .int .i64 xqty, .slice xdq xdn xdc, .int .i64 xaop, .int .i64 xaerr, .int .i64 xacnt, .slice xlq xln xlc, .slice xbq xbn xbc, .int .i64 xa, .int .i64 k, .int .i64 xn]) := Lib.hid (HX2.out.set_ 13 (.int .i64 k))
                  have hf3 := (Fr.refl (fun x => x = y) w2).set ⟨y, 13, none⟩ (.int .i64 (k : Int)) (.inl rfl)
                  have HD3 := Lib.hid (HD2.out.fr hf3 (fun e => by have e : v = y := e; exact HVY.out e))
                  have HZ3 := Lib.hid (HZ2.out.fr hf3 (fun e => HYZ.out e.symm))
                  have HB3 := Lib.hid (Fr.below HB2.out hf3 (fun x hx => by have hx : x = y := hx; have := HYW.out; omega))
                  clear hf3
                  refine hK.out _ _ ⟨HD3.out.sub [_, _, _, _, _, _, _] [.int .i64 eop, .string ekey, .string eoth, .string eitem, .int .i64 eqty, .slice edq edn edc] [_, _, _, _, _], HD3.out.sub [_, _, _, _, _, _, _, _, _, _, _, _, _] [.int .i64 eaop, .int .i64 eaerr, .int .i64 eacnt, .slice elq eln elc, .slice ebq ebn ebc] []⟩ (fun hHeld => ?_)
                  clear hK K
                  try simp only [Act.put, List.setIfInBounds_toArray, List.set_cons_zero, List.set_cons_succ]
                  refine wpAnyH_take (i := 7) (oi := ⟨some 60, _, _, _, _, _⟩) (v := ?_) rfl (by kernel_rfl) (by kernel_rfl) (by kernel_rfl) (fun _ _ _ h => h) (Or.inl ⟨by rfl, ?_⟩) hHeld ?_
                  rotate_left
                  · (intro w hSw; obtain ⟨hq0, hq1⟩ := hSw; go_simp; try with_reducible rfl)
                  try simp only [Act.put, List.setIfInBounds_toArray, List.set_cons_zero, List.set_cons_succ]
                  refine wpAnyH_ready (rs := [8]) (by kernel_rfl) (by simp) ?_
                  refine AllReadyH.cons (o := ⟨none, _, _, _, _, _⟩) rfl (fun K hK => ?_) AllReadyH.nil
                  (refine step_st (by rfl) 39 (.tmp 60) (.tmp 56) (by rfl) y 1 (by rfl) #[.int .i64 eop, .string ekey, .string eoth, .string eitem, .int .i64 eqty, .slice edq edn edc] (by rfl) 41 _ [.int .i64 xt, .int .i64 eop, .string ekey, .string eoth, .string eitem, .int .i64 eqty, .slice edq edn edc, .int .i64 xaop, .int .i64 xaerr, .int .i64 xacnt, .slice xlq xln xlc, .slice xbq xbn xbc, .int .i64 xa, .int .i64 k, .int .i64 xn] (by exact HX3.out) (by simp) info39 (by rfl) (by rfl) ?_; intro w4 hb4 hf4)
                  replace hf4 : Fr (fun x => x = y) _ w4 := (show Fr (fun x => x = y) (w2.setCell ⟨y, 13, none⟩ (.int .i64 (k : Int))) w4 from ⟨hf4.os, hf4.tape, hf4.output, hf4.size, hf4.block⟩)
                  have HX4 := Lib.hid hb4
                  have HD4 := Lib.hid (HD3.out.fr hf4 (fun e => by have e : v = y := e; exact HVY.out e))
                  have HZ4 := Lib.hid (HZ3.out.fr hf4 (fun e => HYZ.out e.symm))
                  have HB4 := Lib.hid (Fr.below HB3.out hf4 (fun x hx => by have hx : x = y := hx; have := HYW.out; omega))
                  clear hb4 hf4
                  refine hK.out _ _ ⟨HD4.out.sub [_, _, _, _, _, _, _] [.int .i64 eop, .string ekey, .string eoth, .string eitem, .int .i64 eqty, .slice edq edn edc] [_, _, _, _, _], HD4.out.sub [_, _, _, _, _, _, _, _, _, _, _, _, _] [.int .i64 eaop, .int .i64 eaerr, .int .i64 eacnt, .slice elq eln elc, .slice ebq ebn ebc] []⟩ (fun hHeld => ?_)
                  clear hK K
                  try simp only [Act.put, List.setIfInBounds_toArray, List.set_cons_zero, List.set_cons_succ]
                  refine wpAnyH_take (i := 9) (oi := ⟨some 61, _, _, _, _, _⟩) (v := ?_) rfl (by kernel_rfl) (by kernel_rfl) (by kernel_rfl) (fun _ _ _ h => h) (Or.inl ⟨by rfl, ?_⟩) hHeld ?_
                  rotate_left
                  · (intro w hSw; obtain ⟨hq0, hq1⟩ := hSw; go_simp; try with_reducible rfl)
                  try simp only [Act.put, List.setIfInBounds_toArray, List.set_cons_zero, List.set_cons_succ]
                  refine wpAnyH_ready (rs := [10]) (by kernel_rfl) (by simp) ?_
                  refine AllReadyH.cons (o := ⟨none, _, _, _, _, _⟩) rfl (fun K hK => ?_) AllReadyH.nil
                  (refine step_st (by rfl) 36 (.tmp 61) (.tmp 58) (by rfl) y 7 (by rfl) #[.int .i64 eaop, .int .i64 eaerr, .int .i64 eacnt, .slice elq eln elc, .slice ebq ebn ebc] (by rfl) 41 _ [.int .i64 xt, .int .i64 eop, .string ekey, .string eoth, .string eitem, .int .i64 eqty, .slice edq edn edc, .int .i64 eaop, .int .i64 eaerr, .int .i64 eacnt, .slice elq eln elc, .slice ebq ebn ebc, .int .i64 xa, .int .i64 k, .int .i64 xn] (by exact HX4.out) (by simp) info36 (by rfl) (by rfl) ?_; intro w5 hb5 hf5)
                  replace hf5 : Fr (fun x => x = y) _ w5 := (show Fr (fun x => x = y) w4 w5 from ⟨hf5.os, hf5.tape, hf5.output, hf5.size, hf5.block⟩)
                  have HX5 := Lib.hid hb5
                  have HD5 := Lib.hid (HD4.out.fr hf5 (fun e => by have e : v = y := e; exact HVY.out e))
                  have HZ5 := Lib.hid (HZ4.out.fr hf5 (fun e => HYZ.out e.symm))
                  have HB5 := Lib.hid (Fr.below HB4.out hf5 (fun x hx => by have hx : x = y := hx; have := HYW.out; omega))
                  clear hb5 hf5
                  refine hK.out _ _ ⟨HD5.out.sub [_, _, _, _, _, _, _] [.int .i64 eop, .string ekey, .string eoth, .string eitem, .int .i64 eqty, .slice edq edn edc] [_, _, _, _, _], HD5.out.sub [_, _, _, _, _, _, _, _, _, _, _, _, _] [.int .i64 eaop, .int .i64 eaerr, .int .i64 eacnt, .slice elq eln elc, .slice ebq ebn ebc] []⟩ (fun hHeld => ?_)
                  clear hK K
                  try simp only [Act.put, List.setIfInBounds_toArray, List.set_cons_zero, List.set_cons_succ]
                  refine wpAnyH_done (by kernel_rfl) ?_ _
                  refine NoPanic.normal ?_
                  clear hHeld HX3 HX4 HD3 HD4 HZ3 HZ4 HB3 HB4 HX2 HD2 HZ2 HB2
                  have HG5 := Lib.hid (HRK.out w5 HB5.out)
                  have s1 := HG5.out 1 _ rfl
                  cases lk with
                  | false =>
                    have hl7 : (dstep == 7) = false := by have := HLK.out; simp at this; rw [← HDD.out.step] at this; simpa using this
                    have HP1 : Hid (pup1 k false pe q = ⟨q.task, q.asked, k, q.ans, pe.c, pe.a⟩) := Lib.hid (by simp [pup1, ← HEE.out.made])
                    go_wp2_with fail
                    go_meet
                    exact ⟨⟨xt, xa, k, xn, eop, ekey, eoth, eitem, eqty, edq, edn, edc, eaop, eaerr, eacnt, elq, eln, elc, ebq, ebn, ebc⟩, Lib.hid ⟨HX5.out, HD5.out, by rw [HP1.out]; exact ⟨HE.out.task, HE.out.asked, rfl, HE.out.ans, HEE.out.c, HEE.out.a⟩, HZ5.out, HB5.out⟩⟩
                  | true =>
                    have hl7 : dstep = 7 := by have := HLK.out; simp at this; rw [← HDD.out.step] at this; exact this
                    subst hl7
                    have t14 := HX5.out.got 14 _ rfl
                    have f14 := HX5.out.free 14
                    have HP1 : Hid (pup1 k true pe q = ⟨q.task, q.asked, k, k, pe.c, pe.a⟩) := Lib.hid (by simp [pup1, ← HEE.out.made])
                    go_wp2_with fail
                    have HX6 : Hid (Blk (w5.setCell ⟨y, 14, none⟩ (.int .i64 k)) y 41 [.int .i64 xt, .int .i64 eop, .string ekey, .string eoth, .string eitem, .int .i64 eqty, .slice edq edn edc, .int .i64 eaop, .int .i64 eaerr, .int .i64 eacnt, .slice elq eln elc, .slice ebq ebn ebc, .int .i64 xa, .int .i64 k, .int .i64 k]) := Lib.hid (HX5.out.set_ 14 (.int .i64 k))
                    have hf6 := (Fr.refl (fun x => x = y) w5).set ⟨y, 14, none⟩ (.int .i64 (k : Int)) (.inl rfl)
                    have HD6 := Lib.hid (HD5.out.fr hf6 (fun e => by have e : v = y := e; exact HVY.out e))
                    have HZ6 := Lib.hid (HZ5.out.fr hf6 (fun e => HYZ.out e.symm))
                    have HB6 := Lib.hid (Fr.below HB5.out hf6 (fun x hx => by have hx : x = y := hx; have := HYW.out; omega))
                    go_meet
                    exact ⟨⟨xt, xa, k, k, eop, ekey, eoth, eitem, eqty, edq, edn, edc, eaop, eaerr, eacnt, elq, eln, elc, ebq, ebn, ebc⟩, Lib.hid ⟨HX6.out, HD6.out, by rw [HP1.out]; exact ⟨HE.out.task, HE.out.asked, rfl, rfl, HEE.out.c, HEE.out.a⟩, HZ6.out, HB6.out⟩⟩
                | false =>
                  have HP1 : Hid (pup1 k lk pe q = q) := Lib.hid (by simp [pup1, ← HEE.out.made])
                  go_wp2_with fail
                  go_meet
                  exact ⟨⟨xt, xa, xm, xn, xop, xkey, xoth, xitem, xqty, xdq, xdn, xdc, xaop, xaerr, xacnt, xlq, xln, xlc, xbq, xbn, xbc⟩, Lib.hid ⟨HX2.out, HD2.out, by rw [HP1.out]; exact HE.out, HZ2.out, HB2.out⟩⟩
              case rest =>
                obtain ⟨x1, H1⟩ := hcut
                generalize wc = w3 at *
                clear HX2 HZ2 HB2 HD2 d6
                have d1 := H1.out.2.1.got 1 _ rfl
                by_cases h6 : estep = 6
                · subst h6
                  have HNX := Lib.hid (show pevent l i = prl i lk (k + 1) (l.drop (k + 1)) ⟨(pup1 k lk pe q).task, (pup1 k lk pe q).asked, (pup1 k lk pe q).made, k, (pup1 k lk pe q).c, (pup1 k lk pe q).a⟩ by rw [HPT.out]; congr 1; simp only [pup2, ← HEE.out.step]; rfl)
                  obtain ⟨ut, ua, um, un, uop, ukey, uoth, uitem, uqty, udq, udn, udc, uaop, uaerr, uacnt, ulq, uln, ulc, ubq, ubn, ubc⟩ := x1
                  simp only [Ev.cells] at H1
                  have t14 := H1.out.1.got 14 _ rfl
                  have f14 := H1.out.1.free 14
                  go_wp2_with fail
                  have HX6 : Hid (Blk (w3.setCell ⟨y, 14, none⟩ (.int .i64 k)) y 41 [.int .i64 ut, .int .i64 uop, .string ukey, .string uoth, .string uitem, .int .i64 uqty, .slice udq udn udc, .int .i64 uaop, .int .i64 uaerr, .int .i64 uacnt, .slice ulq uln ulc, .slice ubq ubn ubc, .int .i64 ua, .int .i64 um, .int .i64 k]) := Lib.hid (H1.out.1.set_ 14 (.int .i64 k))
                  have hf6 := (Fr.refl (fun x => x = y) w3).set ⟨y, 14, none⟩ (.int .i64 (k : Int)) (.inl rfl)
                  have HZ6 := Lib.hid (H1.out.2.2.2.1.fr hf6 (fun e => HYZ.out e.symm))
                  have HB6 := Lib.hid (Fr.below H1.out.2.2.2.2 hf6 (fun x hx => by have hx : x = y := hx; have := HYW.out; omega))
                  have HE6 := Lib.hid H1.out.2.2.1
                  clear H1 t14 f14 d1 hf6
                  go_roundw
                  case rel => exact ⟨k + 1, ⟨ut, ua, um, k, uop, ukey, uoth, uitem, uqty, udq, udn, udc, uaop, uaerr, uacnt, ulq, uln, ulc, ubq, ubn, ubc⟩, ⟨(pup1 k lk pe q).task, (pup1 k lk pe q).asked, (pup1 k lk pe q).made, k, (pup1 k lk pe q).c, (pup1 k lk pe q).a⟩, by omega, by omega, by go_num, Lib.hid ⟨HX6.out, ⟨HE6.out.task, HE6.out.asked, HE6.out.made, rfl, HE6.out.c, HE6.out.a⟩, HZ6.out, HB6.out, HNX.out⟩⟩
                  case measure => simp [intOf]; omega
                · have h6' : (estep == 6) = false := by simpa using h6
                  have HNX := Lib.hid (show pevent l i = prl i lk (k + 1) (l.drop (k + 1)) (pup1 k lk pe q) by rw [HPT.out]; congr 1; simp only [pup2]; rw [if_neg (by rw [← HEE.out.step]; exact h6)])
                  clear h6
                  go_wp2_with fail
                  have HH := Lib.hid H1.out
                  clear H1 d1
                  go_roundw
                  case rel => exact ⟨k + 1, x1, _, by omega, by omega, by go_num, Lib.hid ⟨HH.out.1, HH.out.2.2.1, HH.out.2.2.2.1, HH.out.2.2.2.2, HNX.out⟩⟩
                  case measure => simp [intOf]; omega
        · have ht' : (etask != xt) = true := by simpa using ht
          have ht2 : (etask == xt) = false := by simpa using ht
          have HNX := Lib.hid (show pevent l i = prl i lk (k + 1) (l.drop (k + 1)) q by rw [HPR.out, if_neg (by rw [← HEE.out.task, ← HE.out.task]; exact ht)])
          have d0 := HD2.out.got 0 _ rfl
          have x0 := HX2.out.got 0 _ rfl
          clear ht
          go_wp2_with fail
          clear d0 x0
          go_roundw
          case rel => exact ⟨k + 1, ⟨xt, xa, xm, xn, xop, xkey, xoth, xitem, xqty, xdq, xdn, xdc, xaop, xaerr, xacnt, xlq, xln, xlc, xbq, xbn, xbc⟩, q, by omega, by omega, by go_num, Lib.hid ⟨HX2.out, HE.out, HZ2.out, HB2.out, HNX.out⟩⟩
          case measure => simp [intOf]; omega
      · have hkn : k = n := by omega
        subst hkn
        have HQ := Lib.hid (show pevent l i = q by rw [HI.out.2.2.2.2, ← HLN.out, List.drop_length]; rfl)
        have HXk := Lib.hid HI.out.1
        have HE := Lib.hid HI.out.2.1
        have HZk := Lib.hid HI.out.2.2.1
        have HBk := Lib.hid HI.out.2.2.2.1
        clear HI
        obtain ⟨xt, xa, xm, xn, xop, xkey, xoth, xitem, xqty, xdq, xdn, xdc, xaop, xaerr, xacnt, xlq, xln, xlc, xbq, xbn, xbc⟩ := x
        simp only [Ev.cells] at HXk
        go_wp2_with (first | refine wpList_ld rfl 41 (.tmp 5) rfl y 0 rfl #[.int .i64 xt, .int .i64 xop, .string xkey, .string xoth, .string xitem, .int .i64 xqty, .slice xdq xdn xdc, .int .i64 xaop, .int .i64 xaerr, .int .i64 xacnt, .slice xlq xln xlc, .slice xbq xbn xbc, .int .i64 xa, .int .i64 xm, .int .i64 xn] [.int .i64 xt, .int .i64 xop, .string xkey, .string xoth, .string xitem, .int .i64 xqty, .slice xdq xdn xdc, .int .i64 xaop, .int .i64 xaerr, .int .i64 xacnt, .slice xlq xln xlc, .slice xbq xbn xbc, .int .i64 xa, .int .i64 xm, .int .i64 xn] rfl _ HXk.out.range Try.underlying41 rfl info41 ?_ | (refine wpList_stF rfl rfl 41 (.tmp 4) (.tmp 75) rfl z rfl #[.int .i64 xt, .int .i64 xop, .string xkey, .string xoth, .string xitem, .int .i64 xqty, .slice xdq xdn xdc, .int .i64 xaop, .int .i64 xaerr, .int .i64 xacnt, .slice xlq xln xlc, .slice xbq xbn xbc, .int .i64 xa, .int .i64 xm, .int .i64 xn] rfl 41 _ HZk.out (by rfl) info41 (by rfl) ?_; intro w9 hb9 hf9))
        try simp only [Exit.inBlock, Exit.then]
        refine bodyPost_ret (results_cell_row rfl _ _ z 41 _ (0, 0) _ (by rfl) (show Blk w9 z 41 [.int .i64 xt, .int .i64 xop, .string xkey, .string xoth, .string xitem, .int .i64 xqty, .slice xdq xdn xdc, .int .i64 xaop, .int .i64 xaerr, .int .i64 xacnt, .slice xlq xln xlc, .slice xbq xbn xbc, .int .i64 xa, .int .i64 xm, .int .i64 xn] from hb9) Try.underlying41 (by rfl) (by kernel_rfl)) rfl ?_
        exact ⟨_, rfl, by rw [HQ.out]; exact HE.out, Fr.below HBk.out hf9 (fun x hx => by have hx : x = z := hx; have := HZW.out; omega)⟩
end Go.Proofs.Ytbkkplednfdfdaa
