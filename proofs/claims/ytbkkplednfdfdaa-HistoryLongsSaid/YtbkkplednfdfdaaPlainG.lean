/- The lists of HistoryLongs. Printed by hist_ad.py. -/
import Derived.Test.YtbkkplednfdfdaaRefO
import Derived.Test.YtbkkplednfdfdaaMk
import Derived.Test.YtbkkplednfdfdaaPlainV
import Derived.Test.YtbkkplednfdfdaaEvsB
namespace Go.Proofs.Ytbkkplednfdfdaa
open Go.RowKit Go.Maps
set_option linter.unusedVariables false

def zf (m i : Nat) : Zd := if i % (m + 1) = m then ⟨1, 4, true, 10, 1⟩ else ⟨1, 7, false, 0, 0⟩
def zl (m n : Nat) : List Zd := (List.range n).map (zf m)
theorem zl_len (m n : Nat) : (zl m n).length = n := by simp [zl]
theorem zf_task (m i : Nat) : (zf m i).pd.task = 1 := by unfold zf; split <;> rfl
theorem zl_task {m n : Nat} : ∀ d ∈ (zl m n).map Zd.pd, d.task = 1 := by
  intro d hd
  simp only [zl, List.mem_map, List.map_map] at hd
  obtain ⟨i, -, rfl⟩ := hd
  exact zf_task m i
theorem zl_pal (m : Nat) (hm : 1 ≤ m) : ∀ (len i : Nat) (o : Bool), (i % (m + 1) ≠ 0 → o = true) → palr 7 i o false ((List.range' i len).map fun i => sm (zf m i).pd) = true
  | 0, _, _, _ => rfl
  | len + 1, i, o, h => by
    rw [List.range'_succ, List.map_cons]
    by_cases e : i % (m + 1) = m
    · have hz : sm (zf m i).pd = (4, true) := by simp [zf, e, sm, Zd.pd]
      have ho : o = true := h (by omega)
      have h0 : (i + 1) % (m + 1) = 0 := by rw [Nat.add_mod, e, Nat.mod_eq_of_lt (show 1 < m + 1 by omega), Nat.mod_self]
      rw [hz, palr]
      have ih := zl_pal m hm len (i + 1) false (fun h1 => absurd h0 h1)
      simp [ho, ih]
    · have hz : sm (zf m i).pd = (7, false) := by simp [zf, e, sm, Zd.pd]
      rw [hz, palr]
      have ih := zl_pal m hm len (i + 1) true (fun _ => rfl)
      simp [ih]
theorem zl_ok {m n : Nat} (hm : 1 ≤ m) : WOK ((zl m n).map Zd.pd) := by
  refine ⟨fun d hd => ?_, fun t => ?_⟩
  · simp only [zl, List.mem_map, List.map_map] at hd
    obtain ⟨i, -, rfl⟩ := hd
    simp only [Function.comp]
    unfold zf
    split <;> (unfold rngOk Zd.pd; simp)
  · by_cases ht : t = 1
    · subst ht
      have h1 : mine 1 ((zl m n).map Zd.pd) = (zl m n).map Zd.pd := by
        unfold mine
        rw [List.filter_eq_self]
        intro d hd
        simpa using zl_task d hd
      rw [h1]
      by_cases hn : n = 0
      · left; subst hn; rfl
      · right
        have h2 : ((zl m n).map Zd.pd).map sm = (List.range' 0 n).map fun i => sm (zf m i).pd := by
          rw [zl, List.range_eq_range', List.map_map, List.map_map]
          rfl
        rw [h2]
        obtain ⟨n', rfl⟩ : ∃ n', n = n' + 1 := ⟨n - 1, by omega⟩
        have h3 := zl_pal m hm (n' + 1) 0 false (fun h => absurd (Nat.zero_mod _) h)
        rw [List.range'_succ, List.map_cons] at h3 ⊢
        have hz : sm (zf m 0).pd = (7, false) := by simp [zf, sm, Zd.pd, show ¬ 0 = m by omega]
        rw [hz] at h3 ⊢
        rw [pal, h3]
        rfl
    · left
      unfold mine
      rw [List.filter_eq_nil_iff]
      intro d hd
      have := zl_task d hd
      simp [this]
      exact fun e => ht e.symm
def e0 : Ev := ⟨0, 0, 0, 0, 0, ⟨#[]⟩, ⟨#[]⟩, ⟨#[]⟩, 0, none, 0, 0, 0, 0, 0, none, 0, 0, none, 0, 0⟩
def d0 : Di := ⟨0, 0, 0, false, 0, none, 0, 0, false, 0, ⟨#[]⟩, ⟨#[]⟩, ⟨#[]⟩, 0, none, 0, 0, 0, 0, 0, none, 0, 0, none, 0, 0⟩
def ev (i : Nat) : Ev := ⟨i, i, i, i, 0, ⟨#[]⟩, ⟨#[]⟩, ⟨#[]⟩, 0, none, 0, 0, 0, 0, 0, none, 0, 0, none, 0, 0⟩
def el (n : Nat) : List Ev := (List.range n).map ev
theorem el_len (n : Nat) : (el n).length = n := by simp [el]
theorem ev_bef {i j : Nat} (h : i < j) : befB (ev i) (ev j) = true := by
  rw [befB_iff]
  constructor
  · show (i : Int) ≠ -1; omega
  · show (i : Int) < (j : Int); omega
theorem ov_none : ∀ (len i : Nat), ovL ((List.range' i len).map ev) = 0
  | 0, _ => rfl
  | len + 1, i => by
    rw [List.range'_succ, List.map_cons, ovL, ov_none len (i + 1)]
    have : ((List.range' (i + 1) len).map ev).filter (ovB (ev i)) = [] := by
      rw [List.filter_eq_nil_iff]
      intro x hx
      simp only [List.mem_map, List.mem_range'] at hx
      obtain ⟨j, ⟨q, -, rfl⟩, rfl⟩ := hx
      have hb := ev_bef (show i < i + 1 + 1 * q by omega)
      unfold ovB
      rw [hb]
      simp
    rw [this]
    rfl
theorem el_ov (n : Nat) : ovL (el n) = 0 := by rw [el, List.range_eq_range']; exact ov_none n 0
theorem el_valid {n : Nat} (h : n ≤ 4096) : validL (el n) = true := by
  rw [valid_iff, rv_iff]
  refine ⟨by rw [el_len]; exact h, fun x hx => ?_, ?_⟩
  · simp only [el, List.mem_map, List.mem_range] at hx
    obtain ⟨i, hi, rfl⟩ := hx
    have h1 : ¬ ((i : Int) < 0) := by omega
    have h2 : ¬ ((9999 : Int) < (i : Int)) := by omega
    have h3 : ¬ ((i : Int) = -1) := by omega
    simp [rbad, ev, h1, h2, h3]
  · rw [List.pairwise_iff_getElem]
    intro i j hi hj hij
    simp only [el, List.getElem_map, List.getElem_range]
    rw [rbad2_iff]
    refine ⟨by simp [ev]; omega, fun _ => by simp [ev]; omega, fun e => ?_⟩
    simp [ev] at e
    omega
theorem el_long {n : Nat} (h : 4096 < n) : validL (el n) = false := by
  unfold validL
  rw [el_len]
  simp [h]
theorem get_bang {l : List Value} {r : Nat} (h : r < l.length) : some (l.toArray[r]!) = l[r]? := by
  rw [List.getElem?_eq_getElem h]
  simp [h]
theorem made_dis (n : Nat) : madeCells #[.int .i64 0, .int .i64 0, .int .i64 0, .bool false, .int .i64 0, .slice none 0 0, .bool false, .int .i64 0, .string ⟨#[]⟩, .string ⟨#[]⟩, .string ⟨#[]⟩, .int .i64 0, .slice none 0 0, .int .i64 0, .int .i64 0, .int .i64 0, .slice none 0 0, .slice none 0 0] (n * 18) = (dis (List.replicate n d0)).toArray := by
  apply Array.ext'
  apply List.ext_getElem?
  intro i
  by_cases hi : i < n * 18
  · have h := dis_at (List.replicate n d0) (i / 18) (by simp; omega) (i % 18) (by omega)
    rw [show i / 18 * 18 + i % 18 = i by omega] at h
    simp only [h, List.getElem_replicate]
    have h2 := get_bang (l := d0.cells) (r := i % 18) (show i % 18 < 18 by omega)
    rw [← h2]
    simp [madeCells, hi]
    rfl
  · rw [List.getElem?_eq_none (by simp [madeCells]; omega), List.getElem?_eq_none (by simp [dis_len]; omega)]
theorem made_evs (n : Nat) : madeCells #[.int .i64 0, .int .i64 0, .string ⟨#[]⟩, .string ⟨#[]⟩, .string ⟨#[]⟩, .int .i64 0, .slice none 0 0, .int .i64 0, .int .i64 0, .int .i64 0, .slice none 0 0, .slice none 0 0, .int .i64 0, .int .i64 0, .int .i64 0] (n * 15) = (evs (List.replicate n e0)).toArray := by
  apply Array.ext'
  apply List.ext_getElem?
  intro i
  by_cases hi : i < n * 15
  · have h := evs_at (List.replicate n e0) (i / 15) (by simp; omega) (i % 15) (by omega)
    rw [show i / 15 * 15 + i % 15 = i by omega] at h
    simp only [h, List.getElem_replicate]
    have h2 := get_bang (l := e0.cells) (r := i % 15) (show i % 15 < 15 by omega)
    rw [← h2]
    simp [madeCells, hi]
    rfl
  · rw [List.getElem?_eq_none (by simp [madeCells]; omega), List.getElem?_eq_none (by simp [evs_len]; omega)]
theorem mk_dids (n : Nat) (hn : n ≤ 10000) (w : World) : (Instr.makeSlice 22 (.int .i64 n) (.int .i64 n)).run Try.prog w = .ok (.slice (some ⟨w.heap.size, 0, none⟩) n n) (w.alloc (.cells (dis (List.replicate n d0)).toArray 51)) := by
  obtain ⟨i, hi, h1, h2, h3⟩ := info_parts did_info
  have h := run_make (P := Try.prog) w 22 51 i (.agg #[.int .i64 0, .int .i64 0, .int .i64 0, .bool false, .int .i64 0, .slice none 0 0, .bool false, .int .i64 0, .string ⟨#[]⟩, .string ⟨#[]⟩, .string ⟨#[]⟩, .int .i64 0, .slice none 0 0, .int .i64 0, .int .i64 0, .int .i64 0, .slice none 0 0, .slice none 0 0]) Try.underlying22 hi h1 .i64 .i64 n n (by omega) (Int.le_refl _) (by rw [h3]; omega) (by omega)
  rw [h, h2, Int.toNat_natCast, ← made_dis]
  rfl
theorem mk_evs (n : Nat) (hn : n ≤ 10000) (w : World) : (Instr.makeSlice 25 (.int .i64 n) (.int .i64 n)).run Try.prog w = .ok (.slice (some ⟨w.heap.size, 0, none⟩) n n) (w.alloc (.cells (evs (List.replicate n e0)).toArray 41)) := by
  obtain ⟨i, hi, h1, h2, h3⟩ := info_parts evt_info
  have h := run_make (P := Try.prog) w 25 41 i (.agg #[.int .i64 0, .int .i64 0, .string ⟨#[]⟩, .string ⟨#[]⟩, .string ⟨#[]⟩, .int .i64 0, .slice none 0 0, .int .i64 0, .int .i64 0, .int .i64 0, .slice none 0 0, .slice none 0 0, .int .i64 0, .int .i64 0, .int .i64 0]) Try.underlying25 hi h1 .i64 .i64 n n (by omega) (Int.le_refl _) (by rw [h3]; omega) (by omega)
  rw [h, h2, Int.toNat_natCast, ← made_evs]
  rfl
theorem putAt_in : ∀ (vs mid pre post : List Value), mid.length = vs.length → putAt (pre ++ (mid ++ post)) pre.length vs = pre ++ (vs ++ post)
  | [], [], _, _, _ => rfl
  | v :: vs, c :: mid, pre, post, h => by
    have h1 : (pre ++ (c :: mid ++ post)).set pre.length v = (pre ++ [v]) ++ (mid ++ post) := by rw [List.set_append_right _ _ (Nat.le_refl _)]; simp
    have h2 := putAt_in vs mid (pre ++ [v]) post (by simpa using h)
    rw [putAt, h1, show pre.length + 1 = (pre ++ [v]).length by simp, h2]
    simp
theorem dis_app (a b : List Di) : dis (a ++ b) = dis a ++ dis b := by simp [dis]
theorem dis_put {L : List Di} {k : Nat} (hk : k < L.length) (d : Di) : putAt (dis L) (k * 18) d.cells = dis (L.set k d) := by
  have h1 : dis L = dis (L.take k) ++ (L[k].cells ++ dis (L.drop (k + 1))) := by rw [← dis_cons, ← dis_app, ← List.drop_eq_getElem_cons hk, List.take_append_drop]
  have h2 : dis (L.set k d) = dis (L.take k) ++ (d.cells ++ dis (L.drop (k + 1))) := by rw [List.set_eq_take_append_cons_drop, if_pos hk, dis_app, dis_cons]
  have h3 : (dis (L.take k)).length = k * 18 := by rw [dis_len, List.length_take]; congr 1; omega
  rw [h1, h2, ← h3]
  exact putAt_in _ _ _ _ rfl
theorem evs_put {L : List Ev} {k : Nat} (hk : k < L.length) (d : Ev) : putAt (evs L) (k * 15) d.cells = evs (L.set k d) := by
  have h3 : (evs (L.take k)).length = k * 15 := evs_take_len hk
  rw [evs_split hk, evs_set hk, ← h3]
  exact putAt_in _ _ _ _ rfl
/-- A list that is filled up to place k. -/
def Fill {α : Type} (L : List α) (f : Nat → α) (n k : Nat) : Prop := L.length = n ∧ ∀ i, i < k → L[i]? = some (f i)
theorem Fill.set {α : Type} {L : List α} {f : Nat → α} {n k : Nat} (h : Fill L f n k) (hk : k < n) (x : α) (hx : x = f k) : Fill (L.set k x) f n (k + 1) := by
  refine ⟨by rw [List.length_set]; exact h.1, fun i hi => ?_⟩
  rw [List.getElem?_set]
  by_cases e : k = i
  · subst e; rw [if_pos rfl, if_pos (by rw [h.1]; exact hk), hx]
  · rw [if_neg e]; exact h.2 i (by omega)
theorem Fill.all {α : Type} {L : List α} {f : Nat → α} {n : Nat} (h : Fill L f n n) : L = (List.range n).map f := by
  apply List.ext_getElem?
  intro i
  by_cases hi : i < n
  · rw [h.2 i hi]; simp [hi]
  · rw [List.getElem?_eq_none (by rw [h.1]; omega), List.getElem?_eq_none (by simp; omega)]
theorem overlaps_long {w : World} (p : Option Addr) (c n : Nat) (h : 4096 < n) (h2 : n ≤ 10000) : Calls Try.prog 14 #[.slice p n c] w fun e w' => e = .returned (.tuple #[.int .i64 0, .int .i64 5]) ∧ Below w.heap.size w w' := by
  have hbi : (4096 : Int) < (n : Int) := by omega
  have hbj : (n : Int) ≤ 10000 := by omega
  clear h h2
  go_enter Try.func14, Try.ntmps14
  go_wp2_with fail
  go_ret2
  exact ⟨rfl, Below.refl _ _⟩
end Go.Proofs.Ytbkkplednfdfdaa
