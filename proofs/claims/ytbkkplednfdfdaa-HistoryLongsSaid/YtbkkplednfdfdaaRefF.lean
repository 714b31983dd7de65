/- The reference's of. Printed by hist_y.py. -/
import Derived.Test.YtbkkplednfdfdaaPlainW
import Derived.Test.YtbkkplednfdfdaaLd
namespace Go.Proofs.Ytbkkplednfdfdaa
open Go.RowKit Go.Maps

theorem did_info : (Try.prog.info? 51).map (fun i => (i.zero, i.size, i.bytes)) = some (some (.agg #[.int .i64 0, .int .i64 0, .int .i64 0, .bool false, .int .i64 0, .slice none 0 0, .bool false, .int .i64 0, .string ⟨#[]⟩, .string ⟨#[]⟩, .string ⟨#[]⟩, .int .i64 0, .slice none 0 0, .int .i64 0, .int .i64 0, .int .i64 0, .slice none 0 0, .slice none 0 0]), 18, 232) := by kernel_rfl
theorem int_info : (Try.prog.info? 3).map (fun i => (i.zero, i.size, i.bytes)) = some (some (.int .i64 0), 1, 8) := by kernel_rfl
theorem own_typ {w : World} {base size n : Nat} {e : TypeId} {v : Value} {xs : List Value} (h : w.ownsRow base e size v n xs) {k : Nat} (hk : v.ownBlock = some k) : ∃ cur, w.heap[k]? = some (.cells cur e (0, 0)) := by
  rcases h.2 with ⟨h1, h2⟩ | ⟨g, cap, cur, hv, hg, hh, _⟩
  · rw [h1] at hk; cases hk
  · rw [hv] at hk
    injection hk with hk
    subst hk
    exact ⟨cur, hh⟩
/-- Two slices of the call's own, of different types, lie apart. -/
theorem own_ne {w : World} {B s1 n1 s2 n2 : Nat} {t1 t2 : TypeId} {v1 v2 : Value} {x1 x2 : List Value} (h1 : w.ownsRow B t1 s1 v1 n1 x1) (h2 : w.ownsRow B t2 s2 v2 n2 x2) (ht : t1 ≠ t2) : ∀ g, v2.ownBlock = some g → ¬ v1.ownBlock = some g := by
  intro g hg hg1
  obtain ⟨c1, e1⟩ := own_typ h1 hg1
  obtain ⟨c2, e2⟩ := own_typ h2 hg
  rw [e1] at e2
  injection e2 with e2
  injection e2 with _ e2
  exact ht e2
def dmine (t : Int) (l : List Di) : List Di := l.filter (fun d => decide (d.task = t))
/-- Where the first k steps are of task t. -/
def ixU (t : Int) (ds : List Di) : Nat → List Int
  | 0 => []
  | k + 1 => ixU t ds k ++ (match ds[k]? with
    | none => []
    | some d => if d.task = t then [(k : Int)] else [])
theorem ixU_len (t : Int) (ds : List Di) : ∀ k, (ixU t ds k).length ≤ k
  | 0 => Nat.zero_le _
  | k + 1 => by
    rw [ixU, List.length_append]
    have := ixU_len t ds k
    cases ds[k]? with
    | none => simp; omega
    | some d => by_cases e : d.task = t <;> simp [e] <;> omega
theorem dmine_take {t : Int} {ds : List Di} {k : Nat} (hk : k < ds.length) : dmine t (ds.take (k + 1)) = dmine t (ds.take k) ++ (if ds[k].task = t then [ds[k]] else []) := by
  rw [List.take_succ_eq_append_getElem hk]
  unfold dmine
  rw [List.filter_append]
  congr 1
  by_cases e : ds[k].task = t <;> simp [e]
theorem dmine_len (t : Int) (l : List Di) : (dmine t l).length ≤ l.length := List.length_filter_le _ _
/-- What of returns. -/
def RetF (w : World) (ds : List Di) (t : Int) (e : Ending) (w' : World) : Prop := ∃ q1 c1 q2 c2, e = .returned (.tuple #[.slice q1 (dmine t ds).length c1, .slice q2 (ixU t ds ds.length).length c2]) ∧
  w'.ownsRow w.heap.size 51 18 (.slice q1 (dmine t ds).length c1) (dmine t ds).length (dis (dmine t ds)) ∧ w'.ownsRow w.heap.size 3 1 (.slice q2 (ixU t ds ds.length).length c2) (ixU t ds ds.length).length (ints (ixU t ds ds.length)) ∧ Below w.heap.size w w'
set_option maxRecDepth 100000 in
set_option maxHeartbeats 8000000 in
theorem of27_any (w : World) (p : Option Addr) (c : Nat) (ds : List Di) (t : Int) (h : Rd w w.heap.size p (dis ds)) (hc : ds.length ≤ c) (hl : ds.length ≤ 4100) :
    Calls Try.prog 27 #[.slice p ds.length c, .int .i64 t] w (RetF w ds t) := by
  have HR := Lib.hid h
  obtain ⟨n, hn9⟩ : ∃ n, ds.length = n := ⟨_, rfl⟩
  have HN := Lib.hid hn9
  rw [hn9] at hc hl ⊢
  have hni : (n : Int) ≤ 4100 := by omega
  have HT0 := Lib.hid (World.ownsRow_nil w w.heap.size 51 18)
  have HT1 := Lib.hid (World.ownsRow_nil w w.heap.size 3 1)
  clear h hn9
  go_enter Try.func27, Try.ntmps27
  go_wp2_with fail
  go_loopw [6, 7, 8] (fun a b i wr => ∃ (k m1 m2 : Nat) (q1 q2 : Option Addr) (c1 c2 : Nat), k ≤ n ∧ i = .int .i64 k ∧ a = .slice q1 m1 c1 ∧ b = .slice q2 m2 c2 ∧ Hid (m1 = (dmine t (ds.take k)).length ∧ m2 = (ixU t ds k).length ∧ wr.ownsRow w.heap.size 51 18 (.slice q1 m1 c1) m1 (dis (dmine t (ds.take k))) ∧ wr.ownsRow w.heap.size 3 1 (.slice q2 m2 c2) m2 (ints (ixU t ds k)) ∧ Below w.heap.size w wr)) (fun _ _ i _ => n - (intOf i).toNat)
  case atStart => exact ⟨0, 0, 0, none, none, 0, 0, Nat.zero_le _, rfl, rfl, rfl, Lib.hid ⟨rfl, rfl, HT0.out, HT1.out, Below.refl _ _⟩⟩
  case round =>
    obtain ⟨k, m1, m2, q1, q2, c1, c2, hk, rfl, rfl, rfl, HI⟩ := hrel
    by_cases hlt : k < n
    · have hki : (k : Int) < (n : Int) := by omega
      have hk2 : k < ds.length := by rw [HN.out]; exact hlt
      obtain ⟨b, o, rfl, hb, hc9⟩ := dis_rd HR.out hk2
      have hm1 : m1 ≤ 4100 := by have h1 := HI.out.1; have h2 := dmine_len t (ds.take k); have h3 := List.length_take_le k ds; omega
      have hm2 : m2 ≤ 4100 := by have h1 := HI.out.2.1; have h2 := ixU_len t ds k; omega
      have HF := Lib.hid (dmine_take (t := t) hk2)
      have HX := Lib.hid (show ixU t ds (k + 1) = ixU t ds k ++ (if ds[k].task = t then [(k : Int)] else []) by rw [ixU, List.getElem?_eq_getElem hk2])
      obtain ⟨e, he⟩ : ∃ e, ds[k] = e := ⟨_, rfl⟩
      rw [he] at hc9 HF HX
      have HG := Lib.hid (show ∀ i u, e.cells[i]? = some u → wr.cell? ⟨b, o + k * 18 + i, none⟩ = some u from fun i u hu => (HI.out.2.2.2.2.cell (p := ⟨b, o + k * 18 + i, none⟩) hb).trans (hc9 i u hu))
      obtain ⟨etask, estep, estripe, ewaits, enext, evq, evn, evc, emk, eop, ekey, eoth, eitem, eqty, edq, edn, edc, eaop, eaerr, eacnt, elq, eln, elc, ebq, ebn, ebc⟩ := e
      have q0 := HG.out 0 _ rfl
      simp only [Nat.add_zero] at q0
      clear hk2 hb hc9 he
      by_cases ht : etask = t
      · have ht' : (etask == t) = true := by simpa using ht
        have HF2 := Lib.hid (show dis (dmine t (ds.take (k + 1))) = dis (dmine t (ds.take k)) ++ [.int .i64 etask, .int .i64 estep, .int .i64 estripe, .bool ewaits, .int .i64 enext, .slice evq evn evc, .bool emk, .int .i64 eop, .string ekey, .string eoth, .string eitem, .int .i64 eqty, .slice edq edn edc, .int .i64 eaop, .int .i64 eaerr, .int .i64 eacnt, .slice elq eln elc, .slice ebq ebn ebc] ∧ (dmine t (ds.take (k + 1))).length = (dmine t (ds.take k)).length + 1 by rw [HF.out, if_pos ht]; exact ⟨by simp [dis, Di.cells], by simp⟩)
        have HX2 := Lib.hid (show ints (ixU t ds (k + 1)) = ints (ixU t ds k) ++ [.int .i64 k] ∧ (ixU t ds (k + 1)).length = (ixU t ds k).length + 1 by rw [HX.out, if_pos ht]; exact ⟨by simp [ints], by simp⟩)
        have HRG := Lib.hid (show wr.rangeAt b (o + k * 18) [.int .i64 etask, .int .i64 estep, .int .i64 estripe, .bool ewaits, .int .i64 enext, .slice evq evn evc, .bool emk, .int .i64 eop, .string ekey, .string eoth, .string eitem, .int .i64 eqty, .slice edq edn edc, .int .i64 eaop, .int .i64 eaerr, .int .i64 eacnt, .slice elq eln elc, .slice ebq ebn ebc] from fun j v hv => HG.out j v hv)
        have HO1 := Lib.hid HI.out.2.2.1
        have HO2 := Lib.hid HI.out.2.2.2.1
        have HL := Lib.hid (And.intro HI.out.1 HI.out.2.1)
        have HB := Lib.hid HI.out.2.2.2.2
        clear ht HI HF HX HG
        generalize dis (dmine t (ds.take k)) = X1 at *
        generalize ints (ixU t ds k) = X2 at *
        go_upto_region 8 with (first | refine wpList_ld rfl 51 (.tmp 25) rfl b (o + k * 18) rfl #[.int .i64 etask, .int .i64 estep, .int .i64 estripe, .bool ewaits, .int .i64 enext, .slice evq evn evc, .bool emk, .int .i64 eop, .string ekey, .string eoth, .string eitem, .int .i64 eqty, .slice edq edn edc, .int .i64 eaop, .int .i64 eaerr, .int .i64 eacnt, .slice elq eln elc, .slice ebq ebn ebc] [.int .i64 etask, .int .i64 estep, .int .i64 estripe, .bool ewaits, .int .i64 enext, .slice evq evn evc, .bool emk, .int .i64 eop, .string ekey, .string eoth, .string eitem, .int .i64 eqty, .slice edq edn edc, .int .i64 eaop, .int .i64 eaerr, .int .i64 eacnt, .slice elq eln elc, .slice ebq ebn ebc] rfl _ HRG.out Try.underlying51 rfl info51 ?_ | (at_builtin; refine wpList_appS rfl (.tmp 22) (.tmp 27) 22 rfl w.heap.size 51 _ 18 232 Try.underlying22 did_info rfl (by omega) _ m1 X1 rfl HO1.out [.int .i64 etask, .int .i64 estep, .int .i64 estripe, .bool ewaits, .int .i64 enext, .slice evq evn evc, .bool emk, .int .i64 eop, .string ekey, .string eoth, .string eitem, .int .i64 eqty, .slice edq edn edc, .int .i64 eaop, .int .i64 eaerr, .int .i64 eacnt, .slice elq eln elc, .slice ebq ebn ebc] rfl (by intro u hu; exact dis_one [⟨etask, estep, estripe, ewaits, enext, evq, evn, evc, emk, eop, ekey, eoth, eitem, eqty, edq, edn, edc, eaop, eaerr, eacnt, elq, eln, elc, ebq, ebn, ebc⟩] u hu) rfl (by omega) (by omega) HB.out.size ?_; intro v5 w5 hown5 hb5 hat5 hg5))
        obtain ⟨p5, c5, rfl, -, -⟩ := own_shape hown5
        have HN5 := Lib.hid hown5
        have HF5 := Lib.hid ((Fr.refl (fun x => (Value.slice q1 m1 c1).ownBlock = some x) wr).gb hg5 (fun c hc => .inl hc))
        have HO5 := Lib.hid (own_fr HO2.out HF5.out (fun g hg => own_ne HO1.out HO2.out (by decide) g hg))
        have HB5 := Lib.hid (HB.out.trans (hb5.mono (Nat.le_refl _)))
        clear hown5 hb5 hat5 hg5 HO1 HO2 HF5 HRG q0 ht'
        go_wp2_with (at_builtin; refine wpList_app1 rfl (.tmp 29) (.tmp 31) 49 rfl w.heap.size 3 _ 8 Try.underlying49 int_info rfl _ m2 X2 rfl HO5.out (.int .i64 k) (by rfl) rfl (by omega) (by omega) HB5.out.size ?_; intro v6 w6 hown6 hb6 hat6 hg6)
        obtain ⟨p6, c6, rfl, -, -⟩ := own_shape hown6
        have HF6 := Lib.hid ((Fr.refl (fun x => (Value.slice q2 m2 c2).ownBlock = some x) w5).gb hg6 (fun c hc => .inl hc))
        have HN6 := Lib.hid (own_fr HN5.out HF6.out (fun g hg => own_ne HO5.out HN5.out (by decide) g hg))
        have HO6 := Lib.hid hown6
        have HB6 := Lib.hid (HB5.out.trans (hb6.mono (Nat.le_refl _)))
        clear hown6 hb6 hat6 hg6 HN5 HO5 HF6 HB5 HB
        go_roundw
        case rel => exact ⟨k + 1, m1 + 1, m2 + 1, p5, p6, c5, c6, by omega, by go_num, by go_num, by go_num, Lib.hid ⟨by rw [HF2.out.2, HL.out.1], by rw [HX2.out.2, HL.out.2], by rw [HF2.out.1]; exact HN6.out, by rw [HX2.out.1]; exact HO6.out, HB6.out⟩⟩
        case measure => simp [intOf]; omega
      · have ht' : (etask == t) = false := by simpa using ht
        have HF2 := Lib.hid (show dmine t (ds.take (k + 1)) = dmine t (ds.take k) by rw [HF.out, if_neg ht]; simp)
        have HX2 := Lib.hid (show ixU t ds (k + 1) = ixU t ds k by rw [HX.out, if_neg ht]; simp)
        clear ht HF HX HG
        go_wp2_with fail
        clear q0
        go_roundw
        case rel => exact ⟨k + 1, m1, m2, q1, q2, c1, c2, by omega, by go_num, rfl, rfl, Lib.hid ⟨by rw [HF2.out]; exact HI.out.1, by rw [HX2.out]; exact HI.out.2.1, by rw [HF2.out]; exact HI.out.2.2.1, by rw [HX2.out]; exact HI.out.2.2.2.1, HI.out.2.2.2.2⟩⟩
        case measure => simp [intOf]; omega
    · have hkn : k = n := by omega
      subst hkn
      have HTK := Lib.hid (show ds.take k = ds by rw [← HN.out, List.take_length])
      go_wp2_with fail
      go_ret2
      refine ⟨q1, c1, q2, c2, ?_, ?_, ?_, HI.out.2.2.2.2⟩
      · have h1 := HI.out.1
        have h2 := HI.out.2.1
        rw [HTK.out] at h1
        rw [HN.out, ← h1, ← h2]
        rfl
      · have h1 := HI.out.1
        have h3 := HI.out.2.2.1
        rw [HTK.out] at h1 h3
        rw [← h1]; exact h3
      · have h2 := HI.out.2.1
        have h3 := HI.out.2.2.2.1
        rw [HN.out, ← h2]; exact h3
end Go.Proofs.Ytbkkplednfdfdaa
