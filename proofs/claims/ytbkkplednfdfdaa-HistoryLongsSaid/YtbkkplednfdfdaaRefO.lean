/- The reference's Of. Printed by hist_aa.py. -/
import Derived.Test.YtbkkplednfdfdaaRefE
import Derived.Test.YtbkkplednfdfdaaRefF
namespace Go.Proofs.Ytbkkplednfdfdaa
open Go.RowKit Go.Maps

theorem pofU_len (l : List PD) : ∀ k, (pofU l k).length ≤ k
  | 0 => Nat.zero_le _
  | k + 1 => by
    rw [pofU, List.length_append]
    have := pofU_len l k
    cases l[k]? with
    | none => simp; omega
    | some d => by_cases e : d.step = 1 ∨ d.step = 7 <;> simp [e] <;> omega
/-- Events in memory say what a list says. -/
def EvL (R : Rdr) (es : List Ev) (l : List PE) : Prop := es.length = l.length ∧ ∀ (i : Nat) (x : Ev) (r : PE), es[i]? = some x → l[i]? = some r → EvR R x r
theorem EvL.snoc {R : Rdr} {es : List Ev} {l : List PE} {x : Ev} {r : PE} (h : EvL R es l) (hx : EvR R x r) : EvL R (es ++ [x]) (l ++ [r]) := by
  refine ⟨by simp [h.1], fun i y q hy hq => ?_⟩
  by_cases hi : i < es.length
  · rw [List.getElem?_append_left hi] at hy
    rw [List.getElem?_append_left (by rw [← h.1]; exact hi)] at hq
    exact h.2 i y q hy hq
  · rw [List.getElem?_append_right (by omega)] at hy
    rw [List.getElem?_append_right (by rw [← h.1]; omega), ← h.1] at hq
    have h0 : i - es.length = 0 := by
      have := (List.getElem?_eq_some_iff.1 hy).1
      simp at this; omega
    rw [h0] at hy hq
    simp at hy hq
    subst hy hq
    exact hx
theorem EvL.imp {R R' : Rdr} {es : List Ev} {l : List PE} (h : EvL R es l) (hi : ∀ t p xs, R t p xs → R' t p xs) : EvL R' es l := ⟨h.1, fun i x r hx hr => (h.2 i x r hx hr).imp hi⟩
def RetO (w : World) (R : Rdr) (l : List PE) (e : Ending) (w' : World) : Prop := ∃ q c es, e = .returned (.slice q es.length c) ∧ w'.ownsRow w.heap.size 41 15 (.slice q es.length c) es.length (evs es) ∧ EvL R es l ∧ Below w.heap.size w w'
set_option maxRecDepth 100000 in
set_option maxHeartbeats 8000000 in
theorem refOf_any (w : World) (R : Rdr) (hR : ∀ t, R t none []) (p : Option Addr) (c : Nat) (ds : List Di) (l : List PD) (h : Rd w w.heap.size p (dis ds)) (hn : ds.length = l.length) (hc : ds.length ≤ c) (hl : ds.length ≤ 4100)
    (hd : ∀ (j : Nat) (d : Di) (q : PD), ds[j]? = some d → l[j]? = some q → DiR R d q) :
    Calls Try.prog 12 #[.slice p ds.length c] w (RetO w R (pofR l)) := by
  have HR := Lib.hid h
  have HD := Lib.hid hd
  have HEV := Lib.hid (fun (w' : World) (hb : Below w.heap.size w w') (i : Nat) (hi : i < ds.length) => event_any w' R hR p c ds l (h.kept hb) hn hc hl hd i hi)
  obtain ⟨n, hn9⟩ : ∃ n, ds.length = n := ⟨_, rfl⟩
  have HN := Lib.hid hn9
  have HLN := Lib.hid (show l.length = n by omega)
  rw [hn9] at hc hl ⊢
  simp only [hn9] at HEV
  have hni : (n : Int) ≤ 4100 := by omega
  have HT0 := Lib.hid (World.ownsRow_nil w w.heap.size 41 15)
  clear h hn9 hn hd hR
  go_enter Try.func12, Try.ntmps12
  go_wp2_with fail
  go_loopw [3, 4] (fun a i wr => ∃ (k m : Nat) (q : Option Addr) (c' : Nat) (es : List Ev), k ≤ n ∧ i = .int .i64 k ∧ a = .slice q m c' ∧ Hid (m = es.length ∧ wr.ownsRow w.heap.size 41 15 (.slice q m c') m (evs es) ∧ EvL R es (pofU l k) ∧ Below w.heap.size w wr)) (fun _ i _ => n - (intOf i).toNat)
  case atStart => exact ⟨0, 0, none, 0, [], Nat.zero_le _, rfl, rfl, Lib.hid ⟨rfl, HT0.out, ⟨rfl, fun i x r hx => by simp at hx⟩, Below.refl _ _⟩⟩
  case round =>
    obtain ⟨k, m, q, c', es, hk, rfl, rfl, HI⟩ := hrel
    by_cases hlt : k < n
    · have hki : (k : Int) < (n : Int) := by omega
      have hk2 : k < ds.length := by rw [HN.out]; exact hlt
      have hk3 : k < l.length := by rw [HLN.out]; exact hlt
      obtain ⟨b, o, rfl, hb, hc9⟩ := dis_rd HR.out hk2
      have hm : m ≤ 4100 := by have h1 := HI.out.1; have h2 := HI.out.2.2.1.1; have h3 := pofU_len l k; omega
      have hst := (HD.out k _ _ (List.getElem?_eq_getElem hk2) (List.getElem?_eq_getElem hk3)).step
      have HX := Lib.hid (show pofU l (k + 1) = pofU l k ++ (if l[k].step = 1 ∨ l[k].step = 7 then [pevent l k] else []) by rw [pofU, List.getElem?_eq_getElem hk3])
      obtain ⟨e, he⟩ : ∃ e, ds[k] = e := ⟨_, rfl⟩
      obtain ⟨pd, hpd⟩ : ∃ pd, l[k] = pd := ⟨_, rfl⟩
      rw [he] at hc9 hst
      rw [hpd] at hst HX
      have q1 := (HI.out.2.2.2.cell (p := ⟨b, o + k * 18 + 1, none⟩) hb).trans (hc9 1 _ rfl)
      rw [hst] at q1
      obtain ⟨s, hs⟩ : ∃ s, pd.step = s := ⟨_, rfl⟩
      rw [hs] at q1 HX
      obtain ⟨v1, hv1⟩ : ∃ v1, v1 = (decide (s = 1) || decide (s = 7)) := ⟨_, rfl⟩
      have HV := Lib.hid hv1
      have HVV := Lib.hid hv1
      have HC := Lib.hid (HEV.out wr HI.out.2.2.2 k hlt)
      clear hk2 hk3 hb hc9 hst he hpd hs hv1
      go_upto_region 5 with fail
      go_cut [24] (fun c wx => c = .bool v1 ∧ wx = wr)
      case first =>
        clear HVV
        by_cases h1 : s = 1
        · subst h1
          have hv : v1 = true := by rw [HV.out]; simp [true_or]
          subst hv
          clear HV
          go_wp2_with fail
          go_meet
          exact ⟨rfl, rfl⟩
        · have h1' : (s == 1) = false := by simpa using h1
          by_cases h7 : s = 7
          · subst h7
            have hv : v1 = true := by rw [HV.out]; simp [or_true]
            subst hv
            clear HV
            go_wp2_with fail
            go_meet
            exact ⟨rfl, rfl⟩
          · have h7' : (s == 7) = false := by simpa using h7
            have hv : v1 = false := by rw [HV.out]; simp [h1, h7]
            subst hv
            clear HV
            go_wp2_with fail
            go_meet
            exact ⟨rfl, rfl⟩
      case rest =>
        obtain ⟨rfl, hwc⟩ := hcut
        subst hwc
        clear HV q1
        cases v1 with
        | false =>
          have HX2 := Lib.hid (show pofU l (k + 1) = pofU l k by rw [HX.out, if_neg (by have h := HVV.out.symm; simp at h; omega)]; simp)
          go_wp2_with fail
          go_roundw
          case rel => exact ⟨k + 1, m, q, c', es, by omega, by go_num, rfl, Lib.hid ⟨HI.out.1, HI.out.2.1, by rw [HX2.out]; exact HI.out.2.2.1, HI.out.2.2.2⟩⟩
          case measure => simp [intOf]; omega
        | true =>
          have HX2 := Lib.hid (show pofU l (k + 1) = pofU l k ++ [pevent l k] by rw [HX.out, if_pos (by have h := HVV.out.symm; simp at h; exact h)])
          clear HVV HX
          go_wp2_with fail
          refine HC.out.mono ?_
          rintro e9 w2 ⟨x, rfl, hx, hb2⟩
          have HXE := Lib.hid hx
          have HO2 := Lib.hid (own_fr HI.out.2.1 (Fr.of_below hb2 (fun _ => False)) (fun _ _ h => h))
          have HB2 := Lib.hid (HI.out.2.2.2.trans (hb2.mono HI.out.2.2.2.size))
          have HEX := Lib.hid (show evs (es ++ [x]) = evs es ++ x.cells ∧ (es ++ [x]).length = es.length + 1 from ⟨by simp [evs], by simp⟩)
          have HIL := Lib.hid (And.intro HI.out.1 HI.out.2.2.1)
          clear hx hb2 HC HI
          obtain ⟨X1, hX1⟩ : ∃ X1, evs es = X1 := ⟨_, rfl⟩
          rw [hX1] at HO2
          have HEX1 := Lib.hid hX1
          clear hX1
          obtain ⟨xt, xa, xm, xn, xop, xkey, xoth, xitem, xqty, xdq, xdn, xdc, xaop, xaerr, xacnt, xlq, xln, xlc, xbq, xbn, xbc⟩ := x
          simp only [Ev.agg, Ev.cells] at HEX ⊢
          go_wp2_with (at_builtin; refine wpList_appS rfl (.tmp 25) (.tmp 29) 25 rfl w.heap.size 41 _ 15 192 Try.underlying25 evt_info rfl (by omega) _ m X1 rfl HO2.out [.int .i64 xt, .int .i64 xop, .string xkey, .string xoth, .string xitem, .int .i64 xqty, .slice xdq xdn xdc, .int .i64 xaop, .int .i64 xaerr, .int .i64 xacnt, .slice xlq xln xlc, .slice xbq xbn xbc, .int .i64 xa, .int .i64 xm, .int .i64 xn] rfl (by intro u hu; exact evs_one1 ⟨xt, xa, xm, xn, xop, xkey, xoth, xitem, xqty, xdq, xdn, xdc, xaop, xaerr, xacnt, xlq, xln, xlc, xbq, xbn, xbc⟩ u hu) rfl (by omega) (by omega) HB2.out.size ?_; intro v5 w5 hown5 hb5 hat5 hg5)
          obtain ⟨p5, c5, rfl, -, -⟩ := own_shape hown5
          have HN5 := Lib.hid hown5
          have HB5 := Lib.hid (HB2.out.trans (hb5.mono (Nat.le_refl _)))
          clear hown5 hb5 hat5 hg5 HO2 HB2
          go_roundw
          case rel => exact ⟨k + 1, m + 1, p5, c5, es ++ [⟨xt, xa, xm, xn, xop, xkey, xoth, xitem, xqty, xdq, xdn, xdc, xaop, xaerr, xacnt, xlq, xln, xlc, xbq, xbn, xbc⟩], by omega, by go_num, by go_num, Lib.hid ⟨by rw [HEX.out.2, HIL.out.1], by rw [HEX.out.1, HEX1.out]; exact HN5.out, by rw [HX2.out]; exact HIL.out.2.snoc HXE.out, HB5.out⟩⟩
          case measure => simp [intOf]; omega
    · have hkn : k = n := by omega
      subst hkn
      have HTK := Lib.hid (show pofR l = pofU l k by rw [pofR, HLN.out])
      go_wp2_with fail
      go_ret
      refine ⟨q, c', es, ?_, ?_, by rw [HTK.out]; exact HI.out.2.2.1, HI.out.2.2.2⟩
      · rw [← HI.out.1]; rfl
      · rw [← HI.out.1]; exact HI.out.2.1
end Go.Proofs.Ytbkkplednfdfdaa
