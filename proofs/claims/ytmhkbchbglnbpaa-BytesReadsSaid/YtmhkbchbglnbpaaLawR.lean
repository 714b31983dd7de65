/- BytesReads. -/
import Derived.Test.YtmhkbchbglnbpaaArgs
import Derived.Test.YtmhkbchbglnbpaaOwnAt
import Derived.Test.YtmhkbchbglnbpaaRefStr
import Derived.Test.YtmhkbchbglnbpaaKnownW
namespace Go.Proofs.Ytmhkbchbglnbpaa
open Go.RowKit Go.ChangeShapes Go.WideShapes Go.ChangeAt

/-- A call of a reader: what, a number, a bound. -/
structure Ak where
  a : Int
  n : Int
  m : Int
def Ak.cells (x : Ak) : List Value := [.int .i64 x.a, .int .u64 x.n, .int .i64 x.m]
def aks (l : List Ak) : List Value := l.flatMap Ak.cells
theorem aks_cons (m : Ak) (l : List Ak) : aks (m :: l) = .int .i64 m.a :: .int .u64 m.n :: .int .i64 m.m :: aks l := rfl
theorem aks_len : ∀ l : List Ak, (aks l).length = l.length * 3
  | [] => rfl
  | m :: l => by rw [aks_cons]; simp only [List.length_cons]; rw [aks_len l]; omega
theorem aks_at : ∀ (l : List Ak) (k : Nat) (h : k < l.length), (aks l)[k * 3]? = some (.int .i64 (l[k]).a) ∧ (aks l)[k * 3 + 1]? = some (.int .u64 (l[k]).n) ∧ (aks l)[k * 3 + 2]? = some (.int .i64 (l[k]).m)
  | m :: l, 0, _ => ⟨rfl, rfl, rfl⟩
  | m :: l, k + 1, h => by
    rw [aks_cons, show (k + 1) * 3 = k * 3 + 1 + 1 + 1 from by omega]
    have := aks_at l k (by simpa using h)
    simpa [Nat.add_right_comm] using this
theorem aks_rd {w : World} {p : Option Addr} {l : List Ak} (h : Rd w w.heap.size p (aks l)) {k : Nat} (hk : k < l.length) :
    ∃ b o, p = some ⟨b, o, none⟩ ∧ b < w.heap.size ∧ w.cell? ⟨b, o + k * 3, none⟩ = some (.int .i64 (l[k]).a) ∧ w.cell? ⟨b, o + k * 3 + 1, none⟩ = some (.int .u64 (l[k]).n) ∧ w.cell? ⟨b, o + k * 3 + 2, none⟩ = some (.int .i64 (l[k]).m) := by
  obtain ⟨b, o, hp, hb, _, hc⟩ := h.at_ (k := k * 3) (by rw [aks_len]; omega)
  obtain ⟨h0, h1, h2⟩ := aks_at l k hk
  exact ⟨b, o, hp, hb, hc _ _ h0, by have := hc _ _ h1; rw [Nat.add_assoc]; exact this, by have := hc _ _ h2; rw [Nat.add_assoc]; exact this⟩
def Ak.ok (_ : World) (x : Ak) : Prop := (Lit.int .i64 x.a).wf = true ∧ (Lit.int .u64 x.n).wf = true ∧ (Lit.int .i64 x.m).wf = true
theorem el_ask {H : Type} {enc : TypeId × Value → H} {W : World} {n : Nat} {cs : List Value} {y : DataW H × List MemPlace} (hy : DataW.trod enc Try.prog W 0 (fun _ => true) true n 53 cs = some y) : ∃ x : Ak, cs = x.cells ∧ x.ok W := by
  obtain ⟨xs, n, _, _, hlen, hxl, hg⟩ := DataW.trod_struct Try.underlying53 hy
  have hl3 : cs.length = 3 := hlen.trans (by kernel_rfl)
  match cs, hl3 with
  | [a, b, d], _ =>
    match xs, hxl with
    | [x0, x1, x2], _ =>
      have h0 : DataW.trod enc Try.prog W 0 (fun _ => true) true n 3 ([a, b, d].take (Try.prog.cellsOf 3)) = some x0 := hg 0 _ rfl
      have h1 : DataW.trod enc Try.prog W 0 (fun _ => true) true n 22 ([b, d].take (Try.prog.cellsOf 22)) = some x1 := hg 1 _ rfl
      have h2 : DataW.trod enc Try.prog W 0 (fun _ => true) true n 3 ([d].take (Try.prog.cellsOf 3)) = some x2 := hg 2 _ rfl
      rw [show Try.prog.cellsOf 3 = 1 from by kernel_rfl] at h0
      rw [show Try.prog.cellsOf 22 = 1 from by kernel_rfl] at h1
      rw [show Try.prog.cellsOf 3 = 1 from by kernel_rfl] at h2
      simp only [List.take_succ_cons, List.take_zero] at h0 h1 h2
      obtain ⟨k0, e0, _, w0⟩ := DataW.trod_int Try.underlying3 h0
      obtain ⟨k1, e1, _, w1⟩ := DataW.trod_int Try.underlying22 h1
      obtain ⟨k2, e2, _, w2⟩ := DataW.trod_int Try.underlying3 h2
      simp at e0 e1 e2
      subst e0 e1 e2
      exact ⟨⟨k0, k1, k2⟩, rfl, w0, w1, w2⟩
theorem arg_asks {H : Type} {enc : TypeId × Value → H} {W : World} {v : Value} {d : DataW H} {ps : List MemPlace} {b0 : Nat} (hv : Value.okWide Try.prog W .any b0 51 v) (h : DataW.Trod enc Try.prog W 0 (fun _ => true) true 51 v d ps) :
    ∃ p c, ∃ xs : List Ak, v = .slice p xs.length c ∧ Rd W W.heap.size p (aks xs) ∧ xs.length ≤ c ∧ c ≤ maxLen ∧ ∀ x ∈ xs, x.ok W :=
  arg_slice Ak.cells (Ak.ok W) 3 (by kernel_rfl) (by omega) (fun _ => rfl) Try.underlying51 (fun _ _ _ hy => el_ask hy) hv h
theorem leftR {w : World} {R c k : Nat} {p : Option Addr} {l : List Int} (z : Nat) (h : RS w R p c l k) (hz : l.length - k = z) : Calls Try.prog 21 #[.pointer (some ⟨R, 0, none⟩)] w fun e w' => e = .returned (.int .i64 z) ∧ Below w.heap.size w w' := by
  rw [← hz]; exact left_any h
theorem wraps_i64 (n : Int) (h₀ : -9223372036854775808 ≤ n) (h₁ : n < 9223372036854775808) : IntKind.i64.wrap n = n := by
  rw [IntKind.wrap_i64]; omega
theorem nS_le {l : List Int} {most : Nat} : nS l most ≤ l.length := by
  unfold nS
  split
  · exact readS_le l
  · omega

set_option maxRecDepth 100000 in
set_option maxHeartbeats 4000000 in
theorem readsLaw_any (pb p : Option Addr) (cb c : Nat) (b : List Int) (l : List Ak) (W : World) (hrb : Rd W W.heap.size pb (bys b)) (hb : Bs b) (hcb : b.length ≤ cb) (hr : Rd W W.heap.size p (aks l))
    (hn : ∀ x ∈ l, (0 ≤ x.n ∧ x.n < 18446744073709551616) ∧ -9223372036854775808 ≤ x.m ∧ x.m < 9223372036854775808) :
    Calls Try.prog 6 #[.slice pb b.length cb, .slice p l.length c] W fun e w' => e = .returned (.bool true) ∧ Below W.heap.size W w' := by
  have HR := Lib.hid hr
  have HN := Lib.hid hn
  have HRB := Lib.hid hrb
  have HBB := Lib.hid hb
  have HCB := Lib.hid hcb
  obtain ⟨n, hn'⟩ : ∃ n, l.length = n := ⟨_, rfl⟩
  obtain ⟨m, hm'⟩ : ∃ n, b.length = n := ⟨_, rfl⟩
  rw [hn', hm']
  have HLN := Lib.hid hn'
  have HLM := Lib.hid hm'
  clear hr hn hrb hb hcb hn' hm'
  by_cases hm3 : 300 < m
  · have hm4 : (300 : Int) < (m : Int) := by omega
    go_enter Try.func6, Try.ntmps6
    go_wp2_with fail
    refine (known_any _).mono ?_
    rintro e w1 ⟨rfl, hb⟩
    go_wp2_with fail
    go_ret
    exact ⟨rfl, hb⟩
  · have hm4 : (m : Int) ≤ 300 := by omega
    by_cases hn6 : 60 < n
    · have hn7 : (60 : Int) < (n : Int) := by omega
      clear hm3
      go_enter Try.func6, Try.ntmps6
      go_wp2_with fail
      refine (known_any _).mono ?_
      rintro e w1 ⟨rfl, hb⟩
      go_wp2_with fail
      go_ret
      exact ⟨rfl, hb⟩
    · have hn7 : (n : Int) ≤ 60 := by omega
      clear hm3 hn6
      go_enter Try.func6, Try.ntmps6
      go_upto_region 4 with (at_builtin; refine wpList_appM rfl (.const (.slice none 0 0)) (.tmp 27) 23 rfl W.heap.size 5 _ 1 1 Try.underlying23 u8_info rfl (by omega) _ 0 [] rfl (World.ownsRow_nil _ _ _ _) W.heap.size pb m cb (bys b) rfl (by rw [bys_len, HLM.out, Nat.mul_one]) HRB.out (bys_one _) (by omega) (by omega) (Nat.le_refl _) ?_; intro v1 w1 hown1 hb1 _ _)
      rw [Nat.zero_add, List.nil_append] at hown1
      have hlt1 := own_lt hown1
      obtain ⟨q, d, rfl, hld, _⟩ := own_form hown1
      have HQ := Lib.hid (show ∀ a, q = some a → W.heap.size ≤ a.block ∧ a.block < w1.heap.size from fun a ha => by subst ha; exact hlt1 _ rfl)
      have HO1 := Lib.hid hown1
      have HNew := Lib.hid (new_any q d b w1 (own_rd hown1) (by have := HLM.out; omega) HBB.out)
      rw [HLM.out] at HNew
      have HB1 := Lib.hid hb1
      clear hown1 hlt1 hld hb1
      go_wp2_with fail
      refine HNew.out.mono ?_
      rintro e w2 ⟨R0, pr, cr, rfl, hr, hR, hP, hb2⟩
      have HO2 := Lib.hid (own_fr HO1.out (Fr.of_below hb2 (fun _ => False)) (fun _ _ h => h))
      have HRS2 := Lib.hid hr
      have HB2 := Lib.hid (below_step HB1.out hb2)
      have HQR := Lib.hid (show ∀ a, q = some a → R0 ≠ a.block ∧ ∀ a', pr = some a' → a'.block ≠ a.block from fun a ha => by
        have := (HQ.out a ha).2
        exact ⟨by omega, fun a' ha' => by have := hP a' ha'; omega⟩)
      have HRW := Lib.hid (show W.heap.size ≤ R0 from by have := HB1.out.size; omega)
      clear hr hR hP hb2
      go_wp2_with fail
      go_loopw [35] (fun i wr => ∃ (k : Nat) (xs : List Int), k ≤ m ∧ i = .int .i64 k ∧ Hid (xs.length = m) ∧ Hid (wr.ownsRow W.heap.size 5 1 (.slice q m d) m (bys xs)) ∧ Hid (RS wr R0 pr cr b 0) ∧ Hid (Below W.heap.size W wr)) (fun i _ => m - (intOf i).toNat)
      case atStart => exact ⟨0, b, Nat.zero_le _, rfl, HLM, HO2, HRS2, HB2⟩
      case round =>
        obtain ⟨k, xs, hk, rfl, HX, HO, HRS, HBr⟩ := hrel
        by_cases hlt : k < m
        · have hki : (k : Int) < (m : Int) := by omega
          obtain ⟨g, c', he, hg, hgl, _, _, hc, hf⟩ := own_at HO.out (by omega)
          injection he with hq _ hd
          subst hq hd
          have hlx : k < xs.length := by rw [HX.out]; exact hlt
          have hck := hc k _ (bys_at xs k hlx)
          have hfk := hf k
          obtain ⟨y, hy⟩ : ∃ y, xs[k] = y := ⟨_, rfl⟩
          rw [hy] at hck
          obtain ⟨y2, hy2⟩ : ∃ y2, IntKind.u8.wrap (y + 1) = y2 := ⟨_, rfl⟩
          have HO3 := own_store HO.out k (.int .u8 y2)
          have e3 : (bys xs).set k (.int .u8 y2) = bys (xs.set k y2) := by simp [bys, List.map_set]
          rw [e3] at HO3
          have HO4 := Lib.hid HO3
          have HG := Lib.hid hg
          clear HO3 e3 hy hc hf hg hlx
          go_wp2_with fail
          go_roundw
          case rel =>
            have h1 := HQR.out _ rfl
            exact ⟨k + 1, xs.set k y2, by omega, by go_num, Lib.hid (by rw [List.length_set]; exact HX.out), HO4, Lib.hid (HRS.out.other (R := g) h1.1 ((Fr.refl _ _).set _ _ (.inl rfl)) h1.2), Lib.hid (HBr.out.setCell (p := ⟨g, k, none⟩) HG.out _)⟩
          case measure => simp [intOf]; omega
        · have hkm : k = m := by omega
          subst hkm
          have HRz := Lib.hid HRS.out
          clear HX HO HRS HQR HQ
          go_wp2_with fail
          go_loopw [6, 8, 47] (fun rp av i wr => ∃ (j R t : Nat), j ≤ n ∧ i = .int .i64 j ∧ rp = .pointer (some ⟨R, 0, none⟩) ∧ av = .int .i64 t ∧ Hid (RS wr R pr cr b t) ∧ Hid (Below W.heap.size W wr) ∧ Hid (W.heap.size ≤ R)) (fun _ _ i _ => n - (intOf i).toNat)
          case atStart => exact ⟨0, R0, 0, Nat.zero_le _, rfl, rfl, rfl, HRz, HBr, HRW⟩
          case round =>
            clear HRz HBr HRW HO1 HO2 HRS2 HB2 HB1 HNew
            obtain ⟨j, R, t, hj, rfl, rfl, rfl, HRS, HBr, HRW⟩ := hrel
            have ht : t ≤ k := by have := HRS.out.le; have := HLM.out; omega
            have ht3 : t ≤ 300 := by omega
            by_cases hlt : j < n
            · have hki : (j : Int) < (n : Int) := by omega
              have hlt2 : j < l.length := by rw [HLN.out]; exact hlt
              obtain ⟨bb, oo, rfl, hbb, hc0, hc1, hc2⟩ := aks_rd (HR.out.kept HBr.out) hlt2
              have hok := HN.out _ (List.getElem_mem hlt2)
              obtain ⟨⟨xa, xn, xm⟩, hx⟩ : ∃ x, l[j] = x := ⟨_, rfl⟩
              rw [hx] at hc0 hc1 hc2 hok
              simp only at hc0 hc1 hc2 hok
              obtain ⟨xk, rfl⟩ : ∃ xk : Nat, xn = xk := ⟨xn.toNat, by omega⟩
              have HXK := Lib.hid hok
              have hB0 := (Below.refl wr.heap.size wr).alloc (Nat.le_refl _) (.cells #[.int .i64 xa, .int .u64 xk, .int .i64 xm] 53)
              have HBk := Lib.hid (Blk.new wr 53 [.int .i64 xa, .int .u64 xk, .int .i64 xm])
              have HRa := Lib.hid (HRS.out.kept hB0)
              have HBa := Lib.hid (below_step HBr.out hB0)
              have HNR := Lib.hid (show ¬ wr.heap.size = R from by have := HRS.out.blk.lt; omega)
              obtain ⟨z, hz⟩ : ∃ z : Nat, (k : Int) - (t : Int) = z := ⟨k - t, by omega⟩
              have hz3 : z ≤ 300 := by omega
              have HZ := Lib.hid (show (b.drop t).length = z from by have := HLM.out; simp; omega)
              clear hx hok hB0
              by_cases hx0 : xa = 0
              · skip
                subst hx0
                have HS := Lib.hid (nS_le (l := b.drop t) (most := xk))
                have HCN := Lib.hid fun (w' : World) (hb : Below W.heap.size W w') => (by
                  have h1 := cut_rd (HRB.out.kept hb) t k cb (by have := HCB.out; have := HLM.out; omega)
                  rw [List.take_of_length_le (Nat.le_of_eq HLM.out)] at h1
                  have h2 := refNum_any (cb - t) (b.drop t) xk h1 (HBB.out.drop t) (by rw [HZ.out]; omega)
                  rw [HZ.out] at h2
                  exact h2 : Calls Try.prog 28 #[.slice (cutP pb t cb) z (cb - t), .int .u64 xk] w' fun e w'' => e = .returned (.tuple #[.int .u64 (nV (b.drop t) xk), .int .i64 (nS (b.drop t) xk), .int .i64 (nE (b.drop t) xk)]) ∧ w' = w'')
                have hsl := fun w => cut23_l pb k cb t ht w
                have hkz : k - t = z := by omega
                rw [hkz] at hsl
                generalize cutP pb t cb = q0 at hsl HCN
                obtain ⟨v, hv⟩ : ∃ v, nV (b.drop t) xk = v := ⟨_, rfl⟩
                obtain ⟨s, hs⟩ : ∃ v, nS (b.drop t) xk = v := ⟨_, rfl⟩
                obtain ⟨x, hx⟩ : ∃ v, nE (b.drop t) xk = v := ⟨_, rfl⟩
                rw [hv, hs, hx] at HCN
                rw [hs] at HS
                have hs3 : s ≤ 300 := by have := HS.out; have := HZ.out; omega
                obtain ⟨u, hu⟩ : ∃ u : Nat, (t : Int) + (s : Int) = u := ⟨t + s, by omega⟩
                have HC1 := Lib.hid fun (w' : World) (h : RS w' R pr cr b t) => reads_is xk v x h hv hx
                rw [hs, show t + s = u from by omega] at HC1
                have d1 := fun g : Gr (wr.alloc (.cells #[.int .i64 0, .int .u64 xk, .int .i64 xm] 53)) => Gr.cell HBk.out 1 _ rfl g
                clear hv hs hx hkz
                go_upto_region 24 with fail
                refine wp_region_grows (by kernel_rfl) (by kernel_rfl) ?_
                repeat (go_big_quiet_step ((go_at_call 28; exact Calls.gr_same _ ((HCN.out _ (below_step HBa.out (Gr.h _))).mono fun e w' ⟨he, hw⟩ => ⟨he, hw.symm⟩))))
                refine wpQuiet_nil ?_
                rintro _ ⟨g, rfl⟩
                have hb9 := g.h
                generalize g.w = w8 at hb9 ⊢
                have hc8 := (HBk.out.kept hb9).cell 1
                simp only [List.getElem?_cons_zero, List.getElem?_cons_succ] at hc8
                have HR8 := Lib.hid (HRa.out.kept hb9)
                have HB8 := Lib.hid (below_step HBa.out hb9)
                clear d1 hsl hb9 HCN HRa HBa HBk
                go_wp2_with fail
                refine (HC1.out _ HR8.out).mono ?_
                rintro e w9 ⟨rfl, hr9⟩
                have HR9 := Lib.hid hr9.1
                have HB9 := Lib.hid (Fr.below HB8.out hr9.2 (fun x hx => by subst hx; exact HRW.out))
                have HW9 := Lib.hid HRW.out
                clear hr9
                clear HC1 HR8 HB8 hc8
                have htu : u ≤ k := by have := HR9.out.le; have := HLM.out; omega
                obtain ⟨z9, hz9⟩ : ∃ z9 : Nat, (k : Int) - (u : Int) = z9 := ⟨k - u, by omega⟩
                have HZ9 := Lib.hid (show b.length - u = z9 from by have := HLM.out; omega)
                have HZ8 := Lib.hid (show z9 + u = k from by omega)
                by_cases htk : u = k
                · have hte : ((u : Int) == (k : Int)) = true := by rw [beq_iff_eq]; omega
                  have hth : decide (u < k) = false := by simp; omega
                  have HT1 := Lib.hid htk
                  clear htk
                  go_wp2_with fail
                  refine (at_any HR9.out).mono ?_
                  rintro e w' ⟨rfl, rfl⟩
                  go_wp2_with fail
                  refine (leftR z9 HR9.out HZ9.out).mono ?_
                  rintro e w10 ⟨rfl, hb10⟩
                  have HR10 := Lib.hid (HR9.out.kept hb10)
                  have HB10 := Lib.hid (below_step HB9.out hb10)
                  clear hb10
                  go_wp2_with fail
                  refine (end_is 0 HR10.out (by rw [HZ9.out]; have := HT1.out; have := HZ8.out; rw [if_pos (by omega)])).mono ?_
                  rintro e w11 ⟨rfl, hb11⟩
                  have HR11 := Lib.hid (HR10.out.kept hb11)
                  have HB11 := Lib.hid (below_step HB10.out hb11)
                  clear hb11
                  go_wp2_with fail
                  go_roundw
                  case rel => exact ⟨j + 1, R, u, by omega, by go_num, rfl, rfl, HR11, HB11, HW9⟩
                  case measure => simp [intOf]; omega
                · have hte : ((u : Int) == (k : Int)) = false := by rw [beq_eq_false_iff_ne]; omega
                  have hth : (u : Int) < (k : Int) := by omega
                  have HT1 := Lib.hid htk
                  clear htk
                  go_wp2_with fail
                  refine (at_any HR9.out).mono ?_
                  rintro e w' ⟨rfl, rfl⟩
                  go_wp2_with fail
                  refine (leftR z9 HR9.out HZ9.out).mono ?_
                  rintro e w10 ⟨rfl, hb10⟩
                  have HR10 := Lib.hid (HR9.out.kept hb10)
                  have HB10 := Lib.hid (below_step HB9.out hb10)
                  clear hb10
                  go_wp2_with fail
                  refine (end_is 12 HR10.out (by rw [HZ9.out]; have := HT1.out; have := HZ8.out; rw [if_neg (by omega)])).mono ?_
                  rintro e w11 ⟨rfl, hb11⟩
                  have HR11 := Lib.hid (HR10.out.kept hb11)
                  have HB11 := Lib.hid (below_step HB10.out hb11)
                  clear hb11
                  go_wp2_with fail
                  refine (end_is 12 HR11.out (by rw [HZ9.out]; have := HT1.out; have := HZ8.out; rw [if_neg (by omega)])).mono ?_
                  rintro e w12 ⟨rfl, hb12⟩
                  have HR12 := Lib.hid (HR11.out.kept hb12)
                  have HB12 := Lib.hid (below_step HB11.out hb12)
                  clear hb12
                  go_wp2_with fail
                  go_roundw
                  case rel => exact ⟨j + 1, R, u, by omega, by go_num, rfl, rfl, HR12, HB12, HW9⟩
                  case measure => simp [intOf]; omega
              · skip
                have hx1 : (xa == 0) = false := by rw [beq_eq_false_iff_ne]; exact hx0
                by_cases hx2 : xa = 1
                · skip
                  subst hx2
                  have HS := Lib.hid (sS_le (l := b) (k := t) (by rw [HLM.out]; exact ht) xm)
                  have HCN := Lib.hid fun (w' : World) (hb : Below W.heap.size W w') => (by
                    have h1 := cut_rd (HRB.out.kept hb) t k cb (by have := HCB.out; have := HLM.out; omega)
                    rw [List.take_of_length_le (Nat.le_of_eq HLM.out)] at h1
                    have h2 := refStr_any (cb - t) (b.drop t) xm HXK.out.2.1 HXK.out.2.2 h1 (HBB.out.drop t) (by rw [HZ.out]; omega) (by rw [HZ.out]; have := HCB.out; have := HLM.out; omega)
                    rw [HZ.out] at h2
                    exact h2 : Calls Try.prog 29 #[.slice (cutP pb t cb) z (cb - t), .int .i64 xm] w' fun e w'' => e = .returned (.tuple #[.string (strOfNums (sV (b.drop t) xm)), .int .i64 (sS (b.drop t) xm), .int .i64 (sE (b.drop t) xm)]) ∧ w' = w'')
                  have hsl := fun w => cut23_l pb k cb t ht w
                  have hkz : k - t = z := by omega
                  rw [hkz] at hsl
                  generalize cutP pb t cb = q0 at hsl HCN
                  obtain ⟨v, hv⟩ : ∃ v, strOfNums (sV (b.drop t) xm) = v := ⟨_, rfl⟩
                  obtain ⟨s, hs⟩ : ∃ v, sS (b.drop t) xm = v := ⟨_, rfl⟩
                  obtain ⟨x, hx⟩ : ∃ v, sE (b.drop t) xm = v := ⟨_, rfl⟩
                  rw [hv, hs, hx] at HCN
                  rw [hs] at HS
                  have hs3 : s ≤ 300 := by have := HS.out; have := HLM.out; omega
                  obtain ⟨u, hu⟩ : ∃ u : Nat, (t : Int) + (s : Int) = u := ⟨t + s, by omega⟩
                  have HC1 := Lib.hid fun (w' : World) (h : RS w' R pr cr b t) => hears_is xm HXK.out.2.1 HXK.out.2.2 v x h hv hx
                  rw [hs, show t + s = u from by omega] at HC1
                  have d2 := fun g : Gr (wr.alloc (.cells #[.int .i64 1, .int .u64 xk, .int .i64 xm] 53)) => Gr.cell HBk.out 2 _ rfl g
                  clear hv hs hx hkz
                  go_upto_region 29 with fail
                  refine wp_region_grows (by kernel_rfl) (by kernel_rfl) ?_
                  repeat (go_big_quiet_step ((go_at_call 29; exact Calls.gr_same _ ((HCN.out _ (below_step HBa.out (Gr.h _))).mono fun e w' ⟨he, hw⟩ => ⟨he, hw.symm⟩))))
                  refine wpQuiet_nil ?_
                  rintro _ ⟨g, rfl⟩
                  have hb9 := g.h
                  generalize g.w = w8 at hb9 ⊢
                  have hc8 := (HBk.out.kept hb9).cell 2
                  simp only [List.getElem?_cons_zero, List.getElem?_cons_succ] at hc8
                  have HR8 := Lib.hid (HRa.out.kept hb9)
                  have HB8 := Lib.hid (below_step HBa.out hb9)
                  clear d2 hsl hb9 HCN HRa HBa HBk
                  go_wp2_with fail
                  refine (HC1.out _ HR8.out).mono ?_
                  rintro e w9 ⟨rfl, hr9⟩
                  have HR9 := Lib.hid hr9.1
                  have HB9 := Lib.hid (Fr.below HB8.out hr9.2 (fun x hx => by subst hx; exact HRW.out))
                  have HW9 := Lib.hid HRW.out
                  clear hr9
                  clear HC1 HR8 HB8 hc8
                  have htu : u ≤ k := by have := HR9.out.le; have := HLM.out; omega
                  obtain ⟨z9, hz9⟩ : ∃ z9 : Nat, (k : Int) - (u : Int) = z9 := ⟨k - u, by omega⟩
                  have HZ9 := Lib.hid (show b.length - u = z9 from by have := HLM.out; omega)
                  have HZ8 := Lib.hid (show z9 + u = k from by omega)
                  by_cases htk : u = k
                  · have hte : ((u : Int) == (k : Int)) = true := by rw [beq_iff_eq]; omega
                    have hth : decide (u < k) = false := by simp; omega
                    have HT1 := Lib.hid htk
                    clear htk
                    go_wp2_with fail
                    refine (at_any HR9.out).mono ?_
                    rintro e w' ⟨rfl, rfl⟩
                    go_wp2_with fail
                    refine (leftR z9 HR9.out HZ9.out).mono ?_
                    rintro e w10 ⟨rfl, hb10⟩
                    have HR10 := Lib.hid (HR9.out.kept hb10)
                    have HB10 := Lib.hid (below_step HB9.out hb10)
                    clear hb10
                    go_wp2_with fail
                    refine (end_is 0 HR10.out (by rw [HZ9.out]; have := HT1.out; have := HZ8.out; rw [if_pos (by omega)])).mono ?_
                    rintro e w11 ⟨rfl, hb11⟩
                    have HR11 := Lib.hid (HR10.out.kept hb11)
                    have HB11 := Lib.hid (below_step HB10.out hb11)
                    clear hb11
                    go_wp2_with fail
                    go_roundw
                    case rel => exact ⟨j + 1, R, u, by omega, by go_num, rfl, rfl, HR11, HB11, HW9⟩
                    case measure => simp [intOf]; omega
                  · have hte : ((u : Int) == (k : Int)) = false := by rw [beq_eq_false_iff_ne]; omega
                    have hth : (u : Int) < (k : Int) := by omega
                    have HT1 := Lib.hid htk
                    clear htk
                    go_wp2_with fail
                    refine (at_any HR9.out).mono ?_
                    rintro e w' ⟨rfl, rfl⟩
                    go_wp2_with fail
                    refine (leftR z9 HR9.out HZ9.out).mono ?_
                    rintro e w10 ⟨rfl, hb10⟩
                    have HR10 := Lib.hid (HR9.out.kept hb10)
                    have HB10 := Lib.hid (below_step HB9.out hb10)
                    clear hb10
                    go_wp2_with fail
                    refine (end_is 12 HR10.out (by rw [HZ9.out]; have := HT1.out; have := HZ8.out; rw [if_neg (by omega)])).mono ?_
                    rintro e w11 ⟨rfl, hb11⟩
                    have HR11 := Lib.hid (HR10.out.kept hb11)
                    have HB11 := Lib.hid (below_step HB10.out hb11)
                    clear hb11
                    go_wp2_with fail
                    refine (end_is 12 HR11.out (by rw [HZ9.out]; have := HT1.out; have := HZ8.out; rw [if_neg (by omega)])).mono ?_
                    rintro e w12 ⟨rfl, hb12⟩
                    have HR12 := Lib.hid (HR11.out.kept hb12)
                    have HB12 := Lib.hid (below_step HB11.out hb12)
                    clear hb12
                    go_wp2_with fail
                    go_roundw
                    case rel => exact ⟨j + 1, R, u, by omega, by go_num, rfl, rfl, HR12, HB12, HW9⟩
                    case measure => simp [intOf]; omega
                · skip
                  have hx3 : (xa == 1) = false := by rw [beq_eq_false_iff_ne]; exact hx2
                  by_cases hx4 : xa = 2
                  · skip
                    subst hx4
                    by_cases hxm0 : xm < 0
                    · skip
                      have hE2 : tE (b.drop t) xm = 2 := by rw [tE, if_pos hxm0]
                      have HC1 := Lib.hid (takes_is xm HXK.out.2.1 HXK.out.2.2 ⟨#[]⟩ 2 HRa.out (by rw [tV, hE2]; rfl) hE2)
                      rw [tS, hE2] at HC1
                      rw [if_neg (by decide), Nat.add_zero] at HC1
                      clear hE2
                      go_wp2_with fail
                      refine HC1.out.mono ?_
                      rintro e w9 ⟨rfl, hr9⟩
                      have HR9 := Lib.hid hr9.1
                      have HB9 := Lib.hid (Fr.below HBa.out hr9.2 (fun x hx => by subst hx; exact HRW.out))
                      have HW9 := Lib.hid HRW.out
                      clear hr9
                      clear HC1 HRa HBa HBk
                      have htu : t ≤ k := by have := HR9.out.le; have := HLM.out; omega
                      obtain ⟨z9, hz9⟩ : ∃ z9 : Nat, (k : Int) - (t : Int) = z9 := ⟨k - t, by omega⟩
                      have HZ9 := Lib.hid (show b.length - t = z9 from by have := HLM.out; omega)
                      have HZ8 := Lib.hid (show z9 + t = k from by omega)
                      by_cases htk : t = k
                      · have hte : ((t : Int) == (k : Int)) = true := by rw [beq_iff_eq]; omega
                        have hth : decide (t < k) = false := by simp; omega
                        have HT1 := Lib.hid htk
                        clear htk
                        go_wp2_with fail
                        refine (at_any HR9.out).mono ?_
                        rintro e w' ⟨rfl, rfl⟩
                        go_wp2_with fail
                        refine (leftR z9 HR9.out HZ9.out).mono ?_
                        rintro e w10 ⟨rfl, hb10⟩
                        have HR10 := Lib.hid (HR9.out.kept hb10)
                        have HB10 := Lib.hid (below_step HB9.out hb10)
                        clear hb10
                        go_wp2_with fail
                        refine (end_is 0 HR10.out (by rw [HZ9.out]; have := HT1.out; have := HZ8.out; rw [if_pos (by omega)])).mono ?_
                        rintro e w11 ⟨rfl, hb11⟩
                        have HR11 := Lib.hid (HR10.out.kept hb11)
                        have HB11 := Lib.hid (below_step HB10.out hb11)
                        clear hb11
                        go_wp2_with fail
                        go_roundw
                        case rel => exact ⟨j + 1, R, t, by omega, by go_num, rfl, rfl, HR11, HB11, HW9⟩
                        case measure => simp [intOf]; omega
                      · have hte : ((t : Int) == (k : Int)) = false := by rw [beq_eq_false_iff_ne]; omega
                        have hth : (t : Int) < (k : Int) := by omega
                        have HT1 := Lib.hid htk
                        clear htk
                        go_wp2_with fail
                        refine (at_any HR9.out).mono ?_
                        rintro e w' ⟨rfl, rfl⟩
                        go_wp2_with fail
                        refine (leftR z9 HR9.out HZ9.out).mono ?_
                        rintro e w10 ⟨rfl, hb10⟩
                        have HR10 := Lib.hid (HR9.out.kept hb10)
                        have HB10 := Lib.hid (below_step HB9.out hb10)
                        clear hb10
                        go_wp2_with fail
                        refine (end_is 12 HR10.out (by rw [HZ9.out]; have := HT1.out; have := HZ8.out; rw [if_neg (by omega)])).mono ?_
                        rintro e w11 ⟨rfl, hb11⟩
                        have HR11 := Lib.hid (HR10.out.kept hb11)
                        have HB11 := Lib.hid (below_step HB10.out hb11)
                        clear hb11
                        go_wp2_with fail
                        refine (end_is 12 HR11.out (by rw [HZ9.out]; have := HT1.out; have := HZ8.out; rw [if_neg (by omega)])).mono ?_
                        rintro e w12 ⟨rfl, hb12⟩
                        have HR12 := Lib.hid (HR11.out.kept hb12)
                        have HB12 := Lib.hid (below_step HB11.out hb12)
                        clear hb12
                        go_wp2_with fail
                        go_roundw
                        case rel => exact ⟨j + 1, R, t, by omega, by go_num, rfl, rfl, HR12, HB12, HW9⟩
                        case measure => simp [intOf]; omega
                    · skip
                      obtain ⟨xo, rfl⟩ : ∃ xo : Nat, xm = xo := ⟨xm.toNat, by omega⟩
                      have hxo : (0 : Int) ≤ (xo : Int) := by omega
                      clear hxm0
                      by_cases hzo : z < xo
                      · skip
                        have hzi : (z : Int) < (xo : Int) := by omega
                        have hE4 : tE (b.drop t) xo = 4 := by rw [tE, if_neg (by omega), if_pos (by rw [HZ.out]; exact hzi)]
                        have HC1 := Lib.hid (takes_is (xo : Int) HXK.out.2.1 HXK.out.2.2 ⟨#[]⟩ 4 HRa.out (by rw [tV, hE4]; rfl) hE4)
                        rw [tS, hE4] at HC1
                        rw [if_neg (by decide), Nat.add_zero] at HC1
                        clear hE4
                        go_wp2_with fail
                        refine HC1.out.mono ?_
                        rintro e w9 ⟨rfl, hr9⟩
                        have HR9 := Lib.hid hr9.1
                        have HB9 := Lib.hid (Fr.below HBa.out hr9.2 (fun x hx => by subst hx; exact HRW.out))
                        have HW9 := Lib.hid HRW.out
                        clear hr9
                        clear HC1 HRa HBa HBk
                        have htu : t ≤ k := by have := HR9.out.le; have := HLM.out; omega
                        obtain ⟨z9, hz9⟩ : ∃ z9 : Nat, (k : Int) - (t : Int) = z9 := ⟨k - t, by omega⟩
                        have HZ9 := Lib.hid (show b.length - t = z9 from by have := HLM.out; omega)
                        have HZ8 := Lib.hid (show z9 + t = k from by omega)
                        by_cases htk : t = k
                        · have hte : ((t : Int) == (k : Int)) = true := by rw [beq_iff_eq]; omega
                          have hth : decide (t < k) = false := by simp; omega
                          have HT1 := Lib.hid htk
                          clear htk
                          go_wp2_with fail
                          refine (at_any HR9.out).mono ?_
                          rintro e w' ⟨rfl, rfl⟩
                          go_wp2_with fail
                          refine (leftR z9 HR9.out HZ9.out).mono ?_
                          rintro e w10 ⟨rfl, hb10⟩
                          have HR10 := Lib.hid (HR9.out.kept hb10)
                          have HB10 := Lib.hid (below_step HB9.out hb10)
                          clear hb10
                          go_wp2_with fail
                          refine (end_is 0 HR10.out (by rw [HZ9.out]; have := HT1.out; have := HZ8.out; rw [if_pos (by omega)])).mono ?_
                          rintro e w11 ⟨rfl, hb11⟩
                          have HR11 := Lib.hid (HR10.out.kept hb11)
                          have HB11 := Lib.hid (below_step HB10.out hb11)
                          clear hb11
                          go_wp2_with fail
                          go_roundw
                          case rel => exact ⟨j + 1, R, t, by omega, by go_num, rfl, rfl, HR11, HB11, HW9⟩
                          case measure => simp [intOf]; omega
                        · have hte : ((t : Int) == (k : Int)) = false := by rw [beq_eq_false_iff_ne]; omega
                          have hth : (t : Int) < (k : Int) := by omega
                          have HT1 := Lib.hid htk
                          clear htk
                          go_wp2_with fail
                          refine (at_any HR9.out).mono ?_
                          rintro e w' ⟨rfl, rfl⟩
                          go_wp2_with fail
                          refine (leftR z9 HR9.out HZ9.out).mono ?_
                          rintro e w10 ⟨rfl, hb10⟩
                          have HR10 := Lib.hid (HR9.out.kept hb10)
                          have HB10 := Lib.hid (below_step HB9.out hb10)
                          clear hb10
                          go_wp2_with fail
                          refine (end_is 12 HR10.out (by rw [HZ9.out]; have := HT1.out; have := HZ8.out; rw [if_neg (by omega)])).mono ?_
                          rintro e w11 ⟨rfl, hb11⟩
                          have HR11 := Lib.hid (HR10.out.kept hb11)
                          have HB11 := Lib.hid (below_step HB10.out hb11)
                          clear hb11
                          go_wp2_with fail
                          refine (end_is 12 HR11.out (by rw [HZ9.out]; have := HT1.out; have := HZ8.out; rw [if_neg (by omega)])).mono ?_
                          rintro e w12 ⟨rfl, hb12⟩
                          have HR12 := Lib.hid (HR11.out.kept hb12)
                          have HB12 := Lib.hid (below_step HB11.out hb12)
                          clear hb12
                          go_wp2_with fail
                          go_roundw
                          case rel => exact ⟨j + 1, R, t, by omega, by go_num, rfl, rfl, HR12, HB12, HW9⟩
                          case measure => simp [intOf]; omega
                      · skip
                        have hzi : decide (z < xo) = false := by simpa using hzo
                        have hxo3 : xo ≤ 300 := by omega
                        obtain ⟨u, hu⟩ : ∃ u : Nat, (t : Int) + (xo : Int) = u := ⟨t + xo, by omega⟩
                        have huk : u - t = xo := by omega
                        have huc : u ≤ cb := by have := HCB.out; have := HLM.out; omega
                        have hu3 : u ≤ 300 := by omega
                        have hwu : IntKind.i64.wrap (u : Int) = u := wraps_i64 _ (by omega) (by omega)
                        have htu' : t ≤ u := by omega
                        obtain ⟨ts, hts⟩ : ∃ ts, strOfNums ((b.drop t).take xo) = ts := ⟨_, rfl⟩
                        have hE : tE (b.drop t) xo = 0 := by rw [tE, if_neg (by omega), if_neg (by rw [HZ.out]; omega)]
                        have HC1 := Lib.hid fun (w' : World) (h : RS w' R pr cr b t) => takes_is (xo : Int) HXK.out.2.1 HXK.out.2.2 ts 0 h (by rw [tV, hE, if_pos rfl, Int.toNat_natCast]; exact hts) hE
                        rw [tS, hE, if_pos rfl, Int.toNat_natCast, show t + xo = u from by omega] at HC1
                        have HSS := Lib.hid fun (w' : World) (hf : Fr (fun x => x = R) (wr.alloc (.cells #[.int .i64 2, .int .u64 xk, .int .i64 (xo : Int)] 53)) w') => (by
                          refine ⟨(HBk.out.fr hf HNR.out).cell 2, ?_⟩
                          have h0 : Rd w' w'.heap.size pb (bys b) := by
                            rcases HRB.out with hnil | ⟨b9, o9, hp9, hlt9, hc9⟩
                            · exact .inl hnil
                            · exact Rd.fr (w := (wr.alloc (.cells #[.int .i64 2, .int .u64 xk, .int .i64 (xo : Int)] 53))) ((show Rd W W.heap.size pb (bys b) from .inr ⟨b9, o9, hp9, hlt9, hc9⟩).kept HBa.out) hf (fun a ha hx => by
                                have h9 := HRW.out
                                rw [hp9] at ha
                                injection ha with ha
                                subst ha
                                simp only at hx
                                omega)
                          have h1 := cut_rd h0 t u cb huc
                          rw [show (b.take u).drop t = (b.drop t).take xo by rw [List.drop_take, huk]] at h1
                          have h2 := conv_any h1 (cb - t)
                          rw [hts, show ((b.drop t).take xo).length = xo by rw [List.length_take, HZ.out]; omega] at h2
                          exact h2 : w'.cell? ⟨wr.heap.size, 2, none⟩ = some (.int .i64 (xo : Int)) ∧ (convert 23 9 (.slice (cutP pb t cb) xo (cb - t))).run Try.prog w' = .ok (.string ts) w')
                        obtain ⟨q0, hq0⟩ : ∃ q0, cutP pb t cb = q0 := ⟨_, rfl⟩
                        rw [hq0] at HSS
                        rw [cutP, Nat.mul_one] at hq0
                        clear hts hE
                        go_upto_region 34 with fail
                        refine wp_region_noPanic ?_
                        refine wp_region_held_drew (S := fun w' => w'.cell? ⟨wr.heap.size, 2, none⟩ = some (.int .i64 (xo : Int)) ∧ (convert 23 9 (.slice q0 xo (cb - t))).run Try.prog w' = .ok (.string ts) w') (by kernel_rfl) (by first | exact HSS.out _ ((Fr.refl _ _).drew) | exact HSS.out _ (((Fr.refl _ _).drew).trans hr9.2 (fun _ h => .inl h))) (fun hHeld => ?_)
                        refine wpAnyH_take (i := 0) (oi := ⟨some 108, _, _, _, _, _⟩) (v := ?_) rfl (by kernel_rfl) (by kernel_rfl) (by kernel_rfl) (fun _ _ _ h => h) (Or.inl ⟨by rfl, ?_⟩) hHeld ?_
                        rotate_left
                        · (intro w hSw; obtain ⟨hq1, hq2⟩ := hSw; go_simp; try with_reducible rfl)
                        try simp only [Act.put, List.setIfInBounds_toArray, List.set_cons_zero, List.set_cons_succ]
                        refine wpAnyH_take (i := 1) (oi := ⟨some 109, _, _, _, _, _⟩) (v := ?_) rfl (by kernel_rfl) (by kernel_rfl) (by kernel_rfl) (fun _ _ _ h => h) (Or.inl ⟨by rfl, ?_⟩) hHeld ?_
                        rotate_left
                        · (intro w hSw; obtain ⟨hq1, hq2⟩ := hSw; go_simp; try with_reducible rfl)
                        try simp only [Act.put, List.setIfInBounds_toArray, List.set_cons_zero, List.set_cons_succ]
                        refine wpAnyH_take (i := 2) (oi := ⟨some 110, _, _, _, _, _⟩) (v := ?_) rfl (by kernel_rfl) (by kernel_rfl) (by kernel_rfl) (fun _ _ _ h => h) (Or.inl ⟨by rfl, ?_⟩) hHeld ?_
                        rotate_left
                        · (intro w hSw; obtain ⟨hq1, hq2⟩ := hSw; go_simp; try with_reducible rfl)
                        try simp only [Act.put, List.setIfInBounds_toArray, List.set_cons_zero, List.set_cons_succ]
                        refine wpAnyH_take (i := 3) (oi := ⟨some 111, _, _, _, _, _⟩) (v := ?_) rfl (by kernel_rfl) (by kernel_rfl) (by kernel_rfl) (fun _ _ _ h => h) (Or.inl ⟨by rfl, ?_⟩) hHeld ?_
                        rotate_left
                        · (intro w hSw; obtain ⟨hq1, hq2⟩ := hSw; go_simp; try with_reducible rfl)
                        try simp only [Act.put, List.setIfInBounds_toArray, List.set_cons_zero, List.set_cons_succ]
                        refine wpAnyH_take (i := 4) (oi := ⟨some 112, _, _, _, _, _⟩) (v := ?_) rfl (by kernel_rfl) (by kernel_rfl) (by kernel_rfl) (fun _ _ _ h => h) (Or.inl ⟨by rfl, ?_⟩) hHeld ?_
                        rotate_left
                        · (intro w hSw; obtain ⟨hq1, hq2⟩ := hSw; go_simp; try with_reducible rfl)
                        try simp only [Act.put, List.setIfInBounds_toArray, List.set_cons_zero, List.set_cons_succ]
                        refine wpAnyH_take (i := 5) (oi := ⟨some 113, _, _, _, _, _⟩) (v := ?_) rfl (by kernel_rfl) (by kernel_rfl) (by kernel_rfl) (fun _ _ _ h => h) (Or.inl ⟨by rfl, ?_⟩) hHeld ?_
                        rotate_left
                        · (intro w hSw; obtain ⟨hq1, hq2⟩ := hSw; go_simp; try with_reducible rfl)
                        try simp only [Act.put, List.setIfInBounds_toArray, List.set_cons_zero, List.set_cons_succ]
                        refine wpAnyH_take (i := 6) (oi := ⟨some 114, _, _, _, _, _⟩) (v := ?_) rfl (by kernel_rfl) (by kernel_rfl) (by kernel_rfl) (fun _ _ _ h => h) (Or.inl ⟨by rfl, ?_⟩) hHeld ?_
                        rotate_left
                        · (intro w hSw; obtain ⟨hq1, hq2⟩ := hSw; go_simp; try with_reducible rfl)
                        try simp only [Act.put, List.setIfInBounds_toArray, List.set_cons_zero, List.set_cons_succ]
                        refine wpAnyH_take (i := 7) (oi := ⟨some 115, _, _, _, _, _⟩) (v := ?_) rfl (by kernel_rfl) (by kernel_rfl) (by kernel_rfl) (fun _ _ _ h => h) (Or.inl ⟨by rfl, ?_⟩) hHeld ?_
                        rotate_left
                        · (intro w hSw; obtain ⟨hq1, hq2⟩ := hSw; go_simp; try with_reducible rfl)
                        try simp only [Act.put, List.setIfInBounds_toArray, List.set_cons_zero, List.set_cons_succ]
                        refine wpAnyH_take (i := 8) (oi := ⟨some 116, _, _, _, _, _⟩) (v := ?_) rfl (by kernel_rfl) (by kernel_rfl) (by kernel_rfl) (fun _ _ _ h => h) (Or.inl ⟨by rfl, ?_⟩) hHeld ?_
                        rotate_left
                        · (intro w hSw; obtain ⟨hq1, hq2⟩ := hSw; go_simp; try with_reducible rfl)
                        try simp only [Act.put, List.setIfInBounds_toArray, List.set_cons_zero, List.set_cons_succ]
                        refine wpAnyH_take (i := 9) (oi := ⟨some 117, _, _, _, _, _⟩) (v := ?_) rfl (by kernel_rfl) (by kernel_rfl) (by kernel_rfl) (fun _ _ _ h => h) (Or.inl ⟨by rfl, ?_⟩) hHeld ?_
                        rotate_left
                        · (intro w hSw; obtain ⟨hq1, hq2⟩ := hSw; go_simp; try with_reducible rfl)
                        try simp only [Act.put, List.setIfInBounds_toArray, List.set_cons_zero, List.set_cons_succ]
                        refine wpAnyH_take (i := 10) (oi := ⟨some 118, _, _, _, _, _⟩) (v := ?_) rfl (by kernel_rfl) (by kernel_rfl) (by kernel_rfl) (fun _ _ _ h => h) (Or.inl ⟨by rfl, ?_⟩) hHeld ?_
                        rotate_left
                        · (intro w hSw; obtain ⟨hq1, hq2⟩ := hSw; go_simp; try with_reducible rfl)
                        try simp only [Act.put, List.setIfInBounds_toArray, List.set_cons_zero, List.set_cons_succ]
                        refine wpAnyH_ready (rs := [11]) (by kernel_rfl) (by simp) ?_
                        refine (AllReadyH.cons (o := ⟨some 119, _, _, _, _, _⟩) rfl (fun K hK => ?_) AllReadyH.nil)
                        go_simp
                        (refine (HC1.out _ (HRa.out.kept ((Below.refl _ _).drew))).mono ?_; rintro e w9 ⟨rfl, hr9⟩)
                        refine hK.out _ _ (by first | exact HSS.out _ ((Fr.refl _ _).drew) | exact HSS.out _ (((Fr.refl _ _).drew).trans hr9.2 (fun _ h => .inl h))) (fun hHeld => ?_)
                        clear hK K
                        try simp only [Act.put, List.setIfInBounds_toArray, List.set_cons_zero, List.set_cons_succ]
                        refine wpAnyH_take (i := 12) (oi := ⟨some 120, _, _, _, _, _⟩) (v := ?_) rfl (by kernel_rfl) (by kernel_rfl) (by kernel_rfl) (fun _ _ _ h => h) (Or.inl ⟨by rfl, ?_⟩) hHeld ?_
                        rotate_left
                        · (intro w hSw; obtain ⟨hq1, hq2⟩ := hSw; go_simp; try with_reducible rfl)
                        try simp only [Act.put, List.setIfInBounds_toArray, List.set_cons_zero, List.set_cons_succ]
                        refine wpAnyH_done (by kernel_rfl) ?_ _
                        refine NoPanic.normal ?_
                        have hr9 : RStep _ w9 R pr cr b u := RStep.first ((Below.refl _ _).drew) hr9
                        have hc9 := (HSS.out _ hr9.2).1
                        have HR9 := Lib.hid hr9.1
                        have HB9 := Lib.hid (Fr.below HBa.out hr9.2 (fun x hx => by subst hx; exact HRW.out))
                        have HW9 := Lib.hid HRW.out
                        clear hr9
                        clear HC1 HRa HBa HBk HSS hHeld
                        have htu : u ≤ k := by have := HR9.out.le; have := HLM.out; omega
                        obtain ⟨z9, hz9⟩ : ∃ z9 : Nat, (k : Int) - (u : Int) = z9 := ⟨k - u, by omega⟩
                        have HZ9 := Lib.hid (show b.length - u = z9 from by have := HLM.out; omega)
                        have HZ8 := Lib.hid (show z9 + u = k from by omega)
                        by_cases htk : u = k
                        · have hte : ((u : Int) == (k : Int)) = true := by rw [beq_iff_eq]; omega
                          have hth : decide (u < k) = false := by simp; omega
                          have HT1 := Lib.hid htk
                          clear htk
                          go_wp2_with fail
                          refine (at_any HR9.out).mono ?_
                          rintro e w' ⟨rfl, rfl⟩
                          go_wp2_with fail
                          refine (leftR z9 HR9.out HZ9.out).mono ?_
                          rintro e w10 ⟨rfl, hb10⟩
                          have HR10 := Lib.hid (HR9.out.kept hb10)
                          have HB10 := Lib.hid (below_step HB9.out hb10)
                          clear hb10
                          go_wp2_with fail
                          refine (end_is 0 HR10.out (by rw [HZ9.out]; have := HT1.out; have := HZ8.out; rw [if_pos (by omega)])).mono ?_
                          rintro e w11 ⟨rfl, hb11⟩
                          have HR11 := Lib.hid (HR10.out.kept hb11)
                          have HB11 := Lib.hid (below_step HB10.out hb11)
                          clear hb11
                          go_wp2_with fail
                          go_roundw
                          case rel => exact ⟨j + 1, R, u, by omega, by go_num, rfl, rfl, HR11, HB11, HW9⟩
                          case measure => simp [intOf]; omega
                        · have hte : ((u : Int) == (k : Int)) = false := by rw [beq_eq_false_iff_ne]; omega
                          have hth : (u : Int) < (k : Int) := by omega
                          have HT1 := Lib.hid htk
                          clear htk
                          go_wp2_with fail
                          refine (at_any HR9.out).mono ?_
                          rintro e w' ⟨rfl, rfl⟩
                          go_wp2_with fail
                          refine (leftR z9 HR9.out HZ9.out).mono ?_
                          rintro e w10 ⟨rfl, hb10⟩
                          have HR10 := Lib.hid (HR9.out.kept hb10)
                          have HB10 := Lib.hid (below_step HB9.out hb10)
                          clear hb10
                          go_wp2_with fail
                          refine (end_is 12 HR10.out (by rw [HZ9.out]; have := HT1.out; have := HZ8.out; rw [if_neg (by omega)])).mono ?_
                          rintro e w11 ⟨rfl, hb11⟩
                          have HR11 := Lib.hid (HR10.out.kept hb11)
                          have HB11 := Lib.hid (below_step HB10.out hb11)
                          clear hb11
                          go_wp2_with fail
                          refine (end_is 12 HR11.out (by rw [HZ9.out]; have := HT1.out; have := HZ8.out; rw [if_neg (by omega)])).mono ?_
                          rintro e w12 ⟨rfl, hb12⟩
                          have HR12 := Lib.hid (HR11.out.kept hb12)
                          have HB12 := Lib.hid (below_step HB11.out hb12)
                          clear hb12
                          go_wp2_with fail
                          go_roundw
                          case rel => exact ⟨j + 1, R, u, by omega, by go_num, rfl, rfl, HR12, HB12, HW9⟩
                          case measure => simp [intOf]; omega
                  · skip
                    have hx5 : (xa == 2) = false := by rw [beq_eq_false_iff_ne]; exact hx4
                    have HC1 := Lib.hid (copy_any HRa.out)
                    clear hx0 hx2 hx4
                    go_wp2_with fail
                    refine HC1.out.mono ?_
                    rintro e w4 ⟨X, rfl, hrX, hX, hb4⟩
                    have HR4 := Lib.hid (HRa.out.kept hb4)
                    have HX4 := Lib.hid hrX
                    have HB4 := Lib.hid (below_step HBa.out hb4)
                    have HXR := Lib.hid (show X ≠ R from by have := HRa.out.blk.lt; omega)
                    have HXW := Lib.hid (show W.heap.size ≤ X from by have := HBa.out.size; omega)
                    clear hrX hX hb4 HC1
                    go_wp2_with fail
                    refine (Num_any 1099511627776 HR4.out).mono ?_
                    rintro e w5 ⟨rfl, hr5⟩
                    have HR5 := Lib.hid hr5.1
                    have HX5 := Lib.hid (HX4.out.other HXR.out hr5.2 HR4.out.ne)
                    have HB5 := Lib.hid (Fr.below HB4.out hr5.2 (fun x hx => by subst hx; exact HRW.out))
                    clear hr5
                    generalize t + nS (b.drop t) 1099511627776 = t5 at HR5
                    go_wp2_with fail
                    refine (Take_any 1 (by decide) (by decide) HR5.out).mono ?_
                    rintro e w9 ⟨v9, rfl, hown9, hr9⟩
                    have HR9 := Lib.hid (HX5.out.other HXR.out hr9.2 HR5.out.ne)
                    have HB9 := Lib.hid (Fr.below HB5.out hr9.2 (fun x hx => by subst hx; exact HRW.out))
                    have HW9 := HXW
                    clear hr9 hown9 HRa HBa HBk HR4 HX4 HR5 HX5 HB4 HB5
                    have htu : t ≤ k := by have := HR9.out.le; have := HLM.out; omega
                    obtain ⟨z9, hz9⟩ : ∃ z9 : Nat, (k : Int) - (t : Int) = z9 := ⟨k - t, by omega⟩
                    have HZ9 := Lib.hid (show b.length - t = z9 from by have := HLM.out; omega)
                    have HZ8 := Lib.hid (show z9 + t = k from by omega)
                    by_cases htk : t = k
                    · have hte : ((t : Int) == (k : Int)) = true := by rw [beq_iff_eq]; omega
                      have hth : decide (t < k) = false := by simp; omega
                      have HT1 := Lib.hid htk
                      clear htk
                      go_wp2_with fail
                      refine (at_any HR9.out).mono ?_
                      rintro e w' ⟨rfl, rfl⟩
                      go_wp2_with fail
                      refine (leftR z9 HR9.out HZ9.out).mono ?_
                      rintro e w10 ⟨rfl, hb10⟩
                      have HR10 := Lib.hid (HR9.out.kept hb10)
                      have HB10 := Lib.hid (below_step HB9.out hb10)
                      clear hb10
                      go_wp2_with fail
                      refine (end_is 0 HR10.out (by rw [HZ9.out]; have := HT1.out; have := HZ8.out; rw [if_pos (by omega)])).mono ?_
                      rintro e w11 ⟨rfl, hb11⟩
                      have HR11 := Lib.hid (HR10.out.kept hb11)
                      have HB11 := Lib.hid (below_step HB10.out hb11)
                      clear hb11
                      go_wp2_with fail
                      go_roundw
                      case rel => exact ⟨j + 1, X, t, by omega, by go_num, rfl, rfl, HR11, HB11, HW9⟩
                      case measure => simp [intOf]; omega
                    · have hte : ((t : Int) == (k : Int)) = false := by rw [beq_eq_false_iff_ne]; omega
                      have hth : (t : Int) < (k : Int) := by omega
                      have HT1 := Lib.hid htk
                      clear htk
                      go_wp2_with fail
                      refine (at_any HR9.out).mono ?_
                      rintro e w' ⟨rfl, rfl⟩
                      go_wp2_with fail
                      refine (leftR z9 HR9.out HZ9.out).mono ?_
                      rintro e w10 ⟨rfl, hb10⟩
                      have HR10 := Lib.hid (HR9.out.kept hb10)
                      have HB10 := Lib.hid (below_step HB9.out hb10)
                      clear hb10
                      go_wp2_with fail
                      refine (end_is 12 HR10.out (by rw [HZ9.out]; have := HT1.out; have := HZ8.out; rw [if_neg (by omega)])).mono ?_
                      rintro e w11 ⟨rfl, hb11⟩
                      have HR11 := Lib.hid (HR10.out.kept hb11)
                      have HB11 := Lib.hid (below_step HB10.out hb11)
                      clear hb11
                      go_wp2_with fail
                      refine (end_is 12 HR11.out (by rw [HZ9.out]; have := HT1.out; have := HZ8.out; rw [if_neg (by omega)])).mono ?_
                      rintro e w12 ⟨rfl, hb12⟩
                      have HR12 := Lib.hid (HR11.out.kept hb12)
                      have HB12 := Lib.hid (below_step HB11.out hb12)
                      clear hb12
                      go_wp2_with fail
                      go_roundw
                      case rel => exact ⟨j + 1, X, t, by omega, by go_num, rfl, rfl, HR12, HB12, HW9⟩
                      case measure => simp [intOf]; omega
            · have hjn : j = n := by omega
              subst hjn
              go_wp2_with fail
              refine (known_any _).mono ?_
              rintro e w3 ⟨rfl, hb3⟩
              have HB3 := Lib.hid (below_step HBr.out hb3)
              clear hb3
              go_wp2_with fail
              go_ret
              exact ⟨rfl, HB3.out⟩
/-- BytesReads for what comes in. -/
theorem bytesReads_walk (pb p : Option Addr) (cb c : Nat) (b : List Int) (l : List Ak) (W : World) (hrb : Rd W W.heap.size pb (b.map (Value.int .u8))) (hlb : b.length ≤ cb) (hwb : ∀ x ∈ b, (Lit.int .u8 x).wf = true)
    (hr : Rd W W.heap.size p (aks l)) (hw : ∀ x ∈ l, x.ok W) :
    Calls Try.prog 6 #[.slice pb b.length cb, .slice p l.length c] W fun e w' => e = .returned (.bool true) ∧ Below W.heap.size W w' :=
  readsLaw_any pb p cb c b l W hrb (fun x hx => wf_u8 (hwb x hx)) hlb hr (fun x hx => ⟨wf_u64 (hw x hx).2.1, wf_i64 (hw x hx).2.2⟩)
end Go.Proofs.Ytmhkbchbglnbpaa
