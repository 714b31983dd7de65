/- BytesWrites. -/
import Derived.Test.YtmhkbchbglnbpaaPlainH
import Derived.Test.YtmhkbchbglnbpaaOwnAt
import Derived.Test.YtmhkbchbglnbpaaKnownW
namespace Go.Proofs.Ytmhkbchbglnbpaa
open Go.RowKit

/-- A row of bytes, as a thing. -/
def Ow (v : Value) (l : List Int) : Kd := fun w S => w.ownsRow 0 5 1 v l.length (bys l) ∧ ∀ b, S b ↔ v.ownBlock = some b
theorem Ow.good (v : Value) (l : List Int) : Good (Ow v l) := by
  refine ⟨?_, ?_⟩
  · rintro w w' S T ⟨h1, h2⟩ hf hn
    exact ⟨own_fr h1 hf (fun c hc ht => hn _ ((h2 c).2 hc) ht), h2⟩
  · rintro w S ⟨h1, h2⟩ b hb
    exact (own_lt h1 b ((h2 b).1 hb)).2
theorem Ow.made {w w' : World} {v : Value} {l : List Int} (h : w'.ownsRow w.heap.size 5 1 v l.length (bys l)) (hb : Below w.heap.size w w') : Made (Ow v l) w w' :=
  ⟨fun b => v.ownBlock = some b, ⟨own_mono h (Nat.zero_le _), fun _ => Iff.rfl⟩, hb, fun b hb => (own_lt h b hb).1⟩
theorem Ow.app {w w' : World} {v v' : Value} {l m : List Int} {S : Nat → Prop} (h : Ow v l w S) (ho : w'.ownsRow 0 5 1 v' (l.length + m.length) (bys l ++ bys m)) (hat : v'.ownBlock = v.ownBlock ∨ ∀ k, v'.ownBlock = some k → w.heap.size ≤ k) (hg : w.grownBy w' v.ownBlock) : Step (Ow v' (l ++ m)) w w' S := by
  refine ⟨fun b => v'.ownBlock = some b, ⟨by rw [bys_app, List.length_append]; exact ho, fun _ => Iff.rfl⟩, (Fr.refl _ _).gb hg (fun c hc => .inl ((h.2 c).2 hc)), fun b hb => ?_⟩
  rcases hat with hat | hat
  · exact .inl ((h.2 b).2 (by rw [← hat]; exact hb))
  · exact .inr (hat b hb)
theorem Ow.put {w : World} {g n c : Nat} {l : List Int} {S : Nat → Prop} (h : Ow (.slice (some ⟨g, 0, none⟩) n c) l w S) (hn : l.length = n) (i : Nat) (u : Int) : Step (Ow (.slice (some ⟨g, 0, none⟩) n c) (l.set i u)) w (w.setCell ⟨g, i, none⟩ (.int .u8 u)) S := by
  obtain ⟨h1, h2⟩ := h
  rw [hn] at h1
  have h3 := own_store h1 i (.int .u8 u)
  rw [show (bys l).set i (.int .u8 u) = bys (l.set i u) by simp [bys, List.map_set]] at h3
  exact ⟨S, ⟨by rw [List.length_set, hn]; exact h3, h2⟩, (Fr.refl _ _).set _ _ (.inl ((h2 g).2 rfl)), fun _ h => .inl h⟩
theorem Side.own {w0 w : World} {l : List Kd} {v : Value} {xs : List Int} (h : Side w0 w l) {i : Nat} (hi : l[i]? = some (Ow v xs)) : w.ownsRow 0 5 1 v xs.length (bys xs) := by
  obtain ⟨S, h, _⟩ := h.get hi
  exact h.1
theorem Side.wrt {w0 w : World} {l : List Kd} {X : Nat} {xs : List Int} (h : Side w0 w l) {i : Nat} (hi : l[i]? = some (Wr X xs)) : ∃ S, Wr X xs w S := by
  obtain ⟨S, h, _⟩ := h.get hi
  exact ⟨S, h⟩

set_option maxRecDepth 100000 in
set_option maxHeartbeats 4000000 in
theorem writes_any (p : Option Addr) (c : Nat) (l : List Pt) (W : World) (hr : PtR W p l) (hn : ∀ x ∈ l, 0 ≤ x.n ∧ x.n < 18446744073709551616) (hd : ∀ x ∈ l, Bs x.d) (hl : l.length ≤ 9223372036854775807) :
    Calls Try.prog 5 #[.slice p l.length c] W fun e w' => e = .returned (.bool true) ∧ Below W.heap.size W w' := by
  have HS := Lib.hid (small_any' c l hr hl)
  have HR := Lib.hid hr
  have HN := Lib.hid hn
  have HD := Lib.hid hd
  obtain ⟨n, hn'⟩ : ∃ n, l.length = n := ⟨_, rfl⟩
  rw [hn'] at HS ⊢
  have HLN := Lib.hid hn'
  clear hr hn hd hl hn'
  by_cases hs : smallB l = true
  · rw [hs] at HS
    obtain ⟨hl40, hd300⟩ := smallB_iff hs
    rw [HLN.out] at hl40
    have HOK := Lib.hid (show ∀ x ∈ l, x.d.length ≤ 300 ∧ x.n < 18446744073709551616 from fun x hx => ⟨hd300 x hx, (HN.out x hx).2⟩)
    have HEL := Lib.hid (enc_len l HOK.out)
    clear hs hd300
    go_enter Try.func5, Try.ntmps5
    go_wp2_with fail
    refine HS.out.mono ?_
    rintro e w' ⟨rfl, rfl⟩
    go_wp2_with fail
    have HM0 := Lib.hid (((Side.nil W).add (Ow.good (.slice none 0 0) []) (Ow.made (World.ownsRow_nil _ _ _ _) (Below.refl _ _))).add (Wr.good W.heap.size (enc (l.take 0))) (Wr.made ((Below.refl _ _).alloc (Nat.le_refl _) _) (Blk.new W 38 [.slice none 0 0]) (Nat.le_refl _)))
    generalize (W.alloc (.cells #[.slice none 0 0] 38)) = W1 at HM0 ⊢
    go_loopw [4, 17] (fun v i wr => ∃ (k : Nat) (q4 : Option Addr) (c4 : Nat), k ≤ n ∧ v = .slice q4 (enc (l.take k)).length c4 ∧ i = .int .i64 k ∧ Hid (Side W wr [Wr W.heap.size (enc (l.take k)), Ow (.slice q4 (enc (l.take k)).length c4) (enc (l.take k))])) (fun _ i _ => n - (intOf i).toNat)
    case atStart => exact ⟨0, none, 0, Nat.zero_le _, rfl, rfl, HM0⟩
    case round =>
      clear HM0
      obtain ⟨k, q4, c4, hk, rfl, rfl, HSd⟩ := hrel
      by_cases hlt : k < n
      · have hki : (k : Int) < (n : Int) := by omega
        have hlt2 : k < l.length := by rw [HLN.out]; exact hlt
        obtain ⟨bb, oo, rfl, hbb, hc0, hc1, hc2, hrd⟩ := (HR.out.kept HSd.out.b).at_ hlt2
        have HET := Lib.hid (enc_take hlt2)
        have hox := HOK.out _ (List.getElem_mem hlt2)
        have hnx := HN.out _ (List.getElem_mem hlt2)
        have hdx := HD.out _ (List.getElem_mem hlt2)
        have hle := enc_le l k
        have hel := HEL.out
        rw [HLN.out] at hel
        obtain ⟨⟨xa, xn, xq, xc, xd⟩, hx⟩ : ∃ x, l[k] = x := ⟨_, rfl⟩
        rw [hx] at hc0 hc1 hc2 hrd HET hox hnx hdx
        simp only at hc0 hc1 hc2 hrd hox hnx hdx
        obtain ⟨xk, rfl⟩ : ∃ xk : Nat, xn = xk := ⟨xn.toNat, by omega⟩
        obtain ⟨xm, hxm⟩ : ∃ xm, xd.length = xm := ⟨_, rfl⟩
        rw [hxm] at hc2 hox
        obtain ⟨L, hL⟩ : ∃ L, enc (l.take k) = L := ⟨_, rfl⟩
        obtain ⟨L1, hL1⟩ : ∃ L, enc (l.take (k + 1)) = L := ⟨_, rfl⟩
        obtain ⟨ln, hln⟩ : ∃ ln, L.length = ln := ⟨_, rfl⟩
        rw [hL, hL1] at HET
        rw [hL] at HSd hle ⊢
        rw [hln] at HSd hle ⊢
        have HLL := Lib.hid (show ln ≤ 12400 by omega)
        have HL1 := Lib.hid hL1
        have HLn := Lib.hid hln
        have HXM := Lib.hid hxm
        have HRD := Lib.hid hrd
        have HRD0 := Lib.hid fun (w' : World) (hb : Below W.heap.size W w') => (by have h9 := HR.out.2 _ (List.getElem_mem hlt2); rw [hx] at h9; exact h9.kept hb : Rd w' w'.heap.size xq (bys xd))
        have HBD := Lib.hid hdx
        have HXK := Lib.hid (show xk < 18446744073709551616 by omega)
        have HXM3 := Lib.hid hox.1
        have HSa := Lib.hid (HSd.out.box ((Below.refl wr.heap.size wr).alloc (Nat.le_refl _) (.cells #[.int .i64 xa, .int .u64 xk, .slice xq xm xc] 40)) (Blk.new wr 40 [.int .i64 xa, .int .u64 xk, .slice xq xm xc]) (Nat.le_refl _))
        have HRDa := Lib.hid (HRD.out.kept ((Below.refl wr.heap.size wr).alloc (Nat.le_refl _) (.cells #[.int .i64 xa, .int .u64 xk, .slice xq xm xc] 40)))
        clear hx hxm hrd hdx hnx hox hle hel hL hL1 hln
        go_upto_region 8 with fail
        generalize (wr.alloc (.cells #[.int .i64 xa, .int .u64 xk, .slice xq xm xc] 40)) = wa at HSa HRDa ⊢
        generalize wr.heap.size = X6 at HSa ⊢
        have d2 := (HSa.out.blk (i := 0) rfl).cell 2
        simp only [List.getElem?_cons_zero, List.getElem?_cons_succ] at d2
        go_upto_region 9 with (at_builtin; refine wpList_appM rfl (.const (.slice none 0 0)) (.tmp 22) 23 rfl wa.heap.size 5 _ 1 1 Try.underlying23 u8_info rfl (by omega) _ 0 [] rfl (World.ownsRow_nil _ _ _ _) wa.heap.size xq xm xc (bys xd) rfl (by rw [bys_len, HXM.out, Nat.mul_one]) HRDa.out (bys_one _) (by have := HXM3.out; omega) (by have := HXM3.out; omega) (Nat.le_refl _) ?_; intro v7 w2 hown2 hb2 _ _)
        rw [Nat.zero_add, List.nil_append] at hown2
        obtain ⟨q7, c7, rfl, _, _, hrd7, _⟩ := own_form hown2
        have HSb := Lib.hid (HSa.out.add (Ow.good _ _) (Ow.made (l := xd) (by rw [HXM.out]; exact hown2) hb2))
        have HRDb := Lib.hid (HRDa.out.kept hb2)
        have HRD7 := Lib.hid hrd7
        clear hown2 hb2 hrd7 HSa HRDa HSd HRD
        have d0 := (HSb.out.blk (i := 1) rfl).cell 0
        have d1 := (HSb.out.blk (i := 1) rfl).cell 1
        have e2 := (HSb.out.blk (i := 1) rfl).cell 2
        simp only [List.getElem?_cons_zero, List.getElem?_cons_succ] at d0 d1 e2
        by_cases hx0 : xa = 0
        · skip
          subst hx0
          have HE1 := Lib.hid (show L ++ numB xk = L1 by rw [HET.out, ptB, if_pos rfl, Int.toNat_natCast])
          go_wp2_with fail
          refine (HSb.out.call 2 rfl (Wr.good _ _) (fun S hS => WNum_any xk HXK.out (WrT.of (B := 10) hS (by have := HLL.out; have := HLn.out; omega)) (.inr ⟨_, rfl⟩) wpost)).mono ?_
          rintro e w3 ⟨rfl, hS3⟩
          have HS3 := Lib.hid hS3
          have f1 := (hS3.blk (i := 1) rfl).cell 1
          simp only [List.getElem?_cons_zero, List.getElem?_cons_succ] at f1
          clear hS3 HSb
          go_wp2_with fail
          refine (refNumber_any xk _ HXK.out).mono ?_
          rintro e w4 ⟨v8, rfl, hown8, hb8⟩
          obtain ⟨q8, c8, hv8, _, _, hrd8, _⟩ := own_form hown8
          have HRD8 := Lib.hid hrd8
          obtain ⟨fl, hfl0⟩ : ∃ fl, (numB xk).length = fl := ⟨_, rfl⟩
          have HFL := Lib.hid hfl0
          rw [hfl0] at hv8
          subst hv8
          have HS4 := Lib.hid (HS3.out.kept hb8)
          have HF10 := Lib.hid (numB_10 HXK.out)
          clear hown8 hb8 hrd8 hfl0 HS3 f1
          
          have hown4 := HS4.out.own (i := 3) rfl
          rw [HLn.out] at hown4
          have hr8 := HRD8.out
          have hfl := (show fl ≤ 10 by have := HF10.out; have := HFL.out; omega)
          have hln3 := HLL.out
          go_upto_region 18 with (at_builtin; refine wpList_appM rfl (.tmp 37) (.tmp 40) 23 rfl 0 5 _ 1 1 Try.underlying23 u8_info rfl (by omega) _ ln (bys L) rfl hown4 w4.heap.size q8 fl c8 (bys (numB xk)) rfl (by rw [bys_len, HFL.out, Nat.mul_one]) hr8 (bys_one _) (by omega) (by omega) (Nat.zero_le _) ?_; intro v9 w9 hown9 _ hat9 hg9)
          obtain ⟨q9, c9, hv9, _, _⟩ := own_shape hown9
          subst hv9
          obtain ⟨tn, htn⟩ : ∃ tn, ln + fl = tn := ⟨_, rfl⟩
          have HS9 := Lib.hid (HS4.out.step (i := 3) rfl (Ow.good _ _) (fun S hS _ => Ow.app (m := numB xk) hS (by rw [HLn.out, HFL.out]; exact hown9) hat9 hg9))
          rw [HE1.out] at HS9
          simp only [List.set_cons_succ, List.set_cons_zero, List.set_nil] at HS9
          have HT1 := Lib.hid (show L1.length = tn by rw [← HE1.out, List.length_append, HLn.out, HFL.out]; exact htn)
          have HTL := HT1
          have HTL2 := Lib.hid (show tn ≤ 13000 by omega)
          rw [htn] at HS9 ⊢
          clear hown4 hown9 hat9 hg9 hr8 hfl hln3 htn
          clear d0 d1 e2 HRD7 HRDb
          have hxmi : (xm : Int) ≤ 300 := by have := HXM3.out; omega
          go_upto_region 18 with fail
          go_wp2_with fail
          go_loopw [55] (fun i wr => ∃ (j : Nat) (xs : List Int), j ≤ xm ∧ i = .int .i64 j ∧ Hid (xs.length = xm) ∧ Hid (Side W wr [Ow (.slice q7 xm c7) xs, Bx X6 40 [.int .i64 0, .int .u64 xk, .slice xq xm xc], Wr W.heap.size L1, Ow (.slice q9 tn c9) L1])) (fun i _ => xm - (intOf i).toNat)
          case atStart => exact ⟨0, xd, Nat.zero_le _, rfl, HXM, HS9⟩
          case round =>
            clear HS9
            obtain ⟨j, xs, hj, rfl, HX, HS10⟩ := hrel
            by_cases hlt : j < xm
            · have hji : (j : Int) < (xm : Int) := by omega
              have hown := HS10.out.own (i := 0) rfl
              rw [HX.out] at hown
              obtain ⟨g, c', he, _, hgl, _, _, hc, hf⟩ := own_at hown (by omega)
              injection he with hq _ hd
              subst hq hd
              have hlx : j < xs.length := by rw [HX.out]; exact hlt
              have hck := hc j _ (bys_at xs j hlx)
              have hfk := hf j
              obtain ⟨y, hy⟩ : ∃ y, xs[j] = y := ⟨_, rfl⟩
              rw [hy] at hck
              obtain ⟨y2, hy2⟩ : ∃ y2, IntKind.u8.wrap (y + 1) = y2 := ⟨_, rfl⟩
              have HS11 := Lib.hid (HS10.out.step (i := 0) rfl (Ow.good _ _) (fun S hS _ => Ow.put hS HX.out j y2))
              clear hown hc hf hlx hy
              go_wp2_with fail
              go_roundw
              case rel => exact ⟨j + 1, xs.set j y2, by omega, by go_num, Lib.hid (by rw [List.length_set]; exact HX.out), HS11⟩
              case measure => simp [intOf]; omega
            · have hjm : j = xm := by omega
              subst hjm
              obtain ⟨S2, hW2⟩ := HS10.out.wrt (i := 2) rfl
              have HWB := Lib.hid (WBytes_any hW2 (by have := HT1.out; have := HTL2.out; omega))
              clear hW2
              go_wp2_with fail
              refine HWB.out.mono ?_
              rintro e w11 ⟨v9, rfl, hown11, hb11⟩
              obtain ⟨qb, cb, hvb, _, _, hrdb, _⟩ := own_form hown11
              rw [HTL.out] at hvb
              subst hvb
              have HS12 := Lib.hid (HS10.out.add (Ow.good _ _) (Ow.made hown11 hb11))
              obtain ⟨S3, hW3⟩ := HS12.out.wrt (i := 3) rfl
              have HCL := Lib.hid fun (w : World) (hb : Below w11.heap.size w11 w) => WLen_any ((Wr.good _ _).kept hW3 hb) (by have := HT1.out; have := HTL2.out; omega)
              rw [HTL.out] at HCL
              obtain ⟨ts, hts⟩ : ∃ ts, strOfNums L1 = ts := ⟨_, rfl⟩
              obtain ⟨nn, hnn⟩ : ∃ nn, (numB xk).length = nn := ⟨_, rfl⟩
              have HNN := Lib.hid hnn
              have hrd9 := own_rd (HS12.out.own (i := 4) rfl)
              have HSS := Lib.hid fun (w' : World) (hb : Below w11.heap.size w11 w') => (by
                have h1 := conv_any (hrdb.kept hb) cb
                have h2 := conv_any (hrd9.kept hb) c9
                rw [HTL.out, hts] at h1 h2
                exact ⟨((HS12.out.blk (i := 2) rfl).kept hb).cell 1, h1, h2⟩ : w'.cell? ⟨X6, 1, none⟩ = some (.int .u64 xk) ∧ (convert 23 9 (.slice qb tn cb)).run Try.prog w' = .ok (.string ts) w' ∧ (convert 23 9 (.slice q9 tn c9)).run Try.prog w' = .ok (.string ts) w')
              clear hW3 hown11 hb11 hrdb hrd9 hts hnn HS10
              go_upto_region 24 with fail
              refine wp_region_noPanic ?_
              refine wp_region_held_drew (S := fun w' => w'.cell? ⟨X6, 1, none⟩ = some (.int .u64 (xk : Int)) ∧ (convert 23 9 (.slice qb tn cb)).run Try.prog w' = .ok (.string ts) w' ∧ (convert 23 9 (.slice q9 tn c9)).run Try.prog w' = .ok (.string ts) w') (by kernel_rfl) (by first | exact HSS.out _ ((Below.refl _ _).drew) | exact HSS.out _ HZ3.out | exact HSS.out _ HZ2.out | exact HSS.out _ HZ1.out) (fun hHeld => ?_)
              refine wpAnyH_take (i := 0) (oi := ⟨some 66, _, _, _, _, _⟩) (v := ?_) rfl (by kernel_rfl) (by kernel_rfl) (by kernel_rfl) (fun _ _ _ h => h) (Or.inl ⟨by rfl, ?_⟩) hHeld ?_
              rotate_left
              · (intro w hSw; obtain ⟨hq1, hq2, hq3⟩ := hSw; go_simp; try with_reducible rfl)
              try simp only [Act.put, List.setIfInBounds_toArray, List.set_cons_zero, List.set_cons_succ]
              refine wpAnyH_take (i := 1) (oi := ⟨some 67, _, _, _, _, _⟩) (v := ?_) rfl (by kernel_rfl) (by kernel_rfl) (by kernel_rfl) (fun _ _ _ h => h) (Or.inl ⟨by rfl, ?_⟩) hHeld ?_
              rotate_left
              · (intro w hSw; obtain ⟨hq1, hq2, hq3⟩ := hSw; go_simp; try with_reducible rfl)
              try simp only [Act.put, List.setIfInBounds_toArray, List.set_cons_zero, List.set_cons_succ]
              refine wpAnyH_take (i := 2) (oi := ⟨some 68, _, _, _, _, _⟩) (v := ?_) rfl (by kernel_rfl) (by kernel_rfl) (by kernel_rfl) (fun _ _ _ h => h) (Or.inl ⟨by rfl, ?_⟩) hHeld ?_
              rotate_left
              · (intro w hSw; obtain ⟨hq1, hq2, hq3⟩ := hSw; go_simp; try with_reducible rfl)
              try simp only [Act.put, List.setIfInBounds_toArray, List.set_cons_zero, List.set_cons_succ]
              refine wpAnyH_take (i := 3) (oi := ⟨some 69, _, _, _, _, _⟩) (v := ?_) rfl (by kernel_rfl) (by kernel_rfl) (by kernel_rfl) (fun _ _ _ h => h) (Or.inl ⟨by rfl, ?_⟩) hHeld ?_
              rotate_left
              · (intro w hSw; obtain ⟨hq1, hq2, hq3⟩ := hSw; go_simp; try with_reducible rfl)
              try simp only [Act.put, List.setIfInBounds_toArray, List.set_cons_zero, List.set_cons_succ]
              refine wpAnyH_take (i := 4) (oi := ⟨some 70, _, _, _, _, _⟩) (v := ?_) rfl (by kernel_rfl) (by kernel_rfl) (by kernel_rfl) (fun _ _ _ h => h) (Or.inl ⟨by rfl, ?_⟩) hHeld ?_
              rotate_left
              · (intro w hSw; obtain ⟨hq1, hq2, hq3⟩ := hSw; go_simp; try with_reducible rfl)
              try simp only [Act.put, List.setIfInBounds_toArray, List.set_cons_zero, List.set_cons_succ]
              refine wpAnyH_take (i := 5) (oi := ⟨some 71, _, _, _, _, _⟩) (v := ?_) rfl (by kernel_rfl) (by kernel_rfl) (by kernel_rfl) (fun _ _ _ h => h) (Or.inl ⟨by rfl, ?_⟩) hHeld ?_
              rotate_left
              · (intro w hSw; obtain ⟨hq1, hq2, hq3⟩ := hSw; go_simp; try with_reducible rfl)
              try simp only [Act.put, List.setIfInBounds_toArray, List.set_cons_zero, List.set_cons_succ]
              refine wpAnyH_take (i := 7) (oi := ⟨some 73, _, _, _, _, _⟩) (v := ?_) rfl (by kernel_rfl) (by kernel_rfl) (by kernel_rfl) (fun _ _ _ h => h) (Or.inl ⟨by rfl, ?_⟩) hHeld ?_
              rotate_left
              · (intro w hSw; obtain ⟨hq1, hq2, hq3⟩ := hSw; go_simp; try with_reducible rfl)
              try simp only [Act.put, List.setIfInBounds_toArray, List.set_cons_zero, List.set_cons_succ]
              refine wpAnyH_take (i := 8) (oi := ⟨some 74, _, _, _, _, _⟩) (v := ?_) rfl (by kernel_rfl) (by kernel_rfl) (by kernel_rfl) (fun _ _ _ h => h) (Or.inl ⟨by rfl, ?_⟩) hHeld ?_
              rotate_left
              · (intro w hSw; obtain ⟨hq1, hq2, hq3⟩ := hSw; go_simp; try with_reducible rfl)
              try simp only [Act.put, List.setIfInBounds_toArray, List.set_cons_zero, List.set_cons_succ]
              refine wpAnyH_ready (rs := [6]) (by kernel_rfl) (by simp) ?_
              refine (AllReadyH.cons (o := ⟨some 72, _, _, _, _, _⟩) rfl (fun K hK => ?_) AllReadyH.nil)
              go_simp
              (refine (HCL.out _ ((Below.refl _ _).drew)).mono ?_; rintro e z1 ⟨rfl, hz1⟩)
              have HZ1 := Lib.hid (((Below.refl w11.heap.size w11).drew).trans hz1)
              clear hz1
              refine hK.out _ _ (by first | exact HSS.out _ ((Below.refl _ _).drew) | exact HSS.out _ HZ3.out | exact HSS.out _ HZ2.out | exact HSS.out _ HZ1.out) (fun hHeld => ?_)
              clear hK K
              try simp only [Act.put, List.setIfInBounds_toArray, List.set_cons_zero, List.set_cons_succ]
              refine wpAnyH_take (i := 9) (oi := ⟨some 75, _, _, _, _, _⟩) (v := ?_) rfl (by kernel_rfl) (by kernel_rfl) (by kernel_rfl) (fun _ _ _ h => h) (Or.inl ⟨by rfl, ?_⟩) hHeld ?_
              rotate_left
              · (intro w hSw; obtain ⟨hq1, hq2, hq3⟩ := hSw; go_simp; try with_reducible rfl)
              try simp only [Act.put, List.setIfInBounds_toArray, List.set_cons_zero, List.set_cons_succ]
              refine wpAnyH_take (i := 10) (oi := ⟨some 76, _, _, _, _, _⟩) (v := ?_) rfl (by kernel_rfl) (by kernel_rfl) (by kernel_rfl) (fun _ _ _ h => h) (Or.inl ⟨by rfl, ?_⟩) hHeld ?_
              rotate_left
              · (intro w hSw; obtain ⟨hq1, hq2, hq3⟩ := hSw; go_simp; try with_reducible rfl)
              try simp only [Act.put, List.setIfInBounds_toArray, List.set_cons_zero, List.set_cons_succ]
              refine wpAnyH_take (i := 11) (oi := ⟨some 77, _, _, _, _, _⟩) (v := ?_) rfl (by kernel_rfl) (by kernel_rfl) (by kernel_rfl) (fun _ _ _ h => h) (Or.inl ⟨by rfl, ?_⟩) hHeld ?_
              rotate_left
              · (intro w hSw; obtain ⟨hq1, hq2, hq3⟩ := hSw; go_simp; try with_reducible rfl)
              try simp only [Act.put, List.setIfInBounds_toArray, List.set_cons_zero, List.set_cons_succ]
              refine wpAnyH_take (i := 12) (oi := ⟨some 78, _, _, _, _, _⟩) (v := ?_) rfl (by kernel_rfl) (by kernel_rfl) (by kernel_rfl) (fun _ _ _ h => h) (Or.inl ⟨by rfl, ?_⟩) hHeld ?_
              rotate_left
              · (intro w hSw; obtain ⟨hq1, hq2, hq3⟩ := hSw; go_simp; try with_reducible rfl)
              try simp only [Act.put, List.setIfInBounds_toArray, List.set_cons_zero, List.set_cons_succ]
              refine wpAnyH_take (i := 13) (oi := ⟨some 79, _, _, _, _, _⟩) (v := ?_) rfl (by kernel_rfl) (by kernel_rfl) (by kernel_rfl) (fun _ _ _ h => h) (Or.inl ⟨by rfl, ?_⟩) hHeld ?_
              rotate_left
              · (intro w hSw; obtain ⟨hq1, hq2, hq3⟩ := hSw; go_simp; try with_reducible rfl)
              try simp only [Act.put, List.setIfInBounds_toArray, List.set_cons_zero, List.set_cons_succ]
              refine wpAnyH_take (i := 15) (oi := ⟨some 81, _, _, _, _, _⟩) (v := ?_) rfl (by kernel_rfl) (by kernel_rfl) (by kernel_rfl) (fun _ _ _ h => h) (Or.inl ⟨by rfl, ?_⟩) hHeld ?_
              rotate_left
              · (intro w hSw; obtain ⟨hq1, hq2, hq3⟩ := hSw; go_simp; try with_reducible rfl)
              try simp only [Act.put, List.setIfInBounds_toArray, List.set_cons_zero, List.set_cons_succ]
              refine wpAnyH_take (i := 16) (oi := ⟨some 82, _, _, _, _, _⟩) (v := ?_) rfl (by kernel_rfl) (by kernel_rfl) (by kernel_rfl) (fun _ _ _ h => h) (Or.inl ⟨by rfl, ?_⟩) hHeld ?_
              rotate_left
              · (intro w hSw; obtain ⟨hq1, hq2, hq3⟩ := hSw; go_simp; try with_reducible rfl)
              try simp only [Act.put, List.setIfInBounds_toArray, List.set_cons_zero, List.set_cons_succ]
              refine wpAnyH_ready (rs := [14]) (by kernel_rfl) (by simp) ?_
              refine (AllReadyH.cons (o := ⟨some 80, _, _, _, _, _⟩) rfl (fun K hK => ?_) AllReadyH.nil)
              go_simp
              (refine (size_any xk _ HXK.out).mono ?_; rintro e z2 ⟨rfl, hz2⟩)
              rw [HNN.out]
              have HZ2 := Lib.hid (below_step HZ1.out hz2)
              clear hz2
              refine hK.out _ _ (by first | exact HSS.out _ ((Below.refl _ _).drew) | exact HSS.out _ HZ3.out | exact HSS.out _ HZ2.out | exact HSS.out _ HZ1.out) (fun hHeld => ?_)
              clear hK K
              try simp only [Act.put, List.setIfInBounds_toArray, List.set_cons_zero, List.set_cons_succ]
              refine wpAnyH_ready (rs := [17]) (by kernel_rfl) (by simp) ?_
              refine (AllReadyH.cons (o := ⟨some 83, _, _, _, _, _⟩) rfl (fun K hK => ?_) AllReadyH.nil)
              go_simp
              (refine (refNumber_any xk _ HXK.out).mono ?_; rintro e z3 ⟨v3, rfl, hown3, hz3⟩)
              obtain ⟨q3, c3, hv3, _⟩ := own_form hown3
              rw [HNN.out] at hv3
              subst hv3
              have HZ3 := Lib.hid (below_step HZ2.out hz3)
              clear hz3 hown3
              refine hK.out _ _ (by first | exact HSS.out _ ((Below.refl _ _).drew) | exact HSS.out _ HZ3.out | exact HSS.out _ HZ2.out | exact HSS.out _ HZ1.out) (fun hHeld => ?_)
              clear hK K
              try simp only [Act.put, List.setIfInBounds_toArray, List.set_cons_zero, List.set_cons_succ]
              refine wpAnyH_take (i := 18) (oi := ⟨some 84, _, _, _, _, _⟩) (v := ?_) rfl (by kernel_rfl) (by kernel_rfl) (by kernel_rfl) (fun _ _ _ h => h) (Or.inl ⟨by rfl, ?_⟩) hHeld ?_
              rotate_left
              · (intro w hSw; obtain ⟨hq1, hq2, hq3⟩ := hSw; go_simp; try with_reducible rfl)
              try simp only [Act.put, List.setIfInBounds_toArray, List.set_cons_zero, List.set_cons_succ]
              refine wpAnyH_take (i := 19) (oi := ⟨some 85, _, _, _, _, _⟩) (v := ?_) rfl (by kernel_rfl) (by kernel_rfl) (by kernel_rfl) (fun _ _ _ h => h) (Or.inl ⟨by rfl, ?_⟩) hHeld ?_
              rotate_left
              · (intro w hSw; obtain ⟨hq1, hq2, hq3⟩ := hSw; go_simp; try with_reducible rfl)
              try simp only [Act.put, List.setIfInBounds_toArray, List.set_cons_zero, List.set_cons_succ]
              refine wpAnyH_take (i := 20) (oi := ⟨some 86, _, _, _, _, _⟩) (v := ?_) rfl (by kernel_rfl) (by kernel_rfl) (by kernel_rfl) (fun _ _ _ h => h) (Or.inl ⟨by rfl, ?_⟩) hHeld ?_
              rotate_left
              · (intro w hSw; obtain ⟨hq1, hq2, hq3⟩ := hSw; go_simp; try with_reducible rfl)
              try simp only [Act.put, List.setIfInBounds_toArray, List.set_cons_zero, List.set_cons_succ]
              refine wpAnyH_done (by kernel_rfl) ?_ _
              refine NoPanic.normal ?_
              clear hHeld HSS HCL HWB
              have HS13 := Lib.hid ((HS12.out.less (l' := [Ow (.slice qb tn cb) L1, Wr W.heap.size L1, Ow (.slice q9 tn c9) L1]) (.cons_cons _ (.cons _ (.cons _ (.cons_cons _ (.cons_cons _ .slnil)))))).kept HZ3.out)
              clear HS12 HZ1 HZ2 HZ3
              have htni : (tn : Int) ≤ 13000 := by have := HTL2.out; omega
              go_wp2_with fail
              go_loopw [89] (fun i wr => ∃ (j : Nat) (xs : List Int), j ≤ tn ∧ i = .int .i64 j ∧ Hid (xs.length = tn) ∧ Hid (Side W wr [Ow (.slice qb tn cb) xs, Wr W.heap.size L1, Ow (.slice q9 tn c9) L1])) (fun i _ => tn - (intOf i).toNat)
              case atStart => exact ⟨0, L1, Nat.zero_le _, rfl, HT1, HS13⟩
              case round =>
                clear HS13
                obtain ⟨i, xs, hi, rfl, HX, HS14⟩ := hrel
                by_cases hlt : i < tn
                · have hji : (i : Int) < (tn : Int) := by omega
                  have hown := HS14.out.own (i := 0) rfl
                  rw [HX.out] at hown
                  obtain ⟨g, c', he, _, hgl, _, _, hc, hf⟩ := own_at hown (by omega)
                  injection he with hq _ hd
                  subst hq hd
                  have hlx : i < xs.length := by rw [HX.out]; exact hlt
                  have hck := hc i _ (bys_at xs i hlx)
                  have hfk := hf i
                  obtain ⟨y, hy⟩ : ∃ y, xs[i] = y := ⟨_, rfl⟩
                  rw [hy] at hck
                  obtain ⟨y2, hy2⟩ : ∃ y2, IntKind.u8.wrap (y + 1) = y2 := ⟨_, rfl⟩
                  have HS15 := Lib.hid (HS14.out.step (i := 0) rfl (Ow.good _ _) (fun S hS _ => Ow.put hS HX.out i y2))
                  clear hown hc hf hlx hy
                  go_wp2_with fail
                  go_roundw
                  case rel => exact ⟨i + 1, xs.set i y2, by omega, by go_num, Lib.hid (by rw [List.length_set]; exact HX.out), HS15⟩
                  case measure => simp [intOf]; omega
                · have him : i = tn := by omega
                  subst him
                  have HS16 := Lib.hid (HS14.out.less (l' := [Wr W.heap.size L1, Ow (.slice q9 i c9) L1]) (.cons _ (.cons_cons _ (.cons_cons _ .slnil))))
                  clear HS14
                  go_wp2_with fail
                  go_roundw
                  case rel => exact ⟨k + 1, q9, c9, by omega, by rw [HL1.out, HT1.out], by go_num, by rw [HL1.out, HT1.out]; exact HS16⟩
                  case measure => simp [intOf]; omega
        · skip
          have hx1 : (xa == 0) = false := by rw [beq_eq_false_iff_ne]; exact hx0
          by_cases hx2 : xa = 1
          · skip
            subst hx2
            have HE1 := Lib.hid (show L ++ (numB (strOfNums xd).size ++ strB (strOfNums xd)) = L1 by rw [HET.out, ptB, if_neg (show ¬ (1 : Int) = 0 by decide), if_pos rfl, strOfNums_size, strB_of xd HBD.out])
            have hcv7 := conv_any HRD7.out c7
            rw [HXM.out] at hcv7
            go_wp2_with fail
            refine (HSb.out.call 2 rfl (Wr.good _ _) (fun S hS => WString_any (strOfNums xd) (by rw [strOfNums_size, HXM.out]; have := HXM3.out; omega) (WrT.of (B := 10 + (strOfNums xd).size) hS (by rw [strOfNums_size, HXM.out]; have := HXM3.out; have := HLL.out; have := HLn.out; omega)) (.inr ⟨_, rfl⟩) wpost)).mono ?_
            rintro e w3 ⟨rfl, hS3⟩
            have HS3 := Lib.hid hS3
            have f2 := (hS3.blk (i := 1) rfl).cell 2
            simp only [List.getElem?_cons_zero, List.getElem?_cons_succ] at f2
            have HBW := Lib.hid hS3.b
            have hcvd := conv_any (HRD0.out _ hS3.b) xc
            rw [HXM.out] at hcvd
            clear hS3 HSb hcv7
            go_wp2_with fail
            refine (refString_any (strOfNums xd) _ (by rw [strOfNums_size, HXM.out]; have := HXM3.out; omega)).mono ?_
            rintro e w4 ⟨v8, rfl, hown8, hb8⟩
            obtain ⟨q8, c8, hv8, _, _, hrd8, _⟩ := own_form hown8
            have HRD8 := Lib.hid hrd8
            obtain ⟨fl, hfl0⟩ : ∃ fl, (numB (strOfNums xd).size ++ strB (strOfNums xd)).length = fl := ⟨_, rfl⟩
            have HFL := Lib.hid hfl0
            rw [hfl0] at hv8
            subst hv8
            have HS4 := Lib.hid (HS3.out.kept hb8)
            have HF10 := Lib.hid (show (numB (strOfNums xd).size ++ strB (strOfNums xd)).length ≤ 310 by rw [List.length_append, strB_len, strOfNums_size, HXM.out]; have := numB_10 (n := xm) (by have := HXM3.out; omega); have := HXM3.out; omega)
            clear hown8 hb8 hrd8 hfl0 HS3 f2 hcvd
            
            have hown4 := HS4.out.own (i := 3) rfl
            rw [HLn.out] at hown4
            have hr8 := HRD8.out
            have hfl := (show fl ≤ 310 by have := HF10.out; have := HFL.out; omega)
            have hln3 := HLL.out
            go_upto_region 18 with (at_builtin; refine wpList_appM rfl (.tmp 47) (.tmp 51) 23 rfl 0 5 _ 1 1 Try.underlying23 u8_info rfl (by omega) _ ln (bys L) rfl hown4 w4.heap.size q8 fl c8 (bys (numB (strOfNums xd).size ++ strB (strOfNums xd))) rfl (by rw [bys_len, HFL.out, Nat.mul_one]) hr8 (bys_one _) (by omega) (by omega) (Nat.zero_le _) ?_; intro v9 w9 hown9 _ hat9 hg9)
            obtain ⟨q9, c9, hv9, _, _⟩ := own_shape hown9
            subst hv9
            obtain ⟨tn, htn⟩ : ∃ tn, ln + fl = tn := ⟨_, rfl⟩
            have HS9 := Lib.hid (HS4.out.step (i := 3) rfl (Ow.good _ _) (fun S hS _ => Ow.app (m := numB (strOfNums xd).size ++ strB (strOfNums xd)) hS (by rw [HLn.out, HFL.out]; exact hown9) hat9 hg9))
            rw [HE1.out] at HS9
            simp only [List.set_cons_succ, List.set_cons_zero, List.set_nil] at HS9
            have HT1 := Lib.hid (show L1.length = tn by rw [← HE1.out, List.length_append, HLn.out, HFL.out]; exact htn)
            have HTL := HT1
            have HTL2 := Lib.hid (show tn ≤ 13000 by omega)
            rw [htn] at HS9 ⊢
            clear hown4 hown9 hat9 hg9 hr8 hfl hln3 htn
            clear d0 d1 e2 HRD7 HRDb
            have hxmi : (xm : Int) ≤ 300 := by have := HXM3.out; omega
            go_upto_region 18 with fail
            go_wp2_with fail
            go_loopw [55] (fun i wr => ∃ (j : Nat) (xs : List Int), j ≤ xm ∧ i = .int .i64 j ∧ Hid (xs.length = xm) ∧ Hid (Side W wr [Ow (.slice q7 xm c7) xs, Bx X6 40 [.int .i64 1, .int .u64 xk, .slice xq xm xc], Wr W.heap.size L1, Ow (.slice q9 tn c9) L1])) (fun i _ => xm - (intOf i).toNat)
            case atStart => exact ⟨0, xd, Nat.zero_le _, rfl, HXM, HS9⟩
            case round =>
              clear HS9
              obtain ⟨j, xs, hj, rfl, HX, HS10⟩ := hrel
              by_cases hlt : j < xm
              · have hji : (j : Int) < (xm : Int) := by omega
                have hown := HS10.out.own (i := 0) rfl
                rw [HX.out] at hown
                obtain ⟨g, c', he, _, hgl, _, _, hc, hf⟩ := own_at hown (by omega)
                injection he with hq _ hd
                subst hq hd
                have hlx : j < xs.length := by rw [HX.out]; exact hlt
                have hck := hc j _ (bys_at xs j hlx)
                have hfk := hf j
                obtain ⟨y, hy⟩ : ∃ y, xs[j] = y := ⟨_, rfl⟩
                rw [hy] at hck
                obtain ⟨y2, hy2⟩ : ∃ y2, IntKind.u8.wrap (y + 1) = y2 := ⟨_, rfl⟩
                have HS11 := Lib.hid (HS10.out.step (i := 0) rfl (Ow.good _ _) (fun S hS _ => Ow.put hS HX.out j y2))
                clear hown hc hf hlx hy
                go_wp2_with fail
                go_roundw
                case rel => exact ⟨j + 1, xs.set j y2, by omega, by go_num, Lib.hid (by rw [List.length_set]; exact HX.out), HS11⟩
                case measure => simp [intOf]; omega
              · have hjm : j = xm := by omega
                subst hjm
                obtain ⟨S2, hW2⟩ := HS10.out.wrt (i := 2) rfl
                have HWB := Lib.hid (WBytes_any hW2 (by have := HT1.out; have := HTL2.out; omega))
                clear hW2
                go_wp2_with fail
                refine HWB.out.mono ?_
                rintro e w11 ⟨v9, rfl, hown11, hb11⟩
                obtain ⟨qb, cb, hvb, _, _, hrdb, _⟩ := own_form hown11
                rw [HTL.out] at hvb
                subst hvb
                have HS12 := Lib.hid (HS10.out.add (Ow.good _ _) (Ow.made hown11 hb11))
                obtain ⟨S3, hW3⟩ := HS12.out.wrt (i := 3) rfl
                have HCL := Lib.hid fun (w : World) (hb : Below w11.heap.size w11 w) => WLen_any ((Wr.good _ _).kept hW3 hb) (by have := HT1.out; have := HTL2.out; omega)
                rw [HTL.out] at HCL
                obtain ⟨ts, hts⟩ : ∃ ts, strOfNums L1 = ts := ⟨_, rfl⟩
                obtain ⟨nn, hnn⟩ : ∃ nn, (numB xk).length = nn := ⟨_, rfl⟩
                have HNN := Lib.hid hnn
                have hrd9 := own_rd (HS12.out.own (i := 4) rfl)
                have HSS := Lib.hid fun (w' : World) (hb : Below w11.heap.size w11 w') => (by
                  have h1 := conv_any (hrdb.kept hb) cb
                  have h2 := conv_any (hrd9.kept hb) c9
                  rw [HTL.out, hts] at h1 h2
                  exact ⟨((HS12.out.blk (i := 2) rfl).kept hb).cell 1, h1, h2⟩ : w'.cell? ⟨X6, 1, none⟩ = some (.int .u64 xk) ∧ (convert 23 9 (.slice qb tn cb)).run Try.prog w' = .ok (.string ts) w' ∧ (convert 23 9 (.slice q9 tn c9)).run Try.prog w' = .ok (.string ts) w')
                clear hW3 hown11 hb11 hrdb hrd9 hts hnn HS10
                go_upto_region 24 with fail
                refine wp_region_noPanic ?_
                refine wp_region_held_drew (S := fun w' => w'.cell? ⟨X6, 1, none⟩ = some (.int .u64 (xk : Int)) ∧ (convert 23 9 (.slice qb tn cb)).run Try.prog w' = .ok (.string ts) w' ∧ (convert 23 9 (.slice q9 tn c9)).run Try.prog w' = .ok (.string ts) w') (by kernel_rfl) (by first | exact HSS.out _ ((Below.refl _ _).drew) | exact HSS.out _ HZ3.out | exact HSS.out _ HZ2.out | exact HSS.out _ HZ1.out) (fun hHeld => ?_)
                refine wpAnyH_take (i := 0) (oi := ⟨some 66, _, _, _, _, _⟩) (v := ?_) rfl (by kernel_rfl) (by kernel_rfl) (by kernel_rfl) (fun _ _ _ h => h) (Or.inl ⟨by rfl, ?_⟩) hHeld ?_
                rotate_left
                · (intro w hSw; obtain ⟨hq1, hq2, hq3⟩ := hSw; go_simp; try with_reducible rfl)
                try simp only [Act.put, List.setIfInBounds_toArray, List.set_cons_zero, List.set_cons_succ]
                refine wpAnyH_take (i := 1) (oi := ⟨some 67, _, _, _, _, _⟩) (v := ?_) rfl (by kernel_rfl) (by kernel_rfl) (by kernel_rfl) (fun _ _ _ h => h) (Or.inl ⟨by rfl, ?_⟩) hHeld ?_
                rotate_left
                · (intro w hSw; obtain ⟨hq1, hq2, hq3⟩ := hSw; go_simp; try with_reducible rfl)
                try simp only [Act.put, List.setIfInBounds_toArray, List.set_cons_zero, List.set_cons_succ]
                refine wpAnyH_take (i := 2) (oi := ⟨some 68, _, _, _, _, _⟩) (v := ?_) rfl (by kernel_rfl) (by kernel_rfl) (by kernel_rfl) (fun _ _ _ h => h) (Or.inl ⟨by rfl, ?_⟩) hHeld ?_
                rotate_left
                · (intro w hSw; obtain ⟨hq1, hq2, hq3⟩ := hSw; go_simp; try with_reducible rfl)
                try simp only [Act.put, List.setIfInBounds_toArray, List.set_cons_zero, List.set_cons_succ]
                refine wpAnyH_take (i := 3) (oi := ⟨some 69, _, _, _, _, _⟩) (v := ?_) rfl (by kernel_rfl) (by kernel_rfl) (by kernel_rfl) (fun _ _ _ h => h) (Or.inl ⟨by rfl, ?_⟩) hHeld ?_
                rotate_left
                · (intro w hSw; obtain ⟨hq1, hq2, hq3⟩ := hSw; go_simp; try with_reducible rfl)
                try simp only [Act.put, List.setIfInBounds_toArray, List.set_cons_zero, List.set_cons_succ]
                refine wpAnyH_take (i := 4) (oi := ⟨some 70, _, _, _, _, _⟩) (v := ?_) rfl (by kernel_rfl) (by kernel_rfl) (by kernel_rfl) (fun _ _ _ h => h) (Or.inl ⟨by rfl, ?_⟩) hHeld ?_
                rotate_left
                · (intro w hSw; obtain ⟨hq1, hq2, hq3⟩ := hSw; go_simp; try with_reducible rfl)
                try simp only [Act.put, List.setIfInBounds_toArray, List.set_cons_zero, List.set_cons_succ]
                refine wpAnyH_take (i := 5) (oi := ⟨some 71, _, _, _, _, _⟩) (v := ?_) rfl (by kernel_rfl) (by kernel_rfl) (by kernel_rfl) (fun _ _ _ h => h) (Or.inl ⟨by rfl, ?_⟩) hHeld ?_
                rotate_left
                · (intro w hSw; obtain ⟨hq1, hq2, hq3⟩ := hSw; go_simp; try with_reducible rfl)
                try simp only [Act.put, List.setIfInBounds_toArray, List.set_cons_zero, List.set_cons_succ]
                refine wpAnyH_take (i := 7) (oi := ⟨some 73, _, _, _, _, _⟩) (v := ?_) rfl (by kernel_rfl) (by kernel_rfl) (by kernel_rfl) (fun _ _ _ h => h) (Or.inl ⟨by rfl, ?_⟩) hHeld ?_
                rotate_left
                · (intro w hSw; obtain ⟨hq1, hq2, hq3⟩ := hSw; go_simp; try with_reducible rfl)
                try simp only [Act.put, List.setIfInBounds_toArray, List.set_cons_zero, List.set_cons_succ]
                refine wpAnyH_take (i := 8) (oi := ⟨some 74, _, _, _, _, _⟩) (v := ?_) rfl (by kernel_rfl) (by kernel_rfl) (by kernel_rfl) (fun _ _ _ h => h) (Or.inl ⟨by rfl, ?_⟩) hHeld ?_
                rotate_left
                · (intro w hSw; obtain ⟨hq1, hq2, hq3⟩ := hSw; go_simp; try with_reducible rfl)
                try simp only [Act.put, List.setIfInBounds_toArray, List.set_cons_zero, List.set_cons_succ]
                refine wpAnyH_ready (rs := [6]) (by kernel_rfl) (by simp) ?_
                refine (AllReadyH.cons (o := ⟨some 72, _, _, _, _, _⟩) rfl (fun K hK => ?_) AllReadyH.nil)
                go_simp
                (refine (HCL.out _ ((Below.refl _ _).drew)).mono ?_; rintro e z1 ⟨rfl, hz1⟩)
                have HZ1 := Lib.hid (((Below.refl w11.heap.size w11).drew).trans hz1)
                clear hz1
                refine hK.out _ _ (by first | exact HSS.out _ ((Below.refl _ _).drew) | exact HSS.out _ HZ3.out | exact HSS.out _ HZ2.out | exact HSS.out _ HZ1.out) (fun hHeld => ?_)
                clear hK K
                try simp only [Act.put, List.setIfInBounds_toArray, List.set_cons_zero, List.set_cons_succ]
                refine wpAnyH_take (i := 9) (oi := ⟨some 75, _, _, _, _, _⟩) (v := ?_) rfl (by kernel_rfl) (by kernel_rfl) (by kernel_rfl) (fun _ _ _ h => h) (Or.inl ⟨by rfl, ?_⟩) hHeld ?_
                rotate_left
                · (intro w hSw; obtain ⟨hq1, hq2, hq3⟩ := hSw; go_simp; try with_reducible rfl)
                try simp only [Act.put, List.setIfInBounds_toArray, List.set_cons_zero, List.set_cons_succ]
                refine wpAnyH_take (i := 10) (oi := ⟨some 76, _, _, _, _, _⟩) (v := ?_) rfl (by kernel_rfl) (by kernel_rfl) (by kernel_rfl) (fun _ _ _ h => h) (Or.inl ⟨by rfl, ?_⟩) hHeld ?_
                rotate_left
                · (intro w hSw; obtain ⟨hq1, hq2, hq3⟩ := hSw; go_simp; try with_reducible rfl)
                try simp only [Act.put, List.setIfInBounds_toArray, List.set_cons_zero, List.set_cons_succ]
                refine wpAnyH_take (i := 11) (oi := ⟨some 77, _, _, _, _, _⟩) (v := ?_) rfl (by kernel_rfl) (by kernel_rfl) (by kernel_rfl) (fun _ _ _ h => h) (Or.inl ⟨by rfl, ?_⟩) hHeld ?_
                rotate_left
                · (intro w hSw; obtain ⟨hq1, hq2, hq3⟩ := hSw; go_simp; try with_reducible rfl)
                try simp only [Act.put, List.setIfInBounds_toArray, List.set_cons_zero, List.set_cons_succ]
                refine wpAnyH_take (i := 12) (oi := ⟨some 78, _, _, _, _, _⟩) (v := ?_) rfl (by kernel_rfl) (by kernel_rfl) (by kernel_rfl) (fun _ _ _ h => h) (Or.inl ⟨by rfl, ?_⟩) hHeld ?_
                rotate_left
                · (intro w hSw; obtain ⟨hq1, hq2, hq3⟩ := hSw; go_simp; try with_reducible rfl)
                try simp only [Act.put, List.setIfInBounds_toArray, List.set_cons_zero, List.set_cons_succ]
                refine wpAnyH_take (i := 13) (oi := ⟨some 79, _, _, _, _, _⟩) (v := ?_) rfl (by kernel_rfl) (by kernel_rfl) (by kernel_rfl) (fun _ _ _ h => h) (Or.inl ⟨by rfl, ?_⟩) hHeld ?_
                rotate_left
                · (intro w hSw; obtain ⟨hq1, hq2, hq3⟩ := hSw; go_simp; try with_reducible rfl)
                try simp only [Act.put, List.setIfInBounds_toArray, List.set_cons_zero, List.set_cons_succ]
                refine wpAnyH_take (i := 15) (oi := ⟨some 81, _, _, _, _, _⟩) (v := ?_) rfl (by kernel_rfl) (by kernel_rfl) (by kernel_rfl) (fun _ _ _ h => h) (Or.inl ⟨by rfl, ?_⟩) hHeld ?_
                rotate_left
                · (intro w hSw; obtain ⟨hq1, hq2, hq3⟩ := hSw; go_simp; try with_reducible rfl)
                try simp only [Act.put, List.setIfInBounds_toArray, List.set_cons_zero, List.set_cons_succ]
                refine wpAnyH_take (i := 16) (oi := ⟨some 82, _, _, _, _, _⟩) (v := ?_) rfl (by kernel_rfl) (by kernel_rfl) (by kernel_rfl) (fun _ _ _ h => h) (Or.inl ⟨by rfl, ?_⟩) hHeld ?_
                rotate_left
                · (intro w hSw; obtain ⟨hq1, hq2, hq3⟩ := hSw; go_simp; try with_reducible rfl)
                try simp only [Act.put, List.setIfInBounds_toArray, List.set_cons_zero, List.set_cons_succ]
                refine wpAnyH_ready (rs := [14]) (by kernel_rfl) (by simp) ?_
                refine (AllReadyH.cons (o := ⟨some 80, _, _, _, _, _⟩) rfl (fun K hK => ?_) AllReadyH.nil)
                go_simp
                (refine (size_any xk _ HXK.out).mono ?_; rintro e z2 ⟨rfl, hz2⟩)
                rw [HNN.out]
                have HZ2 := Lib.hid (below_step HZ1.out hz2)
                clear hz2
                refine hK.out _ _ (by first | exact HSS.out _ ((Below.refl _ _).drew) | exact HSS.out _ HZ3.out | exact HSS.out _ HZ2.out | exact HSS.out _ HZ1.out) (fun hHeld => ?_)
                clear hK K
                try simp only [Act.put, List.setIfInBounds_toArray, List.set_cons_zero, List.set_cons_succ]
                refine wpAnyH_ready (rs := [17]) (by kernel_rfl) (by simp) ?_
                refine (AllReadyH.cons (o := ⟨some 83, _, _, _, _, _⟩) rfl (fun K hK => ?_) AllReadyH.nil)
                go_simp
                (refine (refNumber_any xk _ HXK.out).mono ?_; rintro e z3 ⟨v3, rfl, hown3, hz3⟩)
                obtain ⟨q3, c3, hv3, _⟩ := own_form hown3
                rw [HNN.out] at hv3
                subst hv3
                have HZ3 := Lib.hid (below_step HZ2.out hz3)
                clear hz3 hown3
                refine hK.out _ _ (by first | exact HSS.out _ ((Below.refl _ _).drew) | exact HSS.out _ HZ3.out | exact HSS.out _ HZ2.out | exact HSS.out _ HZ1.out) (fun hHeld => ?_)
                clear hK K
                try simp only [Act.put, List.setIfInBounds_toArray, List.set_cons_zero, List.set_cons_succ]
                refine wpAnyH_take (i := 18) (oi := ⟨some 84, _, _, _, _, _⟩) (v := ?_) rfl (by kernel_rfl) (by kernel_rfl) (by kernel_rfl) (fun _ _ _ h => h) (Or.inl ⟨by rfl, ?_⟩) hHeld ?_
                rotate_left
                · (intro w hSw; obtain ⟨hq1, hq2, hq3⟩ := hSw; go_simp; try with_reducible rfl)
                try simp only [Act.put, List.setIfInBounds_toArray, List.set_cons_zero, List.set_cons_succ]
                refine wpAnyH_take (i := 19) (oi := ⟨some 85, _, _, _, _, _⟩) (v := ?_) rfl (by kernel_rfl) (by kernel_rfl) (by kernel_rfl) (fun _ _ _ h => h) (Or.inl ⟨by rfl, ?_⟩) hHeld ?_
                rotate_left
                · (intro w hSw; obtain ⟨hq1, hq2, hq3⟩ := hSw; go_simp; try with_reducible rfl)
                try simp only [Act.put, List.setIfInBounds_toArray, List.set_cons_zero, List.set_cons_succ]
                refine wpAnyH_take (i := 20) (oi := ⟨some 86, _, _, _, _, _⟩) (v := ?_) rfl (by kernel_rfl) (by kernel_rfl) (by kernel_rfl) (fun _ _ _ h => h) (Or.inl ⟨by rfl, ?_⟩) hHeld ?_
                rotate_left
                · (intro w hSw; obtain ⟨hq1, hq2, hq3⟩ := hSw; go_simp; try with_reducible rfl)
                try simp only [Act.put, List.setIfInBounds_toArray, List.set_cons_zero, List.set_cons_succ]
                refine wpAnyH_done (by kernel_rfl) ?_ _
                refine NoPanic.normal ?_
                clear hHeld HSS HCL HWB
                have HS13 := Lib.hid ((HS12.out.less (l' := [Ow (.slice qb tn cb) L1, Wr W.heap.size L1, Ow (.slice q9 tn c9) L1]) (.cons_cons _ (.cons _ (.cons _ (.cons_cons _ (.cons_cons _ .slnil)))))).kept HZ3.out)
                clear HS12 HZ1 HZ2 HZ3
                have htni : (tn : Int) ≤ 13000 := by have := HTL2.out; omega
                go_wp2_with fail
                go_loopw [89] (fun i wr => ∃ (j : Nat) (xs : List Int), j ≤ tn ∧ i = .int .i64 j ∧ Hid (xs.length = tn) ∧ Hid (Side W wr [Ow (.slice qb tn cb) xs, Wr W.heap.size L1, Ow (.slice q9 tn c9) L1])) (fun i _ => tn - (intOf i).toNat)
                case atStart => exact ⟨0, L1, Nat.zero_le _, rfl, HT1, HS13⟩
                case round =>
                  clear HS13
                  obtain ⟨i, xs, hi, rfl, HX, HS14⟩ := hrel
                  by_cases hlt : i < tn
                  · have hji : (i : Int) < (tn : Int) := by omega
                    have hown := HS14.out.own (i := 0) rfl
                    rw [HX.out] at hown
                    obtain ⟨g, c', he, _, hgl, _, _, hc, hf⟩ := own_at hown (by omega)
                    injection he with hq _ hd
                    subst hq hd
                    have hlx : i < xs.length := by rw [HX.out]; exact hlt
                    have hck := hc i _ (bys_at xs i hlx)
                    have hfk := hf i
                    obtain ⟨y, hy⟩ : ∃ y, xs[i] = y := ⟨_, rfl⟩
                    rw [hy] at hck
                    obtain ⟨y2, hy2⟩ : ∃ y2, IntKind.u8.wrap (y + 1) = y2 := ⟨_, rfl⟩
                    have HS15 := Lib.hid (HS14.out.step (i := 0) rfl (Ow.good _ _) (fun S hS _ => Ow.put hS HX.out i y2))
                    clear hown hc hf hlx hy
                    go_wp2_with fail
                    go_roundw
                    case rel => exact ⟨i + 1, xs.set i y2, by omega, by go_num, Lib.hid (by rw [List.length_set]; exact HX.out), HS15⟩
                    case measure => simp [intOf]; omega
                  · have him : i = tn := by omega
                    subst him
                    have HS16 := Lib.hid (HS14.out.less (l' := [Wr W.heap.size L1, Ow (.slice q9 i c9) L1]) (.cons _ (.cons_cons _ (.cons_cons _ .slnil))))
                    clear HS14
                    go_wp2_with fail
                    go_roundw
                    case rel => exact ⟨k + 1, q9, c9, by omega, by rw [HL1.out, HT1.out], by go_num, by rw [HL1.out, HT1.out]; exact HS16⟩
                    case measure => simp [intOf]; omega
          · skip
            have hx3 : (xa == 1) = false := by rw [beq_eq_false_iff_ne]; exact hx2
            skip
            have HE1 := Lib.hid (show L ++ xd = L1 by rw [HET.out, ptB, if_neg hx0, if_neg hx2])
            have HC := Lib.hid (HSb.out.call 2 rfl (Wr.good _ _) (fun S hS => WPut_any q7 c7 xd (WrT.of (B := xm) hS (by have := HXM3.out; have := HLL.out; have := HLn.out; omega)) HRD7.out (by rw [HXM.out]; exact Nat.le_refl _) (.inr ⟨_, rfl⟩) wpost))
            rw [HXM.out] at HC
            clear hx0 hx2
            go_wp2_with fail
            refine HC.out.mono ?_
            rintro e w3 ⟨rfl, hS3⟩
            have HS3 := Lib.hid hS3
            have f2 := (hS3.blk (i := 1) rfl).cell 2
            simp only [List.getElem?_cons_zero, List.getElem?_cons_succ] at f2
            have HRD8 := Lib.hid (HRD0.out _ hS3.b)
            clear hS3 HSb HC
            
            have hown4 := HS3.out.own (i := 3) rfl
            rw [HLn.out] at hown4
            have hr8 := HRD8.out
            have hfl := HXM3.out
            have hln3 := HLL.out
            go_upto_region 18 with (at_builtin; refine wpList_appM rfl (.tmp 28) (.tmp 30) 23 rfl 0 5 _ 1 1 Try.underlying23 u8_info rfl (by omega) _ ln (bys L) rfl hown4 w3.heap.size xq xm xc (bys (xd)) rfl (by rw [bys_len, HXM.out, Nat.mul_one]) hr8 (bys_one _) (by omega) (by omega) (Nat.zero_le _) ?_; intro v9 w9 hown9 _ hat9 hg9)
            obtain ⟨q9, c9, hv9, _, _⟩ := own_shape hown9
            subst hv9
            obtain ⟨tn, htn⟩ : ∃ tn, ln + xm = tn := ⟨_, rfl⟩
            have HS9 := Lib.hid (HS3.out.step (i := 3) rfl (Ow.good _ _) (fun S hS _ => Ow.app (m := xd) hS (by rw [HLn.out, HXM.out]; exact hown9) hat9 hg9))
            rw [HE1.out] at HS9
            simp only [List.set_cons_succ, List.set_cons_zero, List.set_nil] at HS9
            have HT1 := Lib.hid (show L1.length = tn by rw [← HE1.out, List.length_append, HLn.out, HXM.out]; exact htn)
            have HTL := HT1
            have HTL2 := Lib.hid (show tn ≤ 13000 by omega)
            rw [htn] at HS9 ⊢
            clear hown4 hown9 hat9 hg9 hr8 hfl hln3 htn
            clear d0 d1 e2 HRD7 HRDb
            have hxmi : (xm : Int) ≤ 300 := by have := HXM3.out; omega
            go_upto_region 18 with fail
            go_wp2_with fail
            go_loopw [55] (fun i wr => ∃ (j : Nat) (xs : List Int), j ≤ xm ∧ i = .int .i64 j ∧ Hid (xs.length = xm) ∧ Hid (Side W wr [Ow (.slice q7 xm c7) xs, Bx X6 40 [.int .i64 xa, .int .u64 xk, .slice xq xm xc], Wr W.heap.size L1, Ow (.slice q9 tn c9) L1])) (fun i _ => xm - (intOf i).toNat)
            case atStart => exact ⟨0, xd, Nat.zero_le _, rfl, HXM, HS9⟩
            case round =>
              clear HS9
              obtain ⟨j, xs, hj, rfl, HX, HS10⟩ := hrel
              by_cases hlt : j < xm
              · have hji : (j : Int) < (xm : Int) := by omega
                have hown := HS10.out.own (i := 0) rfl
                rw [HX.out] at hown
                obtain ⟨g, c', he, _, hgl, _, _, hc, hf⟩ := own_at hown (by omega)
                injection he with hq _ hd
                subst hq hd
                have hlx : j < xs.length := by rw [HX.out]; exact hlt
                have hck := hc j _ (bys_at xs j hlx)
                have hfk := hf j
                obtain ⟨y, hy⟩ : ∃ y, xs[j] = y := ⟨_, rfl⟩
                rw [hy] at hck
                obtain ⟨y2, hy2⟩ : ∃ y2, IntKind.u8.wrap (y + 1) = y2 := ⟨_, rfl⟩
                have HS11 := Lib.hid (HS10.out.step (i := 0) rfl (Ow.good _ _) (fun S hS _ => Ow.put hS HX.out j y2))
                clear hown hc hf hlx hy
                go_wp2_with fail
                go_roundw
                case rel => exact ⟨j + 1, xs.set j y2, by omega, by go_num, Lib.hid (by rw [List.length_set]; exact HX.out), HS11⟩
                case measure => simp [intOf]; omega
              · have hjm : j = xm := by omega
                subst hjm
                obtain ⟨S2, hW2⟩ := HS10.out.wrt (i := 2) rfl
                have HWB := Lib.hid (WBytes_any hW2 (by have := HT1.out; have := HTL2.out; omega))
                clear hW2
                go_wp2_with fail
                refine HWB.out.mono ?_
                rintro e w11 ⟨v9, rfl, hown11, hb11⟩
                obtain ⟨qb, cb, hvb, _, _, hrdb, _⟩ := own_form hown11
                rw [HTL.out] at hvb
                subst hvb
                have HS12 := Lib.hid (HS10.out.add (Ow.good _ _) (Ow.made hown11 hb11))
                obtain ⟨S3, hW3⟩ := HS12.out.wrt (i := 3) rfl
                have HCL := Lib.hid fun (w : World) (hb : Below w11.heap.size w11 w) => WLen_any ((Wr.good _ _).kept hW3 hb) (by have := HT1.out; have := HTL2.out; omega)
                rw [HTL.out] at HCL
                obtain ⟨ts, hts⟩ : ∃ ts, strOfNums L1 = ts := ⟨_, rfl⟩
                obtain ⟨nn, hnn⟩ : ∃ nn, (numB xk).length = nn := ⟨_, rfl⟩
                have HNN := Lib.hid hnn
                have hrd9 := own_rd (HS12.out.own (i := 4) rfl)
                have HSS := Lib.hid fun (w' : World) (hb : Below w11.heap.size w11 w') => (by
                  have h1 := conv_any (hrdb.kept hb) cb
                  have h2 := conv_any (hrd9.kept hb) c9
                  rw [HTL.out, hts] at h1 h2
                  exact ⟨((HS12.out.blk (i := 2) rfl).kept hb).cell 1, h1, h2⟩ : w'.cell? ⟨X6, 1, none⟩ = some (.int .u64 xk) ∧ (convert 23 9 (.slice qb tn cb)).run Try.prog w' = .ok (.string ts) w' ∧ (convert 23 9 (.slice q9 tn c9)).run Try.prog w' = .ok (.string ts) w')
                clear hW3 hown11 hb11 hrdb hrd9 hts hnn HS10
                go_upto_region 24 with fail
                refine wp_region_noPanic ?_
                refine wp_region_held_drew (S := fun w' => w'.cell? ⟨X6, 1, none⟩ = some (.int .u64 (xk : Int)) ∧ (convert 23 9 (.slice qb tn cb)).run Try.prog w' = .ok (.string ts) w' ∧ (convert 23 9 (.slice q9 tn c9)).run Try.prog w' = .ok (.string ts) w') (by kernel_rfl) (by first | exact HSS.out _ ((Below.refl _ _).drew) | exact HSS.out _ HZ3.out | exact HSS.out _ HZ2.out | exact HSS.out _ HZ1.out) (fun hHeld => ?_)
                refine wpAnyH_take (i := 0) (oi := ⟨some 66, _, _, _, _, _⟩) (v := ?_) rfl (by kernel_rfl) (by kernel_rfl) (by kernel_rfl) (fun _ _ _ h => h) (Or.inl ⟨by rfl, ?_⟩) hHeld ?_
                rotate_left
                · (intro w hSw; obtain ⟨hq1, hq2, hq3⟩ := hSw; go_simp; try with_reducible rfl)
                try simp only [Act.put, List.setIfInBounds_toArray, List.set_cons_zero, List.set_cons_succ]
                refine wpAnyH_take (i := 1) (oi := ⟨some 67, _, _, _, _, _⟩) (v := ?_) rfl (by kernel_rfl) (by kernel_rfl) (by kernel_rfl) (fun _ _ _ h => h) (Or.inl ⟨by rfl, ?_⟩) hHeld ?_
                rotate_left
                · (intro w hSw; obtain ⟨hq1, hq2, hq3⟩ := hSw; go_simp; try with_reducible rfl)
                try simp only [Act.put, List.setIfInBounds_toArray, List.set_cons_zero, List.set_cons_succ]
                refine wpAnyH_take (i := 2) (oi := ⟨some 68, _, _, _, _, _⟩) (v := ?_) rfl (by kernel_rfl) (by kernel_rfl) (by kernel_rfl) (fun _ _ _ h => h) (Or.inl ⟨by rfl, ?_⟩) hHeld ?_
                rotate_left
                · (intro w hSw; obtain ⟨hq1, hq2, hq3⟩ := hSw; go_simp; try with_reducible rfl)
                try simp only [Act.put, List.setIfInBounds_toArray, List.set_cons_zero, List.set_cons_succ]
                refine wpAnyH_take (i := 3) (oi := ⟨some 69, _, _, _, _, _⟩) (v := ?_) rfl (by kernel_rfl) (by kernel_rfl) (by kernel_rfl) (fun _ _ _ h => h) (Or.inl ⟨by rfl, ?_⟩) hHeld ?_
                rotate_left
                · (intro w hSw; obtain ⟨hq1, hq2, hq3⟩ := hSw; go_simp; try with_reducible rfl)
                try simp only [Act.put, List.setIfInBounds_toArray, List.set_cons_zero, List.set_cons_succ]
                refine wpAnyH_take (i := 4) (oi := ⟨some 70, _, _, _, _, _⟩) (v := ?_) rfl (by kernel_rfl) (by kernel_rfl) (by kernel_rfl) (fun _ _ _ h => h) (Or.inl ⟨by rfl, ?_⟩) hHeld ?_
                rotate_left
                · (intro w hSw; obtain ⟨hq1, hq2, hq3⟩ := hSw; go_simp; try with_reducible rfl)
                try simp only [Act.put, List.setIfInBounds_toArray, List.set_cons_zero, List.set_cons_succ]
                refine wpAnyH_take (i := 5) (oi := ⟨some 71, _, _, _, _, _⟩) (v := ?_) rfl (by kernel_rfl) (by kernel_rfl) (by kernel_rfl) (fun _ _ _ h => h) (Or.inl ⟨by rfl, ?_⟩) hHeld ?_
                rotate_left
                · (intro w hSw; obtain ⟨hq1, hq2, hq3⟩ := hSw; go_simp; try with_reducible rfl)
                try simp only [Act.put, List.setIfInBounds_toArray, List.set_cons_zero, List.set_cons_succ]
                refine wpAnyH_take (i := 7) (oi := ⟨some 73, _, _, _, _, _⟩) (v := ?_) rfl (by kernel_rfl) (by kernel_rfl) (by kernel_rfl) (fun _ _ _ h => h) (Or.inl ⟨by rfl, ?_⟩) hHeld ?_
                rotate_left
                · (intro w hSw; obtain ⟨hq1, hq2, hq3⟩ := hSw; go_simp; try with_reducible rfl)
                try simp only [Act.put, List.setIfInBounds_toArray, List.set_cons_zero, List.set_cons_succ]
                refine wpAnyH_take (i := 8) (oi := ⟨some 74, _, _, _, _, _⟩) (v := ?_) rfl (by kernel_rfl) (by kernel_rfl) (by kernel_rfl) (fun _ _ _ h => h) (Or.inl ⟨by rfl, ?_⟩) hHeld ?_
                rotate_left
                · (intro w hSw; obtain ⟨hq1, hq2, hq3⟩ := hSw; go_simp; try with_reducible rfl)
                try simp only [Act.put, List.setIfInBounds_toArray, List.set_cons_zero, List.set_cons_succ]
                refine wpAnyH_ready (rs := [6]) (by kernel_rfl) (by simp) ?_
                refine (AllReadyH.cons (o := ⟨some 72, _, _, _, _, _⟩) rfl (fun K hK => ?_) AllReadyH.nil)
                go_simp
                (refine (HCL.out _ ((Below.refl _ _).drew)).mono ?_; rintro e z1 ⟨rfl, hz1⟩)
                have HZ1 := Lib.hid (((Below.refl w11.heap.size w11).drew).trans hz1)
                clear hz1
                refine hK.out _ _ (by first | exact HSS.out _ ((Below.refl _ _).drew) | exact HSS.out _ HZ3.out | exact HSS.out _ HZ2.out | exact HSS.out _ HZ1.out) (fun hHeld => ?_)
                clear hK K
                try simp only [Act.put, List.setIfInBounds_toArray, List.set_cons_zero, List.set_cons_succ]
                refine wpAnyH_take (i := 9) (oi := ⟨some 75, _, _, _, _, _⟩) (v := ?_) rfl (by kernel_rfl) (by kernel_rfl) (by kernel_rfl) (fun _ _ _ h => h) (Or.inl ⟨by rfl, ?_⟩) hHeld ?_
                rotate_left
                · (intro w hSw; obtain ⟨hq1, hq2, hq3⟩ := hSw; go_simp; try with_reducible rfl)
                try simp only [Act.put, List.setIfInBounds_toArray, List.set_cons_zero, List.set_cons_succ]
                refine wpAnyH_take (i := 10) (oi := ⟨some 76, _, _, _, _, _⟩) (v := ?_) rfl (by kernel_rfl) (by kernel_rfl) (by kernel_rfl) (fun _ _ _ h => h) (Or.inl ⟨by rfl, ?_⟩) hHeld ?_
                rotate_left
                · (intro w hSw; obtain ⟨hq1, hq2, hq3⟩ := hSw; go_simp; try with_reducible rfl)
                try simp only [Act.put, List.setIfInBounds_toArray, List.set_cons_zero, List.set_cons_succ]
                refine wpAnyH_take (i := 11) (oi := ⟨some 77, _, _, _, _, _⟩) (v := ?_) rfl (by kernel_rfl) (by kernel_rfl) (by kernel_rfl) (fun _ _ _ h => h) (Or.inl ⟨by rfl, ?_⟩) hHeld ?_
                rotate_left
                · (intro w hSw; obtain ⟨hq1, hq2, hq3⟩ := hSw; go_simp; try with_reducible rfl)
                try simp only [Act.put, List.setIfInBounds_toArray, List.set_cons_zero, List.set_cons_succ]
                refine wpAnyH_take (i := 12) (oi := ⟨some 78, _, _, _, _, _⟩) (v := ?_) rfl (by kernel_rfl) (by kernel_rfl) (by kernel_rfl) (fun _ _ _ h => h) (Or.inl ⟨by rfl, ?_⟩) hHeld ?_
                rotate_left
                · (intro w hSw; obtain ⟨hq1, hq2, hq3⟩ := hSw; go_simp; try with_reducible rfl)
                try simp only [Act.put, List.setIfInBounds_toArray, List.set_cons_zero, List.set_cons_succ]
                refine wpAnyH_take (i := 13) (oi := ⟨some 79, _, _, _, _, _⟩) (v := ?_) rfl (by kernel_rfl) (by kernel_rfl) (by kernel_rfl) (fun _ _ _ h => h) (Or.inl ⟨by rfl, ?_⟩) hHeld ?_
                rotate_left
                · (intro w hSw; obtain ⟨hq1, hq2, hq3⟩ := hSw; go_simp; try with_reducible rfl)
                try simp only [Act.put, List.setIfInBounds_toArray, List.set_cons_zero, List.set_cons_succ]
                refine wpAnyH_take (i := 15) (oi := ⟨some 81, _, _, _, _, _⟩) (v := ?_) rfl (by kernel_rfl) (by kernel_rfl) (by kernel_rfl) (fun _ _ _ h => h) (Or.inl ⟨by rfl, ?_⟩) hHeld ?_
                rotate_left
                · (intro w hSw; obtain ⟨hq1, hq2, hq3⟩ := hSw; go_simp; try with_reducible rfl)
                try simp only [Act.put, List.setIfInBounds_toArray, List.set_cons_zero, List.set_cons_succ]
                refine wpAnyH_take (i := 16) (oi := ⟨some 82, _, _, _, _, _⟩) (v := ?_) rfl (by kernel_rfl) (by kernel_rfl) (by kernel_rfl) (fun _ _ _ h => h) (Or.inl ⟨by rfl, ?_⟩) hHeld ?_
                rotate_left
                · (intro w hSw; obtain ⟨hq1, hq2, hq3⟩ := hSw; go_simp; try with_reducible rfl)
                try simp only [Act.put, List.setIfInBounds_toArray, List.set_cons_zero, List.set_cons_succ]
                refine wpAnyH_ready (rs := [14]) (by kernel_rfl) (by simp) ?_
                refine (AllReadyH.cons (o := ⟨some 80, _, _, _, _, _⟩) rfl (fun K hK => ?_) AllReadyH.nil)
                go_simp
                (refine (size_any xk _ HXK.out).mono ?_; rintro e z2 ⟨rfl, hz2⟩)
                rw [HNN.out]
                have HZ2 := Lib.hid (below_step HZ1.out hz2)
                clear hz2
                refine hK.out _ _ (by first | exact HSS.out _ ((Below.refl _ _).drew) | exact HSS.out _ HZ3.out | exact HSS.out _ HZ2.out | exact HSS.out _ HZ1.out) (fun hHeld => ?_)
                clear hK K
                try simp only [Act.put, List.setIfInBounds_toArray, List.set_cons_zero, List.set_cons_succ]
                refine wpAnyH_ready (rs := [17]) (by kernel_rfl) (by simp) ?_
                refine (AllReadyH.cons (o := ⟨some 83, _, _, _, _, _⟩) rfl (fun K hK => ?_) AllReadyH.nil)
                go_simp
                (refine (refNumber_any xk _ HXK.out).mono ?_; rintro e z3 ⟨v3, rfl, hown3, hz3⟩)
                obtain ⟨q3, c3, hv3, _⟩ := own_form hown3
                rw [HNN.out] at hv3
                subst hv3
                have HZ3 := Lib.hid (below_step HZ2.out hz3)
                clear hz3 hown3
                refine hK.out _ _ (by first | exact HSS.out _ ((Below.refl _ _).drew) | exact HSS.out _ HZ3.out | exact HSS.out _ HZ2.out | exact HSS.out _ HZ1.out) (fun hHeld => ?_)
                clear hK K
                try simp only [Act.put, List.setIfInBounds_toArray, List.set_cons_zero, List.set_cons_succ]
                refine wpAnyH_take (i := 18) (oi := ⟨some 84, _, _, _, _, _⟩) (v := ?_) rfl (by kernel_rfl) (by kernel_rfl) (by kernel_rfl) (fun _ _ _ h => h) (Or.inl ⟨by rfl, ?_⟩) hHeld ?_
                rotate_left
                · (intro w hSw; obtain ⟨hq1, hq2, hq3⟩ := hSw; go_simp; try with_reducible rfl)
                try simp only [Act.put, List.setIfInBounds_toArray, List.set_cons_zero, List.set_cons_succ]
                refine wpAnyH_take (i := 19) (oi := ⟨some 85, _, _, _, _, _⟩) (v := ?_) rfl (by kernel_rfl) (by kernel_rfl) (by kernel_rfl) (fun _ _ _ h => h) (Or.inl ⟨by rfl, ?_⟩) hHeld ?_
                rotate_left
                · (intro w hSw; obtain ⟨hq1, hq2, hq3⟩ := hSw; go_simp; try with_reducible rfl)
                try simp only [Act.put, List.setIfInBounds_toArray, List.set_cons_zero, List.set_cons_succ]
                refine wpAnyH_take (i := 20) (oi := ⟨some 86, _, _, _, _, _⟩) (v := ?_) rfl (by kernel_rfl) (by kernel_rfl) (by kernel_rfl) (fun _ _ _ h => h) (Or.inl ⟨by rfl, ?_⟩) hHeld ?_
                rotate_left
                · (intro w hSw; obtain ⟨hq1, hq2, hq3⟩ := hSw; go_simp; try with_reducible rfl)
                try simp only [Act.put, List.setIfInBounds_toArray, List.set_cons_zero, List.set_cons_succ]
                refine wpAnyH_done (by kernel_rfl) ?_ _
                refine NoPanic.normal ?_
                clear hHeld HSS HCL HWB
                have HS13 := Lib.hid ((HS12.out.less (l' := [Ow (.slice qb tn cb) L1, Wr W.heap.size L1, Ow (.slice q9 tn c9) L1]) (.cons_cons _ (.cons _ (.cons _ (.cons_cons _ (.cons_cons _ .slnil)))))).kept HZ3.out)
                clear HS12 HZ1 HZ2 HZ3
                have htni : (tn : Int) ≤ 13000 := by have := HTL2.out; omega
                go_wp2_with fail
                go_loopw [89] (fun i wr => ∃ (j : Nat) (xs : List Int), j ≤ tn ∧ i = .int .i64 j ∧ Hid (xs.length = tn) ∧ Hid (Side W wr [Ow (.slice qb tn cb) xs, Wr W.heap.size L1, Ow (.slice q9 tn c9) L1])) (fun i _ => tn - (intOf i).toNat)
                case atStart => exact ⟨0, L1, Nat.zero_le _, rfl, HT1, HS13⟩
                case round =>
                  clear HS13
                  obtain ⟨i, xs, hi, rfl, HX, HS14⟩ := hrel
                  by_cases hlt : i < tn
                  · have hji : (i : Int) < (tn : Int) := by omega
                    have hown := HS14.out.own (i := 0) rfl
                    rw [HX.out] at hown
                    obtain ⟨g, c', he, _, hgl, _, _, hc, hf⟩ := own_at hown (by omega)
                    injection he with hq _ hd
                    subst hq hd
                    have hlx : i < xs.length := by rw [HX.out]; exact hlt
                    have hck := hc i _ (bys_at xs i hlx)
                    have hfk := hf i
                    obtain ⟨y, hy⟩ : ∃ y, xs[i] = y := ⟨_, rfl⟩
                    rw [hy] at hck
                    obtain ⟨y2, hy2⟩ : ∃ y2, IntKind.u8.wrap (y + 1) = y2 := ⟨_, rfl⟩
                    have HS15 := Lib.hid (HS14.out.step (i := 0) rfl (Ow.good _ _) (fun S hS _ => Ow.put hS HX.out i y2))
                    clear hown hc hf hlx hy
                    go_wp2_with fail
                    go_roundw
                    case rel => exact ⟨i + 1, xs.set i y2, by omega, by go_num, Lib.hid (by rw [List.length_set]; exact HX.out), HS15⟩
                    case measure => simp [intOf]; omega
                  · have him : i = tn := by omega
                    subst him
                    have HS16 := Lib.hid (HS14.out.less (l' := [Wr W.heap.size L1, Ow (.slice q9 i c9) L1]) (.cons _ (.cons_cons _ (.cons_cons _ .slnil))))
                    clear HS14
                    go_wp2_with fail
                    go_roundw
                    case rel => exact ⟨k + 1, q9, c9, by omega, by rw [HL1.out, HT1.out], by go_num, by rw [HL1.out, HT1.out]; exact HS16⟩
                    case measure => simp [intOf]; omega
      · have hkn : k = n := by omega
        subst hkn
        have HB := Lib.hid HSd.out.b
        clear HSd
        go_wp2_with fail
        refine (known_any _).mono ?_
        rintro e w1 ⟨rfl, hb⟩
        have HB1 := Lib.hid (below_step HB.out hb)
        clear hb
        go_wp2_with fail
        go_ret
        exact ⟨rfl, HB1.out⟩
  · rw [Bool.not_eq_true] at hs
    rw [hs] at HS
    clear hs
    go_enter Try.func5, Try.ntmps5
    go_wp2_with fail
    refine HS.out.mono ?_
    rintro e w' ⟨rfl, rfl⟩
    go_wp2_with fail
    refine (known_any _).mono ?_
    rintro e w1 ⟨rfl, hb⟩
    go_wp2_with fail
    go_ret
    exact ⟨rfl, hb⟩
/-- BytesWrites for what comes in. -/
theorem bytesWrites_walk (p : Option Addr) (c : Nat) (l : List Pt) (W : World) (hr : Rd W W.heap.size p (pts l)) (hl : l.length ≤ c) (hc : c ≤ maxLen) (hw : ∀ x ∈ l, x.ok W) :
    Calls Try.prog 5 #[.slice p l.length c] W fun e w' => e = .returned (.bool true) ∧ Below W.heap.size W w' := by
  have : maxLen ≤ 9223372036854775807 := by unfold maxLen; omega
  exact writes_any p c l W ⟨hr, fun x hx => (hw x hx).2.2.1⟩ (fun x hx => wf_u64 (hw x hx).2.1) (fun x hx y hy => wf_u8 ((hw x hx).2.2.2.1 y hy)) (by omega)
end Go.Proofs.Ytmhkbchbglnbpaa
