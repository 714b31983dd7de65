/- Events, compared. Printed by hist_t.py. -/
import Derived.Test.YtbkkplednfdfdaaEqD
import Derived.Test.YtbkkplednfdfdaaValid
namespace Go.Proofs.Ytbkkplednfdfdaa
open Go.RowKit Go.Maps

theorem step_st {P : Program} {ops : Array Oper} {o : Oper} {a : Act} {w : World} {K : Act → World → Prop} {Q : Exit → Act → World → Prop} {E : Prop} (hgd : o.guard = none) (ty : TypeId) (x y : Operand) (ho : o.op = .store ty x y)
    (b f : Nat) (hx : a.eval x = .pointer (some ⟨b, f, none⟩)) (A : Array Value) (hy : a.eval y = .agg A) (t : TypeId) (cs cs' : List Value) (hb : Blk w b t cs) (hl : f + A.size ≤ cs.length)
    (hi : (P.info? ty).map (·.size) = some A.size) (h1 : A.toList.all (·.oneCell') = true) (hcs : putAt cs f A.toList = cs')
    (h : ∀ w', Blk w' b t cs' → Fr (fun x => x = b) w w' → K (a.put o.dst undef) w') : if Region.wanted o (yielded ops a.tmps) = true then Oper.wp P o a w K Q else E := by
  have hw : Region.wanted o (yielded ops a.tmps) = true := by simp [Region.wanted, hgd]
  rw [if_pos hw]
  refine wp_store_mid ty x y ho b f A hx hy (fun j hj => ⟨?_, hb.free _⟩) hi (by rw [← h1, Array.all_toList]) (h _ (by rw [← hcs]; exact blk_setCells _ _ _ _ hb) (fr_setCells _ _ _ (Fr.refl _ _)))
  rw [hb.cell, List.getElem?_eq_getElem (by omega)]
  rfl
set_option maxRecDepth 100000 in
set_option maxHeartbeats 4000000 in
theorem equal_any (w : World) (x y : Ev) (p q : PE) (hx : EvR (RdW w w.heap.size) x p) (hy : EvR (RdW w w.heap.size) y q) (hpa : p.a.ok) (hqa : q.a.ok) :
    Calls Try.prog 20 #[x.agg, y.agg] w fun e w' => e = .returned (.bool (eqE p q)) ∧ Below w.heap.size w w' := by
  have HB := Lib.hid (below_al (below_al (Below.refl w.heap.size w) (.cells x.cells.toArray 41)) (.cells y.cells.toArray 41))
  obtain ⟨xt, xa, xm, xn, xop, xkey, xoth, xitem, xqty, xdq, xdn, xdc, xaop, xaerr, xacnt, xlq, xln, xlc, xbq, xbn, xbc⟩ := x
  obtain ⟨yt, ya, ym, yn, yop, ykey, yoth, yitem, yqty, ydq, ydn, ydc, yaop, yaerr, yacnt, ylq, yln, ylc, ybq, ybn, ybc⟩ := y
  obtain ⟨pt, pa, pm, pn, pc, pA⟩ := p
  obtain ⟨qt, qa, qm, qn, qc, qA⟩ := q
  obtain ⟨rfl, rfl, rfl, rfl, hxc, hxa⟩ := hx
  obtain ⟨rfl, rfl, rfl, rfl, hyc, hya⟩ := hy
  simp only [Ev.agg, Ev.cells] at HB ⊢
  simp only at hpa hqa hxc hxa hyc hya
  have HXC := Lib.hid hxc
  have HXA := Lib.hid hxa
  have HYC := Lib.hid hyc
  have HYA := Lib.hid hya
  have HPA := Lib.hid hpa
  have HQA := Lib.hid hqa
  obtain ⟨r, hr⟩ : ∃ r, eqE ⟨xt, xa, xm, xn, pc, pA⟩ ⟨yt, ya, ym, yn, qc, qA⟩ = r := ⟨_, rfl⟩
  have HR := Lib.hid hr
  rw [hr]
  have HBX := Lib.hid ((Blk.new w 41 [.int .i64 xt, .int .i64 xop, .string xkey, .string xoth, .string xitem, .int .i64 xqty, .slice xdq xdn xdc, .int .i64 xaop, .int .i64 xaerr, .int .i64 xacnt, .slice xlq xln xlc, .slice xbq xbn xbc, .int .i64 xa, .int .i64 xm, .int .i64 xn]).alloc (.cells #[.int .i64 yt, .int .i64 yop, .string ykey, .string yoth, .string yitem, .int .i64 yqty, .slice ydq ydn ydc, .int .i64 yaop, .int .i64 yaerr, .int .i64 yacnt, .slice ylq yln ylc, .slice ybq ybn ybc, .int .i64 ya, .int .i64 ym, .int .i64 yn] 41))
  have HBY := Lib.hid (Blk.new' (n := w.heap.size + 1) (w.alloc (.cells #[.int .i64 xt, .int .i64 xop, .string xkey, .string xoth, .string xitem, .int .i64 xqty, .slice xdq xdn xdc, .int .i64 xaop, .int .i64 xaerr, .int .i64 xacnt, .slice xlq xln xlc, .slice xbq xbn xbc, .int .i64 xa, .int .i64 xm, .int .i64 xn] 41)) 41 [.int .i64 yt, .int .i64 yop, .string ykey, .string yoth, .string yitem, .int .i64 yqty, .slice ydq ydn ydc, .int .i64 yaop, .int .i64 yaerr, .int .i64 yacnt, .slice ylq yln ylc, .slice ybq ybn ybc, .int .i64 ya, .int .i64 ym, .int .i64 yn] (by simp))
  clear hxc hxa hyc hya hr hpa hqa
  go_enter Try.func20, Try.ntmps20
  go_upto_region 1 with fail
  obtain ⟨z, hz⟩ : ∃ z, w.heap.size = z := ⟨_, rfl⟩
  have HZ := Lib.hid hz
  rw [hz] at HBX HBY ⊢
  clear hz
  generalize (w.alloc (.cells #[.int .i64 xt, .int .i64 xop, .string xkey, .string xoth, .string xitem, .int .i64 xqty, .slice xdq xdn xdc, .int .i64 xaop, .int .i64 xaerr, .int .i64 xacnt, .slice xlq xln xlc, .slice xbq xbn xbc, .int .i64 xa, .int .i64 xm, .int .i64 xn] 41)).alloc (.cells #[.int .i64 yt, .int .i64 yop, .string ykey, .string yoth, .string yitem, .int .i64 yqty, .slice ydq ydn ydc, .int .i64 yaop, .int .i64 yaerr, .int .i64 yacnt, .slice ylq yln ylc, .slice ybq ybn ybc, .int .i64 ya, .int .i64 ym, .int .i64 yn] 41) = w1 at *
  go_cut [5, 6] from 5 to 14 (fun c d wx => ∃ b5 b6, c = .pointer (some ⟨b5, 0, none⟩) ∧ d = .pointer (some ⟨b6, 0, none⟩) ∧ Hid (Below w1.heap.size w1 wx ∧ Blk wx b5 39 [.int .i64 xop, .string xkey, .string xoth, .string xitem, .int .i64 xqty, .slice xdq xdn xdc] ∧ Blk wx b6 39 [.int .i64 yop, .string ykey, .string yoth, .string yitem, .int .i64 yqty, .slice ydq ydn ydc]))
  case first =>
    refine wp_region_noPanic ?_
    refine wp_region_held_drew (S := fun w' => w'.rangeAt z 1 [.int .i64 xop, .string xkey, .string xoth, .string xitem, .int .i64 xqty, .slice xdq xdn xdc] ∧ w'.rangeAt (z + 1) 1 [.int .i64 yop, .string ykey, .string yoth, .string yitem, .int .i64 yqty, .slice ydq ydn ydc]) (by kernel_rfl) (⟨(HBX.out).sub [_] [.int .i64 xop, .string xkey, .string xoth, .string xitem, .int .i64 xqty, .slice xdq xdn xdc] [_, _, _, _, _, _, _, _], (HBY.out).sub [_] [.int .i64 yop, .string ykey, .string yoth, .string yitem, .int .i64 yqty, .slice ydq ydn ydc] [_, _, _, _, _, _, _, _]⟩) (fun hHeld => ?_)
    refine wpAnyH_take (i := 0) (oi := ⟨some 11, _, _, _, _, _⟩) (v := ?_) rfl (by kernel_rfl) (by kernel_rfl) (by kernel_rfl) (fun _ _ _ h => h) (Or.inl ⟨by rfl, ?_⟩) hHeld ?_
    rotate_left
    · (intro w hSw; go_simp; try with_reducible rfl)
    try simp only [Act.put, List.setIfInBounds_toArray, List.set_cons_zero, List.set_cons_succ]
    refine wpAnyH_take (i := 1) (oi := ⟨some 12, _, _, _, _, _⟩) (v := .agg #[.int .i64 xop, .string xkey, .string xoth, .string xitem, .int .i64 xqty, .slice xdq xdn xdc]) rfl (by kernel_rfl) (by kernel_rfl) (by kernel_rfl) (fun _ _ _ h => h) (yieldsIf_load_mid (by rfl) 39 (.tmp 11) rfl z 1 rfl [.int .i64 xop, .string xkey, .string xoth, .string xitem, .int .i64 xqty, .slice xdq xdn xdc] _ (fun _ h => h.1) Try.underlying39 rfl info39) hHeld ?_
    try simp only [Act.put, List.setIfInBounds_toArray, List.set_cons_zero, List.set_cons_succ]
    refine wpAnyH_take (i := 2) (oi := ⟨some 13, _, _, _, _, _⟩) (v := ?_) rfl (by kernel_rfl) (by kernel_rfl) (by kernel_rfl) (fun _ _ _ h => h) (Or.inl ⟨by rfl, ?_⟩) hHeld ?_
    rotate_left
    · (intro w hSw; go_simp; try with_reducible rfl)
    try simp only [Act.put, List.setIfInBounds_toArray, List.set_cons_zero, List.set_cons_succ]
    refine wpAnyH_take (i := 3) (oi := ⟨some 14, _, _, _, _, _⟩) (v := .agg #[.int .i64 yop, .string ykey, .string yoth, .string yitem, .int .i64 yqty, .slice ydq ydn ydc]) rfl (by kernel_rfl) (by kernel_rfl) (by kernel_rfl) (fun _ _ _ h => h) (yieldsIf_load_mid (by rfl) 39 (.tmp 13) rfl (z + 1) 1 rfl [.int .i64 yop, .string ykey, .string yoth, .string yitem, .int .i64 yqty, .slice ydq ydn ydc] _ (fun _ h => h.2) Try.underlying39 rfl info39) hHeld ?_
    try simp only [Act.put, List.setIfInBounds_toArray, List.set_cons_zero, List.set_cons_succ]
    refine wpAnyH_ready (rs := [4, 5]) (by kernel_rfl) (by simp) ?_
    refine AllReadyH.cons (o := ⟨some 5, _, _, _, _, _⟩) rfl (fun K hK => ?_) (AllReadyH.cons (o := ⟨some 6, _, _, _, _, _⟩) rfl (fun K hK => ?_) AllReadyH.nil)
    · have HN1 := Lib.hid (show Blk ((w1.alloc (.cells #[.int .i64 0, .string ⟨#[]⟩, .string ⟨#[]⟩, .string ⟨#[]⟩, .int .i64 0, .slice none 0 0] 39)).alloc (.cells #[.int .i64 0, .string ⟨#[]⟩, .string ⟨#[]⟩, .string ⟨#[]⟩, .int .i64 0, .slice none 0 0] 39)) w1.heap.size 39 [.int .i64 0, .string ⟨#[]⟩, .string ⟨#[]⟩, .string ⟨#[]⟩, .int .i64 0, .slice none 0 0] from (Blk.new w1 39 _).alloc _)
      have HN2 := Lib.hid (show Blk ((w1.alloc (.cells #[.int .i64 0, .string ⟨#[]⟩, .string ⟨#[]⟩, .string ⟨#[]⟩, .int .i64 0, .slice none 0 0] 39)).alloc (.cells #[.int .i64 0, .string ⟨#[]⟩, .string ⟨#[]⟩, .string ⟨#[]⟩, .int .i64 0, .slice none 0 0] 39)) (w1.heap.size + 1) 39 [.int .i64 0, .string ⟨#[]⟩, .string ⟨#[]⟩, .string ⟨#[]⟩, .int .i64 0, .slice none 0 0] from Blk.new' _ 39 _ (by simp))
      have HNX := Lib.hid (show Blk ((w1.alloc (.cells #[.int .i64 0, .string ⟨#[]⟩, .string ⟨#[]⟩, .string ⟨#[]⟩, .int .i64 0, .slice none 0 0] 39)).alloc (.cells #[.int .i64 0, .string ⟨#[]⟩, .string ⟨#[]⟩, .string ⟨#[]⟩, .int .i64 0, .slice none 0 0] 39)) z 41 [.int .i64 xt, .int .i64 xop, .string xkey, .string xoth, .string xitem, .int .i64 xqty, .slice xdq xdn xdc, .int .i64 xaop, .int .i64 xaerr, .int .i64 xacnt, .slice xlq xln xlc, .slice xbq xbn xbc, .int .i64 xa, .int .i64 xm, .int .i64 xn] from ((HBX.out.alloc (.cells #[.int .i64 0, .string ⟨#[]⟩, .string ⟨#[]⟩, .string ⟨#[]⟩, .int .i64 0, .slice none 0 0] 39)).alloc (.cells #[.int .i64 0, .string ⟨#[]⟩, .string ⟨#[]⟩, .string ⟨#[]⟩, .int .i64 0, .slice none 0 0] 39)))
      have HNY := Lib.hid (show Blk ((w1.alloc (.cells #[.int .i64 0, .string ⟨#[]⟩, .string ⟨#[]⟩, .string ⟨#[]⟩, .int .i64 0, .slice none 0 0] 39)).alloc (.cells #[.int .i64 0, .string ⟨#[]⟩, .string ⟨#[]⟩, .string ⟨#[]⟩, .int .i64 0, .slice none 0 0] 39)) (z + 1) 41 [.int .i64 yt, .int .i64 yop, .string ykey, .string yoth, .string yitem, .int .i64 yqty, .slice ydq ydn ydc, .int .i64 yaop, .int .i64 yaerr, .int .i64 yacnt, .slice ylq yln ylc, .slice ybq ybn ybc, .int .i64 ya, .int .i64 ym, .int .i64 yn] from ((HBY.out.alloc (.cells #[.int .i64 0, .string ⟨#[]⟩, .string ⟨#[]⟩, .string ⟨#[]⟩, .int .i64 0, .slice none 0 0] 39)).alloc (.cells #[.int .i64 0, .string ⟨#[]⟩, .string ⟨#[]⟩, .string ⟨#[]⟩, .int .i64 0, .slice none 0 0] 39)))
      have HZ1 := Lib.hid HBX.out.lt
      have HZ2 := Lib.hid HBY.out.lt
      go_simp
      refine hK.out _ _ (⟨((HBX.out.alloc (.cells #[.int .i64 0, .string ⟨#[]⟩, .string ⟨#[]⟩, .string ⟨#[]⟩, .int .i64 0, .slice none 0 0] 39))).sub [_] [.int .i64 xop, .string xkey, .string xoth, .string xitem, .int .i64 xqty, .slice xdq xdn xdc] [_, _, _, _, _, _, _, _], ((HBY.out.alloc (.cells #[.int .i64 0, .string ⟨#[]⟩, .string ⟨#[]⟩, .string ⟨#[]⟩, .int .i64 0, .slice none 0 0] 39))).sub [_] [.int .i64 yop, .string ykey, .string yoth, .string yitem, .int .i64 yqty, .slice ydq ydn ydc] [_, _, _, _, _, _, _, _]⟩) (fun hHeld => ?_)
      clear hK K
      try simp only [Act.put, List.setIfInBounds_toArray, List.set_cons_zero, List.set_cons_succ]
      refine wpAnyH_ready (rs := [5]) (by kernel_rfl) (by simp) ?_
      refine AllReadyH.cons (o := ⟨some 6, _, _, _, _, _⟩) rfl (fun K hK => ?_) AllReadyH.nil
      go_simp
      refine hK.out _ _ (⟨(((HBX.out.alloc (.cells #[.int .i64 0, .string ⟨#[]⟩, .string ⟨#[]⟩, .string ⟨#[]⟩, .int .i64 0, .slice none 0 0] 39)).alloc (.cells #[.int .i64 0, .string ⟨#[]⟩, .string ⟨#[]⟩, .string ⟨#[]⟩, .int .i64 0, .slice none 0 0] 39))).sub [_] [.int .i64 xop, .string xkey, .string xoth, .string xitem, .int .i64 xqty, .slice xdq xdn xdc] [_, _, _, _, _, _, _, _], (((HBY.out.alloc (.cells #[.int .i64 0, .string ⟨#[]⟩, .string ⟨#[]⟩, .string ⟨#[]⟩, .int .i64 0, .slice none 0 0] 39)).alloc (.cells #[.int .i64 0, .string ⟨#[]⟩, .string ⟨#[]⟩, .string ⟨#[]⟩, .int .i64 0, .slice none 0 0] 39))).sub [_] [.int .i64 yop, .string ykey, .string yoth, .string yitem, .int .i64 yqty, .slice ydq ydn ydc] [_, _, _, _, _, _, _, _]⟩) (fun hHeld => ?_)
      clear hK K
      try simp only [Act.put, List.setIfInBounds_toArray, List.set_cons_zero, List.set_cons_succ]
      refine wpAnyH_ready (rs := [6]) (by kernel_rfl) (by simp) ?_
      refine AllReadyH.cons (o := ⟨none, _, _, _, _, _⟩) rfl (fun K hK => ?_) AllReadyH.nil
      (refine step_st (by rfl) 39 (.tmp 5) (.tmp 12) (by rfl) w1.heap.size 0 (by rfl) #[.int .i64 xop, .string xkey, .string xoth, .string xitem, .int .i64 xqty, .slice xdq xdn xdc] (by rfl) 39 _ [.int .i64 xop, .string xkey, .string xoth, .string xitem, .int .i64 xqty, .slice xdq xdn xdc] (by exact HN1.out) (by simp) info39 (by rfl) (by rfl) ?_; intro w6 hb6 hf6)
      replace hf6 : Fr (fun x => x = w1.heap.size) ((w1.alloc (.cells #[.int .i64 0, .string ⟨#[]⟩, .string ⟨#[]⟩, .string ⟨#[]⟩, .int .i64 0, .slice none 0 0] 39)).alloc (.cells #[.int .i64 0, .string ⟨#[]⟩, .string ⟨#[]⟩, .string ⟨#[]⟩, .int .i64 0, .slice none 0 0] 39)) w6 := ⟨hf6.os, hf6.tape, hf6.output, hf6.size, hf6.block⟩
      have HX6 := Lib.hid (HNX.out.fr hf6 (fun e => by have h1 := HZ1.out; simp only [e] at h1; omega))
      have HY6 := Lib.hid (HNY.out.fr hf6 (fun e => by have h1 := HZ2.out; simp only [e] at h1; omega))
      have HQ6 := Lib.hid (HN2.out.fr hf6 (fun e => by have e : (w1.heap.size + 1) = w1.heap.size := e; omega))
      have HP6 := Lib.hid hb6
      have HF6 := Lib.hid hf6
      clear hb6 hf6
      refine hK.out _ _ ⟨(HX6.out).sub [_] [.int .i64 xop, .string xkey, .string xoth, .string xitem, .int .i64 xqty, .slice xdq xdn xdc] [_, _, _, _, _, _, _, _], (HY6.out).sub [_] [.int .i64 yop, .string ykey, .string yoth, .string yitem, .int .i64 yqty, .slice ydq ydn ydc] [_, _, _, _, _, _, _, _]⟩ (fun hHeld => ?_)
      clear hK K
      try simp only [Act.put, List.setIfInBounds_toArray, List.set_cons_zero, List.set_cons_succ]
      refine wpAnyH_ready (rs := [7]) (by kernel_rfl) (by simp) ?_
      refine AllReadyH.cons (o := ⟨none, _, _, _, _, _⟩) rfl (fun K hK => ?_) AllReadyH.nil
      (refine step_st (by rfl) 39 (.tmp 6) (.tmp 14) (by rfl) (w1.heap.size + 1) 0 (by rfl) #[.int .i64 yop, .string ykey, .string yoth, .string yitem, .int .i64 yqty, .slice ydq ydn ydc] (by rfl) 39 _ [.int .i64 yop, .string ykey, .string yoth, .string yitem, .int .i64 yqty, .slice ydq ydn ydc] (by exact HQ6.out) (by simp) info39 (by rfl) (by rfl) ?_; intro w7 hb7 hf7)
      have HP7 := Lib.hid (HP6.out.fr hf7 (fun e => by have e : w1.heap.size = (w1.heap.size + 1) := e; omega))
      have HX7 := Lib.hid (HX6.out.fr hf7 (fun e => by have h1 := HZ1.out; simp only [e] at h1; omega))
      have HY7 := Lib.hid (HY6.out.fr hf7 (fun e => by have h1 := HZ2.out; simp only [e] at h1; omega))
      have HF7 := Lib.hid (Fr.below (Fr.below (below_al (below_al (Below.refl w1.heap.size w1) (.cells #[.int .i64 0, .string ⟨#[]⟩, .string ⟨#[]⟩, .string ⟨#[]⟩, .int .i64 0, .slice none 0 0] 39)) (.cells #[.int .i64 0, .string ⟨#[]⟩, .string ⟨#[]⟩, .string ⟨#[]⟩, .int .i64 0, .slice none 0 0] 39)) HF6.out (fun x hx => by have hx : x = w1.heap.size := hx; omega)) hf7 (fun x hx => by have hx : x = (w1.heap.size + 1) := hx; omega))
      have HQ7 := Lib.hid hb7
      clear hb7 hf7
      refine hK.out _ _ ⟨(HX7.out).sub [_] [.int .i64 xop, .string xkey, .string xoth, .string xitem, .int .i64 xqty, .slice xdq xdn xdc] [_, _, _, _, _, _, _, _], (HY7.out).sub [_] [.int .i64 yop, .string ykey, .string yoth, .string yitem, .int .i64 yqty, .slice ydq ydn ydc] [_, _, _, _, _, _, _, _]⟩ (fun hHeld => ?_)
      clear hK K
      try simp only [Act.put, List.setIfInBounds_toArray, List.set_cons_zero, List.set_cons_succ]
      refine wpAnyH_done (by kernel_rfl) ?_ _
      refine NoPanic.normal ?_
      clear hHeld
      go_wp2_with fail
      go_meet
      exact ⟨w1.heap.size, (w1.heap.size + 1), rfl, rfl, Lib.hid ⟨HF7.out, HP7.out, HQ7.out⟩⟩
    · have HN1 := Lib.hid (show Blk ((w1.alloc (.cells #[.int .i64 0, .string ⟨#[]⟩, .string ⟨#[]⟩, .string ⟨#[]⟩, .int .i64 0, .slice none 0 0] 39)).alloc (.cells #[.int .i64 0, .string ⟨#[]⟩, .string ⟨#[]⟩, .string ⟨#[]⟩, .int .i64 0, .slice none 0 0] 39)) w1.heap.size 39 [.int .i64 0, .string ⟨#[]⟩, .string ⟨#[]⟩, .string ⟨#[]⟩, .int .i64 0, .slice none 0 0] from (Blk.new w1 39 _).alloc _)
      have HN2 := Lib.hid (show Blk ((w1.alloc (.cells #[.int .i64 0, .string ⟨#[]⟩, .string ⟨#[]⟩, .string ⟨#[]⟩, .int .i64 0, .slice none 0 0] 39)).alloc (.cells #[.int .i64 0, .string ⟨#[]⟩, .string ⟨#[]⟩, .string ⟨#[]⟩, .int .i64 0, .slice none 0 0] 39)) (w1.heap.size + 1) 39 [.int .i64 0, .string ⟨#[]⟩, .string ⟨#[]⟩, .string ⟨#[]⟩, .int .i64 0, .slice none 0 0] from Blk.new' _ 39 _ (by simp))
      have HNX := Lib.hid (show Blk ((w1.alloc (.cells #[.int .i64 0, .string ⟨#[]⟩, .string ⟨#[]⟩, .string ⟨#[]⟩, .int .i64 0, .slice none 0 0] 39)).alloc (.cells #[.int .i64 0, .string ⟨#[]⟩, .string ⟨#[]⟩, .string ⟨#[]⟩, .int .i64 0, .slice none 0 0] 39)) z 41 [.int .i64 xt, .int .i64 xop, .string xkey, .string xoth, .string xitem, .int .i64 xqty, .slice xdq xdn xdc, .int .i64 xaop, .int .i64 xaerr, .int .i64 xacnt, .slice xlq xln xlc, .slice xbq xbn xbc, .int .i64 xa, .int .i64 xm, .int .i64 xn] from ((HBX.out.alloc (.cells #[.int .i64 0, .string ⟨#[]⟩, .string ⟨#[]⟩, .string ⟨#[]⟩, .int .i64 0, .slice none 0 0] 39)).alloc (.cells #[.int .i64 0, .string ⟨#[]⟩, .string ⟨#[]⟩, .string ⟨#[]⟩, .int .i64 0, .slice none 0 0] 39)))
      have HNY := Lib.hid (show Blk ((w1.alloc (.cells #[.int .i64 0, .string ⟨#[]⟩, .string ⟨#[]⟩, .string ⟨#[]⟩, .int .i64 0, .slice none 0 0] 39)).alloc (.cells #[.int .i64 0, .string ⟨#[]⟩, .string ⟨#[]⟩, .string ⟨#[]⟩, .int .i64 0, .slice none 0 0] 39)) (z + 1) 41 [.int .i64 yt, .int .i64 yop, .string ykey, .string yoth, .string yitem, .int .i64 yqty, .slice ydq ydn ydc, .int .i64 yaop, .int .i64 yaerr, .int .i64 yacnt, .slice ylq yln ylc, .slice ybq ybn ybc, .int .i64 ya, .int .i64 ym, .int .i64 yn] from ((HBY.out.alloc (.cells #[.int .i64 0, .string ⟨#[]⟩, .string ⟨#[]⟩, .string ⟨#[]⟩, .int .i64 0, .slice none 0 0] 39)).alloc (.cells #[.int .i64 0, .string ⟨#[]⟩, .string ⟨#[]⟩, .string ⟨#[]⟩, .int .i64 0, .slice none 0 0] 39)))
      have HZ1 := Lib.hid HBX.out.lt
      have HZ2 := Lib.hid HBY.out.lt
      go_simp
      refine hK.out _ _ (⟨((HBX.out.alloc (.cells #[.int .i64 0, .string ⟨#[]⟩, .string ⟨#[]⟩, .string ⟨#[]⟩, .int .i64 0, .slice none 0 0] 39))).sub [_] [.int .i64 xop, .string xkey, .string xoth, .string xitem, .int .i64 xqty, .slice xdq xdn xdc] [_, _, _, _, _, _, _, _], ((HBY.out.alloc (.cells #[.int .i64 0, .string ⟨#[]⟩, .string ⟨#[]⟩, .string ⟨#[]⟩, .int .i64 0, .slice none 0 0] 39))).sub [_] [.int .i64 yop, .string ykey, .string yoth, .string yitem, .int .i64 yqty, .slice ydq ydn ydc] [_, _, _, _, _, _, _, _]⟩) (fun hHeld => ?_)
      clear hK K
      try simp only [Act.put, List.setIfInBounds_toArray, List.set_cons_zero, List.set_cons_succ]
      refine wpAnyH_ready (rs := [4]) (by kernel_rfl) (by simp) ?_
      refine AllReadyH.cons (o := ⟨some 5, _, _, _, _, _⟩) rfl (fun K hK => ?_) AllReadyH.nil
      go_simp
      refine hK.out _ _ (⟨(((HBX.out.alloc (.cells #[.int .i64 0, .string ⟨#[]⟩, .string ⟨#[]⟩, .string ⟨#[]⟩, .int .i64 0, .slice none 0 0] 39)).alloc (.cells #[.int .i64 0, .string ⟨#[]⟩, .string ⟨#[]⟩, .string ⟨#[]⟩, .int .i64 0, .slice none 0 0] 39))).sub [_] [.int .i64 xop, .string xkey, .string xoth, .string xitem, .int .i64 xqty, .slice xdq xdn xdc] [_, _, _, _, _, _, _, _], (((HBY.out.alloc (.cells #[.int .i64 0, .string ⟨#[]⟩, .string ⟨#[]⟩, .string ⟨#[]⟩, .int .i64 0, .slice none 0 0] 39)).alloc (.cells #[.int .i64 0, .string ⟨#[]⟩, .string ⟨#[]⟩, .string ⟨#[]⟩, .int .i64 0, .slice none 0 0] 39))).sub [_] [.int .i64 yop, .string ykey, .string yoth, .string yitem, .int .i64 yqty, .slice ydq ydn ydc] [_, _, _, _, _, _, _, _]⟩) (fun hHeld => ?_)
      clear hK K
      try simp only [Act.put, List.setIfInBounds_toArray, List.set_cons_zero, List.set_cons_succ]
      refine wpAnyH_ready (rs := [6]) (by kernel_rfl) (by simp) ?_
      refine AllReadyH.cons (o := ⟨none, _, _, _, _, _⟩) rfl (fun K hK => ?_) AllReadyH.nil
      (refine step_st (by rfl) 39 (.tmp 5) (.tmp 12) (by rfl) (w1.heap.size + 1) 0 (by rfl) #[.int .i64 xop, .string xkey, .string xoth, .string xitem, .int .i64 xqty, .slice xdq xdn xdc] (by rfl) 39 _ [.int .i64 xop, .string xkey, .string xoth, .string xitem, .int .i64 xqty, .slice xdq xdn xdc] (by exact HN2.out) (by simp) info39 (by rfl) (by rfl) ?_; intro w6 hb6 hf6)
      replace hf6 : Fr (fun x => x = (w1.heap.size + 1)) ((w1.alloc (.cells #[.int .i64 0, .string ⟨#[]⟩, .string ⟨#[]⟩, .string ⟨#[]⟩, .int .i64 0, .slice none 0 0] 39)).alloc (.cells #[.int .i64 0, .string ⟨#[]⟩, .string ⟨#[]⟩, .string ⟨#[]⟩, .int .i64 0, .slice none 0 0] 39)) w6 := ⟨hf6.os, hf6.tape, hf6.output, hf6.size, hf6.block⟩
      have HX6 := Lib.hid (HNX.out.fr hf6 (fun e => by have h1 := HZ1.out; simp only [e] at h1; omega))
      have HY6 := Lib.hid (HNY.out.fr hf6 (fun e => by have h1 := HZ2.out; simp only [e] at h1; omega))
      have HQ6 := Lib.hid (HN1.out.fr hf6 (fun e => by have e : w1.heap.size = (w1.heap.size + 1) := e; omega))
      have HP6 := Lib.hid hb6
      have HF6 := Lib.hid hf6
      clear hb6 hf6
      refine hK.out _ _ ⟨(HX6.out).sub [_] [.int .i64 xop, .string xkey, .string xoth, .string xitem, .int .i64 xqty, .slice xdq xdn xdc] [_, _, _, _, _, _, _, _], (HY6.out).sub [_] [.int .i64 yop, .string ykey, .string yoth, .string yitem, .int .i64 yqty, .slice ydq ydn ydc] [_, _, _, _, _, _, _, _]⟩ (fun hHeld => ?_)
      clear hK K
      try simp only [Act.put, List.setIfInBounds_toArray, List.set_cons_zero, List.set_cons_succ]
      refine wpAnyH_ready (rs := [7]) (by kernel_rfl) (by simp) ?_
      refine AllReadyH.cons (o := ⟨none, _, _, _, _, _⟩) rfl (fun K hK => ?_) AllReadyH.nil
      (refine step_st (by rfl) 39 (.tmp 6) (.tmp 14) (by rfl) w1.heap.size 0 (by rfl) #[.int .i64 yop, .string ykey, .string yoth, .string yitem, .int .i64 yqty, .slice ydq ydn ydc] (by rfl) 39 _ [.int .i64 yop, .string ykey, .string yoth, .string yitem, .int .i64 yqty, .slice ydq ydn ydc] (by exact HQ6.out) (by simp) info39 (by rfl) (by rfl) ?_; intro w7 hb7 hf7)
      have HP7 := Lib.hid (HP6.out.fr hf7 (fun e => by have e : (w1.heap.size + 1) = w1.heap.size := e; omega))
      have HX7 := Lib.hid (HX6.out.fr hf7 (fun e => by have h1 := HZ1.out; simp only [e] at h1; omega))
      have HY7 := Lib.hid (HY6.out.fr hf7 (fun e => by have h1 := HZ2.out; simp only [e] at h1; omega))
      have HF7 := Lib.hid (Fr.below (Fr.below (below_al (below_al (Below.refl w1.heap.size w1) (.cells #[.int .i64 0, .string ⟨#[]⟩, .string ⟨#[]⟩, .string ⟨#[]⟩, .int .i64 0, .slice none 0 0] 39)) (.cells #[.int .i64 0, .string ⟨#[]⟩, .string ⟨#[]⟩, .string ⟨#[]⟩, .int .i64 0, .slice none 0 0] 39)) HF6.out (fun x hx => by have hx : x = (w1.heap.size + 1) := hx; omega)) hf7 (fun x hx => by have hx : x = w1.heap.size := hx; omega))
      have HQ7 := Lib.hid hb7
      clear hb7 hf7
      refine hK.out _ _ ⟨(HX7.out).sub [_] [.int .i64 xop, .string xkey, .string xoth, .string xitem, .int .i64 xqty, .slice xdq xdn xdc] [_, _, _, _, _, _, _, _], (HY7.out).sub [_] [.int .i64 yop, .string ykey, .string yoth, .string yitem, .int .i64 yqty, .slice ydq ydn ydc] [_, _, _, _, _, _, _, _]⟩ (fun hHeld => ?_)
      clear hK K
      try simp only [Act.put, List.setIfInBounds_toArray, List.set_cons_zero, List.set_cons_succ]
      refine wpAnyH_done (by kernel_rfl) ?_ _
      refine NoPanic.normal ?_
      clear hHeld
      go_wp2_with fail
      go_meet
      exact ⟨(w1.heap.size + 1), w1.heap.size, rfl, rfl, Lib.hid ⟨HF7.out, HP7.out, HQ7.out⟩⟩
  case rest =>
    obtain ⟨b5, b6, rfl, rfl, H1⟩ := hcut
    generalize wc = w2 at *
    have HB2 := Lib.hid (HB.out.trans (H1.out.1.mono HB.out.size))
    have HBX2 := Lib.hid (HBX.out.kept H1.out.1)
    have HBY2 := Lib.hid (HBY.out.kept H1.out.1)
    obtain ⟨ec, hec⟩ : ∃ ec, eqC pc qc = ec := ⟨_, rfl⟩
    have HEC := Lib.hid hec
    have HECV := Lib.hid (show ec = (decide (xop = yop) && decide (xkey = ykey) && decide (xoth = yoth) && decide (xitem = yitem) && decide (xqty = yqty) && decide (strOfNums pc.data = strOfNums qc.data)) by rw [← hec, eqC, ← HXC.out.op, ← HYC.out.op, ← HXC.out.key, ← HYC.out.key, ← HXC.out.oth, ← HYC.out.oth, ← HXC.out.item, ← HYC.out.item, ← HXC.out.qty, ← HYC.out.qty])
    have HBE := Lib.hid (show Calls Try.prog 31 #[.slice xdq xdn xdc, .slice ydq ydn ydc] w2 fun e w' => e = .returned (.bool (decide (strOfNums pc.data = strOfNums qc.data))) ∧ w' = w2 by
      have h := bytesEqual_any w2 xdq ydq pc.data qc.data xdc ydc (HXC.out.rd.kept HB2.out) (HYC.out.rd.kept HB2.out)
      rw [← HXC.out.len, ← HYC.out.len] at h
      exact h)
    generalize decide (strOfNums pc.data = strOfNums qc.data) = ed at HECV HBE
    clear hec HBX HBY HB
    go_upto_region 2 with fail
    go_cut [7] from 7 to 54 (fun c wx => c = .bool ec ∧ wx = w2)
    case first =>
      have c0 := H1.out.2.1.got 0 _ rfl
      have c1 := H1.out.2.1.got 1 _ rfl
      have c2 := H1.out.2.1.got 2 _ rfl
      have c3 := H1.out.2.1.got 3 _ rfl
      have c4 := H1.out.2.1.got 4 _ rfl
      have c5 := H1.out.2.1.got 5 _ rfl
      have d0 := H1.out.2.2.got 0 _ rfl
      have d1 := H1.out.2.2.got 1 _ rfl
      have d2 := H1.out.2.2.got 2 _ rfl
      have d3 := H1.out.2.2.got 3 _ rfl
      have d4 := H1.out.2.2.got 4 _ rfl
      have d5 := H1.out.2.2.got 5 _ rfl
      by_cases h0 : xop = yop
      · subst h0
        by_cases h1 : xkey = ykey
        · subst h1
          by_cases h2 : xoth = yoth
          · subst h2
            by_cases h3 : xitem = yitem
            · subst h3
              by_cases h4 : xqty = yqty
              · subst h4
                have hv : ec = ed := by rw [HECV.out]; simp
                subst hv
                clear HECV HEC
                go_wp2_with fail
                refine HBE.out.mono ?_
                rintro e w3 ⟨rfl, rfl⟩
                go_wp2_with fail
                go_meet
                exact ⟨rfl, rfl⟩
              · have g4 : (xqty == yqty) = false := by simpa using h4
                have hv : ec = false := by rw [HECV.out]; simp [h4]
                subst hv
                clear HECV HEC h4
                go_wp2_with fail
                go_meet
                exact ⟨rfl, rfl⟩
            · have g3 : (xitem.toList == yitem.toList) = false := by rw [str_beq]; simpa using h3
              have hv : ec = false := by rw [HECV.out]; simp [h3]
              subst hv
              clear HECV HEC h3
              go_wp2_with fail
              go_meet
              exact ⟨rfl, rfl⟩
          · have g2 : (xoth.toList == yoth.toList) = false := by rw [str_beq]; simpa using h2
            have hv : ec = false := by rw [HECV.out]; simp [h2]
            subst hv
            clear HECV HEC h2
            go_wp2_with fail
            go_meet
            exact ⟨rfl, rfl⟩
        · have g1 : (xkey.toList == ykey.toList) = false := by rw [str_beq]; simpa using h1
          have hv : ec = false := by rw [HECV.out]; simp [h1]
          subst hv
          clear HECV HEC h1
          go_wp2_with fail
          go_meet
          exact ⟨rfl, rfl⟩
      · have g0 : (xop == yop) = false := by simpa using h0
        have hv : ec = false := by rw [HECV.out]; simp [h0]
        subst hv
        clear HECV HEC h0
        go_wp2_with fail
        go_meet
        exact ⟨rfl, rfl⟩
    case rest =>
      obtain ⟨rfl, hw2⟩ := hcut
      subst hw2
      generalize wc = w2 at *
      clear HBE HECV H1
      go_upto_region 3 with fail
      go_cut [8, 9] from 8 to 58 (fun c d wx => ∃ b5 b6, c = .pointer (some ⟨b5, 0, none⟩) ∧ d = .pointer (some ⟨b6, 0, none⟩) ∧ Hid (Below w2.heap.size w2 wx ∧ Blk wx b5 36 [.int .i64 xaop, .int .i64 xaerr, .int .i64 xacnt, .slice xlq xln xlc, .slice xbq xbn xbc] ∧ Blk wx b6 36 [.int .i64 yaop, .int .i64 yaerr, .int .i64 yacnt, .slice ylq yln ylc, .slice ybq ybn ybc]))
      case first =>
        refine wp_region_noPanic ?_
        refine wp_region_held_drew (S := fun w' => w'.rangeAt z 7 [.int .i64 xaop, .int .i64 xaerr, .int .i64 xacnt, .slice xlq xln xlc, .slice xbq xbn xbc] ∧ w'.rangeAt (z + 1) 7 [.int .i64 yaop, .int .i64 yaerr, .int .i64 yacnt, .slice ylq yln ylc, .slice ybq ybn ybc]) (by kernel_rfl) (⟨(HBX2.out).sub [_, _, _, _, _, _, _] [.int .i64 xaop, .int .i64 xaerr, .int .i64 xacnt, .slice xlq xln xlc, .slice xbq xbn xbc] [_, _, _], (HBY2.out).sub [_, _, _, _, _, _, _] [.int .i64 yaop, .int .i64 yaerr, .int .i64 yacnt, .slice ylq yln ylc, .slice ybq ybn ybc] [_, _, _]⟩) (fun hHeld => ?_)
        refine wpAnyH_take (i := 0) (oi := ⟨some 55, _, _, _, _, _⟩) (v := ?_) rfl (by kernel_rfl) (by kernel_rfl) (by kernel_rfl) (fun _ _ _ h => h) (Or.inl ⟨by rfl, ?_⟩) hHeld ?_
        rotate_left
        · (intro w hSw; go_simp; try with_reducible rfl)
        try simp only [Act.put, List.setIfInBounds_toArray, List.set_cons_zero, List.set_cons_succ]
        refine wpAnyH_take (i := 1) (oi := ⟨some 56, _, _, _, _, _⟩) (v := .agg #[.int .i64 xaop, .int .i64 xaerr, .int .i64 xacnt, .slice xlq xln xlc, .slice xbq xbn xbc]) rfl (by kernel_rfl) (by kernel_rfl) (by kernel_rfl) (fun _ _ _ h => h) (yieldsIf_load_mid (by rfl) 36 (.tmp 55) rfl z 7 rfl [.int .i64 xaop, .int .i64 xaerr, .int .i64 xacnt, .slice xlq xln xlc, .slice xbq xbn xbc] _ (fun _ h => h.1) Try.underlying36 rfl info36) hHeld ?_
        try simp only [Act.put, List.setIfInBounds_toArray, List.set_cons_zero, List.set_cons_succ]
        refine wpAnyH_take (i := 2) (oi := ⟨some 57, _, _, _, _, _⟩) (v := ?_) rfl (by kernel_rfl) (by kernel_rfl) (by kernel_rfl) (fun _ _ _ h => h) (Or.inl ⟨by rfl, ?_⟩) hHeld ?_
        rotate_left
        · (intro w hSw; go_simp; try with_reducible rfl)
        try simp only [Act.put, List.setIfInBounds_toArray, List.set_cons_zero, List.set_cons_succ]
        refine wpAnyH_take (i := 3) (oi := ⟨some 58, _, _, _, _, _⟩) (v := .agg #[.int .i64 yaop, .int .i64 yaerr, .int .i64 yacnt, .slice ylq yln ylc, .slice ybq ybn ybc]) rfl (by kernel_rfl) (by kernel_rfl) (by kernel_rfl) (fun _ _ _ h => h) (yieldsIf_load_mid (by rfl) 36 (.tmp 57) rfl (z + 1) 7 rfl [.int .i64 yaop, .int .i64 yaerr, .int .i64 yacnt, .slice ylq yln ylc, .slice ybq ybn ybc] _ (fun _ h => h.2) Try.underlying36 rfl info36) hHeld ?_
        try simp only [Act.put, List.setIfInBounds_toArray, List.set_cons_zero, List.set_cons_succ]
        refine wpAnyH_ready (rs := [4, 5]) (by kernel_rfl) (by simp) ?_
        refine AllReadyH.cons (o := ⟨some 8, _, _, _, _, _⟩) rfl (fun K hK => ?_) (AllReadyH.cons (o := ⟨some 9, _, _, _, _, _⟩) rfl (fun K hK => ?_) AllReadyH.nil)
        · have HN1 := Lib.hid (show Blk ((w2.alloc (.cells #[.int .i64 0, .int .i64 0, .int .i64 0, .slice none 0 0, .slice none 0 0] 36)).alloc (.cells #[.int .i64 0, .int .i64 0, .int .i64 0, .slice none 0 0, .slice none 0 0] 36)) w2.heap.size 36 [.int .i64 0, .int .i64 0, .int .i64 0, .slice none 0 0, .slice none 0 0] from (Blk.new w2 36 _).alloc _)
          have HN2 := Lib.hid (show Blk ((w2.alloc (.cells #[.int .i64 0, .int .i64 0, .int .i64 0, .slice none 0 0, .slice none 0 0] 36)).alloc (.cells #[.int .i64 0, .int .i64 0, .int .i64 0, .slice none 0 0, .slice none 0 0] 36)) (w2.heap.size + 1) 36 [.int .i64 0, .int .i64 0, .int .i64 0, .slice none 0 0, .slice none 0 0] from Blk.new' _ 36 _ (by simp))
          have HNX := Lib.hid (show Blk ((w2.alloc (.cells #[.int .i64 0, .int .i64 0, .int .i64 0, .slice none 0 0, .slice none 0 0] 36)).alloc (.cells #[.int .i64 0, .int .i64 0, .int .i64 0, .slice none 0 0, .slice none 0 0] 36)) z 41 [.int .i64 xt, .int .i64 xop, .string xkey, .string xoth, .string xitem, .int .i64 xqty, .slice xdq xdn xdc, .int .i64 xaop, .int .i64 xaerr, .int .i64 xacnt, .slice xlq xln xlc, .slice xbq xbn xbc, .int .i64 xa, .int .i64 xm, .int .i64 xn] from ((HBX2.out.alloc (.cells #[.int .i64 0, .int .i64 0, .int .i64 0, .slice none 0 0, .slice none 0 0] 36)).alloc (.cells #[.int .i64 0, .int .i64 0, .int .i64 0, .slice none 0 0, .slice none 0 0] 36)))
          have HNY := Lib.hid (show Blk ((w2.alloc (.cells #[.int .i64 0, .int .i64 0, .int .i64 0, .slice none 0 0, .slice none 0 0] 36)).alloc (.cells #[.int .i64 0, .int .i64 0, .int .i64 0, .slice none 0 0, .slice none 0 0] 36)) (z + 1) 41 [.int .i64 yt, .int .i64 yop, .string ykey, .string yoth, .string yitem, .int .i64 yqty, .slice ydq ydn ydc, .int .i64 yaop, .int .i64 yaerr, .int .i64 yacnt, .slice ylq yln ylc, .slice ybq ybn ybc, .int .i64 ya, .int .i64 ym, .int .i64 yn] from ((HBY2.out.alloc (.cells #[.int .i64 0, .int .i64 0, .int .i64 0, .slice none 0 0, .slice none 0 0] 36)).alloc (.cells #[.int .i64 0, .int .i64 0, .int .i64 0, .slice none 0 0, .slice none 0 0] 36)))
          have HZ1 := Lib.hid HBX2.out.lt
          have HZ2 := Lib.hid HBY2.out.lt
          go_simp
          refine hK.out _ _ (⟨((HBX2.out.alloc (.cells #[.int .i64 0, .int .i64 0, .int .i64 0, .slice none 0 0, .slice none 0 0] 36))).sub [_, _, _, _, _, _, _] [.int .i64 xaop, .int .i64 xaerr, .int .i64 xacnt, .slice xlq xln xlc, .slice xbq xbn xbc] [_, _, _], ((HBY2.out.alloc (.cells #[.int .i64 0, .int .i64 0, .int .i64 0, .slice none 0 0, .slice none 0 0] 36))).sub [_, _, _, _, _, _, _] [.int .i64 yaop, .int .i64 yaerr, .int .i64 yacnt, .slice ylq yln ylc, .slice ybq ybn ybc] [_, _, _]⟩) (fun hHeld => ?_)
          clear hK K
          try simp only [Act.put, List.setIfInBounds_toArray, List.set_cons_zero, List.set_cons_succ]
          refine wpAnyH_ready (rs := [5]) (by kernel_rfl) (by simp) ?_
          refine AllReadyH.cons (o := ⟨some 9, _, _, _, _, _⟩) rfl (fun K hK => ?_) AllReadyH.nil
          go_simp
          refine hK.out _ _ (⟨(((HBX2.out.alloc (.cells #[.int .i64 0, .int .i64 0, .int .i64 0, .slice none 0 0, .slice none 0 0] 36)).alloc (.cells #[.int .i64 0, .int .i64 0, .int .i64 0, .slice none 0 0, .slice none 0 0] 36))).sub [_, _, _, _, _, _, _] [.int .i64 xaop, .int .i64 xaerr, .int .i64 xacnt, .slice xlq xln xlc, .slice xbq xbn xbc] [_, _, _], (((HBY2.out.alloc (.cells #[.int .i64 0, .int .i64 0, .int .i64 0, .slice none 0 0, .slice none 0 0] 36)).alloc (.cells #[.int .i64 0, .int .i64 0, .int .i64 0, .slice none 0 0, .slice none 0 0] 36))).sub [_, _, _, _, _, _, _] [.int .i64 yaop, .int .i64 yaerr, .int .i64 yacnt, .slice ylq yln ylc, .slice ybq ybn ybc] [_, _, _]⟩) (fun hHeld => ?_)
          clear hK K
          try simp only [Act.put, List.setIfInBounds_toArray, List.set_cons_zero, List.set_cons_succ]
          refine wpAnyH_ready (rs := [6]) (by kernel_rfl) (by simp) ?_
          refine AllReadyH.cons (o := ⟨none, _, _, _, _, _⟩) rfl (fun K hK => ?_) AllReadyH.nil
          (refine step_st (by rfl) 36 (.tmp 8) (.tmp 56) (by rfl) w2.heap.size 0 (by rfl) #[.int .i64 xaop, .int .i64 xaerr, .int .i64 xacnt, .slice xlq xln xlc, .slice xbq xbn xbc] (by rfl) 36 _ [.int .i64 xaop, .int .i64 xaerr, .int .i64 xacnt, .slice xlq xln xlc, .slice xbq xbn xbc] (by exact HN1.out) (by simp) info36 (by rfl) (by rfl) ?_; intro w6 hb6 hf6)
          replace hf6 : Fr (fun x => x = w2.heap.size) ((w2.alloc (.cells #[.int .i64 0, .int .i64 0, .int .i64 0, .slice none 0 0, .slice none 0 0] 36)).alloc (.cells #[.int .i64 0, .int .i64 0, .int .i64 0, .slice none 0 0, .slice none 0 0] 36)) w6 := ⟨hf6.os, hf6.tape, hf6.output, hf6.size, hf6.block⟩
          have HX6 := Lib.hid (HNX.out.fr hf6 (fun e => by have h1 := HZ1.out; simp only [e] at h1; omega))
          have HY6 := Lib.hid (HNY.out.fr hf6 (fun e => by have h1 := HZ2.out; simp only [e] at h1; omega))
          have HQ6 := Lib.hid (HN2.out.fr hf6 (fun e => by have e : (w2.heap.size + 1) = w2.heap.size := e; omega))
          have HP6 := Lib.hid hb6
          have HF6 := Lib.hid hf6
          clear hb6 hf6
          refine hK.out _ _ ⟨(HX6.out).sub [_, _, _, _, _, _, _] [.int .i64 xaop, .int .i64 xaerr, .int .i64 xacnt, .slice xlq xln xlc, .slice xbq xbn xbc] [_, _, _], (HY6.out).sub [_, _, _, _, _, _, _] [.int .i64 yaop, .int .i64 yaerr, .int .i64 yacnt, .slice ylq yln ylc, .slice ybq ybn ybc] [_, _, _]⟩ (fun hHeld => ?_)
          clear hK K
          try simp only [Act.put, List.setIfInBounds_toArray, List.set_cons_zero, List.set_cons_succ]
          refine wpAnyH_ready (rs := [7]) (by kernel_rfl) (by simp) ?_
          refine AllReadyH.cons (o := ⟨none, _, _, _, _, _⟩) rfl (fun K hK => ?_) AllReadyH.nil
          (refine step_st (by rfl) 36 (.tmp 9) (.tmp 58) (by rfl) (w2.heap.size + 1) 0 (by rfl) #[.int .i64 yaop, .int .i64 yaerr, .int .i64 yacnt, .slice ylq yln ylc, .slice ybq ybn ybc] (by rfl) 36 _ [.int .i64 yaop, .int .i64 yaerr, .int .i64 yacnt, .slice ylq yln ylc, .slice ybq ybn ybc] (by exact HQ6.out) (by simp) info36 (by rfl) (by rfl) ?_; intro w7 hb7 hf7)
          have HP7 := Lib.hid (HP6.out.fr hf7 (fun e => by have e : w2.heap.size = (w2.heap.size + 1) := e; omega))
          have HX7 := Lib.hid (HX6.out.fr hf7 (fun e => by have h1 := HZ1.out; simp only [e] at h1; omega))
          have HY7 := Lib.hid (HY6.out.fr hf7 (fun e => by have h1 := HZ2.out; simp only [e] at h1; omega))
          have HF7 := Lib.hid (Fr.below (Fr.below (below_al (below_al (Below.refl w2.heap.size w2) (.cells #[.int .i64 0, .int .i64 0, .int .i64 0, .slice none 0 0, .slice none 0 0] 36)) (.cells #[.int .i64 0, .int .i64 0, .int .i64 0, .slice none 0 0, .slice none 0 0] 36)) HF6.out (fun x hx => by have hx : x = w2.heap.size := hx; omega)) hf7 (fun x hx => by have hx : x = (w2.heap.size + 1) := hx; omega))
          have HQ7 := Lib.hid hb7
          clear hb7 hf7
          refine hK.out _ _ ⟨(HX7.out).sub [_, _, _, _, _, _, _] [.int .i64 xaop, .int .i64 xaerr, .int .i64 xacnt, .slice xlq xln xlc, .slice xbq xbn xbc] [_, _, _], (HY7.out).sub [_, _, _, _, _, _, _] [.int .i64 yaop, .int .i64 yaerr, .int .i64 yacnt, .slice ylq yln ylc, .slice ybq ybn ybc] [_, _, _]⟩ (fun hHeld => ?_)
          clear hK K
          try simp only [Act.put, List.setIfInBounds_toArray, List.set_cons_zero, List.set_cons_succ]
          refine wpAnyH_done (by kernel_rfl) ?_ _
          refine NoPanic.normal ?_
          clear hHeld
          go_wp2_with fail
          go_meet
          exact ⟨w2.heap.size, (w2.heap.size + 1), rfl, rfl, Lib.hid ⟨HF7.out, HP7.out, HQ7.out⟩⟩
        · have HN1 := Lib.hid (show Blk ((w2.alloc (.cells #[.int .i64 0, .int .i64 0, .int .i64 0, .slice none 0 0, .slice none 0 0] 36)).alloc (.cells #[.int .i64 0, .int .i64 0, .int .i64 0, .slice none 0 0, .slice none 0 0] 36)) w2.heap.size 36 [.int .i64 0, .int .i64 0, .int .i64 0, .slice none 0 0, .slice none 0 0] from (Blk.new w2 36 _).alloc _)
          have HN2 := Lib.hid (show Blk ((w2.alloc (.cells #[.int .i64 0, .int .i64 0, .int .i64 0, .slice none 0 0, .slice none 0 0] 36)).alloc (.cells #[.int .i64 0, .int .i64 0, .int .i64 0, .slice none 0 0, .slice none 0 0] 36)) (w2.heap.size + 1) 36 [.int .i64 0, .int .i64 0, .int .i64 0, .slice none 0 0, .slice none 0 0] from Blk.new' _ 36 _ (by simp))
          have HNX := Lib.hid (show Blk ((w2.alloc (.cells #[.int .i64 0, .int .i64 0, .int .i64 0, .slice none 0 0, .slice none 0 0] 36)).alloc (.cells #[.int .i64 0, .int .i64 0, .int .i64 0, .slice none 0 0, .slice none 0 0] 36)) z 41 [.int .i64 xt, .int .i64 xop, .string xkey, .string xoth, .string xitem, .int .i64 xqty, .slice xdq xdn xdc, .int .i64 xaop, .int .i64 xaerr, .int .i64 xacnt, .slice xlq xln xlc, .slice xbq xbn xbc, .int .i64 xa, .int .i64 xm, .int .i64 xn] from ((HBX2.out.alloc (.cells #[.int .i64 0, .int .i64 0, .int .i64 0, .slice none 0 0, .slice none 0 0] 36)).alloc (.cells #[.int .i64 0, .int .i64 0, .int .i64 0, .slice none 0 0, .slice none 0 0] 36)))
          have HNY := Lib.hid (show Blk ((w2.alloc (.cells #[.int .i64 0, .int .i64 0, .int .i64 0, .slice none 0 0, .slice none 0 0] 36)).alloc (.cells #[.int .i64 0, .int .i64 0, .int .i64 0, .slice none 0 0, .slice none 0 0] 36)) (z + 1) 41 [.int .i64 yt, .int .i64 yop, .string ykey, .string yoth, .string yitem, .int .i64 yqty, .slice ydq ydn ydc, .int .i64 yaop, .int .i64 yaerr, .int .i64 yacnt, .slice ylq yln ylc, .slice ybq ybn ybc, .int .i64 ya, .int .i64 ym, .int .i64 yn] from ((HBY2.out.alloc (.cells #[.int .i64 0, .int .i64 0, .int .i64 0, .slice none 0 0, .slice none 0 0] 36)).alloc (.cells #[.int .i64 0, .int .i64 0, .int .i64 0, .slice none 0 0, .slice none 0 0] 36)))
          have HZ1 := Lib.hid HBX2.out.lt
          have HZ2 := Lib.hid HBY2.out.lt
          go_simp
          refine hK.out _ _ (⟨((HBX2.out.alloc (.cells #[.int .i64 0, .int .i64 0, .int .i64 0, .slice none 0 0, .slice none 0 0] 36))).sub [_, _, _, _, _, _, _] [.int .i64 xaop, .int .i64 xaerr, .int .i64 xacnt, .slice xlq xln xlc, .slice xbq xbn xbc] [_, _, _], ((HBY2.out.alloc (.cells #[.int .i64 0, .int .i64 0, .int .i64 0, .slice none 0 0, .slice none 0 0] 36))).sub [_, _, _, _, _, _, _] [.int .i64 yaop, .int .i64 yaerr, .int .i64 yacnt, .slice ylq yln ylc, .slice ybq ybn ybc] [_, _, _]⟩) (fun hHeld => ?_)
          clear hK K
          try simp only [Act.put, List.setIfInBounds_toArray, List.set_cons_zero, List.set_cons_succ]
          refine wpAnyH_ready (rs := [4]) (by kernel_rfl) (by simp) ?_
          refine AllReadyH.cons (o := ⟨some 8, _, _, _, _, _⟩) rfl (fun K hK => ?_) AllReadyH.nil
          go_simp
          refine hK.out _ _ (⟨(((HBX2.out.alloc (.cells #[.int .i64 0, .int .i64 0, .int .i64 0, .slice none 0 0, .slice none 0 0] 36)).alloc (.cells #[.int .i64 0, .int .i64 0, .int .i64 0, .slice none 0 0, .slice none 0 0] 36))).sub [_, _, _, _, _, _, _] [.int .i64 xaop, .int .i64 xaerr, .int .i64 xacnt, .slice xlq xln xlc, .slice xbq xbn xbc] [_, _, _], (((HBY2.out.alloc (.cells #[.int .i64 0, .int .i64 0, .int .i64 0, .slice none 0 0, .slice none 0 0] 36)).alloc (.cells #[.int .i64 0, .int .i64 0, .int .i64 0, .slice none 0 0, .slice none 0 0] 36))).sub [_, _, _, _, _, _, _] [.int .i64 yaop, .int .i64 yaerr, .int .i64 yacnt, .slice ylq yln ylc, .slice ybq ybn ybc] [_, _, _]⟩) (fun hHeld => ?_)
          clear hK K
          try simp only [Act.put, List.setIfInBounds_toArray, List.set_cons_zero, List.set_cons_succ]
          refine wpAnyH_ready (rs := [6]) (by kernel_rfl) (by simp) ?_
          refine AllReadyH.cons (o := ⟨none, _, _, _, _, _⟩) rfl (fun K hK => ?_) AllReadyH.nil
          (refine step_st (by rfl) 36 (.tmp 8) (.tmp 56) (by rfl) (w2.heap.size + 1) 0 (by rfl) #[.int .i64 xaop, .int .i64 xaerr, .int .i64 xacnt, .slice xlq xln xlc, .slice xbq xbn xbc] (by rfl) 36 _ [.int .i64 xaop, .int .i64 xaerr, .int .i64 xacnt, .slice xlq xln xlc, .slice xbq xbn xbc] (by exact HN2.out) (by simp) info36 (by rfl) (by rfl) ?_; intro w6 hb6 hf6)
          replace hf6 : Fr (fun x => x = (w2.heap.size + 1)) ((w2.alloc (.cells #[.int .i64 0, .int .i64 0, .int .i64 0, .slice none 0 0, .slice none 0 0] 36)).alloc (.cells #[.int .i64 0, .int .i64 0, .int .i64 0, .slice none 0 0, .slice none 0 0] 36)) w6 := ⟨hf6.os, hf6.tape, hf6.output, hf6.size, hf6.block⟩
          have HX6 := Lib.hid (HNX.out.fr hf6 (fun e => by have h1 := HZ1.out; simp only [e] at h1; omega))
          have HY6 := Lib.hid (HNY.out.fr hf6 (fun e => by have h1 := HZ2.out; simp only [e] at h1; omega))
          have HQ6 := Lib.hid (HN1.out.fr hf6 (fun e => by have e : w2.heap.size = (w2.heap.size + 1) := e; omega))
          have HP6 := Lib.hid hb6
          have HF6 := Lib.hid hf6
          clear hb6 hf6
          refine hK.out _ _ ⟨(HX6.out).sub [_, _, _, _, _, _, _] [.int .i64 xaop, .int .i64 xaerr, .int .i64 xacnt, .slice xlq xln xlc, .slice xbq xbn xbc] [_, _, _], (HY6.out).sub [_, _, _, _, _, _, _] [.int .i64 yaop, .int .i64 yaerr, .int .i64 yacnt, .slice ylq yln ylc, .slice ybq ybn ybc] [_, _, _]⟩ (fun hHeld => ?_)
          clear hK K
          try simp only [Act.put, List.setIfInBounds_toArray, List.set_cons_zero, List.set_cons_succ]
          refine wpAnyH_ready (rs := [7]) (by kernel_rfl) (by simp) ?_
          refine AllReadyH.cons (o := ⟨none, _, _, _, _, _⟩) rfl (fun K hK => ?_) AllReadyH.nil
          (refine step_st (by rfl) 36 (.tmp 9) (.tmp 58) (by rfl) w2.heap.size 0 (by rfl) #[.int .i64 yaop, .int .i64 yaerr, .int .i64 yacnt, .slice ylq yln ylc, .slice ybq ybn ybc] (by rfl) 36 _ [.int .i64 yaop, .int .i64 yaerr, .int .i64 yacnt, .slice ylq yln ylc, .slice ybq ybn ybc] (by exact HQ6.out) (by simp) info36 (by rfl) (by rfl) ?_; intro w7 hb7 hf7)
          have HP7 := Lib.hid (HP6.out.fr hf7 (fun e => by have e : (w2.heap.size + 1) = w2.heap.size := e; omega))
          have HX7 := Lib.hid (HX6.out.fr hf7 (fun e => by have h1 := HZ1.out; simp only [e] at h1; omega))
          have HY7 := Lib.hid (HY6.out.fr hf7 (fun e => by have h1 := HZ2.out; simp only [e] at h1; omega))
          have HF7 := Lib.hid (Fr.below (Fr.below (below_al (below_al (Below.refl w2.heap.size w2) (.cells #[.int .i64 0, .int .i64 0, .int .i64 0, .slice none 0 0, .slice none 0 0] 36)) (.cells #[.int .i64 0, .int .i64 0, .int .i64 0, .slice none 0 0, .slice none 0 0] 36)) HF6.out (fun x hx => by have hx : x = (w2.heap.size + 1) := hx; omega)) hf7 (fun x hx => by have hx : x = w2.heap.size := hx; omega))
          have HQ7 := Lib.hid hb7
          clear hb7 hf7
          refine hK.out _ _ ⟨(HX7.out).sub [_, _, _, _, _, _, _] [.int .i64 xaop, .int .i64 xaerr, .int .i64 xacnt, .slice xlq xln xlc, .slice xbq xbn xbc] [_, _, _], (HY7.out).sub [_, _, _, _, _, _, _] [.int .i64 yaop, .int .i64 yaerr, .int .i64 yacnt, .slice ylq yln ylc, .slice ybq ybn ybc] [_, _, _]⟩ (fun hHeld => ?_)
          clear hK K
          try simp only [Act.put, List.setIfInBounds_toArray, List.set_cons_zero, List.set_cons_succ]
          refine wpAnyH_done (by kernel_rfl) ?_ _
          refine NoPanic.normal ?_
          clear hHeld
          go_wp2_with fail
          go_meet
          exact ⟨(w2.heap.size + 1), w2.heap.size, rfl, rfl, Lib.hid ⟨HF7.out, HP7.out, HQ7.out⟩⟩
      case rest =>
        obtain ⟨b8, b9, rfl, rfl, H1⟩ := hcut
        generalize wc = w3 at *
        have HB3 := Lib.hid (HB2.out.trans (H1.out.1.mono HB2.out.size))
        have HBX3 := Lib.hid (HBX2.out.kept H1.out.1)
        have HBY3 := Lib.hid (HBY2.out.kept H1.out.1)
        obtain ⟨ea, hea⟩ : ∃ ea, eqA pA qA = ea := ⟨_, rfl⟩
        have HEA := Lib.hid hea
        have HEAV := Lib.hid (show ea = (decide (xaop = yaop) && decide (xaerr = yaerr) && decide (xacnt = yacnt) && decide (pA.lines = qA.lines) && decide (batK pA.bats = batK qA.bats)) by rw [← hea, eqA, ← HXA.out.op, ← HYA.out.op, ← HXA.out.err, ← HYA.out.err, ← HXA.out.cnt, ← HYA.out.cnt])
        have HLE := Lib.hid (show ∀ w', Below w.heap.size w w' → Calls Try.prog 32 #[.slice xlq xln xlc, .slice ylq yln ylc] w' fun e w'' => e = .returned (.bool (decide (pA.lines = qA.lines))) ∧ Below w'.heap.size w' w'' from fun w' hb => by
          have h := linesEqual_any w' xlq ylq pA.lines qA.lines xlc ylc (HXA.out.rd.kept hb) (HYA.out.rd.kept hb) (by rw [← HXA.out.len]; exact HXA.out.cap) (by rw [← HYA.out.len]; exact HYA.out.cap) (by have := HPA.out.1; omega) (by have := HQA.out.1; omega)
          rw [← HXA.out.len, ← HYA.out.len] at h
          exact h)
        have HME := Lib.hid (show ∀ w', Below w.heap.size w w' → Calls Try.prog 33 #[.slice xbq xbn xbc, .slice ybq ybn ybc, .func (.func 31) #[] #[]] w' fun e w'' => e = .returned (.bool (decide (batK pA.bats = batK qA.bats))) ∧ w'' = w' from fun w' hb =>
          batsEqual_any w' xbq ybq pA.bats qA.bats xbn xbc ybn ybc ((HXA.out.imp (fun _ p xs h => Rd.kept h hb)).batR) ((HYA.out.imp (fun _ p xs h => Rd.kept h hb)).batR) (by have := HPA.out.2.1; have := HXA.out.blen; omega) (by have := HQA.out.2.1; have := HYA.out.blen; omega))
        generalize decide (pA.lines = qA.lines) = el at HEAV HLE
        generalize decide (batK pA.bats = batK qA.bats) = em at HEAV HME
        clear hea HBX2 HBY2
        go_upto_region 4 with fail
        go_cut [10] from 10 to 91 (fun c wx => c = .bool ea ∧ Hid (Below w3.heap.size w3 wx))
        case first =>
          have c0 := H1.out.2.1.got 0 _ rfl
          have c1 := H1.out.2.1.got 1 _ rfl
          have c2 := H1.out.2.1.got 2 _ rfl
          have c3 := H1.out.2.1.got 3 _ rfl
          have c4 := H1.out.2.1.got 4 _ rfl
          have d0 := H1.out.2.2.got 0 _ rfl
          have d1 := H1.out.2.2.got 1 _ rfl
          have d2 := H1.out.2.2.got 2 _ rfl
          have d3 := H1.out.2.2.got 3 _ rfl
          have d4 := H1.out.2.2.got 4 _ rfl
          by_cases h0 : xaop = yaop
          · subst h0
            by_cases h1 : xaerr = yaerr
            · subst h1
              by_cases h2 : xacnt = yacnt
              · subst h2
                go_wp2_with fail
                refine (HLE.out _ HB3.out).mono ?_
                rintro e w4 ⟨rfl, hb4⟩
                have HB4 := Lib.hid hb4
                have c4 := (H1.out.2.1.kept hb4).got 4 _ rfl
                have d4 := (H1.out.2.2.kept hb4).got 4 _ rfl
                clear hb4
                cases el with
                | false =>
                  have hv : ea = false := by rw [HEAV.out]; simp
                  subst hv
                  clear HEAV HEA
                  go_wp2_with fail
                  go_meet
                  exact ⟨rfl, HB4⟩
                | true =>
                  have hv : ea = em := by rw [HEAV.out]; simp
                  subst hv
                  clear HEAV HEA
                  go_wp2_with fail
                  refine (HME.out _ (HB3.out.trans (HB4.out.mono HB3.out.size))).mono ?_
                  rintro e w5 ⟨rfl, rfl⟩
                  go_wp2_with fail
                  go_meet
                  exact ⟨rfl, HB4⟩
              · have g2 : (xacnt == yacnt) = false := by simpa using h2
                have hv : ea = false := by rw [HEAV.out]; simp [h2]
                subst hv
                clear HEAV HEA h2
                go_wp2_with fail
                go_meet
                exact ⟨rfl, Lib.hid (Below.refl _ _)⟩
            · have g1 : (xaerr == yaerr) = false := by simpa using h1
              have hv : ea = false := by rw [HEAV.out]; simp [h1]
              subst hv
              clear HEAV HEA h1
              go_wp2_with fail
              go_meet
              exact ⟨rfl, Lib.hid (Below.refl _ _)⟩
          · have g0 : (xaop == yaop) = false := by simpa using h0
            have hv : ea = false := by rw [HEAV.out]; simp [h0]
            subst hv
            clear HEAV HEA h0
            go_wp2_with fail
            go_meet
            exact ⟨rfl, Lib.hid (Below.refl _ _)⟩
        case rest =>
          obtain ⟨rfl, H2⟩ := hcut
          have HB4 := Lib.hid (HB3.out.trans (H2.out.mono HB3.out.size))
          have HBX4 := Lib.hid (HBX3.out.kept H2.out)
          have HBY4 := Lib.hid (HBY3.out.kept H2.out)
          clear HLE HME HEAV H1 H2 HBX3 HBY3
          have xc0 := HBX4.out.got 0 _ rfl
          have xc12 := HBX4.out.got 12 _ rfl
          have xc13 := HBX4.out.got 13 _ rfl
          have xc14 := HBX4.out.got 14 _ rfl
          have yc0 := HBY4.out.got 0 _ rfl
          have yc12 := HBY4.out.got 12 _ rfl
          have yc13 := HBY4.out.got 13 _ rfl
          have yc14 := HBY4.out.got 14 _ rfl
          cases ec with
          | false =>
            have hv : r = false := by rw [← HR.out]; simp [eqE, HEC.out]
            subst hv
            clear HR HEC HEA
            go_wp2_with fail
            go_ret
            exact ⟨rfl, HB4.out⟩
          | true =>
            cases ea with
            | false =>
              have hv : r = false := by rw [← HR.out]; simp [eqE, HEC.out, HEA.out]
              subst hv
              clear HR HEC HEA
              go_wp2_with fail
              go_ret
              exact ⟨rfl, HB4.out⟩
            | true =>
              by_cases h2 : xt = yt
              · subst h2
                by_cases h3 : xa = ya
                · subst h3
                  by_cases h4 : xm = ym
                  · subst h4
                    by_cases h5 : xn = yn
                    · subst h5
                      have hv : r = true := by rw [← HR.out]; simp [eqE, HEC.out, HEA.out]
                      subst hv
                      clear HR HEC HEA
                      go_wp2_with fail
                      go_ret
                      exact ⟨rfl, HB4.out⟩
                    · have g5 : (xn == yn) = false := by simpa using h5
                      have hv : r = false := by rw [← HR.out]; simp [eqE, h5]
                      subst hv
                      clear HR HEC HEA h5
                      go_wp2_with fail
                      go_ret
                      exact ⟨rfl, HB4.out⟩
                  · have g4 : (xm == ym) = false := by simpa using h4
                    have hv : r = false := by rw [← HR.out]; simp [eqE, h4]
                    subst hv
                    clear HR HEC HEA h4
                    go_wp2_with fail
                    go_ret
                    exact ⟨rfl, HB4.out⟩
                · have g3 : (xa == ya) = false := by simpa using h3
                  have hv : r = false := by rw [← HR.out]; simp [eqE, h3]
                  subst hv
                  clear HR HEC HEA h3
                  go_wp2_with fail
                  go_ret
                  exact ⟨rfl, HB4.out⟩
              · have g2 : (xt == yt) = false := by simpa using h2
                have hv : r = false := by rw [← HR.out]; simp [eqE, h2]
                subst hv
                clear HR HEC HEA h2
                go_wp2_with fail
                go_ret
                exact ⟨rfl, HB4.out⟩
end Go.Proofs.Ytbkkplednfdfdaa
