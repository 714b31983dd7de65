/- Copy. -/
import Derived.Test.YtfidnecdojgkjaaKnown
import Derived.Laws.Externs
import Derived.MapKept
namespace Go.Proofs.Ytfidnecdojgkjaa
open Go.RowKit

theorem eql_map_nil {P : Program} (t k e : TypeId) (p : Option Nat) (w : World) (h : P.underlying t = some (.map k e)) : (binOp .eql t (.map p) (.map none)).run P w = .ok (.bool p.isNone) w := by
  have h1 : ∀ d, (Op.equalIn (d + 1) t (.map p) (.map none)).run P w = .ok p.isNone w := fun d => by cases p <;> simp [Op.equalIn, run_underlying h]
  simp only [binOp]
  simp [show Op.equal t (.map p) (.map none) = Op.equalIn (9999 + 1) t (.map p) (.map none) from rfl, h1 9999]
theorem assert_map {P : Program} (t x k e : TypeId) (v : Value) (w : World) (h : P.underlying t = some (.map k e)) : (Instr.typeAssert (.iface t v) x t false).run P w = .ok v w := by
  simp [Instr.typeAssert, run_underlying h, go_sem, Result.andThen]
theorem run_mclone {P : Program} {w : World} {r : Nat} {es : Array MapEntry} {clock : Nat} (t : TypeId) (hb : w.heap[r]? = some (.map es clock)) :
    (Extern.MapsClone.clone #[.iface t (.map (some r))]).run P w = .ok (.iface t (.map (some w.heap.size))) (w.alloc (.map es clock)) := by
  have e : Extern.MapsClone.clone #[.iface t (.map (some r))] = (getObj r >>= fun o => match o with
      | .map entries clock => (newObj (.map entries clock) >>= fun n => pure (.iface t (.map (some n))))
      | _ => stuck "maps.clone: a map expected") := rfl
  rw [e]
  simp [MapKept.run_getObj_map hb, Result.andThen, go_sem]
theorem mclone_any {w : World} {b : Nat} {es : Array MapEntry} {clock : Nat} (hb : w.heap[b]? = some (.map es clock)) :
    Calls Try.prog 39 #[.map (some b)] w fun e w' => e = .returned (.map (some w.heap.size)) ∧ w' = w.alloc (.map es clock) := by
  have hq := fun w => eql_map_nil (P := Try.prog) 64 3 3 (some b) w under64
  go_enter Try.func39, Try.ntmps39
  go_wp2
  rw [run_callFunc_extern Try.func46 (by kernel_rfl) (by kernel_rfl) (by kernel_rfl) (e := Extern.MapsClone.clone) (by kernel_rfl), run_mclone 64 hb]
  simp only [Result.andThen]
  rw [Oper.upon_value]
  go_wp2
  rw [assert_map 64 20 3 3 _ _ under64]
  simp only [Result.andThen]
  rw [Oper.upon_value]
  go_wp2
  go_ret
  exact ⟨rfl, rfl⟩
set_option maxRecDepth 100000 in
theorem copy_any {w : World} {R b c : Nat} {q : Option Addr} {kind : Int} {nums L : List Int} (h : SS w R b q c kind nums L) :
    Calls Try.prog 25 #[.pointer (some ⟨R, 0, none⟩)] w fun e w' => ∃ R2 b2, e = .returned (.pointer (some ⟨R2, 0, none⟩)) ∧ SS w' R2 b2 q c kind nums L ∧ w.heap.size ≤ R2 ∧ w.heap.size ≤ b2 ∧ Below w.heap.size w w' := by
  have hk0 : (kind == 0) = false := by rw [beq_eq_false_iff_ne]; have := h.ok.lo; omega
  have HS := Lib.hid h
  have c0 := h.blk.cell 0
  have c1 := h.blk.cell 1
  have c2 := h.blk.cell 2
  have c3 := h.blk.cell 3
  have c4 := h.blk.cell 4
  simp only [List.getElem?_cons_zero, List.getElem?_cons_succ] at c0 c1 c2 c3 c4
  obtain ⟨es, clock, hbm⟩ := h.mp.raw
  obtain ⟨n, hn⟩ : ∃ n, nums.length = n := ⟨_, rfl⟩
  obtain ⟨m, hm⟩ : ∃ m, L.length = m := ⟨_, rfl⟩
  obtain ⟨z, hz⟩ : ∃ z, lastP L = z := ⟨_, rfl⟩
  rw [hn] at c1
  rw [hm] at c2
  rw [hz] at c3
  have HN := Lib.hid hn
  have HM := Lib.hid hm
  have HZ := Lib.hid hz
  have HBM := Lib.hid hbm
  obtain ⟨wa, hwa⟩ : ∃ wa, w.alloc (.cells #[.int .i64 kind, .slice q n c, .int .i64 m, .int .i64 z, .map (some b)] 66) = wa := ⟨_, rfl⟩
  have HBa := Lib.hid (show Below w.heap.size w wa by rw [← hwa]; exact (Below.refl _ _).alloc (Nat.le_refl _) _)
  have HBk := Lib.hid (show Blk wa w.heap.size 66 [.int .i64 kind, .slice q n c, .int .i64 m, .int .i64 z, .map (some b)] by rw [← hwa]; exact Blk.new w 66 _)
  have HMC := Lib.hid (mclone_any (w := wa) (b := b) (es := es) (clock := clock) ((HBa.out.block b h.mp.lt).trans hbm))
  have HSZ := Lib.hid (show wa.heap.size = w.heap.size + 1 by rw [← hwa]; simp)
  have e4 : wa.cell? ⟨R, 4, none⟩ = some (.map (some b)) := (h.kept HBa.out).blk.cell 4
  clear h hn hm hz hbm
  go_enter Try.func25, Try.ntmps25
  go_wp2_with fail
  refine HMC.out.mono ?_
  rintro e w1 ⟨rfl, rfl⟩
  have HB1 := Lib.hid ((Below.refl wa.heap.size wa).alloc (Nat.le_refl _) (.map es clock))
  have HBk1 := Lib.hid (HBk.out.kept HB1.out)
  have HM1 := Lib.hid (HS.out.mp.copied HBM.out (w' := wa.alloc (.map es clock)) (c := wa.heap.size) (heap_alloc_new wa _))
  have HS1 := Lib.hid ((HS.out.kept HBa.out).kept HB1.out)
  have f4 := HBk1.out.free 4
  have d4 := HBk1.out.cell 4
  simp only [List.getElem?_cons_zero, List.getElem?_cons_succ] at d4
  clear c0 c1 c2 c3 c4 e4 hwa
  generalize hw1 : wa.alloc (.map es clock) = w1 at *
  go_wp2_with fail
  go_ret
  have hF : Fr (fun x => x = w.heap.size) w1 (w1.setCell ⟨w.heap.size, 4, none⟩ (.map (some wa.heap.size))) := (Fr.refl _ _).set _ _ (.inl rfl)
  have hS : SS (w1.setCell ⟨w.heap.size, 4, none⟩ (.map (some wa.heap.size))) R b q c kind nums L := HS1.out.fr hF (fun e => by have := HS.out.blk.lt; omega) (fun e => by have := HS.out.mp.lt; omega) (fun a ha e => by have := (HS.out.ne a ha).2; omega)
  refine ⟨w.heap.size, wa.heap.size, rfl, ⟨?_, hS.rd, ?_, by have := HSZ.out; omega, ?_, hS.ok⟩, Nat.le_refl _, by have := HSZ.out; omega, Fr.below (below_step HBa.out HB1.out) hF (fun x hx => by omega)⟩
  · rw [HN.out, HM.out, HZ.out]
    exact HBk1.out.set_ 4 _
  · exact HM1.out.fr hF (by have := HSZ.out; omega)
  · intro a ha
    have := (HS.out.ne a ha).2
    exact ⟨⟨by omega, by have := HSZ.out; omega⟩, (hS.ne a ha).2⟩
end Go.Proofs.Ytfidnecdojgkjaa
