/- Steps that are made by the statements' texts. Printed by hist_n.py. -/
import Derived.Test.YtbkkplednfdfdaaMk
namespace Go.Proofs.Ytbkkplednfdfdaa
open Go.RowKit Go.Maps

set_option maxRecDepth 100000 in
set_option maxHeartbeats 4000000 in
theorem made17_any (w : World) (task step op : Int) :
    Calls Try.prog 17 #[.int .i64 task, .int .i64 step, .int .i64 op] w fun e w' => e = .returned (.agg #[.int .i64 task, .int .i64 step, .int .i64 (-1), .bool false, .int .i64 (-1), .slice none 0 0, .bool true, .int .i64 op, .string ⟨#[]⟩, .string ⟨#[]⟩, .string ⟨#[]⟩, .int .i64 0, .slice none 0 0, .int .i64 op, .int .i64 0, .int .i64 1, .slice none 0 0, .slice none 0 0]) ∧ Below w.heap.size w w' := by
  have HI := Lib.hid (fun w => is_any w task step)
  go_enter Try.func17, Try.ntmps17
  go_wp2_with fail
  refine (HI.out _).mono ?_
  rintro e w1 ⟨rfl, hb⟩
  go_upto_region 2 with fail
  have HB := Lib.hid (below_al (below_step (below_al (Below.refl w.heap.size w) (.cells #[.int .i64 0, .int .i64 0, .int .i64 0, .bool false, .int .i64 0, .slice none 0 0, .bool false, .int .i64 0, .string ⟨#[]⟩, .string ⟨#[]⟩, .string ⟨#[]⟩, .int .i64 0, .slice none 0 0, .int .i64 0, .int .i64 0, .int .i64 0, .slice none 0 0, .slice none 0 0] 51)) hb) (.cells #[.int .i64 task, .int .i64 step, .int .i64 (-1), .bool false, .int .i64 (-1), .slice none 0 0, .bool false, .int .i64 0, .string ⟨#[]⟩, .string ⟨#[]⟩, .string ⟨#[]⟩, .int .i64 0, .slice none 0 0, .int .i64 0, .int .i64 0, .int .i64 0, .slice none 0 0, .slice none 0 0] 51))
  have HD := Lib.hid (Blk.new w1 51 [.int .i64 task, .int .i64 step, .int .i64 (-1), .bool false, .int .i64 (-1), .slice none 0 0, .bool false, .int .i64 0, .string ⟨#[]⟩, .string ⟨#[]⟩, .string ⟨#[]⟩, .int .i64 0, .slice none 0 0, .int .i64 0, .int .i64 0, .int .i64 0, .slice none 0 0, .slice none 0 0])
  have HZ := Lib.hid (((Blk.new w 51 [.int .i64 0, .int .i64 0, .int .i64 0, .bool false, .int .i64 0, .slice none 0 0, .bool false, .int .i64 0, .string ⟨#[]⟩, .string ⟨#[]⟩, .string ⟨#[]⟩, .int .i64 0, .slice none 0 0, .int .i64 0, .int .i64 0, .int .i64 0, .slice none 0 0, .slice none 0 0]).kept hb).alloc (.cells #[.int .i64 task, .int .i64 step, .int .i64 (-1), .bool false, .int .i64 (-1), .slice none 0 0, .bool false, .int .i64 0, .string ⟨#[]⟩, .string ⟨#[]⟩, .string ⟨#[]⟩, .int .i64 0, .slice none 0 0, .int .i64 0, .int .i64 0, .int .i64 0, .slice none 0 0, .slice none 0 0] 51))
  have HSZ := Lib.hid hb.size
  clear hb
  generalize w1.alloc (.cells #[.int .i64 task, .int .i64 step, .int .i64 (-1), .bool false, .int .i64 (-1), .slice none 0 0, .bool false, .int .i64 0, .string ⟨#[]⟩, .string ⟨#[]⟩, .string ⟨#[]⟩, .int .i64 0, .slice none 0 0, .int .i64 0, .int .i64 0, .int .i64 0, .slice none 0 0, .slice none 0 0] 51) = w2 at *
  obtain ⟨y, hy⟩ : ∃ y, w.heap.size = y := ⟨_, rfl⟩
  obtain ⟨z, hz⟩ : ∃ z, w1.heap.size = z := ⟨_, rfl⟩
  have HYZ : Hid (y ≠ z) := Lib.hid (fun e => by have h1 := HSZ.out; simp at h1; omega)
  have HYE := Lib.hid hy
  have HZY : Hid (y < z) := Lib.hid (by have h1 := HSZ.out; simp at h1; omega)
  rw [hy] at HZ
  rw [hz] at HD
  rw [hy, hz]
  clear HSZ hy hz
  have d6 := HD.out.got 6 _ rfl
  have g6 := HD.out.free 6
  have HD7 : Hid (Blk _ z 51 [.int .i64 task, .int .i64 step, .int .i64 (-1), .bool false, .int .i64 (-1), .slice none 0 0, .bool true, .int .i64 0, .string ⟨#[]⟩, .string ⟨#[]⟩, .string ⟨#[]⟩, .int .i64 0, .slice none 0 0, .int .i64 0, .int .i64 0, .int .i64 0, .slice none 0 0, .slice none 0 0]) := Lib.hid (HD.out.set_ 6 (.bool true))
  have HY7 := Lib.hid (HZ.out.far (p := ⟨z, 6, none⟩) HYZ.out (.bool true))
  have HF7 := Lib.hid ((Fr.refl (fun x => x = z) w2).set ⟨z, 6, none⟩ (.bool true) (.inl rfl))
  go_upto_region 3 with (first | (refine wpList_st rfl 39 (.tmp 16) (.tmp 12) rfl z 7 rfl #[.int .i64 op, .string ⟨#[]⟩, .string ⟨#[]⟩, .string ⟨#[]⟩, .int .i64 0, .slice none 0 0] rfl 51 _ [.int .i64 task, .int .i64 step, .int .i64 (-1), .bool false, .int .i64 (-1), .slice none 0 0, .bool true, .int .i64 op, .string ⟨#[]⟩, .string ⟨#[]⟩, .string ⟨#[]⟩, .int .i64 0, .slice none 0 0, .int .i64 0, .int .i64 0, .int .i64 0, .slice none 0 0, .slice none 0 0] HD7.out (by simp) info39 (by rfl) (by rfl) ?_; intro w3 hb3 hf3; have HD3 := Lib.hid hb3; have HF3 := Lib.hid hf3; clear hb3 hf3) | (refine wpList_st rfl 36 (.tmp 17) (.tmp 14) rfl z 13 rfl #[.int .i64 op, .int .i64 0, .int .i64 1, .slice none 0 0, .slice none 0 0] rfl 51 _ [.int .i64 task, .int .i64 step, .int .i64 (-1), .bool false, .int .i64 (-1), .slice none 0 0, .bool true, .int .i64 op, .string ⟨#[]⟩, .string ⟨#[]⟩, .string ⟨#[]⟩, .int .i64 0, .slice none 0 0, .int .i64 op, .int .i64 0, .int .i64 1, .slice none 0 0, .slice none 0 0] HD3.out (by simp) info36 (by rfl) (by rfl) ?_; intro w4 hb4 hf4; have HD4 := Lib.hid hb4; have HF4 := Lib.hid hf4; clear hb4 hf4))
  have HF := Lib.hid ((HF7.out.trans HF3.out (fun _ h => .inl h)).trans HF4.out (fun _ h => .inl h))
  have HY4 := Lib.hid (HZ.out.fr HF.out HYZ.out)
  clear d6 g6
  go_wp2_with (first | refine wpList_ld rfl 51 (.tmp 7) rfl z 0 rfl #[.int .i64 task, .int .i64 step, .int .i64 (-1), .bool false, .int .i64 (-1), .slice none 0 0, .bool true, .int .i64 op, .string ⟨#[]⟩, .string ⟨#[]⟩, .string ⟨#[]⟩, .int .i64 0, .slice none 0 0, .int .i64 op, .int .i64 0, .int .i64 1, .slice none 0 0, .slice none 0 0] [.int .i64 task, .int .i64 step, .int .i64 (-1), .bool false, .int .i64 (-1), .slice none 0 0, .bool true, .int .i64 op, .string ⟨#[]⟩, .string ⟨#[]⟩, .string ⟨#[]⟩, .int .i64 0, .slice none 0 0, .int .i64 op, .int .i64 0, .int .i64 1, .slice none 0 0, .slice none 0 0] rfl _ HD4.out.range Try.underlying51 rfl info51 ?_ | (refine wpList_st rfl 51 (.tmp 6) (.tmp 18) rfl y 0 rfl #[.int .i64 task, .int .i64 step, .int .i64 (-1), .bool false, .int .i64 (-1), .slice none 0 0, .bool true, .int .i64 op, .string ⟨#[]⟩, .string ⟨#[]⟩, .string ⟨#[]⟩, .int .i64 0, .slice none 0 0, .int .i64 op, .int .i64 0, .int .i64 1, .slice none 0 0, .slice none 0 0] rfl 51 _ [.int .i64 task, .int .i64 step, .int .i64 (-1), .bool false, .int .i64 (-1), .slice none 0 0, .bool true, .int .i64 op, .string ⟨#[]⟩, .string ⟨#[]⟩, .string ⟨#[]⟩, .int .i64 0, .slice none 0 0, .int .i64 op, .int .i64 0, .int .i64 1, .slice none 0 0, .slice none 0 0] HY4.out (by simp) info51 (by rfl) (by rfl) ?_; intro w5 hb5 hf5))
  refine bodyPost_ret (results_cell_row rfl _ _ y 51 _ (0, 0) _ (by rfl) hb5 Try.underlying51 (by rfl) (by kernel_rfl)) rfl ?_
  exact ⟨rfl, Fr.below (Fr.below HB.out HF.out (fun x hx => by have := HYE.out; have := HZY.out; have hx : x = z := hx; omega)) hf5 (fun x hx => by have := HYE.out; have hx : x = y := hx; omega)⟩
end Go.Proofs.Ytbkkplednfdfdaa
