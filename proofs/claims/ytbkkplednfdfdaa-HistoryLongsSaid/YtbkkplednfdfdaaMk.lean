/- Steps that are made by the statements' texts. Printed by hist_n.py. -/
import Derived.Test.YtbkkplednfdfdaaSt
import Derived.Test.YtbkkplednfdfdaaDids
import Derived.Test.YtbkkplednfdfdaaSteps
namespace Go.Proofs.Ytbkkplednfdfdaa
open Go.RowKit Go.Maps

/-- A step without lists. -/
structure Zd where
  task : Int
  step : Int
  made : Bool
  op : Int
  cnt : Int
def Zd.di (z : Zd) : Di := ⟨z.task, z.step, -1, false, -1, none, 0, 0, z.made, z.op, ⟨#[]⟩, ⟨#[]⟩, ⟨#[]⟩, 0, none, 0, 0, z.op, 0, z.cnt, none, 0, 0, none, 0, 0⟩
def Zd.pd (z : Zd) : PD := ⟨z.task, z.step, z.made, ⟨z.op, ⟨#[]⟩, ⟨#[]⟩, ⟨#[]⟩, 0, []⟩, ⟨z.op, 0, z.cnt, [], []⟩⟩
theorem Zd.r (z : Zd) {R : Rdr} (hR : ∀ t, R t none []) : DiR R z.di z.pd :=
  ⟨rfl, rfl, rfl, ⟨rfl, rfl, rfl, rfl, rfl, rfl, Nat.le_refl _, hR _⟩, ⟨rfl, rfl, rfl, rfl, Nat.le_refl _, hR _, rfl, Nat.le_refl _, [], rfl, hR _, fun i h b hx => by simp at hx⟩⟩
theorem Zd.ok (z : Zd) : z.pd.c.ok ∧ z.pd.a.ok := ⟨Nat.zero_le _, Nat.zero_le _, Nat.zero_le _, fun _ h => by cases h⟩
set_option maxRecDepth 100000 in
set_option maxHeartbeats 4000000 in
theorem is_any (w : World) (task step : Int) :
    Calls Try.prog 16 #[.int .i64 task, .int .i64 step] w fun e w' => e = .returned (.agg #[.int .i64 task, .int .i64 step, .int .i64 (-1), .bool false, .int .i64 (-1), .slice none 0 0, .bool false, .int .i64 0, .string ⟨#[]⟩, .string ⟨#[]⟩, .string ⟨#[]⟩, .int .i64 0, .slice none 0 0, .int .i64 0, .int .i64 0, .int .i64 0, .slice none 0 0, .slice none 0 0]) ∧ Below w.heap.size w w' := by
  have HB := Lib.hid (below_al (Below.refl w.heap.size w) (.cells #[.int .i64 0, .int .i64 0, .int .i64 0, .bool false, .int .i64 0, .slice none 0 0, .bool false, .int .i64 0, .string ⟨#[]⟩, .string ⟨#[]⟩, .string ⟨#[]⟩, .int .i64 0, .slice none 0 0, .int .i64 0, .int .i64 0, .int .i64 0, .slice none 0 0, .slice none 0 0] 51))
  have HZ := Lib.hid (Blk.new w 51 [.int .i64 0, .int .i64 0, .int .i64 0, .bool false, .int .i64 0, .slice none 0 0, .bool false, .int .i64 0, .string ⟨#[]⟩, .string ⟨#[]⟩, .string ⟨#[]⟩, .int .i64 0, .slice none 0 0, .int .i64 0, .int .i64 0, .int .i64 0, .slice none 0 0, .slice none 0 0])
  go_enter Try.func16, Try.ntmps16
  go_upto_region 1 with fail
  obtain ⟨y, hy⟩ : ∃ y, w.heap.size = y := ⟨_, rfl⟩
  have HY := Lib.hid hy
  rw [hy] at HZ ⊢
  clear hy
  generalize w.alloc (.cells #[.int .i64 0, .int .i64 0, .int .i64 0, .bool false, .int .i64 0, .slice none 0 0, .bool false, .int .i64 0, .string ⟨#[]⟩, .string ⟨#[]⟩, .string ⟨#[]⟩, .int .i64 0, .slice none 0 0, .int .i64 0, .int .i64 0, .int .i64 0, .slice none 0 0, .slice none 0 0] 51) = w1 at *
  go_wp2_with (refine wpList_st rfl 51 (.tmp 4) (.tmp 7) rfl y 0 rfl #[.int .i64 task, .int .i64 step, .int .i64 (-1), .bool false, .int .i64 (-1), .slice none 0 0, .bool false, .int .i64 0, .string ⟨#[]⟩, .string ⟨#[]⟩, .string ⟨#[]⟩, .int .i64 0, .slice none 0 0, .int .i64 0, .int .i64 0, .int .i64 0, .slice none 0 0, .slice none 0 0] rfl 51 _ [.int .i64 task, .int .i64 step, .int .i64 (-1), .bool false, .int .i64 (-1), .slice none 0 0, .bool false, .int .i64 0, .string ⟨#[]⟩, .string ⟨#[]⟩, .string ⟨#[]⟩, .int .i64 0, .slice none 0 0, .int .i64 0, .int .i64 0, .int .i64 0, .slice none 0 0, .slice none 0 0] HZ.out (by simp) info51 (by rfl) (by rfl) ?_; intro w2 hb2 hf2)
  refine bodyPost_ret (results_cell_row rfl _ _ y 51 _ (0, 0) _ (by rfl) hb2 Try.underlying51 (by rfl) (by kernel_rfl)) rfl ?_
  exact ⟨rfl, Fr.below HB.out hf2 (fun x hx => by have hx : x = y := hx; have := HY.out; omega)⟩
end Go.Proofs.Ytbkkplednfdfdaa
