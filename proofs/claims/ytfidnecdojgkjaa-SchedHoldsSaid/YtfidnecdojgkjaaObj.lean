/- A scheduler in memory. -/
import Derived.Test.YtfidnecdojgkjaaBasics
namespace Go.Proofs.Ytfidnecdojgkjaa
open Go.RowKit

/-- A scheduler: its block, its map, its numbers; L is what it has picked. -/
structure SS (w : World) (R b : Nat) (q : Option Addr) (c : Nat) (kind : Int) (nums L : List Int) : Prop where
  blk : Blk w R 66 [.int .i64 kind, .slice q nums.length c, .int .i64 L.length, .int .i64 (lastP L), .map (some b)]
  rd : Rd w w.heap.size q (ints nums)
  mp : Mp w b L.length (whenF L)
  rb : R ≠ b
  ne : ∀ a, q = some a → (a.block ≠ R ∧ a.block ≠ b) ∧ a.block < w.heap.size
  ok : Nums kind nums
section
variable {w w1 w2 w' : World} {R b c : Nat} {q : Option Addr} {kind : Int} {nums L L' : List Int}
theorem SS.fr {S : Nat → Prop} (h : SS w R b q c kind nums L) (hf : Fr S w w') (hR : ¬ S R) (hb : ¬ S b) (hq : ∀ a, q = some a → ¬ S a.block) : SS w' R b q c kind nums L :=
  ⟨h.blk.fr hf hR, h.rd.fr hf hq, h.mp.fr hf hb, h.rb, fun a ha => ⟨(h.ne a ha).1, Nat.lt_of_lt_of_le (h.ne a ha).2 hf.size⟩, h.ok⟩
theorem SS.kept (h : SS w R b q c kind nums L) (hb : Below w.heap.size w w') : SS w' R b q c kind nums L := h.fr (Fr.of_below hb (fun _ => False)) (fun h => h) (fun h => h) (fun _ _ h => h)
/-- What a call may change of a scheduler. -/
def SStep (w w' : World) (R b : Nat) (q : Option Addr) (c : Nat) (kind : Int) (nums L : List Int) : Prop := SS w' R b q c kind nums L ∧ Fr (fun x => x = R ∨ x = b) w w'
theorem SStep.of_below (h : SS w R b q c kind nums L) (hb : Below w.heap.size w w') : SStep w w' R b q c kind nums L := ⟨h.kept hb, Fr.of_below hb _⟩
theorem SStep.first (hb : Below w.heap.size w w1) (h : SStep w1 w' R b q c kind nums L) : SStep w w' R b q c kind nums L := ⟨h.1, Fr.first hb h.2⟩
theorem SStep.then_ (h : SStep w w1 R b q c kind nums L) (hb : Below w1.heap.size w1 w') : SStep w w' R b q c kind nums L := ⟨h.1.kept hb, h.2.step hb⟩
theorem SStep.trans (h : SStep w w1 R b q c kind nums L) (k : SStep w1 w2 R b q c kind nums L') : SStep w w2 R b q c kind nums L' := ⟨k.1, h.2.trans k.2 fun _ h => .inl h⟩
theorem SStep.below {w0 : World} (hb : Below w0.heap.size w0 w) (h : SStep w w' R b q c kind nums L) (hR : w0.heap.size ≤ R) (hB : w0.heap.size ≤ b) : Below w0.heap.size w0 w' :=
  Fr.below hb h.2 (fun x hx => by rcases hx with rfl | rfl <;> assumption)
/-- The map's elements. -/
theorem zero3 (w : World) : (zeroValue 3).run Try.prog w = .ok (.int .i64 0) w := by kernel_rfl
theorem under3 : Try.prog.underlying 3 = some (.int .i64) := by kernel_rfl
theorem under64 : Try.prog.underlying 64 = some (.map 3 3) := by kernel_rfl
theorem wf_of {i : Int} (h0 : -9223372036854775808 ≤ i) (h1 : i ≤ 9223372036854775807) : (Lit.int .i64 i).wf = true := by
  simp only [Lit.wf, IntKind.min, IntKind.max, IntKind.signed, IntKind.bits, Bool.and_eq_true, decide_eq_true_eq, if_true]
  omega
theorem look64 {n : Nat} {f : Int → Option Value} (h : Mp w b n f) (i : Int) (h0 : -9223372036854775808 ≤ i) (h1 : i ≤ 9223372036854775807) :
    (Instr.lookup 64 (.map (some b)) (.int .i64 i) false).run Try.prog w = .ok ((f i).getD (.int .i64 0)) w :=
  h.look under3 under64 (zero3 w) i (wf_of h0 h1) false
end
end Go.Proofs.Ytfidnecdojgkjaa
