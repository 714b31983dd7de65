/- Plain facts on FNV-1a and on lists; nothing of the program stands here. -/
import Derived.WalkKit
namespace Go.Proofs.YtflpcolpklnipaaDoor
open Go.RowKit

def st32 (n x : Nat) : Nat := (n ^^^ x) * 16777619 % 4294967296
def f32 (l : List UInt8) : Nat := l.foldl (fun n x => st32 n x.toNat) 2166136261
theorem f32_lt (l : List UInt8) : f32 l < 4294967296 := by
  unfold f32
  suffices h : ∀ (l : List UInt8) (n : Nat), n < 4294967296 → l.foldl (fun n x => st32 n x.toNat) n < 4294967296 from h l _ (by decide)
  intro l
  induction l with
  | nil => intro n h; exact h
  | cons x l ih => intro n _; exact ih _ (Nat.mod_lt _ (by decide))
theorem take_snoc (s : ByteArray) (k : Nat) (h : k < s.size) : s.data.toList.take (k + 1) = s.data.toList.take k ++ [s[k]] := by
  rw [List.take_succ_eq_append_getElem (by simpa using h)]; rfl
theorem f32_step (s : ByteArray) (k : Nat) (h : k < s.size) : f32 (s.data.toList.take (k + 1)) = st32 (f32 (s.data.toList.take k)) s[k].toNat := by
  rw [take_snoc s k h]; unfold f32; rw [List.foldl_append, List.foldl_cons, List.foldl_nil]
theorem st32_walk (n : Nat) (x : Nat) (hn : n < 4294967296) (hx : x < 256) : IntKind.u32.wrap (bits .xor .u32 (n : Int) (x : Int) * 16777619) = ((st32 n x : Nat) : Int) := by
  rw [u32_xor_nat n x hn (by omega), IntKind.wrap_u32]
  unfold st32
  have h : n ^^^ x < 2 ^ 32 := Nat.xor_lt_two_pow hn (by omega)
  omega

def st64 (n x : Nat) : Nat := (n ^^^ x) * 1099511628211 % 18446744073709551616
def f64 (l : List UInt8) : Nat := l.foldl (fun n x => st64 n x.toNat) 14695981039346656037
theorem f64_lt (l : List UInt8) : f64 l < 18446744073709551616 := by
  unfold f64
  suffices h : ∀ (l : List UInt8) (n : Nat), n < 18446744073709551616 → l.foldl (fun n x => st64 n x.toNat) n < 18446744073709551616 from h l _ (by decide)
  intro l
  induction l with
  | nil => intro n h; exact h
  | cons x l ih => intro n _; exact ih _ (Nat.mod_lt _ (by decide))
theorem f64_step (s : ByteArray) (k : Nat) (h : k < s.size) : f64 (s.data.toList.take (k + 1)) = st64 (f64 (s.data.toList.take k)) s[k].toNat := by
  rw [take_snoc s k h]; unfold f64; rw [List.foldl_append, List.foldl_cons, List.foldl_nil]
theorem st64_walk (n : Nat) (x : Nat) (hn : n < 18446744073709551616) (hx : x < 256) : IntKind.u64.wrap (bits .xor .u64 (n : Int) (x : Int) * 1099511628211) = ((st64 n x : Nat) : Int) := by
  rw [u64_xor_nat n x hn (by omega), IntKind.wrap_u64]
  unfold st64
  omega
/-- The reference's step with 32 bits, reckoned with 64. -/
theorem st32_ref (n : Nat) (x : Nat) (hn : n < 4294967296) (hx : x < 256) : (IntKind.u64.wrap (bits .xor .u64 (n : Int) (x : Int) * 16777619)).tmod 4294967296 = ((st32 n x : Nat) : Int) := by
  rw [u64_xor_nat n x (by omega) (by omega), IntKind.wrap_u64]
  unfold st32
  have h : n ^^^ x < 2 ^ 32 := Nat.xor_lt_two_pow hn (by omega)
  rw [Int.tmod_eq_emod_of_nonneg (by omega)]
  omega
/-- The reference's step with 64 bits: a shift and a product by 435. -/
theorem st64_ref (n : Nat) (x : Nat) (hn : n < 18446744073709551616) (hx : x < 256) :
    IntKind.u64.wrap (IntKind.u64.wrap (bits .xor .u64 (n : Int) (x : Int) * 1099511627776) + IntKind.u64.wrap (bits .xor .u64 (n : Int) (x : Int) * 435)) = ((st64 n x : Nat) : Int) := by
  rw [u64_xor_nat n x hn (by omega), IntKind.wrap_u64, IntKind.wrap_u64, IntKind.wrap_u64]
  unfold st64
  omega
/-! ### How many keys each stripe has; which stripes have keys -/
def bump (l : List Int) (i : Nat) : List Int := l.set i (l.getD i 0 + 1)
def cntIs (n : Nat) (is : List Nat) : List Int := is.foldl bump (List.replicate n 0)
theorem bump_len (l : List Int) (i : Nat) : (bump l i).length = l.length := by simp [bump]
theorem cntIs_snoc (n : Nat) (is : List Nat) (i : Nat) : cntIs n (is ++ [i]) = bump (cntIs n is) i := by simp [cntIs, List.foldl_append]
theorem foldl_bump_len (is : List Nat) : ∀ l : List Int, (is.foldl bump l).length = l.length := by
  induction is with
  | nil => intro l; rfl
  | cons i is ih => intro l; rw [List.foldl_cons, ih, bump_len]
theorem cntIs_len (n : Nat) (is : List Nat) : (cntIs n is).length = n := by rw [cntIs, foldl_bump_len]; simp
theorem foldl_bump_bd (is : List Nat) : ∀ (l : List Int) (b : Int), (∀ x ∈ l, 0 ≤ x ∧ x ≤ b) → 0 ≤ b → ∀ x ∈ is.foldl bump l, 0 ≤ x ∧ x ≤ b + is.length := by
  induction is with
  | nil => intro l b h _ x hx; have := h x hx; simp; omega
  | cons i is ih =>
    intro l b h hb x hx
    have := ih (bump l i) (b + 1) (fun y hy => by
      rcases List.mem_or_eq_of_mem_set hy with h1 | h1
      · have := h y h1; omega
      · subst h1
        have : 0 ≤ l.getD i 0 ∧ l.getD i 0 ≤ b := by
          rcases Nat.lt_or_ge i l.length with h2 | h2
          · rw [List.getD_eq_getElem?_getD, List.getElem?_eq_getElem h2]; exact h _ (List.getElem_mem h2)
          · rw [List.getD_eq_getElem?_getD, List.getElem?_eq_none h2]; exact ⟨Int.le_refl _, hb⟩
        omega) (by omega) x hx
    rw [List.length_cons]
    omega
theorem cntIs_bd (n : Nat) (is : List Nat) (x : Int) (hx : x ∈ cntIs n is) : 0 ≤ x ∧ x ≤ is.length := by
  have := foldl_bump_bd is (List.replicate n 0) 0 (fun y hy => by have := List.eq_of_mem_replicate hy; omega) (Int.le_refl _) x hx
  omega

/-- The places below k at which l is positive. -/
def posTo (l : List Int) (k : Nat) : List Int := ((List.range k).filter fun i => decide (0 < l.getD i 0)).map Int.ofNat
def pos (l : List Int) : List Int := posTo l l.length
theorem posTo_yes (l : List Int) (k : Nat) (h : 0 < l.getD k 0) : posTo l (k + 1) = posTo l k ++ [(k : Int)] := by
  have hd : decide (0 < l.getD k 0) = true := by simpa using h
  rw [posTo, List.range_succ, List.filter_append, List.filter_cons, if_pos hd]
  simp [posTo]
theorem posTo_no (l : List Int) (k : Nat) (h : ¬ 0 < l.getD k 0) : posTo l (k + 1) = posTo l k := by
  have hd : ¬ decide (0 < l.getD k 0) = true := by simpa using h
  rw [posTo, List.range_succ, List.filter_append, List.filter_cons, if_neg hd]
  simp [posTo]
theorem posTo_len (l : List Int) (k : Nat) : (posTo l k).length ≤ k := by
  unfold posTo
  rw [List.length_map]
  exact Nat.le_trans (List.length_filter_le _ _) (by simp)

end Go.Proofs.YtflpcolpklnipaaDoor
