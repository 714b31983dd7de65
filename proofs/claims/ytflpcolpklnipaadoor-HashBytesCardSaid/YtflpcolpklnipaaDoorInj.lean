/- FNV-1a parts strings of one length that differ in one byte. Nothing of the program stands here. -/
import Derived.Test.YtflpcolpklnipaaDoorPlain
namespace Go.Proofs.YtflpcolpklnipaaDoor

theorem mul32_inj (a b : Nat) (ha : a < 4294967296) (hb : b < 4294967296) (h : a * 16777619 % 4294967296 = b * 16777619 % 4294967296) : a = b := by
  have h1 : a * 16777619 % 4294967296 * 899433627 % 4294967296 = b * 16777619 % 4294967296 * 899433627 % 4294967296 := by rw [h]
  have e : ∀ x : Nat, x * 16777619 % 4294967296 * 899433627 % 4294967296 = x % 4294967296 := fun x => by
    rw [Nat.mod_mul_mod, Nat.mul_assoc, Nat.mul_mod]
    rw [show 16777619 * 899433627 % 4294967296 = 1 from by decide +kernel, Nat.mul_one, Nat.mod_mod]
  rw [e, e, Nat.mod_eq_of_lt ha, Nat.mod_eq_of_lt hb] at h1
  exact h1
theorem st32_inj (n m x y : Nat) (hn : n < 4294967296) (hm : m < 4294967296) (hx : x < 4294967296) (hy : y < 4294967296) (h : st32 n x = st32 m y) : n ^^^ x = m ^^^ y :=
  mul32_inj _ _ (Nat.xor_lt_two_pow (n := 32) hn hx) (Nat.xor_lt_two_pow (n := 32) hm hy) h
theorem fold32_inj : ∀ (l : List UInt8) (n m : Nat), n < 4294967296 → m < 4294967296 → l.foldl (fun n x => st32 n x.toNat) n = l.foldl (fun n x => st32 n x.toNat) m → n = m
  | [], n, m, _, _, h => h
  | x :: l, n, m, hn, hm, h => by
    have h1 := fold32_inj l (st32 n x.toNat) (st32 m x.toNat) (Nat.mod_lt _ (by decide)) (Nat.mod_lt _ (by decide)) h
    have hx : x.toNat < 4294967296 := Nat.lt_trans x.toNat_lt (by decide)
    have h2 := st32_inj n m x.toNat x.toNat hn hm hx hx h1
    have h3 : (n ^^^ x.toNat) ^^^ x.toNat = (m ^^^ x.toNat) ^^^ x.toNat := by rw [h2]
    rwa [Nat.xor_assoc, Nat.xor_self, Nat.xor_zero, Nat.xor_assoc, Nat.xor_self, Nat.xor_zero] at h3
/-- Two strings that differ in one byte alone have different hashes. -/
theorem f32_set (l : List UInt8) (i : Nat) (h : i < l.length) (y : UInt8) (hy : y ≠ l[i]) : f32 (l.set i y) ≠ f32 l := by
  intro he
  have e1 : l = l.take i ++ l[i] :: l.drop (i + 1) := by rw [List.getElem_cons_drop, List.take_append_drop]
  have e2 : l.set i y = l.take i ++ y :: l.drop (i + 1) := by rw [List.set_eq_take_append_cons_drop, if_pos h]
  have hf : ∀ z : UInt8, f32 (l.take i ++ z :: l.drop (i + 1)) = (l.drop (i + 1)).foldl (fun n x => st32 n x.toNat) (st32 (f32 (l.take i)) z.toNat) := fun z => by
    unfold f32; rw [List.foldl_append, List.foldl_cons]
  rw [e2, hf y] at he
  rw [show f32 l = f32 (l.take i ++ l[i] :: l.drop (i + 1)) from congrArg f32 e1, hf] at he
  have h1 := fold32_inj _ _ _ (Nat.mod_lt _ (by decide)) (Nat.mod_lt _ (by decide)) he
  have hn := f32_lt (l.take i)
  have h2 := st32_inj _ _ _ _ hn hn (Nat.lt_trans y.toNat_lt (by decide)) (Nat.lt_trans (l[i]).toNat_lt (by decide)) h1
  have h3 : f32 (l.take i) ^^^ (f32 (l.take i) ^^^ y.toNat) = f32 (l.take i) ^^^ (f32 (l.take i) ^^^ l[i].toNat) := by rw [h2]
  rw [← Nat.xor_assoc, ← Nat.xor_assoc, Nat.xor_self, Nat.zero_xor, Nat.zero_xor] at h3
  exact hy (UInt8.toNat_inj.1 h3)

theorem mul64_inj (a b : Nat) (ha : a < 18446744073709551616) (hb : b < 18446744073709551616) (h : a * 1099511628211 % 18446744073709551616 = b * 1099511628211 % 18446744073709551616) : a = b := by
  have h1 : a * 1099511628211 % 18446744073709551616 * 14886173955864302971 % 18446744073709551616 = b * 1099511628211 % 18446744073709551616 * 14886173955864302971 % 18446744073709551616 := by rw [h]
  have e : ∀ x : Nat, x * 1099511628211 % 18446744073709551616 * 14886173955864302971 % 18446744073709551616 = x % 18446744073709551616 := fun x => by
    rw [Nat.mod_mul_mod, Nat.mul_assoc, Nat.mul_mod]
    rw [show 1099511628211 * 14886173955864302971 % 18446744073709551616 = 1 from by decide +kernel, Nat.mul_one, Nat.mod_mod]
  rw [e, e, Nat.mod_eq_of_lt ha, Nat.mod_eq_of_lt hb] at h1
  exact h1
theorem st64_inj (n m x y : Nat) (hn : n < 18446744073709551616) (hm : m < 18446744073709551616) (hx : x < 18446744073709551616) (hy : y < 18446744073709551616) (h : st64 n x = st64 m y) : n ^^^ x = m ^^^ y :=
  mul64_inj _ _ (Nat.xor_lt_two_pow (n := 64) hn hx) (Nat.xor_lt_two_pow (n := 64) hm hy) h
theorem fold64_inj : ∀ (l : List UInt8) (n m : Nat), n < 18446744073709551616 → m < 18446744073709551616 → l.foldl (fun n x => st64 n x.toNat) n = l.foldl (fun n x => st64 n x.toNat) m → n = m
  | [], n, m, _, _, h => h
  | x :: l, n, m, hn, hm, h => by
    have h1 := fold64_inj l (st64 n x.toNat) (st64 m x.toNat) (Nat.mod_lt _ (by decide)) (Nat.mod_lt _ (by decide)) h
    have hx : x.toNat < 18446744073709551616 := Nat.lt_trans x.toNat_lt (by decide)
    have h2 := st64_inj n m x.toNat x.toNat hn hm hx hx h1
    have h3 : (n ^^^ x.toNat) ^^^ x.toNat = (m ^^^ x.toNat) ^^^ x.toNat := by rw [h2]
    rwa [Nat.xor_assoc, Nat.xor_self, Nat.xor_zero, Nat.xor_assoc, Nat.xor_self, Nat.xor_zero] at h3
/-- Two strings that differ in one byte alone have different hashes. -/
theorem f64_set (l : List UInt8) (i : Nat) (h : i < l.length) (y : UInt8) (hy : y ≠ l[i]) : f64 (l.set i y) ≠ f64 l := by
  intro he
  have e1 : l = l.take i ++ l[i] :: l.drop (i + 1) := by rw [List.getElem_cons_drop, List.take_append_drop]
  have e2 : l.set i y = l.take i ++ y :: l.drop (i + 1) := by rw [List.set_eq_take_append_cons_drop, if_pos h]
  have hf : ∀ z : UInt8, f64 (l.take i ++ z :: l.drop (i + 1)) = (l.drop (i + 1)).foldl (fun n x => st64 n x.toNat) (st64 (f64 (l.take i)) z.toNat) := fun z => by
    unfold f64; rw [List.foldl_append, List.foldl_cons]
  rw [e2, hf y] at he
  rw [show f64 l = f64 (l.take i ++ l[i] :: l.drop (i + 1)) from congrArg f64 e1, hf] at he
  have h1 := fold64_inj _ _ _ (Nat.mod_lt _ (by decide)) (Nat.mod_lt _ (by decide)) he
  have hn := f64_lt (l.take i)
  have h2 := st64_inj _ _ _ _ hn hn (Nat.lt_trans y.toNat_lt (by decide)) (Nat.lt_trans (l[i]).toNat_lt (by decide)) h1
  have h3 : f64 (l.take i) ^^^ (f64 (l.take i) ^^^ y.toNat) = f64 (l.take i) ^^^ (f64 (l.take i) ^^^ l[i].toNat) := by rw [h2]
  rw [← Nat.xor_assoc, ← Nat.xor_assoc, Nat.xor_self, Nat.zero_xor, Nat.zero_xor] at h3
  exact hy (UInt8.toNat_inj.1 h3)
end Go.Proofs.YtflpcolpklnipaaDoor
