/- Bytes: plain words, and what a reader and a writer look like in memory. -/
import Derived.Test.YtmhkbchbglnbpaaSide
import Derived.Test.YtmhkbchbglnbpaaBase
import Derived.Laws.BytesArg
import Derived.Lib.ConvBytes
namespace Go.Proofs.Ytmhkbchbglnbpaa
open Go.RowKit

/-! ### plain words -/
/-- A list of bytes. -/
def Bs (l : List Int) : Prop := ∀ x ∈ l, 0 ≤ x ∧ x < 256
theorem Bs.nil : Bs [] := by simp [Bs]
theorem Bs.cons {x : Int} {l : List Int} (h0 : 0 ≤ x) (h1 : x < 256) (h : Bs l) : Bs (x :: l) := by
  intro y hy
  rcases List.mem_cons.1 hy with rfl | hy
  · exact ⟨h0, h1⟩
  · exact h y hy
theorem Bs.app {a b : List Int} (ha : Bs a) (hb : Bs b) : Bs (a ++ b) := fun x hx => (List.mem_append.1 hx).elim (ha x) (hb x)
theorem Bs.drop {l : List Int} (h : Bs l) (k : Nat) : Bs (l.drop k) := fun x hx => h x (List.mem_of_mem_drop hx)
theorem Bs.take {l : List Int} (h : Bs l) (k : Nat) : Bs (l.take k) := fun x hx => h x (List.mem_of_mem_take hx)
theorem Bs.at_ {l : List Int} (h : Bs l) {k : Nat} (hk : k < l.length) : 0 ≤ l[k] ∧ l[k] < 256 := h _ (List.getElem_mem hk)
/-- The bytes of a number. -/
def numB (n : Nat) : List Int := if n < 128 then [(n : Int)] else ((n % 128 + 128 : Nat) : Int) :: numB (n / 128)
theorem numB_lo {n : Nat} (h : n < 128) : numB n = [(n : Int)] := by rw [numB, if_pos h]
theorem numB_hi {n : Nat} (h : ¬ n < 128) : numB n = ((n % 128 + 128 : Nat) : Int) :: numB (n / 128) := by rw [numB, if_neg h]
theorem numB_bs : ∀ n : Nat, Bs (numB n) := by
  intro n
  induction n using Nat.strongRecOn with
  | ind n ih =>
    by_cases h : n < 128
    · rw [numB_lo h]; exact Bs.cons (by omega) (by omega) Bs.nil
    · rw [numB_hi h]; exact Bs.cons (by omega) (by omega) (ih (n / 128) (by omega))
theorem numB_len_pos (n : Nat) : 1 ≤ (numB n).length := by
  by_cases h : n < 128
  · rw [numB_lo h]; simp
  · rw [numB_hi h]; simp
/-- A number below 128^k has at most k bytes. -/
theorem numB_len : ∀ (k n : Nat), n < 128 ^ k → 1 ≤ k → (numB n).length ≤ k
  | 0, _, _, h => by omega
  | 1, n, h, _ => by rw [numB_lo (by simpa using h)]; simp
  | k + 2, n, h, _ => by
    by_cases h2 : n < 128
    · rw [numB_lo h2]; simp
    · rw [numB_hi h2]
      have : n / 128 < 128 ^ (k + 1) := by
        rw [Nat.div_lt_iff_lt_mul (by omega)]
        rw [Nat.pow_succ] at h
        exact h
      have := numB_len (k + 1) (n / 128) this (by omega)
      simp; omega
theorem numB_10 {n : Nat} (h : n < 18446744073709551616) : (numB n).length ≤ 10 := numB_len 10 n (by omega) (by omega)

/-! ### lists of bytes in memory -/
def bys (l : List Int) : List Value := l.map (Value.int .u8)
theorem bys_len (l : List Int) : (bys l).length = l.length := by simp [bys]
theorem bys_app (a b : List Int) : bys (a ++ b) = bys a ++ bys b := by simp [bys]
theorem bys_at (l : List Int) (i : Nat) (h : i < l.length) : (bys l)[i]? = some (.int .u8 l[i]) := by simp [bys, h]
theorem bys_one (l : List Int) : ∀ u ∈ bys l, u.oneCell' = true := by
  intro u hu
  simp only [bys, List.mem_map] at hu
  obtain ⟨x, _, rfl⟩ := hu
  rfl
theorem Rd.byte {w : World} {B : Nat} {p : Option Addr} {l : List Int} (h : Rd w B p (bys l)) {k : Nat} (hk : k < l.length) : ∃ b o, p = some ⟨b, o, none⟩ ∧ b < B ∧ w.cell? ⟨b, o + k, none⟩ = some (.int .u8 l[k]) := by
  obtain ⟨b, o, hp, hb, hc, _⟩ := h.at_ (k := k) (by simpa [bys] using hk)
  exact ⟨b, o, hp, hb, by simpa [bys] using hc⟩
theorem u8_info : (Try.prog.info? 5).map (fun i => (i.zero, i.size, i.bytes)) = some (some (.int .u8 0), 1, 1) := by kernel_rfl
/-- A list of bytes of its own. -/
def RetBs (w : World) (l : List Int) (e : Ending) (w' : World) : Prop := ∃ v, e = .returned v ∧ w'.ownsRow w.heap.size 5 1 v l.length (bys l) ∧ Below w.heap.size w w'
end Go.Proofs.Ytmhkbchbglnbpaa
