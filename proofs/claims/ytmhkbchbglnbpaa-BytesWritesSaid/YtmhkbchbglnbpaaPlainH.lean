/- Plain words for BytesHolds: parts written one behind the other. -/
import Derived.Test.YtmhkbchbglnbpaaSmall
import Derived.Test.YtmhkbchbglnbpaaPlainN
namespace Go.Proofs.Ytmhkbchbglnbpaa
open Go.RowKit

/-- The bytes of a part. -/
def ptB (x : Pt) : List Int := if x.a = 0 then numB x.n.toNat else if x.a = 1 then numB x.d.length ++ x.d else x.d
def enc (l : List Pt) : List Int := l.flatMap ptB
theorem enc_take {l : List Pt} {k : Nat} (hk : k < l.length) : enc (l.take (k + 1)) = enc (l.take k) ++ ptB l[k] := by
  rw [enc, List.take_succ_eq_append_getElem hk, List.flatMap_append]
  simp only [List.flatMap_cons, List.flatMap_nil, List.append_nil]
  rfl
theorem enc_split {l : List Pt} {k : Nat} (hk : k < l.length) : enc l = enc (l.take k) ++ (ptB l[k] ++ enc (l.drop (k + 1))) := by
  conv => lhs; rw [← List.take_append_drop k l, enc, List.flatMap_append, List.drop_eq_getElem_cons hk, List.flatMap_cons]
  rfl
theorem enc_drop {l : List Pt} {k : Nat} (hk : k < l.length) : (enc l).drop (enc (l.take k)).length = ptB l[k] ++ enc (l.drop (k + 1)) := by
  rw [enc_split hk, List.drop_left]
theorem ptB_len {x : Pt} (hd : x.d.length ≤ 300) (hn : x.n < 18446744073709551616) : (ptB x).length ≤ 310 := by
  unfold ptB
  split
  · have := numB_10 (n := x.n.toNat) (by omega); omega
  · split
    · have := numB_10 (n := x.d.length) (by omega)
      rw [List.length_append]; omega
    · omega
theorem enc_len : ∀ l : List Pt, (∀ x ∈ l, x.d.length ≤ 300 ∧ x.n < 18446744073709551616) → (enc l).length ≤ l.length * 310
  | [], _ => by simp [enc]
  | x :: l, h => by
    have h1 := ptB_len (h x (by simp)).1 (h x (by simp)).2
    have h2 := enc_len l (fun y hy => h y (by simp [hy]))
    have e : enc (x :: l) = ptB x ++ enc l := rfl
    rw [e, List.length_append, List.length_cons]
    omega
theorem enc_le (l : List Pt) (k : Nat) : (enc (l.take k)).length ≤ (enc l).length := by
  have e : enc l = enc (l.take k) ++ enc (l.drop k) := by
    conv => lhs; rw [← List.take_append_drop k l, enc, List.flatMap_append]
    rfl
  rw [e, List.length_append]; omega
theorem ptB_bs {x : Pt} (hd : Bs x.d) : Bs (ptB x) := by
  unfold ptB
  split
  · exact numB_bs _
  · split
    · exact Bs.app (numB_bs _) hd
    · exact hd
theorem enc_bs : ∀ l : List Pt, (∀ x ∈ l, Bs x.d) → Bs (enc l)
  | [], _ => Bs.nil
  | x :: l, h => Bs.app (ptB_bs (h x (by simp))) (enc_bs l (fun y hy => h y (by simp [hy])))
theorem nE_ownr {n : Nat} (hn : n < 18446744073709551616) (r : List Int) : nE (numB n ++ r) n = 0 ∧ nV (numB n ++ r) n = n ∧ nS (numB n ++ r) n = (numB n).length := by
  obtain ⟨h1, h2, h3⟩ := read_numB hn r
  have e : nE (numB n ++ r) n = 0 := by rw [nE, if_pos h1, h3, if_neg (Nat.lt_irrefl n)]
  exact ⟨e, by rw [nV, e, if_pos rfl, h3], by rw [nS, e, if_pos rfl, h2]⟩
theorem sE_ownr (d r : List Int) (hd : d.length < 18446744073709551616) : sE (numB d.length ++ d ++ r) d.length = 0 ∧ sV (numB d.length ++ d ++ r) d.length = d ∧ sS (numB d.length ++ d ++ r) d.length = (numB d.length ++ d).length := by
  obtain ⟨h1, h2, h3⟩ := read_numB hd (d ++ r)
  rw [← List.append_assoc] at h1 h2 h3
  have e : sE (numB d.length ++ d ++ r) d.length = 0 := by
    rw [sE, if_pos h1, h2, h3, if_neg (by omega), if_neg (by simp only [List.length_append]; omega)]
  refine ⟨e, ?_, ?_⟩
  · rw [sV, e, if_pos rfl, h2, h3, List.append_assoc, List.drop_left, List.take_left]
  · rw [sS, e, if_pos rfl, h2, h3, List.length_append]
theorem tE_ownr (d r : List Int) : tE (d ++ r) d.length = 0 ∧ tV (d ++ r) d.length = d ∧ tS (d ++ r) d.length = d.length := by
  have e : tE (d ++ r) d.length = 0 := by rw [tE, if_neg (by omega), if_neg (by rw [List.length_append]; omega)]
  refine ⟨e, ?_, ?_⟩
  · rw [tV, e, if_pos rfl, Int.toNat_natCast, List.take_left]
  · rw [tS, e, if_pos rfl, Int.toNat_natCast]
end Go.Proofs.Ytmhkbchbglnbpaa
