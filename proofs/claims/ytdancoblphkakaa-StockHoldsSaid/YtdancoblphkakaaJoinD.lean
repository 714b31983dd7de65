/- Join: its contract. -/
import Derived.Test.YtdancoblphkakaaJoinC
namespace Go.Proofs.Ytdancoblphkakaa
open Go.RowKit

/-- What Join returns, and what the stock is behind it. -/
def joinE (G : List (List Int)) (D : List Int) (H : List (List Int)) (E : List Int) : Int := if G.length = H.length then (if Right (joinG G H) (joinD D E G.length) then 0 else 10) else 3
def afterG (G : List (List Int)) (D : List Int) (H : List (List Int)) (E : List Int) : List (List Int) := if joinE G D H E = 0 then joinG G H else G
def afterD (G : List (List Int)) (D : List Int) (H : List (List Int)) (E : List Int) : List Int := if joinE G D H E = 0 then joinD D E G.length else D
theorem join_any {w : World} {X Y : Nat} {S T : Nat → Prop} {G H : List (List Int)} {D E : List Int} (h : ST w X S G D) (k : ST w Y T H E) : Calls Try.prog 15 #[.pointer (some ⟨X, 0, none⟩), .pointer (some ⟨Y, 0, none⟩)] w fun e w' =>
    e = .returned (.int .i64 (joinE G D H E)) ∧ StW w w' X S (afterG G D H E) (afterD G D H E) := by
  by_cases hn : G.length = H.length
  · refine (join_same G.length h k rfl hn.symm).mono ?_
    rintro e w' (⟨hr, rfl, hs⟩ | ⟨hr, rfl, hs⟩)
    · have e0 : joinE G D H E = 0 := by rw [joinE, if_pos hn, if_pos hr]
      rw [afterG, afterD, e0]
      exact ⟨rfl, hs⟩
    · have e0 : joinE G D H E = 10 := by rw [joinE, if_pos hn, if_neg hr]
      rw [afterG, afterD, e0]
      exact ⟨rfl, StW.first hs (StW.same (h.kept hs))⟩
  · refine (join_len h k hn).mono ?_
    rintro e w' ⟨rfl, hs⟩
    have e0 : joinE G D H E = 3 := by rw [joinE, if_neg hn]
    rw [afterG, afterD, e0]
    exact ⟨rfl, StW.first hs (StW.same (h.kept hs))⟩
end Go.Proofs.Ytdancoblphkakaa
