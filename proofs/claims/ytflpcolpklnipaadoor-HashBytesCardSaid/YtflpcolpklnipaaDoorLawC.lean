/- The walk of HashBytes: it returns true. -/
import Derived.Test.YtflpcolpklnipaaDoorKnown
import Derived.Test.YtflpcolpklnipaaDoorInj
namespace Go.Proofs.YtflpcolpklnipaaDoor
open Go.RowKit

/-- s with the byte at I raised by B. -/
def turned (s : ByteArray) (I B : Nat) (h : I < s.size) : List UInt8 := s.data.toList.set I (UInt8.ofNat (s[I].toNat + B))
theorem turned_len (s : ByteArray) (I B : Nat) (h : I < s.size) : (turned s I B h).length = s.size := by rw [turned, List.length_set, Array.length_toList]; rfl
theorem turned_ne32 (s : ByteArray) (I B : Nat) (h : I < s.size) (h1 : 1 ≤ B) (h2 : B ≤ 255) : f32 (turned s I B h) ≠ f32 s.data.toList ∧ f64 (turned s I B h) ≠ f64 s.data.toList := by
  have hl : I < s.data.toList.length := by simpa using h
  have hy : UInt8.ofNat (s[I].toNat + B) ≠ s.data.toList[I] := by
    intro e
    have e' := congrArg UInt8.toNat e
    have hx : s.data.toList[I] = s[I] := rfl
    rw [hx] at e'
    have := s[I].toNat_lt
    simp [UInt8.toNat_ofNat'] at e'
    omega
  exact ⟨f32_set _ _ hl _ hy, f64_set _ _ hl _ hy⟩

set_option maxHeartbeats 800000 in
theorem hashBytes_core (s : ByteArray) (A B : Nat) (w : World) (ht : Tabs w) (h1 : 1 ≤ s.size) (h2 : s.size ≤ 300) (hA : A ≤ 65535) (hB1 : 1 ≤ B) (hB2 : B ≤ 255) :
    Calls Tryd.prog 6 #[.string s, .int .u16 A, .int .u8 B] w fun e w' => e = .returned (.bool true) ∧ Below w.heap.size w w' := by
  have hconv := run_bytes_of_string (P := Tryd.prog) w 9 40 5 s Tryd.underlying9 Tryd.underlying40 Tryd.underlying5
  have hB0 : ((B : Int) == 0) = false := by simp; omega
  have hs0 : (1 : Int) ≤ (s.size : Int) := by omega
  have hs2 : (s.size : Int) ≤ 300 := by omega
  have hI : A % s.size < s.size := Nat.mod_lt _ (by omega)
  go_enter Tryd.func6, Tryd.ntmps6
  go_upto_region 4 with fail
  generalize hW : (World.drew _) = W
  generalize hcap : grownCap w s.size 0 5 = cap at *
  have hcell : ∀ (j : Nat) (h : j < s.size), W.cell? ⟨w.heap.size, j, none⟩ = some (.int .u8 (s[j].toNat : Int)) := fun j h => by
    rw [← hW, World.cell?_drew, World.cell?_alloc_mark]
    exact bytesRow_at s _ j h
  have hfree : W.frozen? ⟨w.heap.size, A % s.size, none⟩ = false := by
    rw [← hW, World.frozen?_drew, World.frozen?_alloc_mark]
    have hle : s.size ≤ (bytesRow s cap).size := by rw [bytesRow, Array.size_append, Array.size_map]; exact Nat.le_add_right _ _
    simp
    omega
  have hb : Below w.heap.size w W := by rw [← hW]; exact ((Below.refl _ _).alloc (Nat.le_refl _) _).drew
  clear hW hconv hcap
  have hc := hcell _ hI
  have hx := (s[A % s.size]'hI).toNat_lt
  have hY : IntKind.u8.wrap (((s[A % s.size]'hI).toNat : Int) + (B : Int)) = ((UInt8.ofNat ((s[A % s.size]'hI).toNat + B)).toNat : Int) := by
    rw [IntKind.wrap_u8]; simp [UInt8.toNat_ofNat']
  have hlen := turned_len s (A % s.size) B hI
  have HN := Lib.hid (turned_ne32 s (A % s.size) B hI hB1 hB2)
  have HT := Lib.hid (show turned s (A % s.size) B hI = s.data.toList.set (A % s.size) (UInt8.ofNat ((s[A % s.size]'hI).toNat + B)) from rfl)
  generalize turned s (A % s.size) B hI = l at *
  generalize UInt8.ofNat ((s[A % s.size]'hI).toNat + B) = u at *
  have hcs := Lib.hid hcell
  clear hcell
  have HL := Lib.hid hlen
  clear hlen
  go_upto_region 5 with fail
  generalize hW2 : W.setCell ⟨w.heap.size, A % s.size, none⟩ (.int .u8 (u.toNat : Int)) = W2
  have hb2 : Below w.heap.size w W2 := by rw [← hW2]; exact hb.setCell (Nat.le_refl _) _
  have hback : (convert 40 9 (.slice (some ⟨w.heap.size, 0, none⟩) s.size cap)).run Tryd.prog W2 = .ok (.string ⟨l.toArray⟩) W2 := by
    have h := run_convert_bytes_back (P := Tryd.prog) W2 40 9 5 ⟨w.heap.size, 0, none⟩ cap l Tryd.underlying40 Tryd.underlying5 Tryd.underlying9 ?_
    · rw [HL.out] at h; exact h
    · intro j hj
      have hjs : j < s.size := by rw [← HL.out]; exact hj
      rw [Addr.add_lit, Nat.zero_add, ← hW2]
      by_cases hjI : j = A % s.size
      · subst hjI
        rw [World.cell?_setCell_same (u := .int .u8 ((s[A % s.size]'hI).toNat : Int)) W _ _ hc]
        simp only [HT.out, List.getElem_set_self]
      · rw [World.cell?_setCell_other _ _ _ _ (by intro e; injection e; omega), hcs.out j hjs]
        have hne : A % s.size ≠ j := fun e => hjI e.symm
        simp only [HT.out, List.getElem_set_ne hne]
        rfl
  clear hW2 hc hfree hY hcs
  have t2 := ht.below hb2
  have hls : ByteArray.size ⟨l.toArray⟩ ≤ 100000 := by show l.toArray.size ≤ _; rw [List.size_toArray, HL.out]; omega
  have hss : s.size ≤ 100000 := by omega
  have hne32 : ((f32 s.data.toList : Int) != (f32 l : Int)) = true := by have := HN.out.1; simp; omega
  have hne64 : ((f64 s.data.toList : Int) != (f64 l : Int)) = true := by have := HN.out.2; simp; omega
  have heq : ((f32 l : Int) == (f32 l : Int)) = true := by simp
  go_wp2_with fail
  refine (sum32_any s _ t2 hss).mono ?_
  rintro e w3 ⟨rfl, hb3⟩
  have t3 := t2.below hb3
  go_wp2_with fail
  refine (sum32_any ⟨l.toArray⟩ _ t3 hls).mono ?_
  rintro e w4 ⟨rfl, hb4⟩
  have t4 := t3.below hb4
  go_wp2_with fail
  refine (sum64_any s _ t4 hss).mono ?_
  rintro e w5 ⟨rfl, hb5⟩
  have t5 := t4.below hb5
  go_wp2_with fail
  refine (sum64_any ⟨l.toArray⟩ _ t5 hls).mono ?_
  rintro e w6 ⟨rfl, hb6⟩
  have t6 := t5.below hb6
  go_wp2_with fail
  refine (sum32_any ⟨l.toArray⟩ _ t6 hls).mono ?_
  rintro e w7 ⟨rfl, hb7⟩
  have t7 := t6.below hb7
  go_wp2_with fail
  refine (ref32_any ⟨l.toArray⟩ _ hls).mono ?_
  rintro e w' ⟨rfl, rfl⟩
  go_wp2_with fail
  refine (known_any _ t7).mono ?_
  rintro e w8 ⟨rfl, hb8⟩
  go_wp2_with fail
  go_ret
  exact ⟨rfl, hb2.trans ((below_step (below_step (below_step (below_step (below_step hb3 hb4) hb5) hb6) hb7) hb8).mono hb2.size)⟩

set_option maxHeartbeats 400000 in
theorem hashBytes_walk (s : ByteArray) (a b : Int) (ha : (Lit.int .u16 a).wf = true) (hb : (Lit.int .u8 b).wf = true) (w : World) (ht : Tabs w) :
    Calls Tryd.prog 6 #[.string s, .int .u16 a, .int .u8 b] w fun e w' => e = .returned (.bool true) ∧ Below w.heap.size w w' := by
  have ha' := bounds_u16 ha
  have hb' := bounds_u8 hb
  by_cases h1 : s.size < 1
  · go_enter Tryd.func6, Tryd.ntmps6
    go_wp2_with (go_at_call 8; refine (known_any _ ht).mono ?_; rintro e w1 ⟨rfl, hb1⟩)
    go_ret
    exact ⟨rfl, hb1⟩
  · by_cases h2 : 300 < s.size
    · go_enter Tryd.func6, Tryd.ntmps6
      go_wp2_with (go_at_call 8; refine (known_any _ ht).mono ?_; rintro e w1 ⟨rfl, hb1⟩)
      go_ret
      exact ⟨rfl, hb1⟩
    · by_cases h3 : b = 0
      · subst h3
        go_enter Tryd.func6, Tryd.ntmps6
        go_wp2_with (go_at_call 8; refine (known_any _ ht).mono ?_; rintro e w1 ⟨rfl, hb1⟩)
        go_ret
        exact ⟨rfl, hb1⟩
      · obtain ⟨A, rfl⟩ := Int.eq_ofNat_of_zero_le ha'.1
        obtain ⟨B, rfl⟩ := Int.eq_ofNat_of_zero_le hb'.1
        exact hashBytes_core s A B w ht (by omega) (by omega) (by omega) (by omega) (by omega)

end Go.Proofs.YtflpcolpklnipaaDoor
