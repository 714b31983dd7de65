/- What Sum32 and Sum64 return, and the reference's: the hashes of the string. -/
import Derived.Test.YtflpcolpklnipaaDoorPlain
import Derived.Test.YtflpcolpklnipaaDoorMem
import Derived.Test.YtflpcolpklnipaaDoorRows
namespace Go.Proofs.YtflpcolpklnipaaDoor
open Go.RowKit

/-- The two tables lie in blocks 0 and 1. -/
structure Tabs (w : World) : Prop where
  s0 : w.cell? ⟨0, 0, none⟩ = some (.int .u32 2166136261)
  s1 : w.cell? ⟨0, 1, none⟩ = some (.int .u32 16777619)
  g0 : w.cell? ⟨1, 0, none⟩ = some (.int .u64 14695981039346656037)
  g1 : w.cell? ⟨1, 1, none⟩ = some (.int .u64 1099511628211)
theorem Tabs.two {w : World} (h : Tabs w) : 2 ≤ w.heap.size := World.block_lt_of_cell? w _ h.g0
theorem Tabs.below {w w' : World} (h : Tabs w) (hb : Below w.heap.size w w') : Tabs w' := by
  have := h.two
  refine ⟨?_, ?_, ?_, ?_⟩ <;> (rw [hb.cell (by simp; omega)]; first | exact h.s0 | exact h.s1 | exact h.g0 | exact h.g1)

set_option maxHeartbeats 400000 in
theorem sum32_any (s : ByteArray) (w : World) (ht : Tabs w) (hs : s.size ≤ 100000) :
    Calls Tryd.prog 9 #[.string s] w fun e w' => e = .returned (.int .u32 (f32 s.data.toList)) ∧ Below w.heap.size w w' := by
  have h0 := ht.s0
  have h1 := ht.s1
  have hz := ht.two
  have hconv := run_bytes_of_string (P := Tryd.prog) w 9 40 5 s Tryd.underlying9 Tryd.underlying40 Tryd.underlying5
  go_enter Tryd.func9, Tryd.ntmps9
  go_wp2
  generalize hW : (World.drew _) = W
  have hcell : ∀ (j : Nat) (h : j < s.size), W.cell? ⟨w.heap.size, j, none⟩ = some (.int .u8 (s[j].toNat : Int)) := fun j h => by
    rw [← hW, World.cell?_drew, World.cell?_alloc_mark]
    exact bytesRow_at s _ j h
  have hb : Below w.heap.size w W := by rw [← hW]; exact ((Below.refl _ _).alloc (Nat.le_refl _) _).drew
  have hc0 := (ht.below hb).s0
  have hc1 := (ht.below hb).s1
  clear hW h0 h1 hconv
  go_loop [3, 11] (fun n i => ∃ k : Nat, k ≤ s.size ∧ i = .int .i64 k ∧ n = .int .u32 (f32 (s.data.toList.take k))) (fun _ i => s.size - (intOf i).toNat)
  case atStart => exact ⟨0, Nat.zero_le _, rfl, rfl⟩
  case round =>
    obtain ⟨k, hk, rfl, rfl⟩ := hrel
    by_cases hlt : k < s.size
    · have hc := hcell k hlt
      have hx : s[k].toNat < 256 := s[k].toNat_lt
      have hst := st32_walk _ _ (f32_lt (s.data.toList.take k)) hx
      rw [← f32_step s k hlt] at hst
      have hn := f32_lt (s.data.toList.take k)
      clear hcell
      go_wp2
      go_round
      case rel => exact ⟨k + 1, by omega, by go_num, rfl⟩
      case measure => simp [intOf]; omega
    · go_wp2
      go_ret
      exact ⟨ret_int (by rw [List.take_of_length_le (by simp; omega)]), hb⟩

set_option maxHeartbeats 400000 in
theorem sum64_any (s : ByteArray) (w : World) (ht : Tabs w) (hs : s.size ≤ 100000) :
    Calls Tryd.prog 11 #[.string s] w fun e w' => e = .returned (.int .u64 (f64 s.data.toList)) ∧ Below w.heap.size w w' := by
  have h0 := ht.g0
  have h1 := ht.g1
  have hz := ht.two
  have hconv := run_bytes_of_string (P := Tryd.prog) w 9 40 5 s Tryd.underlying9 Tryd.underlying40 Tryd.underlying5
  go_enter Tryd.func11, Tryd.ntmps11
  go_wp2
  generalize hW : (World.drew _) = W
  have hcell : ∀ (j : Nat) (h : j < s.size), W.cell? ⟨w.heap.size, j, none⟩ = some (.int .u8 (s[j].toNat : Int)) := fun j h => by
    rw [← hW, World.cell?_drew, World.cell?_alloc_mark]
    exact bytesRow_at s _ j h
  have hb : Below w.heap.size w W := by rw [← hW]; exact ((Below.refl _ _).alloc (Nat.le_refl _) _).drew
  have hc0 := (ht.below hb).g0
  have hc1 := (ht.below hb).g1
  clear hW h0 h1 hconv
  go_loop [3, 11] (fun n i => ∃ k : Nat, k ≤ s.size ∧ i = .int .i64 k ∧ n = .int .u64 (f64 (s.data.toList.take k))) (fun _ i => s.size - (intOf i).toNat)
  case atStart => exact ⟨0, Nat.zero_le _, rfl, rfl⟩
  case round =>
    obtain ⟨k, hk, rfl, rfl⟩ := hrel
    by_cases hlt : k < s.size
    · have hc := hcell k hlt
      have hx : s[k].toNat < 256 := s[k].toNat_lt
      have hst := st64_walk _ _ (f64_lt (s.data.toList.take k)) hx
      rw [← f64_step s k hlt] at hst
      have hn := f64_lt (s.data.toList.take k)
      clear hcell
      go_wp2
      go_round
      case rel => exact ⟨k + 1, by omega, by go_num, rfl⟩
      case measure => simp [intOf]; omega
    · go_wp2
      go_ret
      exact ⟨ret_int (by rw [List.take_of_length_le (by simp; omega)]), hb⟩

set_option maxHeartbeats 400000 in
theorem ref32_any (s : ByteArray) (w : World) (hs : s.size ≤ 100000) :
    Calls Tryd.prog 10 #[.string s] w fun e w' => e = .returned (.int .u32 (f32 s.data.toList)) ∧ w = w' := by
  go_enter Tryd.func10, Tryd.ntmps10
  go_wp2
  go_loop [3, 4] (fun n i => ∃ k : Nat, k ≤ s.size ∧ i = .int .i64 k ∧ n = .int .u64 (f32 (s.data.toList.take k))) (fun _ i => s.size - (intOf i).toNat)
  case atStart => exact ⟨0, Nat.zero_le _, rfl, rfl⟩
  case round =>
    obtain ⟨k, hk, rfl, rfl⟩ := hrel
    by_cases hlt : k < s.size
    · have hx : s[k].toNat < 256 := s[k].toNat_lt
      have hst := st32_ref _ _ (f32_lt (s.data.toList.take k)) hx
      rw [← f32_step s k hlt] at hst
      have hn := f32_lt (s.data.toList.take k)
      go_wp2
      go_round
      case rel => exact ⟨k + 1, by omega, by go_num, rfl⟩
      case measure => simp [intOf]; omega
    · have hn := f32_lt (s.data.toList.take k)
      go_wp2
      go_ret
      exact ⟨ret_int (by rw [List.take_of_length_le (by simp; omega)]), rfl⟩

set_option maxHeartbeats 400000 in
theorem ref64_any (s : ByteArray) (w : World) (hs : s.size ≤ 100000) :
    Calls Tryd.prog 12 #[.string s] w fun e w' => e = .returned (.int .u64 (f64 s.data.toList)) ∧ w = w' := by
  go_enter Tryd.func12, Tryd.ntmps12
  go_wp2
  go_loop [3, 4] (fun n i => ∃ k : Nat, k ≤ s.size ∧ i = .int .i64 k ∧ n = .int .u64 (f64 (s.data.toList.take k))) (fun _ i => s.size - (intOf i).toNat)
  case atStart => exact ⟨0, Nat.zero_le _, rfl, rfl⟩
  case round =>
    obtain ⟨k, hk, rfl, rfl⟩ := hrel
    by_cases hlt : k < s.size
    · have hx : s[k].toNat < 256 := s[k].toNat_lt
      have hst := st64_ref _ _ (f64_lt (s.data.toList.take k)) hx
      rw [← f64_step s k hlt] at hst
      have hn := f64_lt (s.data.toList.take k)
      go_wp2
      go_round
      case rel => exact ⟨k + 1, by omega, by go_num, rfl⟩
      case measure => simp [intOf]; omega
    · have hn := f64_lt (s.data.toList.take k)
      go_wp2
      go_ret
      exact ⟨ret_int (by rw [List.take_of_length_le (by simp; omega)]), rfl⟩

end Go.Proofs.YtflpcolpklnipaaDoor
