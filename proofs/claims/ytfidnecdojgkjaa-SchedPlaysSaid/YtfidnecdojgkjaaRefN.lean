/- The reference's New and Next. -/
import Derived.Test.YtfidnecdojgkjaaRefP
import Derived.Laws.ResultCell
namespace Go.Proofs.Ytfidnecdojgkjaa
open Go.RowKit
/-- A struct that lies in memory, and a number. -/
theorem results_pair {P : Program} {fn : Func} {p q : Tmp} {ty : TypeId} (h : fn.results = #[.cell p ty, .tmp q]) (tmps : Array Value) (w : World) (g : Nat) (t : TypeId) (cs : Array Value) (fr : Nat × Nat) (d : TypeDesc) (x : Value)
    (hp : tmps.getD p undef = .pointer (some ⟨g, 0, none⟩)) (hg : w.heap[g]? = some (.cells cs t fr)) (hu : P.underlying ty = some d) (hd : (match d with | .struct _ | .array _ _ => true | _ => false) = true) (hi : (P.info? ty).map (·.size) = some cs.size)
    (hx : tmps.getD q undef = x) : (results fn tmps).run P w = .ok (.tuple #[.agg cs, x]) w := by
  subst hx
  rw [results_cell_tmp h, hp]
  simp [asAddr, run_loadVar_row w g t ty cs fr d hg hu hd hi]
/-- .. and two numbers. -/
theorem results_trio {P : Program} {fn : Func} {p q r : Tmp} {ty : TypeId} (h : fn.results = #[.cell p ty, .tmp q, .tmp r]) (tmps : Array Value) (w : World) (g : Nat) (t : TypeId) (cs : Array Value) (fr : Nat × Nat) (d : TypeDesc) (x y : Value)
    (hp : tmps.getD p undef = .pointer (some ⟨g, 0, none⟩)) (hg : w.heap[g]? = some (.cells cs t fr)) (hu : P.underlying ty = some d) (hd : (match d with | .struct _ | .array _ _ => true | _ => false) = true) (hi : (P.info? ty).map (·.size) = some cs.size)
    (hx : tmps.getD q undef = x) (hy : tmps.getD r undef = y) : (results fn tmps).run P w = .ok (.tuple #[.agg cs, x, y]) w := by
  subst hx hy
  have hp' : tmps[p]?.getD undef = .pointer (some ⟨g, 0, none⟩) := by simpa using hp
  simp [results, h, hp', asAddr, run_loadVar_row w g t ty cs fr d hg hu hd hi, Result.andThen]
set_option maxRecDepth 100000 in
theorem refNew_any {w : World} (p : Option Addr) (c : Nat) (kind : Int) (nums : List Int) (h : Rd w w.heap.size p (ints nums)) (hl : nums.length ≤ 1000000) :
    Calls Try.prog 12 #[.int .i64 kind, .slice p nums.length c] w fun e w' => ∃ a q1 n1 c1 q2 n2 c2, e = .returned (.tuple #[.agg #[.int .i64 a, .slice q1 n1 c1, .slice q2 n2 c2], .int .i64 (newE kind nums)]) ∧
      (newE kind nums = 0 → a = kind ∧ q1 = p ∧ n1 = nums.length ∧ c1 = c ∧ q2 = none ∧ n2 = 0 ∧ c2 = 0) ∧ Below w.heap.size w w' := by
  have HR := Lib.hid h
  obtain ⟨n, hn⟩ : ∃ n, nums.length = n := ⟨_, rfl⟩
  rw [hn] at hl ⊢
  have HN := Lib.hid hn
  clear hn h
  by_cases hk1 : kind < 1
  · have HE2 := Lib.hid (show newE kind nums = 2 by rw [newE, if_pos (.inl hk1)])
    go_enter Try.func12, Try.ntmps12
    go_wp2_with fail
    try simp only [Exit.inBlock, Exit.then]
    have hZ := Blk.new w 30 [.int .i64 0, .slice none 0 0, .slice none 0 0]
    refine bodyPost_ret (results_pair rfl _ _ w.heap.size 30 _ (0, 0) _ _ (by rfl) hZ Try.underlying30 (by rfl) (by kernel_rfl) (by rfl)) rfl ?_
    exact ⟨0, none, 0, 0, none, 0, 0, by rw [HE2.out]; rfl, fun h => (by have := HE2.out; rw [h] at this; exact absurd this (by decide)), (Below.refl _ _).alloc (Nat.le_refl _) _⟩
  · have hk2 : decide (kind < 1) = false := by simpa using hk1
    by_cases hk4 : 4 < kind
    · have HE2 := Lib.hid (show newE kind nums = 2 by rw [newE, if_pos (.inr hk4)])
      clear hk1
      go_enter Try.func12, Try.ntmps12
      go_wp2_with fail
      try simp only [Exit.inBlock, Exit.then]
      have hZ := Blk.new w 30 [.int .i64 0, .slice none 0 0, .slice none 0 0]
      refine bodyPost_ret (results_pair rfl _ _ w.heap.size 30 _ (0, 0) _ _ (by rfl) hZ Try.underlying30 (by rfl) (by kernel_rfl) (by rfl)) rfl ?_
      exact ⟨0, none, 0, 0, none, 0, 0, by rw [HE2.out]; rfl, fun h => (by have := HE2.out; rw [h] at this; exact absurd this (by decide)), (Below.refl _ _).alloc (Nat.le_refl _) _⟩
    · have hk5 : decide (4 < kind) = false := by simpa using hk4
      have HC1 := Lib.hid (show ¬ (kind < 1 ∨ 4 < kind) by omega)
      clear hk1 hk4
      by_cases hn4 : 4096 < n
      · have hn5 : (4096 : Int) < (n : Int) := by omega
        have HE2 := Lib.hid (show newE kind nums = 5 by rw [newE, if_neg HC1.out, if_pos (by rw [HN.out]; exact hn4)])
        go_enter Try.func12, Try.ntmps12
        go_wp2_with fail
        try simp only [Exit.inBlock, Exit.then]
        have hZ := Blk.new w 30 [.int .i64 0, .slice none 0 0, .slice none 0 0]
        refine bodyPost_ret (results_pair rfl _ _ w.heap.size 30 _ (0, 0) _ _ (by rfl) hZ Try.underlying30 (by rfl) (by kernel_rfl) (by rfl)) rfl ?_
        exact ⟨0, none, 0, 0, none, 0, 0, by rw [HE2.out]; rfl, fun h => (by have := HE2.out; rw [h] at this; exact absurd this (by decide)), (Below.refl _ _).alloc (Nat.le_refl _) _⟩
      · have hn5 : (n : Int) ≤ 4096 := by omega
        have HC2 := Lib.hid hn4
        clear hn4
        by_cases h1 : kind = 1
        · subst h1
          by_cases h0 : n = 0
          · have hn0 : decide (0 < n) = false := by simp; omega
            have HE2 := Lib.hid (show newE 1 nums = 2 by rw [newE, if_neg HC1.out, if_neg (by rw [HN.out]; exact HC2.out), if_pos (by rw [HN.out, hn0]; decide)])
            clear h0
            go_enter Try.func12, Try.ntmps12
            go_wp2_with fail
            try simp only [Exit.inBlock, Exit.then]
            have hZ := Blk.new w 30 [.int .i64 0, .slice none 0 0, .slice none 0 0]
            refine bodyPost_ret (results_pair rfl _ _ w.heap.size 30 _ (0, 0) _ _ (by rfl) hZ Try.underlying30 (by rfl) (by kernel_rfl) (by rfl)) rfl ?_
            exact ⟨0, none, 0, 0, none, 0, 0, by rw [HE2.out]; rfl, fun h => (by have := HE2.out; rw [h] at this; exact absurd this (by decide)), (Below.refl _ _).alloc (Nat.le_refl _) _⟩
          · have hn0 : (0 : Int) < (n : Int) := by omega
            have hn1 : decide (0 < n) = true := by simp; omega
            have HC3 := Lib.hid (show ¬ (decide ((1 : Int) = 1) ≠ decide (0 < nums.length)) by rw [HN.out, hn1]; simp)
            clear h0
            have HY2 := Lib.hid (fun (h : nums.any (fun n => decide (n < 0)) = true) => (by rw [newE, if_neg HC1.out, if_neg (by rw [HN.out]; exact HC2.out), if_neg HC3.out, if_pos h] : newE 1 nums = 2))
            have HY0 := Lib.hid (fun (h : nums.any (fun n => decide (n < 0)) = false) => (by rw [newE, if_neg HC1.out, if_neg (by rw [HN.out]; exact HC2.out), if_neg HC3.out, if_neg (by rw [h]; decide)] : newE 1 nums = 0))
            clear HC3
            go_enter Try.func12, Try.ntmps12
            go_wp2_with fail
            go_loop [6] (fun i => ∃ k : Nat, k ≤ n ∧ i = .int .i64 k ∧ Hid (∀ j (h : j < nums.length), j < k → 0 ≤ nums[j])) (fun i => n - (intOf i).toNat)
            case atStart => exact ⟨0, Nat.zero_le _, rfl, Lib.hid (fun j _ hj => by omega)⟩
            case round =>
              obtain ⟨k, hk, rfl, HK⟩ := hrel
              by_cases hlt : k < n
              · have hki : (k : Int) < (n : Int) := by omega
                have hlt2 : k < nums.length := by rw [HN.out]; exact hlt
                obtain ⟨b, o, rfl, hbl, hc0⟩ := HR.out.int hlt2
                have hc := (((Below.refl w.heap.size w).alloc (Nat.le_refl _) (.cells #[.int .i64 0, .slice none 0 0, .slice none 0 0] 30)).cell (p := ⟨b, o + k, none⟩) hbl).trans hc0
                obtain ⟨x, hx⟩ : ∃ x, nums[k] = x := ⟨_, rfl⟩
                rw [hx] at hc hc0
                have HX : Hid (∀ h' : k < nums.length, nums[k]'h' = x) := Lib.hid (fun _ => hx)
                have HL2 := Lib.hid hlt2
                clear hx hlt2
                by_cases hx0 : x < 0
                · have HE2 := Lib.hid (HY2.out (by rw [List.any_eq_true]; exact ⟨nums[k]'HL2.out, List.getElem_mem _, by rw [HX.out]; simpa using hx0⟩))
                  go_wp2_with fail
                  try simp only [Exit.inBlock, Exit.then]
                  have hZ := Blk.new w 30 [.int .i64 0, .slice none 0 0, .slice none 0 0]
                  refine bodyPost_ret (results_pair rfl _ _ w.heap.size 30 _ (0, 0) _ _ (by rfl) hZ Try.underlying30 (by rfl) (by kernel_rfl) (by rfl)) rfl ?_
                  exact ⟨0, none, 0, 0, none, 0, 0, by rw [HE2.out]; rfl, fun h => (by have := HE2.out; rw [h] at this; exact absurd this (by decide)), (Below.refl _ _).alloc (Nat.le_refl _) _⟩
                · have hx1 : decide (x < 0) = false := by simpa using hx0
                  go_wp2_with fail
                  go_round
                  case rel => exact ⟨k + 1, by omega, by go_num, Lib.hid (fun j hj hjk => by
                    by_cases e : j = k
                    · subst e; rw [HX.out]; omega
                    · exact HK.out j hj (by omega))⟩
                  case measure => simp [intOf]; omega
              · have hkn : k = n := by omega
                subst hkn
                have HE0 := Lib.hid (HY0.out (by
                  rw [List.any_eq_false]
                  intro x hx
                  obtain ⟨j, hj, rfl⟩ := List.getElem_of_mem hx
                  have := HK.out j hj (by have := HN.out; omega)
                  simp; omega))
                clear HR
                go_wp2_with fail
                try simp only [Exit.inBlock, Exit.then]
                have hZ := Blk.new w 30 [.int .i64 1, .slice p k c, .slice none 0 0]
                refine bodyPost_ret (results_pair rfl _ _ w.heap.size 30 _ (0, 0) _ _ (by rfl) hZ Try.underlying30 (by rfl) (by kernel_rfl) (by rfl)) rfl ?_
                exact ⟨1, p, k, c, none, 0, 0, by rw [HE0.out]; rfl, fun _ => ⟨rfl, rfl, rfl, rfl, rfl, rfl, rfl⟩, (Below.refl _ _).alloc (Nat.le_refl _) _⟩
        · have h2 : (kind == 1) = false := by rw [beq_eq_false_iff_ne]; exact h1
          by_cases h0 : n = 0
          · have hn0 : decide (0 < n) = false := by simp; omega
            have HC3 := Lib.hid (show ¬ (decide (kind = 1) ≠ decide (0 < nums.length)) by rw [HN.out]; simp [h1]; omega)
            clear h0 h1
            have HY2 := Lib.hid (fun (h : nums.any (fun n => decide (n < 0)) = true) => (by rw [newE, if_neg HC1.out, if_neg (by rw [HN.out]; exact HC2.out), if_neg HC3.out, if_pos h] : newE kind nums = 2))
            have HY0 := Lib.hid (fun (h : nums.any (fun n => decide (n < 0)) = false) => (by rw [newE, if_neg HC1.out, if_neg (by rw [HN.out]; exact HC2.out), if_neg HC3.out, if_neg (by rw [h]; decide)] : newE kind nums = 0))
            clear HC3
            go_enter Try.func12, Try.ntmps12
            go_wp2_with fail
            go_loop [6] (fun i => ∃ k : Nat, k ≤ n ∧ i = .int .i64 k ∧ Hid (∀ j (h : j < nums.length), j < k → 0 ≤ nums[j])) (fun i => n - (intOf i).toNat)
            case atStart => exact ⟨0, Nat.zero_le _, rfl, Lib.hid (fun j _ hj => by omega)⟩
            case round =>
              obtain ⟨k, hk, rfl, HK⟩ := hrel
              by_cases hlt : k < n
              · have hki : (k : Int) < (n : Int) := by omega
                have hlt2 : k < nums.length := by rw [HN.out]; exact hlt
                obtain ⟨b, o, rfl, hbl, hc0⟩ := HR.out.int hlt2
                have hc := (((Below.refl w.heap.size w).alloc (Nat.le_refl _) (.cells #[.int .i64 0, .slice none 0 0, .slice none 0 0] 30)).cell (p := ⟨b, o + k, none⟩) hbl).trans hc0
                obtain ⟨x, hx⟩ : ∃ x, nums[k] = x := ⟨_, rfl⟩
                rw [hx] at hc hc0
                have HX : Hid (∀ h' : k < nums.length, nums[k]'h' = x) := Lib.hid (fun _ => hx)
                have HL2 := Lib.hid hlt2
                clear hx hlt2
                by_cases hx0 : x < 0
                · have HE2 := Lib.hid (HY2.out (by rw [List.any_eq_true]; exact ⟨nums[k]'HL2.out, List.getElem_mem _, by rw [HX.out]; simpa using hx0⟩))
                  go_wp2_with fail
                  try simp only [Exit.inBlock, Exit.then]
                  have hZ := Blk.new w 30 [.int .i64 0, .slice none 0 0, .slice none 0 0]
                  refine bodyPost_ret (results_pair rfl _ _ w.heap.size 30 _ (0, 0) _ _ (by rfl) hZ Try.underlying30 (by rfl) (by kernel_rfl) (by rfl)) rfl ?_
                  exact ⟨0, none, 0, 0, none, 0, 0, by rw [HE2.out]; rfl, fun h => (by have := HE2.out; rw [h] at this; exact absurd this (by decide)), (Below.refl _ _).alloc (Nat.le_refl _) _⟩
                · have hx1 : decide (x < 0) = false := by simpa using hx0
                  go_wp2_with fail
                  go_round
                  case rel => exact ⟨k + 1, by omega, by go_num, Lib.hid (fun j hj hjk => by
                    by_cases e : j = k
                    · subst e; rw [HX.out]; omega
                    · exact HK.out j hj (by omega))⟩
                  case measure => simp [intOf]; omega
              · have hkn : k = n := by omega
                subst hkn
                have HE0 := Lib.hid (HY0.out (by
                  rw [List.any_eq_false]
                  intro x hx
                  obtain ⟨j, hj, rfl⟩ := List.getElem_of_mem hx
                  have := HK.out j hj (by have := HN.out; omega)
                  simp; omega))
                clear HR
                go_wp2_with fail
                try simp only [Exit.inBlock, Exit.then]
                have hZ := Blk.new w 30 [.int .i64 kind, .slice p k c, .slice none 0 0]
                refine bodyPost_ret (results_pair rfl _ _ w.heap.size 30 _ (0, 0) _ _ (by rfl) hZ Try.underlying30 (by rfl) (by kernel_rfl) (by rfl)) rfl ?_
                exact ⟨kind, p, k, c, none, 0, 0, by rw [HE0.out]; rfl, fun _ => ⟨rfl, rfl, rfl, rfl, rfl, rfl, rfl⟩, (Below.refl _ _).alloc (Nat.le_refl _) _⟩
          · have hn0 : (0 : Int) < (n : Int) := by omega
            have HE2 := Lib.hid (show newE kind nums = 2 by rw [newE, if_neg HC1.out, if_neg (by rw [HN.out]; exact HC2.out), if_pos (by rw [HN.out]; simp [h1]; omega)])
            clear h0 h1
            go_enter Try.func12, Try.ntmps12
            go_wp2_with fail
            try simp only [Exit.inBlock, Exit.then]
            have hZ := Blk.new w 30 [.int .i64 0, .slice none 0 0, .slice none 0 0]
            refine bodyPost_ret (results_pair rfl _ _ w.heap.size 30 _ (0, 0) _ _ (by rfl) hZ Try.underlying30 (by rfl) (by kernel_rfl) (by rfl)) rfl ?_
            exact ⟨0, none, 0, 0, none, 0, 0, by rw [HE2.out]; rfl, fun h => (by have := HE2.out; rw [h] at this; exact absurd this (by decide)), (Below.refl _ _).alloc (Nat.le_refl _) _⟩
end Go.Proofs.Ytfidnecdojgkjaa
