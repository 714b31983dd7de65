/- The small functions of sched. -/
import Derived.Test.YtfidnecdojgkjaaPlain
import Derived.Test.YtfidnecdojgkjaaMaps
import Derived.Test.YtfidnecdojgkjaaBase
namespace Go.Proofs.Ytfidnecdojgkjaa
open Go.RowKit

theorem int_info : (Try.prog.info? 3).map (fun i => (i.zero, i.size, i.bytes)) = some (some (.int .i64 0), 1, 8) := by kernel_rfl
set_option maxRecDepth 100000 in
theorem index_any (p : Option Addr) (c : Nat) (q : List Int) (x : Int) (w : World) (h : Rd w w.heap.size p (ints q)) (hl : q.length ≤ 1000000) :
    Calls Try.prog 50 #[.slice p q.length c, .int .i64 x] w fun e w' => e = .returned (.int .i64 (ix q x)) ∧ w' = w := by
  have HR := Lib.hid h
  obtain ⟨n, hn⟩ : ∃ n, q.length = n := ⟨_, rfl⟩
  rw [hn] at hl ⊢
  have HN := Lib.hid hn
  clear hn h
  go_enter Try.func50, Try.ntmps50
  go_wp2_with fail
  go_loop [8] (fun i => ∃ k : Nat, k ≤ n ∧ i = .int .i64 k ∧ Hid (ixFrom (q.drop k) x k = ix q x)) (fun i => n - (intOf i).toNat)
  case atStart => exact ⟨0, Nat.zero_le _, rfl, Lib.hid rfl⟩
  case round =>
    obtain ⟨k, hk, rfl, HX⟩ := hrel
    by_cases hlt : k < n
    · have hlt2 : k < q.length := by rw [HN.out]; exact hlt
      obtain ⟨b, o, rfl, _, hc⟩ := HR.out.int hlt2
      have hi : (k : Int) < (n : Int) := by omega
      have HD := Lib.hid (ixFrom_drop q x k hlt2)
      obtain ⟨y, hy⟩ : ∃ y, q[k] = y := ⟨_, rfl⟩
      rw [hy] at hc HD
      clear hy hlt2
      by_cases he : x = y
      · have hb : (x == y) = true := by simpa using he
        have HE := Lib.hid he
        clear he
        go_wp2_with fail
        go_ret
        exact ⟨ret_int (by rw [← HX.out, HD.out, if_pos HE.out]), rfl⟩
      · have hb : (x == y) = false := by simpa using he
        have HE := Lib.hid he
        clear he
        go_wp2_with fail
        go_round
        case rel => exact ⟨k + 1, by omega, by go_num, Lib.hid (by rw [← HX.out, HD.out, if_neg HE.out])⟩
        case measure => simp [intOf]; omega
    · have hkn : k = n := by omega
      subst hkn
      go_wp2_with fail
      go_ret
      refine ⟨ret_int ?_, rfl⟩
      rw [← HX.out, ← HN.out, List.drop_length]
      rfl
theorem contains_any (p : Option Addr) (c : Nat) (q : List Int) (x : Int) (w : World) (h : Rd w w.heap.size p (ints q)) (hl : q.length ≤ 1000000) :
    Calls Try.prog 45 #[.slice p q.length c, .int .i64 x] w fun e w' => e = .returned (.bool (decide (x ∈ q))) ∧ w' = w := by
  have HI := Lib.hid (index_any p c q x w h hl)
  have HB := Lib.hid (ix_ge q x)
  obtain ⟨y, hy⟩ : ∃ y, ix q x = y := ⟨_, rfl⟩
  rw [hy] at HI HB
  clear h hl hy
  go_enter Try.func45, Try.ntmps45
  go_wp2_with fail
  refine HI.out.mono ?_
  rintro e w' ⟨rfl, rfl⟩
  go_wp2_with fail
  go_ret
  exact ⟨ret_bool HB.out, rfl⟩
set_option maxRecDepth 100000 in
theorem has_any (p : Option Addr) (c : Nat) (q : List Int) (x : Int) (w : World) (h : Rd w w.heap.size p (ints q)) (hl : q.length ≤ 1000000) :
    Calls Try.prog 31 #[.slice p q.length c, .int .i64 x] w fun e w' => e = .returned (.bool (decide (x ∈ q))) ∧ w' = w := by
  have HR := Lib.hid h
  obtain ⟨n, hn⟩ : ∃ n, q.length = n := ⟨_, rfl⟩
  rw [hn] at hl ⊢
  have HN := Lib.hid hn
  clear hn h
  go_enter Try.func31, Try.ntmps31
  go_wp2_with fail
  go_loop [5] (fun i => ∃ k : Nat, k ≤ n ∧ i = .int .i64 k ∧ Hid (x ∉ q.take k)) (fun i => n - (intOf i).toNat)
  case atStart => exact ⟨0, Nat.zero_le _, rfl, Lib.hid (by simp)⟩
  case round =>
    obtain ⟨k, hk, rfl, HX⟩ := hrel
    by_cases hlt : k < n
    · have hlt2 : k < q.length := by rw [HN.out]; exact hlt
      obtain ⟨b, o, rfl, _, hc⟩ := HR.out.int hlt2
      have hi : (k : Int) < (n : Int) := by omega
      obtain ⟨y, hy⟩ : ∃ y, q[k] = y := ⟨_, rfl⟩
      rw [hy] at hc
      have HY : Hid (∀ h' : k < q.length, q[k]'h' = y) := Lib.hid (fun _ => hy)
      have HL2 := Lib.hid hlt2
      clear hy hlt2
      by_cases he : y = x
      · have hb : (y == x) = true := by simpa using he
        have HE := Lib.hid he
        clear he
        go_wp2_with fail
        go_ret
        exact ⟨ret_bool (by rw [eq_comm, decide_eq_true_eq, ← HE.out, ← HY.out HL2.out]; exact List.getElem_mem HL2.out), rfl⟩
      · have hb : (y == x) = false := by simpa using he
        have HE := Lib.hid he
        clear he
        go_wp2_with fail
        go_round
        case rel => exact ⟨k + 1, by omega, by go_num, Lib.hid (by
          rw [List.take_succ_eq_append_getElem HL2.out, HY.out HL2.out]
          simp only [List.mem_append, List.mem_singleton, not_or]
          exact ⟨HX.out, fun e => HE.out e.symm⟩)⟩
        case measure => simp [intOf]; omega
    · have hkn : k = n := by omega
      subst hkn
      go_wp2_with fail
      go_ret
      refine ⟨ret_bool ?_, rfl⟩
      have := HX.out
      rw [← HN.out, List.take_length] at this
      exact (decide_eq_false this).symm
set_option maxRecDepth 100000 in
theorem enabled_any (p : Option Addr) (c : Nat) (l : List Int) (w : World) (h : Rd w w.heap.size p (ints l)) (hl : l.length ≤ 1000000) :
    Calls Try.prog 33 #[.slice p l.length c] w fun e w' => e = .returned (.bool (enB l)) ∧ Below w.heap.size w w' := by
  have HR := Lib.hid h
  obtain ⟨n, hn⟩ : ∃ n, l.length = n := ⟨_, rfl⟩
  rw [hn] at hl ⊢
  have HN := Lib.hid hn
  clear hn h
  go_enter Try.func33, Try.ntmps33
  go_wp2_with fail
  go_loopw [7] (fun i wr => ∃ k : Nat, k ≤ n ∧ i = .int .i64 k ∧ Hid (∀ j, j < k → okAt l j) ∧ Hid (Below w.heap.size w wr)) (fun i _ => n - (intOf i).toNat)
  case atStart => exact ⟨0, Nat.zero_le _, rfl, Lib.hid (fun j hj => by omega), Lib.hid (Below.refl _ _)⟩
  case round =>
    obtain ⟨k, hk, rfl, HK, HB⟩ := hrel
    by_cases hlt : k < n
    · have hki : (k : Int) < (n : Int) := by omega
      have hlt2 : k < l.length := by rw [HN.out]; exact hlt
      obtain ⟨b, o, rfl, _, hc⟩ := (HR.out.kept HB.out).int hlt2
      obtain ⟨x, hx⟩ : ∃ x, l[k] = x := ⟨_, rfl⟩
      rw [hx] at hc
      have HX := Lib.hid (show l.getD k 0 = x by rw [getD_get l k hlt2, hx])
      have HL2 := Lib.hid hlt2
      clear hx hlt2
      by_cases hx0 : x < 0
      · have HF := Lib.hid (enB_false HL2.out (fun h => by have := h.1.1; rw [HX.out] at this; omega))
        go_wp2_with fail
        go_ret
        exact ⟨ret_bool HF.out.symm, HB.out⟩
      · have hx1 : decide (x < 0) = false := by simpa using hx0
        by_cases hx9 : 9999 < x
        · have HF := Lib.hid (enB_false HL2.out (fun h => by have := h.1.2; rw [HX.out] at this; omega))
          clear hx0
          go_wp2_with fail
          go_ret
          exact ⟨ret_bool HF.out.symm, HB.out⟩
        · have hx8 : decide (9999 < x) = false := by simpa using hx9
          by_cases hk0 : k = 0
          · have hk1 : decide (0 < k) = false := by simp; omega
            have HO := Lib.hid (show okAt l k from ⟨by rw [HX.out]; omega, fun h => by omega⟩)
            clear hx0 hx9 hk0
            go_wp2_with fail
            go_roundw
            case rel => exact ⟨k + 1, by omega, by go_num, Lib.hid (fun j hj => by
              by_cases e : j = k
              · subst e; exact HO.out
              · exact HK.out j (by omega)), HB⟩
            case measure => simp [intOf]; omega
          · have hk1 : (0 : Int) < (k : Int) := by omega
            have hk2 : decide (0 < k) = true := by simp; omega
            obtain ⟨j, hj⟩ : ∃ j : Nat, (k : Int) - 1 = j := ⟨k - 1, by omega⟩
            have hjn : (j : Int) < (n : Int) := by omega
            have hj2 : j < l.length := by have := HL2.out; omega
            have hcj : wr.cell? ⟨b, o + j, none⟩ = some (.int .i64 l[j]) := by
              rcases HR.out.kept HB.out with hx | ⟨b', o', hp, _, hcc⟩
              · exfalso
                have := congrArg List.length hx
                rw [ints_len, List.length_nil] at this
                have := HL2.out; omega
              · injection hp with hp
                injection hp with h1 h2
                subst h1 h2
                exact hcc j _ (ints_at l j hj2)
            obtain ⟨y, hy⟩ : ∃ y, l[j] = y := ⟨_, rfl⟩
            rw [hy] at hcj
            have HY := Lib.hid (show l.getD (k - 1) 0 = y by rw [show k - 1 = j by omega, getD_get l j hj2, hy])
            have hj0 : (0 : Int) ≤ (j : Int) := by omega
            clear hy hj2
            by_cases hxy : x ≤ y
            · have HF := Lib.hid (enB_false HL2.out (fun h => by have := h.2 (by omega); rw [HX.out, HY.out] at this; omega))
              clear hx0 hx9 hk0
              go_wp2_with fail
              go_ret
              exact ⟨ret_bool HF.out.symm, HB.out⟩
            · have hxz : decide (x ≤ y) = false := by simpa using hxy
              have HO := Lib.hid (show okAt l k from ⟨by rw [HX.out]; omega, fun h => by rw [HX.out, HY.out]; omega⟩)
              clear hx0 hx9 hk0 hxy
              go_wp2_with fail
              go_roundw
              case rel => exact ⟨k + 1, by omega, by go_num, Lib.hid (fun j hj => by
                by_cases e : j = k
                · subst e; exact HO.out
                · exact HK.out j (by omega)), HB⟩
              case measure => simp [intOf]; omega
    · have hkn : k = n := by omega
      subst hkn
      have HT := Lib.hid ((enB_iff l).2 (fun j hj => HK.out j (by have := HN.out; omega)))
      go_wp2_with fail
      go_ret
      exact ⟨ret_bool HT.out.symm, HB.out⟩
set_option maxRecDepth 100000 in
theorem refEnabled_any (p : Option Addr) (c : Nat) (l : List Int) (w : World) (h : Rd w w.heap.size p (ints l)) (hl : l.length ≤ 1000000) :
    Calls Try.prog 30 #[.slice p l.length c] w fun e w' => e = .returned (.bool (enB l)) ∧ Below w.heap.size w w' := by
  have HR := Lib.hid h
  obtain ⟨n, hn⟩ : ∃ n, l.length = n := ⟨_, rfl⟩
  rw [hn] at hl ⊢
  have HN := Lib.hid hn
  clear hn h
  go_enter Try.func30, Try.ntmps30
  go_wp2_with fail
  go_loopw [3] (fun i wr => ∃ k : Nat, k ≤ n ∧ i = .int .i64 k ∧ Hid (∀ j, j < k → okAt l j) ∧ Hid (Below w.heap.size w wr)) (fun i _ => n - (intOf i).toNat)
  case atStart => exact ⟨0, Nat.zero_le _, rfl, Lib.hid (fun j hj => by omega), Lib.hid (Below.refl _ _)⟩
  case round =>
    obtain ⟨k, hk, rfl, HK, HB⟩ := hrel
    by_cases hlt : k < n
    · have hki : (k : Int) < (n : Int) := by omega
      have hlt2 : k < l.length := by rw [HN.out]; exact hlt
      obtain ⟨b, o, rfl, _, hc⟩ := (HR.out.kept HB.out).int hlt2
      obtain ⟨x, hx⟩ : ∃ x, l[k] = x := ⟨_, rfl⟩
      rw [hx] at hc
      have HX := Lib.hid (show l.getD k 0 = x by rw [getD_get l k hlt2, hx])
      have HL2 := Lib.hid hlt2
      clear hx hlt2
      by_cases hx0 : x < 0
      · have HF := Lib.hid (enB_false HL2.out (fun h => by have := h.1.1; rw [HX.out] at this; omega))
        go_wp2_with fail
        go_quiet (fail)
        go_wp2_with fail
        go_ret
        exact ⟨ret_bool HF.out.symm, below_drewN HB.out _⟩
      · have hx1 : decide (x < 0) = false := by simpa using hx0
        by_cases hx9 : 9999 < x
        · have HF := Lib.hid (enB_false HL2.out (fun h => by have := h.1.2; rw [HX.out] at this; omega))
          clear hx0
          go_wp2_with fail
          go_quiet (fail)
          go_wp2_with fail
          go_ret
          exact ⟨ret_bool HF.out.symm, below_drewN HB.out _⟩
        · have hx8 : decide (9999 < x) = false := by simpa using hx9
          by_cases hk0 : k = 0
          · have hk1 : decide (0 < k) = false := by simp; omega
            have HO := Lib.hid (show okAt l k from ⟨by rw [HX.out]; omega, fun h => by omega⟩)
            clear hx0 hx9 hk0
            go_wp2_with fail
            go_quiet (fail)
            go_wp2_with fail
            go_roundw
            case rel => exact ⟨k + 1, by omega, by go_num, Lib.hid (fun j hj => by
              by_cases e : j = k
              · subst e; exact HO.out
              · exact HK.out j (by omega)), Lib.hid (below_drewN HB.out _)⟩
            case measure => simp [intOf]; omega
          · have hk1 : (0 : Int) < (k : Int) := by omega
            have hk2 : decide (0 < k) = true := by simp; omega
            obtain ⟨j, hj⟩ : ∃ j : Nat, (k : Int) - 1 = j := ⟨k - 1, by omega⟩
            have hjn : (j : Int) < (n : Int) := by omega
            have hj2 : j < l.length := by have := HL2.out; omega
            have hcj : wr.cell? ⟨b, o + j, none⟩ = some (.int .i64 l[j]) := by
              rcases HR.out.kept HB.out with hx | ⟨b', o', hp, _, hcc⟩
              · exfalso
                have := congrArg List.length hx
                rw [ints_len, List.length_nil] at this
                have := HL2.out; omega
              · injection hp with hp
                injection hp with h1 h2
                subst h1 h2
                exact hcc j _ (ints_at l j hj2)
            obtain ⟨y, hy⟩ : ∃ y, l[j] = y := ⟨_, rfl⟩
            rw [hy] at hcj
            have HY := Lib.hid (show l.getD (k - 1) 0 = y by rw [show k - 1 = j by omega, getD_get l j hj2, hy])
            have hj0 : (0 : Int) ≤ (j : Int) := by omega
            clear hy hj2
            by_cases hxy : x ≤ y
            · have HF := Lib.hid (enB_false HL2.out (fun h => by have := h.2 (by omega); rw [HX.out, HY.out] at this; omega))
              clear hx0 hx9 hk0
              go_wp2_with fail
              go_quiet (fail)
              go_wp2_with fail
              go_ret
              exact ⟨ret_bool HF.out.symm, below_drewN HB.out _⟩
            · have hxz : decide (x ≤ y) = false := by simpa using hxy
              have HO := Lib.hid (show okAt l k from ⟨by rw [HX.out]; omega, fun h => by rw [HX.out, HY.out]; omega⟩)
              clear hx0 hx9 hk0 hxy
              go_wp2_with fail
              go_quiet (fail)
              go_wp2_with fail
              go_roundw
              case rel => exact ⟨k + 1, by omega, by go_num, Lib.hid (fun j hj => by
                by_cases e : j = k
                · subst e; exact HO.out
                · exact HK.out j (by omega)), Lib.hid (below_drewN HB.out _)⟩
              case measure => simp [intOf]; omega
    · have hkn : k = n := by omega
      subst hkn
      have HT := Lib.hid ((enB_iff l).2 (fun j hj => HK.out j (by have := HN.out; omega)))
      go_wp2_with fail
      go_ret
      exact ⟨ret_bool HT.out.symm, HB.out⟩

/-- What Clone hands back: a list of its own. -/
def RetOwn (w : World) (n : Nat) (xs : List Value) (e : Ending) (w' : World) : Prop := ∃ v, e = .returned v ∧ w'.ownsRow w.heap.size 3 1 v n xs ∧ Below w.heap.size w w'
theorem clone_any (p : Option Addr) (n c : Nat) (xs : List Value) (w : World) (h : Rd w w.heap.size p xs) (hn : xs.length = n) (hu : ∀ u ∈ xs, u.oneCell' = true) (hl : n ≤ 1000000) :
    Calls Try.prog 29 #[.slice p n c] w (RetOwn w n xs) := by
  rcases p with _ | ad
  · have he := fun w => Lib.run_eql_slice_nil (P := Try.prog) w 23 3 none n c 0 0 Try.underlying23
    have hx : xs = [] := by
      rcases h with h | ⟨b, o, h, _⟩
      · exact h
      · cases h
    subst hx
    simp only [List.length_nil] at hn
    subst hn
    clear h
    go_enter Try.func29, Try.ntmps29
    go_wp2_with fail
    go_ret
    exact ⟨_, rfl, World.ownsRow_nil _ _ _ _, Below.refl _ _⟩
  · have he := fun w => Lib.run_eql_slice_nil (P := Try.prog) w 23 3 (some ad) n c 0 0 Try.underlying23
    have HN := Lib.hid hn
    have HU := Lib.hid hu
    clear hn hu
    go_enter Try.func29, Try.ntmps29
    go_wp2_with (at_builtin; refine wpList_appM rfl (.tmp 5) (.tmp 6) 23 rfl w.heap.size 3 _ 1 8 Try.underlying23 int_info rfl (by omega) _ 0 [] rfl (own_built (Blk.new w 3 []) (Nat.le_refl _) rfl (by unfold maxLen; omega)) w.heap.size (some ad) n c xs rfl (by rw [HN.out, Nat.mul_one]) (h.below ((Below.refl _ _).alloc (Nat.le_refl _) _)) HU.out (by omega) (by omega) (by simp) ?_; intro v' w' hown hbl _ _)
    go_ret
    rw [Nat.zero_add, List.nil_append] at hown
    exact ⟨_, rfl, hown, ((Below.refl _ _).alloc (Nat.le_refl _) _).trans hbl⟩
end Go.Proofs.Ytfidnecdojgkjaa
