/- The document's locks: their state in memory, what each call answers. -/
import Derived.Test.YthjakgjpnijmlaaMake
namespace Go.Proofs.Ythjakgjpnijmlaa
open Go.RowKit

/-- The document's locks at block X: the holders H (0: nobody), who waits T. -/
structure RXd (w : World) (X : Nat) (S : Nat → Prop) (H : List Int) (T : List (List Int)) (hg qg : Nat) (ps : List Value) : Prop where
  hX : Blk w X 51 [.slice (some ⟨hg, 0, none⟩) H.length H.length, .slice (some ⟨qg, 0, none⟩) H.length H.length]
  hH : Blk w hg 3 (ints H)
  hQ : Blk w qg 40 ps
  len : ps.length = H.length
  lenT : T.length = H.length
  hq : ∀ (i : Nat) (v : Value) (t : List Int), ps[i]? = some v → T[i]? = some t → ∃ p d, v = .slice p t.length d ∧ Rd w w.heap.size p (ints t) ∧ t.length ≤ d ∧ d ≤ maxLen ∧ ∀ a, p = some a → S a.block ∧ a.block ≠ X ∧ a.block ≠ hg ∧ a.block ≠ qg
  sX : S X
  sH : S hg
  sQ : S qg
  lt : ∀ b, S b → b < w.heap.size
def RX (w : World) (X : Nat) (S : Nat → Prop) (H : List Int) (T : List (List Int)) : Prop := H.length ≤ 1024 ∧ ∃ hg qg ps, RXd w X S H T hg qg ps
section
variable {w w' w2 : World} {X : Nat} {S U : Nat → Prop} {H : List Int} {T : List (List Int)} {hg qg : Nat} {ps : List Value}
theorem RXd.fr (h : RXd w X S H T hg qg ps) (k : Fr U w w') (hn : ∀ b, S b → ¬ U b) : RXd w' X S H T hg qg ps :=
  ⟨h.hX.fr k (hn _ h.sX), h.hH.fr k (hn _ h.sH), h.hQ.fr k (hn _ h.sQ), h.len, h.lenT, fun i v t h1 h2 => by
    obtain ⟨p, d, e, hr, h3, h4, h5⟩ := h.hq i v t h1 h2
    exact ⟨p, d, e, hr.fr k (fun a ha => hn _ (h5 a ha).1), h3, h4, h5⟩, h.sX, h.sH, h.sQ, fun b hb => Nat.lt_of_lt_of_le (h.lt b hb) k.size⟩
theorem RX.fr (h : RX w X S H T) (k : Fr U w w') (hn : ∀ b, S b → ¬ U b) : RX w' X S H T := by
  obtain ⟨h1, hg, qg, ps, h⟩ := h
  exact ⟨h1, hg, qg, ps, h.fr k hn⟩
theorem RXd.kept (h : RXd w X S H T hg qg ps) (k : Below w.heap.size w w') : RXd w' X S H T hg qg ps := h.fr (U := fun _ => False) (Fr.of_below k _) (fun _ _ h => h)
theorem RX.kept (h : RX w X S H T) (k : Below w.heap.size w w') : RX w' X S H T := h.fr (U := fun _ => False) (Fr.of_below k _) (fun _ _ h => h)
theorem RX.lt (h : RX w X S H T) : ∀ b, S b → b < w.heap.size := by
  obtain ⟨_, hg, qg, ps, h⟩ := h
  exact h.lt
theorem RXd.ne (h : RXd w X S H T hg qg ps) : X ≠ hg ∧ X ≠ qg ∧ hg ≠ qg := by
  have h1 := h.hX
  have h2 := h.hH
  have h3 := h.hQ
  unfold Blk at h1 h2 h3
  exact ⟨type_ne h1 h2 (by decide), type_ne h1 h3 (by decide), type_ne h2 h3 (by decide)⟩
theorem RXd.cells (h : RXd w X S H T hg qg ps) : w.cell? ⟨X, 0, none⟩ = some (.slice (some ⟨hg, 0, none⟩) H.length H.length) ∧ w.cell? ⟨X, 1, none⟩ = some (.slice (some ⟨qg, 0, none⟩) H.length H.length) := ⟨h.hX.cell 0, h.hX.cell 1⟩
theorem RXd.atH (h : RXd w X S H T hg qg ps) {i : Nat} (hi : i < H.length) : w.cell? ⟨hg, i, none⟩ = some (.int .i64 H[i]) ∧ w.frozen? ⟨hg, i, none⟩ = false := ⟨(h.hH.cell i).trans (ints_at H i hi), h.hH.free i⟩
theorem RXd.atT (h : RXd w X S H T hg qg ps) {i : Nat} (hi : i < H.length) (hi2 : i < T.length) : ∃ p d, ps[i]? = some (.slice p (T[i]).length d) ∧ w.cell? ⟨qg, i, none⟩ = some (.slice p (T[i]).length d) ∧ w.frozen? ⟨qg, i, none⟩ = false ∧ Rd w w.heap.size p (ints T[i]) ∧ (T[i]).length ≤ d ∧ d ≤ maxLen ∧ ∀ a, p = some a → S a.block ∧ a.block ≠ X ∧ a.block ≠ hg ∧ a.block ≠ qg := by
  have hip : i < ps.length := by rw [h.len]; exact hi
  obtain ⟨p, d, e, hr, h1, h2, h3⟩ := h.hq i ps[i] T[i] (List.getElem?_eq_getElem hip) (List.getElem?_eq_getElem hi2)
  refine ⟨p, d, by rw [List.getElem?_eq_getElem hip, e], ?_, h.hQ.free i, hr, h1, h2, h3⟩
  rw [h.hQ.cell i, List.getElem?_eq_getElem hip, e]
/-- The document's locks at X have become H', T'. -/
def RW (w w' : World) (X : Nat) (S : Nat → Prop) (H' : List Int) (T' : List (List Int)) : Prop := ∃ S' : Nat → Prop, RX w' X S' H' T' ∧ Fr S w w' ∧ (∀ b, S' b → S b ∨ w.heap.size ≤ b) ∧ ∀ b, S b → S' b
theorem RW.same (h : RX w X S H T) : RW w w X S H T := ⟨S, h, Fr.refl _ _, fun _ h => .inl h, fun _ h => h⟩
theorem rd_far {p : Option Addr} {xs : List Value} (h : Rd w w.heap.size p xs) (a : Addr) (u : Value) (hn : ∀ b, p = some b → b.block ≠ a.block) : Rd (w.setCell a u) (w.setCell a u).heap.size p xs :=
  h.fr (S := fun b => b = a.block) ((Fr.refl _ _).set a u (.inl rfl)) (fun b hb e => hn b hb e)
theorem RXd.setH (h : RXd w X S H T hg qg ps) (i : Nat) (x : Int) : RXd (w.setCell ⟨hg, i, none⟩ (.int .i64 x)) X S (H.set i x) T hg qg ps := by
  obtain ⟨n1, n2, n3⟩ := h.ne
  refine ⟨by rw [List.length_set]; exact h.hX.far (p := ⟨hg, i, none⟩) n1 _, ?_, h.hQ.far (p := ⟨hg, i, none⟩) n3.symm _, by rw [List.length_set]; exact h.len, by rw [List.length_set]; exact h.lenT, ?_, h.sX, h.sH, h.sQ, fun b hb => by simpa using h.lt b hb⟩
  · rw [← ints_set]
    exact h.hH.set_ i _
  · intro j v t h1 h2
    obtain ⟨p, d, e, hr, h3, h4, h5⟩ := h.hq j v t h1 h2
    exact ⟨p, d, e, rd_far hr _ _ (fun b hb => (h5 b hb).2.2.1), h3, h4, h5⟩
theorem RXd.setQ (h : RXd w X S H T hg qg ps) {i : Nat} (hi : i < H.length) {p : Option Addr} {d : Nat} {t : List Int} (hr : Rd w w.heap.size p (ints t)) (h3 : t.length ≤ d) (h4 : d ≤ maxLen) (h5 : ∀ a, p = some a → S a.block ∧ a.block ≠ X ∧ a.block ≠ hg ∧ a.block ≠ qg) :
    RXd (w.setCell ⟨qg, i, none⟩ (.slice p t.length d)) X S H (T.set i t) hg qg (ps.set i (.slice p t.length d)) := by
  obtain ⟨n1, n2, n3⟩ := h.ne
  refine ⟨h.hX.far (p := ⟨qg, i, none⟩) n2 _, h.hH.far (p := ⟨qg, i, none⟩) n3 _, h.hQ.set_ i _, by rw [List.length_set]; exact h.len, by rw [List.length_set]; exact h.lenT, ?_, h.sX, h.sH, h.sQ, fun b hb => by simpa using h.lt b hb⟩
  intro j v t' h1 h2
  by_cases hji : j = i
  · subst hji
    rw [List.getElem?_set_self (by rw [h.len]; exact hi)] at h1
    rw [List.getElem?_set_self (by rw [h.lenT]; exact hi)] at h2
    injection h1 with h1
    injection h2 with h2
    subst h1 h2
    exact ⟨p, d, rfl, rd_far hr _ _ (fun b hb => (h5 b hb).2.2.2), h3, h4, h5⟩
  · rw [List.getElem?_set_ne (fun e => hji e.symm)] at h1 h2
    obtain ⟨p', d', e, hr', h3', h4', h5'⟩ := h.hq j v t' h1 h2
    exact ⟨p', d', e, rd_far hr' _ _ (fun b hb => (h5' b hb).2.2.2), h3', h4', h5'⟩
theorem RXd.more (h : RXd w X S H T hg qg ps) (hS : ∀ b, S b → U b) (hU : ∀ b, U b → b < w.heap.size) : RXd w X U H T hg qg ps :=
  ⟨h.hX, h.hH, h.hQ, h.len, h.lenT, fun i v t h1 h2 => by
    obtain ⟨p, d, e, hr, h3, h4, h5⟩ := h.hq i v t h1 h2
    exact ⟨p, d, e, hr, h3, h4, fun a ha => ⟨hS _ (h5 a ha).1, (h5 a ha).2⟩⟩, hS _ h.sX, hS _ h.sH, hS _ h.sQ, hU⟩

/-! ### What only reads -/
def okX (n : Nat) (o s : Int) : Bool := okO o && (decide (0 ≤ s) && decide (s < (n : Int)))
theorem okX_iff (n : Nat) (o s : Int) : okX n o s = true ↔ 1 ≤ o ∧ o ≤ 65535 ∧ 0 ≤ s ∧ s < (n : Int) := by simp [okX, okO]; omega
theorem right_any (o s : Int) (h : RX w X S H T) : Calls Try.prog 36 #[.pointer (some ⟨X, 0, none⟩), .int .i64 o, .int .i64 s] w fun e w' => e = .returned (.bool (okX H.length o s)) ∧ w = w' := by
  obtain ⟨h0, hg, qg, ps, hd⟩ := h
  obtain ⟨hc, _⟩ := hd.cells
  have HT := Lib.hid (show (1 ≤ o ∧ o ≤ 65535 ∧ 0 ≤ s ∧ s < (H.length : Int)) → true = okX H.length o s from fun h => ((okX_iff _ _ _).2 h).symm)
  have HF := Lib.hid (show ¬ (1 ≤ o ∧ o ≤ 65535 ∧ 0 ≤ s ∧ s < (H.length : Int)) → false = okX H.length o s from fun h => by
    rw [eq_comm, Bool.eq_false_iff]; exact fun e => h ((okX_iff _ _ _).1 e))
  clear hd
  by_cases a1 : 1 ≤ o
  · by_cases a2 : o ≤ 65535
    · by_cases a3 : 0 ≤ s
      · by_cases a4 : s < (H.length : Int)
        all_goals
          go_enter Try.func36, Try.ntmps36
          go_wp2_with fail
          go_ret
          exact ⟨ret_bool (by first | exact HT.out (by omega) | exact HF.out (by omega)), rfl⟩
      · go_enter Try.func36, Try.ntmps36
        go_wp2_with fail
        go_ret
        exact ⟨ret_bool (by first | exact HT.out (by omega) | exact HF.out (by omega)), rfl⟩
    · go_enter Try.func36, Try.ntmps36
      go_wp2_with fail
      go_ret
      exact ⟨ret_bool (by first | exact HT.out (by omega) | exact HF.out (by omega)), rfl⟩
  · go_enter Try.func36, Try.ntmps36
    go_wp2_with fail
    go_ret
    exact ⟨ret_bool (by first | exact HT.out (by omega) | exact HF.out (by omega)), rfl⟩

/-- The stripes that the document's Held gives. -/
def refHeldFrom : List Int → Int → Nat → List Int
  | [], _, _ => []
  | y :: l, o, k => if 0 < o ∧ y = o then (k : Int) :: refHeldFrom l o (k + 1) else refHeldFrom l o (k + 1)
def refHeld (H : List Int) (o : Int) : List Int := refHeldFrom H o 0
theorem refHeldFrom_len : ∀ (H : List Int) (o : Int) (k : Nat), (refHeldFrom H o k).length ≤ H.length
  | [], _, _ => Nat.le_refl _
  | q :: l, o, k => by
    rw [refHeldFrom]
    have := refHeldFrom_len l o (k + 1)
    split <;> simp <;> omega
theorem refHeldFrom_drop (H : List Int) (o : Int) (k : Nat) (h : k < H.length) : refHeldFrom (H.drop k) o k = (if 0 < o ∧ H[k] = o then [(k : Int)] else []) ++ refHeldFrom (H.drop (k + 1)) o (k + 1) := by
  rw [List.drop_eq_getElem_cons h, refHeldFrom]
  split <;> simp
set_option maxHeartbeats 1000000 in
theorem refHeld_any (o : Int) (h : RX w X S H T) : Calls Try.prog 34 #[.pointer (some ⟨X, 0, none⟩), .int .i64 o] w (RetOwn w 3 (refHeld H o).length (ints (refHeld H o))) := by
  obtain ⟨h0, hg, qg, ps, hd⟩ := h
  go_enter Try.func34, Try.ntmps34
  go_wp2_with fail
  go_loopw [5, 6] (fun v i wr => ∃ (k : Nat) (acc : List Int), k ≤ H.length ∧ i = .int .i64 k ∧ acc ++ refHeldFrom (H.drop k) o k = refHeld H o ∧ wr.ownsRow w.heap.size 3 1 v acc.length (ints acc) ∧ Below w.heap.size w wr) (fun _ i _ => H.length - (intOf i).toNat)
  case atStart => exact ⟨0, [], Nat.zero_le _, rfl, rfl, World.ownsRow_nil _ _ _ _, Below.refl _ _⟩
  case round =>
    obtain ⟨k, acc, hk, rfl, hacc, hown, hb⟩ := hrel
    have hla : acc.length ≤ 1024 := by
      have e := congrArg List.length hacc
      simp at e
      have e2 : (refHeld H o).length ≤ H.length := refHeldFrom_len H o 0
      omega
    have HA := Lib.hid hacc
    clear hacc
    have hsz := hb.size
    obtain ⟨hc, _⟩ := (hd.kept hb).cells
    by_cases hlt : k < H.length
    · obtain ⟨hy, _⟩ := (hd.kept hb).atH hlt
      have hi : (k : Int) < (H.length : Int) := by omega
      have HD := Lib.hid (refHeldFrom_drop H o k hlt)
      by_cases ho : 0 < o
      · by_cases he : H[k] = o
        · have hb2 : (H[k] == o) = true := by simpa using he
          have HH := Lib.hid (show 0 < o ∧ H[k] = o from ⟨ho, he⟩)
          clear he
          go_wp2_with (at_builtin; refine wpList_app1 rfl (.tmp 29) (.tmp 31) 40 rfl w.heap.size 3 _ 8 Try.underlying40 int_info rfl _ acc.length (ints acc) rfl hown (.int .i64 k) rfl rfl (by omega) (by omega) hsz ?_; intro v' w1 hown1 hbl _ _)
          go_roundw
          case rel => exact ⟨k + 1, acc ++ [(k : Int)], by omega, by go_num, by rw [← HA.out, HD.out, if_pos HH.out]; simp, by rw [List.length_append, ← ints_snoc]; exact hown1, hb.trans hbl⟩
          case measure => simp [intOf]; omega
        · have hb2 : (H[k] == o) = false := by simpa using he
          have HH := Lib.hid (show ¬ (0 < o ∧ H[k] = o) from fun h => he h.2)
          clear he
          go_wp2_with fail
          go_roundw
          case rel => exact ⟨k + 1, acc, by omega, by go_num, by rw [← HA.out, HD.out, if_neg HH.out]; simp, hown, hb⟩
          case measure => simp [intOf]; omega
      · have HH := Lib.hid (show ¬ (0 < o ∧ H[k] = o) from fun h => ho h.1)
        have ho2 : o ≤ 0 := by omega
        clear ho
        go_wp2_with fail
        go_roundw
        case rel => exact ⟨k + 1, acc, by omega, by go_num, by rw [← HA.out, HD.out, if_neg HH.out]; simp, hown, hb⟩
        case measure => simp [intOf]; omega
    · have HK := Lib.hid (show k = H.length by omega)
      go_wp2_with fail
      go_ret
      have e := HA.out
      rw [HK.out, List.drop_length] at e
      rw [show refHeldFrom [] o H.length = [] from rfl, List.append_nil] at e
      subst e
      exact ⟨_, rfl, hown, hb⟩

/-- The stripe that the document's For gives. -/
def refForFrom : List (List Int) → Int → Nat → Int
  | [], _, _ => -1
  | t :: l, o, k => if o ∈ t then (k : Int) else refForFrom l o (k + 1)
def refFor (T : List (List Int)) (o : Int) : Int := refForFrom T o 0
theorem refForFrom_drop (T : List (List Int)) (o : Int) (k : Nat) (h : k < T.length) : refForFrom (T.drop k) o k = if o ∈ T[k] then (k : Int) else refForFrom (T.drop (k + 1)) o (k + 1) := by
  rw [List.drop_eq_getElem_cons h, refForFrom]
set_option maxHeartbeats 1000000 in
theorem refFor_any (o : Int) (h : RX w X S H T) (hs : ∀ t ∈ T, t.length ≤ 100000) : Calls Try.prog 35 #[.pointer (some ⟨X, 0, none⟩), .int .i64 o] w fun e w' => e = .returned (.int .i64 (refFor T o)) ∧ w = w' := by
  obtain ⟨h0, hg, qg, ps, hd⟩ := h
  have hlT := hd.lenT
  have HLT := Lib.hid hlT
  have HS := Lib.hid hs
  clear hlT hs
  obtain ⟨_, hc⟩ := hd.cells
  go_enter Try.func35, Try.ntmps35
  go_wp2_with fail
  go_loop [5] (fun i => ∃ k : Nat, k ≤ H.length ∧ i = .int .i64 k ∧ refForFrom (T.drop k) o k = refFor T o) (fun i => H.length - (intOf i).toNat)
  case atStart => exact ⟨0, Nat.zero_le _, rfl, rfl⟩
  case round =>
    obtain ⟨k, hk, rfl, hx⟩ := hrel
    have HX := Lib.hid hx
    clear hx
    by_cases hlt : k < H.length
    · have hlt2 : k < T.length := by rw [HLT.out]; exact hlt
      obtain ⟨p, d, _, hq, _, hr, hd1, hd2, _⟩ := hd.atT hlt hlt2
      have hi : (k : Int) < (H.length : Int) := by omega
      have HF := Lib.hid (refForFrom_drop T o k hlt2)
      have hlt3 := HS.out T[k] (List.getElem_mem hlt2)
      obtain ⟨t, ht⟩ : ∃ t, T[k] = t := ⟨_, rfl⟩
      rw [ht] at hq hr hd1 hlt3 HF
      clear ht
      go_wp2_with fail
      go_loop [6] (fun i => ∃ j : Nat, j ≤ t.length ∧ i = .int .i64 j ∧ o ∉ t.take j) (fun i => t.length - (intOf i).toNat)
      case atStart => exact ⟨0, Nat.zero_le _, rfl, by simp⟩
      case round =>
        obtain ⟨j, hj, rfl, hno⟩ := hrel
        have HNO := Lib.hid hno
        clear hno
        by_cases hjl : j < t.length
        · obtain ⟨b, o2, rfl, _, hy⟩ := hr.int hjl
          have hji : (j : Int) < (t.length : Int) := by omega
          by_cases he : t[j] = o
          · have hb2 : (t[j] == o) = true := by simpa using he
            have HM := Lib.hid (show o ∈ t by rw [← he]; exact List.getElem_mem hjl)
            clear he
            go_wp2_with fail
            go_ret
            exact ⟨ret_int (by rw [← HX.out, HF.out, if_pos HM.out]), rfl⟩
          · have hb2 : (t[j] == o) = false := by simpa using he
            have HM := Lib.hid (show o ∉ t.take (j + 1) by
              rw [List.take_succ_eq_append_getElem hjl, List.mem_append]
              rintro (h | h)
              · exact HNO.out h
              · simp at h; exact he h.symm)
            clear he
            go_wp2_with fail
            go_round
            case rel => exact ⟨j + 1, by omega, by go_num, HM.out⟩
            case measure => simp [intOf]; omega
        · have HM := Lib.hid (show o ∉ t by
            have := HNO.out
            rwa [List.take_of_length_le (by omega)] at this)
          have hji : ¬ (j : Int) < (t.length : Int) := by omega
          go_wp2_with fail
          go_round
          case rel => exact ⟨k + 1, by omega, by go_num, by rw [← HX.out, HF.out, if_neg HM.out]⟩
          case measure => simp [intOf]; omega
    · have HK := Lib.hid (show k = T.length by rw [HLT.out]; omega)
      go_wp2_with fail
      go_ret
      refine ⟨ret_int ?_, rfl⟩
      rw [← HX.out, HK.out, List.drop_length]
      rfl
end
end Go.Proofs.Ythjakgjpnijmlaa
