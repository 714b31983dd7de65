/- The document's locks: New, Lock and Unlock. -/
import Derived.Test.YthjakgjpnijmlaaRef
namespace Go.Proofs.Ythjakgjpnijmlaa
open Go.RowKit

/-! ### New -/
def NewR (w : World) (X : Nat) (H : List Int) (T : List (List Int)) (w' : World) : Prop := ∃ S : Nat → Prop, RX w' X S H T ∧ Below w.heap.size w w' ∧ ∀ b, S b → w.heap.size ≤ b
def RetRNew (w : World) (n : Nat) (e : Ending) (w' : World) : Prop := ∃ X, e = .returned (.pointer (some ⟨X, 0, none⟩)) ∧ NewR w X (List.replicate n 0) (List.replicate n []) w'
theorem refnew_state {w W : World} {a b X n : Nat} (h2 : n ≤ 1024) (hB : Below w.heap.size w W) (ha : Blk W a 3 (List.replicate n (.int .i64 0))) (hb : Blk W b 40 (List.replicate n (.slice none 0 0))) (hX : Blk W X 51 [.slice (some ⟨a, 0, none⟩) n n, .slice (some ⟨b, 0, none⟩) n n]) (la : w.heap.size ≤ a) (lb : w.heap.size ≤ b) (lX : w.heap.size ≤ X) :
    NewR w X (List.replicate n 0) (List.replicate n []) W := by
  refine ⟨fun c => w.heap.size ≤ c ∧ c < W.heap.size, ⟨by simpa using h2, a, b, List.replicate n (.slice none 0 0), ?_⟩, hB, fun b hb => hb.1⟩
  refine ⟨by simpa using hX, by rw [show ints (List.replicate n 0) = List.replicate n (.int .i64 0) by simp [ints]]; exact ha, hb, by simp, by simp, ?_, ⟨lX, hX.lt⟩, ⟨la, ha.lt⟩, ⟨lb, hb.lt⟩, fun b hb => hb.2⟩
  intro i v t h1 h2
  have e1 := (List.mem_replicate.1 (List.mem_of_getElem? h1)).2
  have e2 := (List.mem_replicate.1 (List.mem_of_getElem? h2)).2
  subst e1 e2
  exact ⟨none, 0, rfl, .inl rfl, Nat.le_refl _, Nat.zero_le _, by simp⟩
theorem refnew1 (w : World) (n : Nat) (h1 : n ≤ 1024) (zs ys : List Value) (hz : List.replicate n (Value.int .i64 0) = zs) (hy : List.replicate n (Value.slice none 0 0) = ys) :
    NewR w (w.heap.size + 1 + 1) (List.replicate n 0) (List.replicate n []) ((((w.alloc (.cells zs.toArray 3)).alloc (.cells ys.toArray 40)).alloc (.cells #[.slice (some ⟨w.heap.size, 0, none⟩) n n, .slice (some ⟨w.heap.size + 1, 0, none⟩) n n] 51)).drew) := by
  subst hz hy
  refine refnew_state h1 ?_ (a := w.heap.size) (b := w.heap.size + 1) ?_ ?_ ?_ (by omega) (by omega) (by omega)
  · exact ((((Below.refl _ _).alloc (Nat.le_refl _) _).alloc (by simp) _).alloc (by simp; omega) _).drew
  · exact ((Blk.new w 3 _).alloc _).alloc _
  · exact (Blk.new' _ 40 _ (by simp)).alloc _
  · exact Blk.new' _ 51 _ (by simp)
theorem refnew2 (w : World) (n : Nat) (h1 : n ≤ 1024) (zs ys : List Value) (hz : List.replicate n (Value.int .i64 0) = zs) (hy : List.replicate n (Value.slice none 0 0) = ys) :
    NewR w (w.heap.size + 1 + 1) (List.replicate n 0) (List.replicate n []) ((((w.alloc (.cells ys.toArray 40)).alloc (.cells zs.toArray 3)).alloc (.cells #[.slice (some ⟨w.heap.size + 1, 0, none⟩) n n, .slice (some ⟨w.heap.size, 0, none⟩) n n] 51)).drew) := by
  subst hz hy
  refine refnew_state h1 ?_ (a := w.heap.size + 1) (b := w.heap.size) ?_ ?_ ?_ (by omega) (by omega) (by omega)
  · exact ((((Below.refl _ _).alloc (Nat.le_refl _) _).alloc (by simp) _).alloc (by simp; omega) _).drew
  · exact (Blk.new' _ 3 _ (by simp)).alloc _
  · exact ((Blk.new w 40 _).alloc _).alloc _
  · exact Blk.new' _ 51 _ (by simp)
set_option maxHeartbeats 1000000 in
theorem refNew_any (n : Nat) (w : World) (h1 : n ≤ 1024) : Calls Try.prog 20 #[.int .i64 n] w (RetRNew w n) := by
  have hmk := fun w => run_mk (P := Try.prog) 49 40 (.slice none 0 0) 24 Try.underlying49 sl_info rfl .i64 .i64 n (by omega) (by omega) (by omega) w
  have hmi := fun w => run_mk (P := Try.prog) 40 3 (.int .i64 0) 8 Try.underlying40 int_info rfl .i64 .i64 n (by omega) (by omega) (by omega) w
  obtain ⟨zs, hz⟩ : ∃ zs, List.replicate n (Value.int .i64 0) = zs := ⟨_, rfl⟩
  obtain ⟨ys, hy⟩ : ∃ zs, List.replicate n (Value.slice none 0 0) = zs := ⟨_, rfl⟩
  rw [Int.toNat_natCast, hy] at hmk
  rw [Int.toNat_natCast, hz] at hmi
  have H1 := Lib.hid (refnew1 w n h1 zs ys hz hy)
  have H2 := Lib.hid (refnew2 w n h1 zs ys hz hy)
  clear hz hy
  go_enter Try.func20, Try.ntmps20
  go_wp2_with fail
  refine wp_region_noPanic ?_
  refine wp_region_held_drew (S := fun _ => True) (by kernel_rfl) (trivial) (fun hHeld => ?_)
  refine wpAnyH_take (i := 0) (oi := ⟨some 3, _, _, _, _, _⟩) (v := ?_) rfl (by kernel_rfl) (by kernel_rfl) (by kernel_rfl) (fun _ _ _ h => h) (Or.inl ⟨by rfl, ?_⟩) hHeld ?_
  rotate_left
  · (intro w hSw; go_simp; try with_reducible rfl)
  try simp only [Act.put, List.setIfInBounds_toArray, List.set_cons_zero, List.set_cons_succ]
  refine wpAnyH_take (i := 2) (oi := ⟨some 5, _, _, _, _, _⟩) (v := ?_) rfl (by kernel_rfl) (by kernel_rfl) (by kernel_rfl) (fun _ _ _ h => h) (Or.inl ⟨by rfl, ?_⟩) hHeld ?_
  rotate_left
  · (intro w hSw; go_simp; try with_reducible rfl)
  try simp only [Act.put, List.setIfInBounds_toArray, List.set_cons_zero, List.set_cons_succ]
  refine wpAnyH_ready (rs := [1, 3]) (by kernel_rfl) (by simp) ?_
  refine (AllReadyH.cons (o := ⟨some 4, _, _, _, _, _⟩) rfl (fun K hK => ?_) (AllReadyH.cons (o := ⟨some 6, _, _, _, _, _⟩) rfl (fun K hK => ?_) AllReadyH.nil))
  · go_simp
    refine hK.out _ _ (trivial) (fun hHeld => ?_)
    clear hK K
    try simp only [Act.put, List.setIfInBounds_toArray, List.set_cons_zero, List.set_cons_succ]
    refine wpAnyH_ready (rs := [3]) (by kernel_rfl) (by simp) ?_
    refine (AllReadyH.cons (o := ⟨some 6, _, _, _, _, _⟩) rfl (fun K hK => ?_) AllReadyH.nil)
    go_simp
    refine hK.out _ _ (trivial) (fun hHeld => ?_)
    clear hK K
    try simp only [Act.put, List.setIfInBounds_toArray, List.set_cons_zero, List.set_cons_succ]
    refine wpAnyH_take (i := 4) (oi := ⟨some 7, _, _, _, _, _⟩) (v := ?_) rfl (by kernel_rfl) (by kernel_rfl) (by kernel_rfl) (fun _ _ _ h => h) (Or.inl ⟨by rfl, ?_⟩) hHeld ?_
    rotate_left
    · (intro w hSw; go_simp; try with_reducible rfl)
    try simp only [Act.put, List.setIfInBounds_toArray, List.set_cons_zero, List.set_cons_succ]
    refine wpAnyH_ready (rs := [5]) (by kernel_rfl) (by simp) ?_
    refine (AllReadyH.cons (o := ⟨some 8, _, _, _, _, _⟩) rfl (fun K hK => ?_) AllReadyH.nil)
    go_simp
    refine hK.out _ _ (trivial) (fun hHeld => ?_)
    clear hK K
    try simp only [Act.put, List.setIfInBounds_toArray, List.set_cons_zero, List.set_cons_succ]
    refine wpAnyH_take (i := 6) (oi := ⟨some 2, _, _, _, _, _⟩) (v := ?_) rfl (by kernel_rfl) (by kernel_rfl) (by kernel_rfl) (fun _ _ _ h => h) (Or.inl ⟨by rfl, ?_⟩) hHeld ?_
    rotate_left
    · (intro w hSw; go_simp; try with_reducible rfl)
    try simp only [Act.put, List.setIfInBounds_toArray, List.set_cons_zero, List.set_cons_succ]
    refine wpAnyH_done (by kernel_rfl) ?_ _
    refine NoPanic.normal ?_
    go_wp2_with fail
    go_ret
    exact ⟨_, rfl, H1.out⟩
  · go_simp
    refine hK.out _ _ (trivial) (fun hHeld => ?_)
    clear hK K
    try simp only [Act.put, List.setIfInBounds_toArray, List.set_cons_zero, List.set_cons_succ]
    refine wpAnyH_ready (rs := [1]) (by kernel_rfl) (by simp) ?_
    refine (AllReadyH.cons (o := ⟨some 4, _, _, _, _, _⟩) rfl (fun K hK => ?_) AllReadyH.nil)
    go_simp
    refine hK.out _ _ (trivial) (fun hHeld => ?_)
    clear hK K
    try simp only [Act.put, List.setIfInBounds_toArray, List.set_cons_zero, List.set_cons_succ]
    refine wpAnyH_take (i := 4) (oi := ⟨some 7, _, _, _, _, _⟩) (v := ?_) rfl (by kernel_rfl) (by kernel_rfl) (by kernel_rfl) (fun _ _ _ h => h) (Or.inl ⟨by rfl, ?_⟩) hHeld ?_
    rotate_left
    · (intro w hSw; go_simp; try with_reducible rfl)
    try simp only [Act.put, List.setIfInBounds_toArray, List.set_cons_zero, List.set_cons_succ]
    refine wpAnyH_ready (rs := [5]) (by kernel_rfl) (by simp) ?_
    refine (AllReadyH.cons (o := ⟨some 8, _, _, _, _, _⟩) rfl (fun K hK => ?_) AllReadyH.nil)
    go_simp
    refine hK.out _ _ (trivial) (fun hHeld => ?_)
    clear hK K
    try simp only [Act.put, List.setIfInBounds_toArray, List.set_cons_zero, List.set_cons_succ]
    refine wpAnyH_take (i := 6) (oi := ⟨some 2, _, _, _, _, _⟩) (v := ?_) rfl (by kernel_rfl) (by kernel_rfl) (by kernel_rfl) (fun _ _ _ h => h) (Or.inl ⟨by rfl, ?_⟩) hHeld ?_
    rotate_left
    · (intro w hSw; go_simp; try with_reducible rfl)
    try simp only [Act.put, List.setIfInBounds_toArray, List.set_cons_zero, List.set_cons_succ]
    refine wpAnyH_done (by kernel_rfl) ?_ _
    refine NoPanic.normal ?_
    go_wp2_with fail
    go_ret
    exact ⟨_, rfl, H2.out⟩

/-! ### Lock -/
def lastOf (l : List Int) : Int := l.getD (l.length - 1) 0
def refBlocked (H : List Int) (T : List (List Int)) (o s : Int) : Prop := 0 ≤ refFor T o ∨ (refHeld H o ≠ [] ∧ s ≤ lastOf (refHeld H o))
instance (H : List Int) (T : List (List Int)) (o s : Int) : Decidable (refBlocked H T o s) := by unfold refBlocked; infer_instance
def refLE (H : List Int) (T : List (List Int)) (o s : Int) : Int := if okX H.length o s = true then (if refBlocked H T o s then 8 else 0) else 2
def hAt (H : List Int) (s : Int) : Int := H.getD s.toNat 0
def tAt (T : List (List Int)) (s : Int) : List Int := T.getD s.toNat []
def refLB (H : List Int) (T : List (List Int)) (o s : Int) : Bool := decide (refLE H T o s = 0) && decide (hAt H s = 0)
def refLH (H : List Int) (T : List (List Int)) (o s : Int) : List Int := if refLB H T o s = true then H.set s.toNat o else H
def refLT (H : List Int) (T : List (List Int)) (o s : Int) : List (List Int) := if refLE H T o s = 0 ∧ hAt H s ≠ 0 then T.set s.toNat (tAt T s ++ [o]) else T
section
variable {w w1 w2 wr w3 w4 : World} {X : Nat} {S : Nat → Prop} {H : List Int} {T : List (List Int)} {hg qg : Nat} {ps : List Value}
theorem refl_cells (hd : RXd wr X S H T hg qg ps) (hb : Below wr.heap.size wr w2) : w2.cell? ⟨X, 0, none⟩ = some (.slice (some ⟨hg, 0, none⟩) H.length H.length) ∧ w2.cell? ⟨X, 1, none⟩ = some (.slice (some ⟨qg, 0, none⟩) H.length H.length) := (hd.kept hb).cells
theorem refl_cells_set (hd : RXd wr X S H T hg qg ps) (hb : Below wr.heap.size wr w2) {i : Nat} {v : Value} : (w2.setCell ⟨qg, i, none⟩ v).cell? ⟨X, 0, none⟩ = some (.slice (some ⟨hg, 0, none⟩) H.length H.length) ∧ (w2.setCell ⟨qg, i, none⟩ v).cell? ⟨X, 1, none⟩ = some (.slice (some ⟨qg, 0, none⟩) H.length H.length) := by
  have h := ((hd.kept hb).hX.far (p := ⟨qg, i, none⟩) hd.ne.2.1 v)
  exact ⟨h.cell 0, h.cell 1⟩
theorem below_alloc' (hb : Below wr.heap.size wr w2) (o : Obj) : Below wr.heap.size wr (w2.alloc o) := hb.alloc hb.size o
theorem rd_new (w : World) (o : Int) : Rd (w.alloc (.cells #[.int .i64 o] 3)) (w.heap.size + 1) (some ⟨w.heap.size, 0, none⟩) [.int .i64 o] := by
  simpa using Rd.of_blk (Blk.new w 3 [.int .i64 o]) (List.prefix_refl _)
theorem rd_new_elder {o : Int} (h : ((wr.alloc (.cells #[.int .i64 o] 3)).drew).grownBy w3 none) : Rd w3 (wr.heap.size + 1) (some ⟨wr.heap.size, 0, none⟩) [.int .i64 o] := by
  have hB : Blk w3 wr.heap.size 3 [.int .i64 o] := by
    have h1 : Blk ((wr.alloc (.cells #[.int .i64 o] 3)).drew) wr.heap.size 3 [.int .i64 o] := Blk.new wr 3 [.int .i64 o]
    exact h1.same (h.block _ h1.lt (by simp))
  refine .inr ⟨wr.heap.size, 0, rfl, by omega, fun j u hu => ?_⟩
  rw [Nat.zero_add, hB.cell]
  exact hu
theorem refset (hd : RXd wr X S H T hg qg ps) (hsz : H.length ≤ 1024) {i : Nat} (hi : i < H.length) (hb : Below wr.heap.size wr w4) {p : Option Addr} {d : Nat} {t : List Int} (hown : w4.ownsRow wr.heap.size 3 1 (.slice p t.length d) t.length (ints t)) (h1 : t.length ≤ d) (h2 : d ≤ maxLen) :
    RW wr (w4.setCell ⟨qg, i, none⟩ (.slice p t.length d)) X S H (T.set i t) := by
  have hd4 := (hd.kept hb).more (U := fun b => S b ∨ (wr.heap.size ≤ b ∧ b < w4.heap.size)) (fun b h => .inl h) (fun b h => by
    rcases h with h | h
    · have := hd.lt b h; have := hb.size; omega
    · exact h.2)
  refine ⟨_, ⟨by simpa using hsz, hg, qg, _, hd4.setQ hi (own_rd hown) h1 h2 (fun a ha => ?_)⟩, ?_, fun b hb => hb.imp id (fun h => h.1), fun b hb => .inl hb⟩
  · subst ha
    have hl := own_lt hown a.block rfl
    have l1 := hd.lt X hd.sX
    have l2 := hd.lt hg hd.sH
    have l3 := hd.lt qg hd.sQ
    exact ⟨.inr hl, by omega, by omega, by omega⟩
  · exact (Fr.of_below hb S).set _ _ (.inl hd.sQ)
theorem RW.first {H' : List Int} {T' : List (List Int)} (hb : Below w.heap.size w w1) (h : RW w1 w2 X S H' T') : RW w w2 X S H' T' := by
  obtain ⟨S', h1, h2, h3, h4⟩ := h
  have := hb.size
  exact ⟨S', h1, h2.first hb, fun b hb => (h3 b hb).imp id (fun h => by omega), h4⟩
theorem setH_RW (hd : RXd w X S H T hg qg ps) (hsz : H.length ≤ 1024) (i : Nat) (x : Int) : RW w (w.setCell ⟨hg, i, none⟩ (.int .i64 x)) X S (H.set i x) T :=
  ⟨S, ⟨by simpa using hsz, hg, qg, ps, hd.setH i x⟩, (Fr.refl _ _).set _ _ (.inl hd.sH), fun _ h => .inl h, fun _ h => h⟩
end
section
variable {w : World} {X : Nat} {S : Nat → Prop} {H : List Int} {T : List (List Int)}
set_option maxRecDepth 100000 in
set_option maxHeartbeats 8000000 in
theorem refLock_any (o s : Int) (h : RX w X S H T) (hs : ∀ t ∈ T, t.length ≤ 100000) :
    Calls Try.prog 21 #[.pointer (some ⟨X, 0, none⟩), .int .i64 o, .int .i64 s] w fun e w' => e = .returned (.tuple #[.bool (refLB H T o s), .int .i64 (refLE H T o s)]) ∧ RW w w' X S (refLH H T o s) (refLT H T o s) := by
  have HN := Lib.hid h
  have HS := Lib.hid hs
  clear hs
  by_cases hok : okX H.length o s = true
  · have hoX := (okX_iff _ _ _).1 hok
    obtain ⟨i, rfl⟩ : ∃ i : Nat, s = (i : Int) := ⟨s.toNat, by omega⟩
    have hi : i < H.length := by omega
    have HE0 := Lib.hid (show refLE H T o i = if refBlocked H T o i then 8 else 0 by rw [refLE, if_pos hok])
    have HR := Lib.hid (right_any o i h)
    rw [hok] at HR
    clear hok hoX
    go_enter Try.func21, Try.ntmps21
    go_wp2_with fail
    refine HR.out.mono ?_
    rintro e w' ⟨rfl, rfl⟩
    go_wp2_with fail
    refine (refHeld_any o HN.out).mono ?_
    rintro e wr ⟨v, rfl, hown, hb⟩
    obtain ⟨pv, dv, rfl, hv1, hv2⟩ := own_shape hown
    have hrv := own_rd hown
    have HN2 := Lib.hid (HN.out.kept hb)
    clear hown
    obtain ⟨hl, hhl⟩ : ∃ l, refHeld H o = l := ⟨_, rfl⟩
    rw [hhl] at hv1 hrv ⊢
    have hlen : hl.length ≤ 1024 := by
      rw [← hhl]
      have h2 := HN.out.1
      have h3 : (refHeld H o).length ≤ H.length := refHeldFrom_len H o 0
      omega
    have HHL := Lib.hid hhl
    clear hhl
    go_upto_region 4 with fail
    go_cut [35] (fun s wx => s = .bool (decide (refBlocked H T o i)) ∧ wx = wr)
    case first =>
      go_wp2_with fail
      refine (refFor_any o HN2.out HS.out).mono ?_
      rintro e w' ⟨rfl, rfl⟩
      obtain ⟨x, hx⟩ : ∃ x, refFor T o = x := ⟨_, rfl⟩
      rw [hx]
      have HB := Lib.hid (show refBlocked H T o i ↔ (0 ≤ x ∨ (hl ≠ [] ∧ (i : Int) ≤ lastOf hl)) by rw [refBlocked, hx, HHL.out])
      clear hx
      by_cases hx0 : 0 ≤ x
      · have HD := Lib.hid (show Value.bool true = .bool (decide (refBlocked H T o i)) by rw [decide_eq_true (HB.out.2 (.inl hx0))])
        go_wp2_with fail
        go_meet
        exact ⟨HD.out, rfl⟩
      · have hx1 : x < 0 := by omega
        have hx2 : decide (0 ≤ x) = false := by simp; omega
        by_cases hne : hl = []
        · have HD := Lib.hid (show Value.bool false = .bool (decide (refBlocked H T o i)) by
            rw [decide_eq_false (fun h => by rcases HB.out.1 h with h | h; exact hx0 h; exact h.1 hne)])
          have hl0 : ¬ (0 : Int) < (hl.length : Int) := by rw [hne]; simp
          clear hx0 hne
          go_wp2_with fail
          go_meet
          exact ⟨HD.out, rfl⟩
        · have hpos : 0 < hl.length := List.length_pos_iff.2 hne
          obtain ⟨b, o2, rfl, _, hy⟩ := hrv.int (k := hl.length - 1) (by omega)
          have hp1 : (0 : Int) < (hl.length : Int) := by omega
          have hlast : lastOf hl = hl[hl.length - 1] := by simp [lastOf, List.getElem?_eq_getElem (show hl.length - 1 < hl.length by omega)]
          obtain ⟨z, hz⟩ : ∃ z, hl[hl.length - 1] = z := ⟨_, rfl⟩
          rw [hz] at hy hlast
          have HD1 := Lib.hid (show (i : Int) ≤ z → Value.bool true = .bool (decide (refBlocked H T o i)) from fun hle => by rw [decide_eq_true (HB.out.2 (.inr ⟨hne, by rw [hlast]; exact hle⟩))])
          have HD2 := Lib.hid (show z < (i : Int) → Value.bool false = .bool (decide (refBlocked H T o i)) from fun hle => by
            rw [decide_eq_false (fun h => by
              rcases HB.out.1 h with h | h
              · exact hx0 h
              · have h2 := h.2; rw [hlast] at h2; omega)])
          have hm1 : (0 : Int) ≤ (hl.length : Int) - 1 := by omega
          have hm2 : (hl.length : Int) - 1 < (hl.length : Int) := by omega
          clear hz hlast hne hx0 hpos
          by_cases hle : (i : Int) ≤ z
          · have HD := Lib.hid (HD1.out hle)
            go_wp2_with fail
            go_meet
            exact ⟨HD.out, rfl⟩
          · have hle2 : z < (i : Int) := by omega
            have hle3 : decide ((i : Int) ≤ z) = false := by simp; omega
            have HD := Lib.hid (HD2.out hle2)
            go_wp2_with fail
            go_meet
            exact ⟨HD.out, rfl⟩
    case rest =>
      obtain ⟨rfl, rfl⟩ := hcut
      clear hrv hv1 hv2
      by_cases hbl : refBlocked H T o i
      · have HE := Lib.hid (show refLE H T o i = 8 by rw [HE0.out, if_pos hbl])
        have HBB := Lib.hid (show refLB H T o i = false by rw [refLB, HE.out]; rfl)
        have HP : RW w wc X S (refLH H T o i) (refLT H T o i) := by
          rw [refLH, refLT, HBB.out, HE.out]
          exact RW.first hb (RW.same HN2.out)
        rw [decide_eq_true hbl]
        clear hbl
        go_wp2_with fail
        go_ret2
        exact ⟨by rw [HBB.out, HE.out]; rfl, HP⟩
      · have HE := Lib.hid (show refLE H T o i = 0 by rw [HE0.out, if_neg hbl])
        rw [decide_eq_false hbl]
        clear hbl
        have HN3 := Lib.hid HN2.out
        obtain ⟨hsz, hg, qg, ps, hd⟩ := HN2.out
        obtain ⟨hc0, hc1⟩ := hd.cells
        obtain ⟨hh, hhf⟩ := hd.atH hi
        have hi2 : (i : Int) < (H.length : Int) := by omega
        have hTi : i < T.length := by rw [hd.lenT]; exact hi
        have HAT := Lib.hid (show hAt H i = H[i] by simp [hAt, hi])
        by_cases hz : H[i] = 0
        · have hz1 : (H[i] == 0) = true := by simpa using hz
          have HBB := Lib.hid (show refLB H T o i = true by rw [refLB, HE.out, HAT.out, hz]; rfl)
          have HP := RW.first hb (setH_RW hd hsz i o)
          have HLH := Lib.hid (show refLH H T o i = H.set i o ∧ refLT H T o i = T by
            rw [refLH, refLT, HBB.out, HAT.out, hz]
            exact ⟨by simp, by simp⟩)
          clear hz hd
          go_wp2_with fail
          go_ret2
          exact ⟨by rw [HBB.out, HE.out]; rfl, by rw [HLH.out.1, HLH.out.2]; exact HP⟩
        · have hz1 : (H[i] == 0) = false := by simpa using hz
          have HBB := Lib.hid (show refLB H T o i = false by rw [refLB, HE.out, HAT.out]; simpa using hz)
          have HLH := Lib.hid (show refLH H T o i = H ∧ refLT H T o i = T.set i (T[i] ++ [o]) by
            refine ⟨by simp [refLH, HBB.out], ?_⟩
            rw [refLT, HAT.out, if_pos ⟨HE.out, hz⟩]
            simp [tAt, hTi])
          obtain ⟨p, d, _, hq, hf, hr, hd1, hd2, _⟩ := hd.atT hi hTi
          have hlt := HS.out T[i] (List.getElem_mem hTi)
          obtain ⟨t, ht⟩ : ∃ t, T[i] = t := ⟨_, rfl⟩
          rw [ht] at hq hr hd1 hlt HLH
          obtain ⟨wr, hwr⟩ : ∃ wr, wc = wr := ⟨_, rfl⟩
          subst hwr
          have hbA : Below wc.heap.size wc ((wc.alloc (.cells #[.int .i64 o] 3)).drew) := ((Below.refl _ _).alloc (Nat.le_refl _) _).drew
          have hqA : (wc.alloc (.cells #[.int .i64 o] 3)).cell? ⟨qg, i, none⟩ = some (.slice p t.length d) := (hbA.cell (p := ⟨qg, i, none⟩) (hd.lt qg hd.sQ)).trans hq
          have hrA : Rd ((wc.alloc (.cells #[.int .i64 o] 3)).drew) wc.heap.size p (ints t) := hr.below hbA
          clear ht hz
          go_upto_region 9 with fail
          go_cut [] (fun wx => RW wc wx X S H (T.set i (t ++ [o])))
          case first =>
            refine wp_region_noPanic ?_
            refine wp_region_held_drew (S := fun w' => w'.cell? ⟨X, 0, none⟩ = some (.slice (some ⟨hg, 0, none⟩) H.length H.length) ∧ w'.cell? ⟨X, 1, none⟩ = some (.slice (some ⟨qg, 0, none⟩) H.length H.length)) (by kernel_rfl) (refl_cells hd (Below.refl _ _).drew) (fun hHeld => ?_)
            refine wpAnyH_take (i := 0) (oi := ⟨some 51, _, _, _, _, _⟩) (v := ?_) rfl (by kernel_rfl) (by kernel_rfl) (by kernel_rfl) (fun _ _ _ h => h) (Or.inl ⟨by rfl, ?_⟩) hHeld ?_
            rotate_left
            · (intro w hSw; obtain ⟨s0, s1⟩ := hSw; go_simp; try with_reducible rfl)
            try simp only [Act.put, List.setIfInBounds_toArray, List.set_cons_zero, List.set_cons_succ]
            refine wpAnyH_take (i := 1) (oi := ⟨some 52, _, _, _, _, _⟩) (v := ?_) rfl (by kernel_rfl) (by kernel_rfl) (by kernel_rfl) (fun _ _ _ h => h) (Or.inl ⟨by rfl, ?_⟩) hHeld ?_
            rotate_left
            · (intro w hSw; obtain ⟨s0, s1⟩ := hSw; go_simp; try with_reducible rfl)
            try simp only [Act.put, List.setIfInBounds_toArray, List.set_cons_zero, List.set_cons_succ]
            refine wpAnyH_take (i := 2) (oi := ⟨some 53, _, _, _, _, _⟩) (v := ?_) rfl (by kernel_rfl) (by kernel_rfl) (by kernel_rfl) (fun _ _ _ h => h) (Or.inl ⟨by rfl, ?_⟩) hHeld ?_
            rotate_left
            · (intro w hSw; obtain ⟨s0, s1⟩ := hSw; go_simp; try with_reducible rfl)
            try simp only [Act.put, List.setIfInBounds_toArray, List.set_cons_zero, List.set_cons_succ]
            refine wpAnyH_take (i := 3) (oi := ⟨some 54, _, _, _, _, _⟩) (v := ?_) rfl (by kernel_rfl) (by kernel_rfl) (by kernel_rfl) (fun _ _ _ h => h) (Or.inl ⟨by rfl, ?_⟩) hHeld ?_
            rotate_left
            · (intro w hSw; obtain ⟨s0, s1⟩ := hSw; go_simp; try with_reducible rfl)
            try simp only [Act.put, List.setIfInBounds_toArray, List.set_cons_zero, List.set_cons_succ]
            refine wpAnyH_take (i := 4) (oi := ⟨some 55, _, _, _, _, _⟩) (v := ?_) rfl (by kernel_rfl) (by kernel_rfl) (by kernel_rfl) (fun _ _ _ h => h) (Or.inl ⟨by rfl, ?_⟩) hHeld ?_
            rotate_left
            · (intro w hSw; obtain ⟨s0, s1⟩ := hSw; go_simp; try with_reducible rfl)
            try simp only [Act.put, List.setIfInBounds_toArray, List.set_cons_zero, List.set_cons_succ]
            refine wpAnyH_take (i := 5) (oi := ⟨some 56, _, _, _, _, _⟩) (v := ?_) rfl (by kernel_rfl) (by kernel_rfl) (by kernel_rfl) (fun _ _ _ h => h) (Or.inl ⟨by rfl, ?_⟩) hHeld ?_
            rotate_left
            · (intro w hSw; obtain ⟨s0, s1⟩ := hSw; go_simp; try with_reducible rfl)
            try simp only [Act.put, List.setIfInBounds_toArray, List.set_cons_zero, List.set_cons_succ]
            refine wpAnyH_take (i := 6) (oi := ⟨some 57, _, _, _, _, _⟩) (v := ?_) rfl (by kernel_rfl) (by kernel_rfl) (by kernel_rfl) (fun _ _ _ h => h) (Or.inl ⟨by rfl, ?_⟩) hHeld ?_
            rotate_left
            · (intro w hSw; obtain ⟨s0, s1⟩ := hSw; go_simp; try with_reducible rfl)
            try simp only [Act.put, List.setIfInBounds_toArray, List.set_cons_zero, List.set_cons_succ]
            refine wpAnyH_take (i := 7) (oi := ⟨some 58, _, _, _, _, _⟩) (v := ?_) rfl (by kernel_rfl) (by kernel_rfl) (by kernel_rfl) (fun _ _ _ h => h) (Or.inl ⟨by rfl, ?_⟩) hHeld ?_
            rotate_left
            · (intro w hSw; obtain ⟨s0, s1⟩ := hSw; go_simp; try with_reducible rfl)
            try simp only [Act.put, List.setIfInBounds_toArray, List.set_cons_zero, List.set_cons_succ]
            refine wpAnyH_take (i := 8) (oi := ⟨some 59, _, _, _, _, _⟩) (v := ?_) rfl (by kernel_rfl) (by kernel_rfl) (by kernel_rfl) (fun _ _ _ h => h) (Or.inl ⟨by rfl, ?_⟩) hHeld ?_
            rotate_left
            · (intro w hSw; obtain ⟨s0, s1⟩ := hSw; go_simp; try with_reducible rfl)
            try simp only [Act.put, List.setIfInBounds_toArray, List.set_cons_zero, List.set_cons_succ]
            refine wpAnyH_take (i := 9) (oi := ⟨some 60, _, _, _, _, _⟩) (v := ?_) rfl (by kernel_rfl) (by kernel_rfl) (by kernel_rfl) (fun _ _ _ h => h) (Or.inl ⟨by rfl, ?_⟩) hHeld ?_
            rotate_left
            · (intro w hSw; obtain ⟨s0, s1⟩ := hSw; go_simp; try with_reducible rfl)
            try simp only [Act.put, List.setIfInBounds_toArray, List.set_cons_zero, List.set_cons_succ]
            refine wpAnyH_take (i := 10) (oi := ⟨some 61, _, _, _, _, _⟩) (v := ?_) rfl (by kernel_rfl) (by kernel_rfl) (by kernel_rfl) (fun _ _ _ h => h) (Or.inl ⟨by rfl, ?_⟩) hHeld ?_
            rotate_left
            · (intro w hSw; obtain ⟨s0, s1⟩ := hSw; go_simp; try with_reducible rfl)
            try simp only [Act.put, List.setIfInBounds_toArray, List.set_cons_zero, List.set_cons_succ]
            refine wpAnyH_take (i := 13) (oi := ⟨some 64, _, _, _, _, _⟩) (v := ?_) rfl (by kernel_rfl) (by kernel_rfl) (by kernel_rfl) (fun _ _ _ h => h) (Or.inl ⟨by rfl, ?_⟩) hHeld ?_
            rotate_left
            · (intro w hSw; obtain ⟨s0, s1⟩ := hSw; go_simp; try with_reducible rfl)
            try simp only [Act.put, List.setIfInBounds_toArray, List.set_cons_zero, List.set_cons_succ]
            refine wpAnyH_ready (rs := [11, 14]) (by kernel_rfl) (by simp) ?_
            refine (AllReadyH.cons (o := ⟨some 62, _, _, _, _, _⟩) rfl (fun K hK => ?_) (AllReadyH.cons (o := ⟨some 65, _, _, _, _, _⟩) rfl (fun K hK => ?_) AllReadyH.nil))
            · go_simp
              refine hK.out _ _ (refl_cells hd (Below.refl _ _).drew) (fun hHeld => ?_)
              clear hK K
              try simp only [Act.put, List.setIfInBounds_toArray, List.set_cons_zero, List.set_cons_succ]
              refine wpAnyH_ready (rs := [12, 14]) (by kernel_rfl) (by simp) ?_
              refine (AllReadyH.cons (o := ⟨some 63, _, _, _, _, _⟩) rfl (fun K hK => ?_) (AllReadyH.cons (o := ⟨some 65, _, _, _, _, _⟩) rfl (fun K hK => ?_) AllReadyH.nil))
              · (refine step_appM (by rfl) (.const (.slice none 0 0)) (.tmp 62) 40 (by rfl) wc.heap.size 3 _ 1 8 Try.underlying40 int_info (by rfl) (by omega) _ 0 [] (by rfl) (World.ownsRow_nil _ _ _ _) wc.heap.size p t.length d (ints t) (by rfl) (by rw [ints_len, Nat.mul_one]) (by exact hr) (ints_one t) (by omega) (by omega) (by simp) ?_; intro v3 w3 hown3 hb3' _ hg3)
                have hb3 : Below wc.heap.size wc w3 := Below.trans ((Below.refl wc.heap.size wc).drew) hb3'
                rw [Nat.zero_add, List.nil_append] at hown3
                refine hK.out _ _ (refl_cells hd hb3) (fun hHeld => ?_)
                clear hK K
                try simp only [Act.put, List.setIfInBounds_toArray, List.set_cons_zero, List.set_cons_succ]
                refine wpAnyH_ready (rs := [14]) (by kernel_rfl) (by simp) ?_
                refine (AllReadyH.cons (o := ⟨some 65, _, _, _, _, _⟩) rfl (fun K hK => ?_) AllReadyH.nil)
                go_simp
                have hbC := below_alloc' (w2 := w3) hb3 (.cells #[.int .i64 o] 3)
                refine hK.out _ _ (refl_cells hd hbC) (fun hHeld => ?_)
                clear hK K
                try simp only [Act.put, List.setIfInBounds_toArray, List.set_cons_zero, List.set_cons_succ]
                refine wpAnyH_ready (rs := [15]) (by kernel_rfl) (by simp) ?_
                refine (AllReadyH.cons (o := ⟨some 66, _, _, _, _, _⟩) rfl (fun K hK => ?_) AllReadyH.nil)
                (refine step_appM (by rfl) (.tmp 63) (.tmp 65) 40 (by rfl) wc.heap.size 3 _ 1 8 Try.underlying40 int_info (by rfl) (by omega) v3 t.length (ints t) (by rfl) (by exact (hown3.alloc _)) (w3.heap.size + 1) (some ⟨w3.heap.size, 0, none⟩) 1 1 [.int .i64 o] (by rfl) rfl (by exact rd_new w3 o) (by simp [Value.oneCell']) (by omega) (by omega) (by have := hb3.size; simp; try omega) ?_; intro v4 w4 hown4 hb4' _ _)
                have hb4 : Below wc.heap.size wc w4 := Below.trans hbC hb4'
                have hown5 : w4.ownsRow wc.heap.size 3 1 v4 (t ++ [o]).length (ints (t ++ [o])) := by rw [List.length_append, ← ints_snoc]; exact hown4
                clear hown4
                obtain ⟨p4, d4, rfl, h41, h42⟩ := own_shape hown5
                refine hK.out _ _ (refl_cells hd hb4) (fun hHeld => ?_)
                clear hK K
                try simp only [Act.put, List.setIfInBounds_toArray, List.set_cons_zero, List.set_cons_succ]
                refine wpAnyH_take (i := 16) (oi := ⟨some 67, _, _, _, _, _⟩) (v := ?_) rfl (by kernel_rfl) (by kernel_rfl) (by kernel_rfl) (fun _ _ _ h => h) (Or.inl ⟨by rfl, ?_⟩) hHeld ?_
                rotate_left
                · (intro w hSw; obtain ⟨s0, s1⟩ := hSw; go_simp; try with_reducible rfl)
                try simp only [Act.put, List.setIfInBounds_toArray, List.set_cons_zero, List.set_cons_succ]
                refine wpAnyH_ready (rs := [17]) (by kernel_rfl) (by simp) ?_
                refine (AllReadyH.cons (o := ⟨none, _, _, _, _, _⟩) rfl (fun K hK => ?_) AllReadyH.nil)
                have hA := refset hd hsz hi hb4 hown5 h41 h42
                have hcell2 : w4.cell? ⟨qg, i, none⟩ = some (.slice p t.length d) := (hb4.cell (p := ⟨qg, i, none⟩) (hd.lt qg hd.sQ)).trans hq
                have hfr2 : w4.frozen? ⟨qg, i, none⟩ = false := (hb4.frozen (p := ⟨qg, i, none⟩) (hd.lt qg hd.sQ)).trans hf
                go_simp
                refine hK.out _ _ (refl_cells_set hd hb4) (fun hHeld => ?_)
                clear hK K
                try simp only [Act.put, List.setIfInBounds_toArray, List.set_cons_zero, List.set_cons_succ]
                refine wpAnyH_done (by kernel_rfl) ?_ _
                refine NoPanic.normal ?_
                simp only [List.length_append, List.length_cons, List.length_nil, Nat.zero_add] at hA
                go_wp2_with fail
                go_meet
                exact hA
              · go_simp
                refine hK.out _ _ (refl_cells hd hbA) (fun hHeld => ?_)
                clear hK K
                try simp only [Act.put, List.setIfInBounds_toArray, List.set_cons_zero, List.set_cons_succ]
                refine wpAnyH_ready (rs := [12]) (by kernel_rfl) (by simp) ?_
                refine (AllReadyH.cons (o := ⟨some 63, _, _, _, _, _⟩) rfl (fun K hK => ?_) AllReadyH.nil)
                (refine step_appM (by rfl) (.const (.slice none 0 0)) (.tmp 62) 40 (by rfl) wc.heap.size 3 _ 1 8 Try.underlying40 int_info (by rfl) (by omega) _ 0 [] (by rfl) (World.ownsRow_nil _ _ _ _) wc.heap.size p t.length d (ints t) (by rfl) (by rw [ints_len, Nat.mul_one]) (by exact hrA) (ints_one t) (by omega) (by omega) (by simp) ?_; intro v3 w3 hown3 hb3' _ hg3)
                have hb3 : Below wc.heap.size wc w3 := Below.trans (hbA) hb3'
                rw [Nat.zero_add, List.nil_append] at hown3
                refine hK.out _ _ (refl_cells hd hb3) (fun hHeld => ?_)
                clear hK K
                try simp only [Act.put, List.setIfInBounds_toArray, List.set_cons_zero, List.set_cons_succ]
                refine wpAnyH_ready (rs := [15]) (by kernel_rfl) (by simp) ?_
                refine (AllReadyH.cons (o := ⟨some 66, _, _, _, _, _⟩) rfl (fun K hK => ?_) AllReadyH.nil)
                (refine step_appM (by rfl) (.tmp 63) (.tmp 65) 40 (by rfl) wc.heap.size 3 _ 1 8 Try.underlying40 int_info (by rfl) (by omega) v3 t.length (ints t) (by rfl) (by exact hown3) (wc.heap.size + 1) (some ⟨wc.heap.size, 0, none⟩) 1 1 [.int .i64 o] (by rfl) rfl (by exact rd_new_elder hg3) (by simp [Value.oneCell']) (by omega) (by omega) (by have := hb3.size; simp; try omega) ?_; intro v4 w4 hown4 hb4' _ _)
                have hb4 : Below wc.heap.size wc w4 := Below.trans hb3 hb4'
                have hown5 : w4.ownsRow wc.heap.size 3 1 v4 (t ++ [o]).length (ints (t ++ [o])) := by rw [List.length_append, ← ints_snoc]; exact hown4
                clear hown4
                obtain ⟨p4, d4, rfl, h41, h42⟩ := own_shape hown5
                refine hK.out _ _ (refl_cells hd hb4) (fun hHeld => ?_)
                clear hK K
                try simp only [Act.put, List.setIfInBounds_toArray, List.set_cons_zero, List.set_cons_succ]
                refine wpAnyH_take (i := 16) (oi := ⟨some 67, _, _, _, _, _⟩) (v := ?_) rfl (by kernel_rfl) (by kernel_rfl) (by kernel_rfl) (fun _ _ _ h => h) (Or.inl ⟨by rfl, ?_⟩) hHeld ?_
                rotate_left
                · (intro w hSw; obtain ⟨s0, s1⟩ := hSw; go_simp; try with_reducible rfl)
                try simp only [Act.put, List.setIfInBounds_toArray, List.set_cons_zero, List.set_cons_succ]
                refine wpAnyH_ready (rs := [17]) (by kernel_rfl) (by simp) ?_
                refine (AllReadyH.cons (o := ⟨none, _, _, _, _, _⟩) rfl (fun K hK => ?_) AllReadyH.nil)
                have hA := refset hd hsz hi hb4 hown5 h41 h42
                have hcell2 : w4.cell? ⟨qg, i, none⟩ = some (.slice p t.length d) := (hb4.cell (p := ⟨qg, i, none⟩) (hd.lt qg hd.sQ)).trans hq
                have hfr2 : w4.frozen? ⟨qg, i, none⟩ = false := (hb4.frozen (p := ⟨qg, i, none⟩) (hd.lt qg hd.sQ)).trans hf
                go_simp
                refine hK.out _ _ (refl_cells_set hd hb4) (fun hHeld => ?_)
                clear hK K
                try simp only [Act.put, List.setIfInBounds_toArray, List.set_cons_zero, List.set_cons_succ]
                refine wpAnyH_done (by kernel_rfl) ?_ _
                refine NoPanic.normal ?_
                simp only [List.length_append, List.length_cons, List.length_nil, Nat.zero_add] at hA
                go_wp2_with fail
                go_meet
                exact hA
            · go_simp
              refine hK.out _ _ (refl_cells hd hbA) (fun hHeld => ?_)
              clear hK K
              try simp only [Act.put, List.setIfInBounds_toArray, List.set_cons_zero, List.set_cons_succ]
              refine wpAnyH_ready (rs := [11]) (by kernel_rfl) (by simp) ?_
              refine (AllReadyH.cons (o := ⟨some 62, _, _, _, _, _⟩) rfl (fun K hK => ?_) AllReadyH.nil)
              go_simp
              refine hK.out _ _ (refl_cells hd hbA) (fun hHeld => ?_)
              clear hK K
              try simp only [Act.put, List.setIfInBounds_toArray, List.set_cons_zero, List.set_cons_succ]
              refine wpAnyH_ready (rs := [12]) (by kernel_rfl) (by simp) ?_
              refine (AllReadyH.cons (o := ⟨some 63, _, _, _, _, _⟩) rfl (fun K hK => ?_) AllReadyH.nil)
              (refine step_appM (by rfl) (.const (.slice none 0 0)) (.tmp 62) 40 (by rfl) wc.heap.size 3 _ 1 8 Try.underlying40 int_info (by rfl) (by omega) _ 0 [] (by rfl) (World.ownsRow_nil _ _ _ _) wc.heap.size p t.length d (ints t) (by rfl) (by rw [ints_len, Nat.mul_one]) (by exact hrA) (ints_one t) (by omega) (by omega) (by simp) ?_; intro v3 w3 hown3 hb3' _ hg3)
              have hb3 : Below wc.heap.size wc w3 := Below.trans (hbA) hb3'
              rw [Nat.zero_add, List.nil_append] at hown3
              refine hK.out _ _ (refl_cells hd hb3) (fun hHeld => ?_)
              clear hK K
              try simp only [Act.put, List.setIfInBounds_toArray, List.set_cons_zero, List.set_cons_succ]
              refine wpAnyH_ready (rs := [15]) (by kernel_rfl) (by simp) ?_
              refine (AllReadyH.cons (o := ⟨some 66, _, _, _, _, _⟩) rfl (fun K hK => ?_) AllReadyH.nil)
              (refine step_appM (by rfl) (.tmp 63) (.tmp 65) 40 (by rfl) wc.heap.size 3 _ 1 8 Try.underlying40 int_info (by rfl) (by omega) v3 t.length (ints t) (by rfl) (by exact hown3) (wc.heap.size + 1) (some ⟨wc.heap.size, 0, none⟩) 1 1 [.int .i64 o] (by rfl) rfl (by exact rd_new_elder hg3) (by simp [Value.oneCell']) (by omega) (by omega) (by have := hb3.size; simp; try omega) ?_; intro v4 w4 hown4 hb4' _ _)
              have hb4 : Below wc.heap.size wc w4 := Below.trans hb3 hb4'
              have hown5 : w4.ownsRow wc.heap.size 3 1 v4 (t ++ [o]).length (ints (t ++ [o])) := by rw [List.length_append, ← ints_snoc]; exact hown4
              clear hown4
              obtain ⟨p4, d4, rfl, h41, h42⟩ := own_shape hown5
              refine hK.out _ _ (refl_cells hd hb4) (fun hHeld => ?_)
              clear hK K
              try simp only [Act.put, List.setIfInBounds_toArray, List.set_cons_zero, List.set_cons_succ]
              refine wpAnyH_take (i := 16) (oi := ⟨some 67, _, _, _, _, _⟩) (v := ?_) rfl (by kernel_rfl) (by kernel_rfl) (by kernel_rfl) (fun _ _ _ h => h) (Or.inl ⟨by rfl, ?_⟩) hHeld ?_
              rotate_left
              · (intro w hSw; obtain ⟨s0, s1⟩ := hSw; go_simp; try with_reducible rfl)
              try simp only [Act.put, List.setIfInBounds_toArray, List.set_cons_zero, List.set_cons_succ]
              refine wpAnyH_ready (rs := [17]) (by kernel_rfl) (by simp) ?_
              refine (AllReadyH.cons (o := ⟨none, _, _, _, _, _⟩) rfl (fun K hK => ?_) AllReadyH.nil)
              have hA := refset hd hsz hi hb4 hown5 h41 h42
              have hcell2 : w4.cell? ⟨qg, i, none⟩ = some (.slice p t.length d) := (hb4.cell (p := ⟨qg, i, none⟩) (hd.lt qg hd.sQ)).trans hq
              have hfr2 : w4.frozen? ⟨qg, i, none⟩ = false := (hb4.frozen (p := ⟨qg, i, none⟩) (hd.lt qg hd.sQ)).trans hf
              go_simp
              refine hK.out _ _ (refl_cells_set hd hb4) (fun hHeld => ?_)
              clear hK K
              try simp only [Act.put, List.setIfInBounds_toArray, List.set_cons_zero, List.set_cons_succ]
              refine wpAnyH_done (by kernel_rfl) ?_ _
              refine NoPanic.normal ?_
              simp only [List.length_append, List.length_cons, List.length_nil, Nat.zero_add] at hA
              go_wp2_with fail
              go_meet
              exact hA
          case rest =>
            have HP := Lib.hid (RW.first hb hcut)
            go_wp2_with fail
            go_ret2
            exact ⟨by rw [HBB.out, HE.out]; rfl, by rw [HLH.out.1, HLH.out.2]; exact HP.out⟩
  · have hf : okX H.length o s = false := by simpa using hok
    have HR := Lib.hid (right_any o s h)
    rw [hf] at HR
    have e2 : refLE H T o s = 2 := by rw [refLE, if_neg hok]
    have e3 : refLB H T o s = false := by rw [refLB, e2]; rfl
    have e4 : refLH H T o s = H := by rw [refLH, e3]; rfl
    have e5 : refLT H T o s = T := by rw [refLT, e2]; rfl
    rw [e2, e3, e4, e5]
    have HP := RW.same h
    clear e2 e3 e4 e5 hok hf h
    go_enter Try.func21, Try.ntmps21
    go_wp2_with fail
    refine HR.out.mono ?_
    rintro e w' ⟨rfl, rfl⟩
    go_wp2_with fail
    go_ret2
    exact ⟨rfl, HP⟩
end
end Go.Proofs.Ythjakgjpnijmlaa
