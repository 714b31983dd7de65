/- Rows that are copied; Clone. -/
import Derived.Test.YtdancoblphkakaaCalls
namespace Go.Proofs.Ytdancoblphkakaa
open Go.RowKit

theorem int_info : (Try.prog.info? 3).map (fun i => (i.zero, i.size, i.bytes)) = some (some (.int .i64 0), 1, 8) := by kernel_rfl
theorem sl_info : (Try.prog.info? 23).map (fun i => (i.zero, i.size, i.bytes)) = some (some (.slice none 0 0), 1, 24) := by kernel_rfl
/-- What Clone hands back: a list of its own. -/
def RetOwn (w : World) (e0 : TypeId) (n : Nat) (xs : List Value) (e : Ending) (w' : World) : Prop := ∃ v, e = .returned v ∧ w'.ownsRow w.heap.size e0 1 v n xs ∧ Below w.heap.size w w'
theorem clone_any (p : Option Addr) (n c : Nat) (xs : List Value) (w : World) (h : Rd w w.heap.size p xs) (hn : xs.length = n) (hu : ∀ u ∈ xs, u.oneCell' = true) (hl : n ≤ 1000000) :
    Calls Try.prog 35 #[.slice p n c] w (RetOwn w 3 n xs) := by
  rcases p with _ | ad
  · have he := fun w => Lib.run_eql_slice_nil (P := Try.prog) w 23 3 none n c 0 0 Try.underlying23
    have hx : xs = [] := by
      rcases h with h | ⟨b, o, h, _⟩
      · exact h
      · cases h
    subst hx
    simp only [List.length_nil] at hn
    subst hn
    clear h
    go_enter Try.func35, Try.ntmps35
    go_wp2_with fail
    go_ret
    exact ⟨_, rfl, World.ownsRow_nil _ _ _ _, Below.refl _ _⟩
  · have he := fun w => Lib.run_eql_slice_nil (P := Try.prog) w 23 3 (some ad) n c 0 0 Try.underlying23
    have HN := Lib.hid hn
    have HU := Lib.hid hu
    clear hn hu
    go_enter Try.func35, Try.ntmps35
    go_wp2_with (at_builtin; refine wpList_appM rfl (.tmp 5) (.tmp 6) 23 rfl w.heap.size 3 _ 1 8 Try.underlying23 int_info rfl (by omega) _ 0 [] rfl (own_built (Blk.new w 3 []) (Nat.le_refl _) rfl (by unfold maxLen; omega)) w.heap.size (some ad) n c xs rfl (by rw [HN.out, Nat.mul_one]) (h.below ((Below.refl _ _).alloc (Nat.le_refl _) _)) HU.out (by omega) (by omega) (by simp) ?_; intro v' w' hown hbl _ _)
    go_ret
    rw [Nat.zero_add, List.nil_append] at hown
    exact ⟨_, rfl, hown, ((Below.refl _ _).alloc (Nat.le_refl _) _).trans hbl⟩
/-- Clone of a row that is not empty. -/
theorem cloneRow_any (p : Option Addr) (c : Nat) (xs : List Int) (w : World) (h : Rd w w.heap.size p (ints xs)) (h0 : 0 < xs.length) (hl : xs.length ≤ 1000000) :
    Calls Try.prog 35 #[.slice p xs.length c] w fun e w' => ∃ g d, e = .returned (.slice (some ⟨g, 0, none⟩) xs.length d) ∧ Row w' g xs ∧ w.heap.size ≤ g ∧ xs.length ≤ d ∧ d ≤ maxLen ∧ Below w.heap.size w w' := by
  refine (clone_any p xs.length c (ints xs) w h (ints_len xs) (ints_one xs) hl).mono ?_
  rintro e w' ⟨v, rfl, hown, hb⟩
  obtain ⟨g, d, rfl, h1, h2, h3, h4⟩ := Row.of_own hown h0
  exact ⟨g, d, rfl, h2, h1, h3, h4, hb⟩

/-- Rows that can be read. -/
def MR (w : World) (p : Option Addr) (G : List (List Int)) : Prop := ∃ vs, Rd w w.heap.size p vs ∧ vs.length = G.length ∧ ∀ i (_ : i < vs.length) (_ : i < G.length), ∃ q c, vs[i] = .slice q (G[i]).length c ∧ Rd w w.heap.size q (ints G[i])
section
variable {w wr w2 w' : World} {ob n k : Nat} {G : List (List Int)} {D : List Int} {rs : List (Nat × Nat)}
theorem MR.kept {p : Option Addr} (h : MR w p G) (k : Below w.heap.size w w') : MR w' p G := by
  obtain ⟨vs, h1, h2, h3⟩ := h
  refine ⟨vs, h1.kept k, h2, fun i hi hi2 => ?_⟩
  obtain ⟨q, c, e, hr⟩ := h3 i hi hi2
  exact ⟨q, c, e, hr.kept k⟩
theorem MR.at_ {p : Option Addr} (h : MR w p G) {i : Nat} (hi : i < G.length) : ∃ b o q c, p = some ⟨b, o, none⟩ ∧ b < w.heap.size ∧ w.cell? ⟨b, o + i, none⟩ = some (.slice q (G[i]).length c) ∧ Rd w w.heap.size q (ints G[i]) := by
  obtain ⟨vs, h1, h2, h3⟩ := h
  have hi2 : i < vs.length := by omega
  obtain ⟨q, c, e, hr⟩ := h3 i hi2 hi
  obtain ⟨b, o, hp, hb, hc, _⟩ := h1.at_ hi2
  exact ⟨b, o, q, c, hp, hb, by rw [hc, e], hr⟩
/-- While rows are copied. -/
structure RowsP (w wr : World) (ob n k : Nat) (G : List (List Int)) (rs : List (Nat × Nat)) : Prop where
  hb : Below w.heap.size w wr
  hG : Blk wr ob 23 (rs.map (rowV n) ++ List.replicate (n - k) (.slice none 0 0))
  len : rs.length = k
  lo : w.heap.size ≤ ob
  row : ∀ i (h : i < rs.length) (h2 : i < G.length), Row wr (rs[i]).1 G[i]
  bd : ∀ r ∈ rs, ob < r.1 ∧ r.1 < wr.heap.size ∧ n ≤ r.2 ∧ r.2 ≤ maxLen
  dis : ∀ i j (h : i < rs.length) (h2 : j < rs.length), i ≠ j → (rs[i]).1 ≠ (rs[j]).1
theorem RowsP.lt (h : RowsP w wr ob n k G rs) : ob < wr.heap.size := h.hG.lt
theorem RowsP.step (h : RowsP w wr ob n k G rs) (hk : k < G.length) (hkn : k < n) (hb : Below wr.heap.size wr w2) {g d : Nat} (hr : Row w2 g G[k]) (hg : wr.heap.size ≤ g) (h1 : n ≤ d) (h2 : d ≤ maxLen) :
    RowsP w (w2.setCell ⟨ob, k, none⟩ (.slice (some ⟨g, 0, none⟩) n d)) ob n (k + 1) G (rs ++ [(g, d)]) := by
  have hlt := h.lt
  have hgl := hr.lt
  refine ⟨(below_step h.hb hb).setCell (p := ⟨ob, k, none⟩) h.lo _, ?_, by simp [h.len], h.lo, ?_, ?_, ?_⟩
  · have h3 := (h.hG.kept hb).set_ k (.slice (some ⟨g, 0, none⟩) n d)
    have e : (rs.map (rowV n) ++ List.replicate (n - k) (Value.slice none 0 0)).set k (.slice (some ⟨g, 0, none⟩) n d) = (rs ++ [(g, d)]).map (rowV n) ++ List.replicate (n - (k + 1)) (.slice none 0 0) := by
      rw [List.set_append_right _ _ (by simp [h.len])]
      rw [show n - k = (n - (k + 1)) + 1 by omega, List.replicate_succ]
      simp [h.len, rowV]
    rw [e] at h3
    exact h3
  · intro i hi hi2
    by_cases e : i < rs.length
    · rw [List.getElem_append_left e]
      have := h.bd _ (List.getElem_mem e)
      exact ((h.row i e hi2).kept hb).far (by simp only; omega) _
    · have e2 : i = k := by simp [h.len] at hi e; omega
      subst e2
      rw [List.getElem_append_right (by omega)]
      simp [h.len]
      exact hr.far (by simp only; omega) _
  · intro r hr2
    rw [List.mem_append] at hr2
    rcases hr2 with hr2 | hr2
    · have := h.bd r hr2
      have := hb.size
      simp; omega
    · simp at hr2
      subst hr2
      simp; omega
  · intro i j hi hj hij
    simp [h.len] at hi hj
    by_cases ei : i < rs.length
    · by_cases ej : j < rs.length
      · rw [List.getElem_append_left ei, List.getElem_append_left ej]
        exact h.dis i j ei ej hij
      · rw [List.getElem_append_left ei, List.getElem_append_right (by omega)]
        have := h.bd _ (List.getElem_mem ei)
        simp; omega
    · by_cases ej : j < rs.length
      · rw [List.getElem_append_left ej, List.getElem_append_right (by omega)]
        have := h.bd _ (List.getElem_mem ej)
        simp; omega
      · have := h.len; omega
/-- What rows hands back. -/
def RowsOut (w : World) (G : List (List Int)) (e : Ending) (w' : World) : Prop := ∃ ob rs, e = .returned (.slice (some ⟨ob, 0, none⟩) G.length G.length) ∧ RowsP w w' ob G.length G.length G rs
theorem rows_any (p : Option Addr) (c : Nat) (h : MR w p G) (h0 : 1 ≤ G.length) (h1 : G.length ≤ 20) (hl : ∀ i (_ : i < G.length), (G[i]).length = G.length) :
    Calls Try.prog 34 #[.slice p G.length c] w (RowsOut w G) := by
  obtain ⟨n, hn⟩ : ∃ n, G.length = n := ⟨_, rfl⟩
  have HNL := Lib.hid hn
  have HL := Lib.hid (show ∀ i (_ : i < G.length), (G[i]).length = n by rw [← hn]; exact hl)
  have HO := Lib.hid (show ∀ e w', (∃ ob rs, e = Ending.returned (.slice (some ⟨ob, 0, none⟩) n n) ∧ RowsP w w' ob n n G rs) → RowsOut w G e w' by
    rw [← hn]; exact fun e w' h => h)
  rw [hn] at h0 h1 ⊢
  have hmk := fun w => run_mk (P := Try.prog) 22 23 (.slice none 0 0) 24 Try.underlying22 sl_info rfl .i64 .i64 n (by omega) (by omega) (by omega) w
  obtain ⟨zs, hz⟩ : ∃ zs, List.replicate n (Value.slice none 0 0) = zs := ⟨_, rfl⟩
  rw [Int.toNat_natCast, hz] at hmk
  have HZ := Lib.hid hz
  clear hz hl hn
  go_enter Try.func34, Try.ntmps34
  go_wp2_with fail
  generalize hW : (World.alloc _ _) = W
  have HP : RowsP w W w.heap.size n 0 G [] := by
    rw [← hW]
    refine ⟨(Below.refl _ _).alloc (Nat.le_refl _) _, ?_, rfl, Nat.le_refl _, fun i h => by simp at h, fun r h => by simp at h, fun i j h => by simp at h⟩
    rw [List.map_nil, List.nil_append, Nat.sub_zero, HZ.out]
    exact Blk.new w 23 zs
  obtain ⟨ob, hob⟩ : ∃ ob, w.heap.size = ob := ⟨_, rfl⟩
  rw [hob] at HP ⊢
  clear hW hob hmk HZ
  go_loopw [11] (fun i wr => ∃ (k : Nat) (rs : List (Nat × Nat)), k ≤ n ∧ i = .int .i64 k ∧ RowsP w wr ob n k G rs) (fun i _ => n - (intOf i).toNat)
  case atStart => exact ⟨0, [], Nat.zero_le _, rfl, HP⟩
  case round =>
    clear HP
    obtain ⟨k, rs, hk, rfl, hP⟩ := hrel
    by_cases hlt : k < n
    · have hki : (k : Int) < (n : Int) := by omega
      have hkG : k < G.length := by rw [HNL.out]; exact hlt
      obtain ⟨b, o, q, d, rfl, _, hc, hr⟩ := (h.kept hP.hb).at_ hkG
      have hlen := HL.out k hkG
      obtain ⟨l, hl⟩ : ∃ l, G[k] = l := ⟨_, rfl⟩
      have HX := Lib.hid hl
      rw [hl] at hc hr hlen
      rw [hlen] at hc
      have HLEN := Lib.hid hlen
      clear hl hlen
      have hlo : ob < wr.heap.size := hP.lt
      go_wp2_with fail
      have HCL := Lib.hid (cloneRow_any q d l wr hr (by rw [HLEN.out]; omega) (by rw [HLEN.out]; omega))
      rw [HLEN.out] at HCL
      refine HCL.out.mono ?_
      rintro e w2 ⟨g, d2, rfl, hrow, hg, hd1, hd2, hb2⟩
      have hP2 := hP.step hkG hlt hb2 (by rw [HX.out]; exact hrow) hg hd1 hd2
      have hB2 := hP.hG.kept hb2
      have hfr := hB2.free k
      have hcell : ∃ z, w2.cell? ⟨ob, k, none⟩ = some z := by
        rw [hB2.cell k]
        have : k < (rs.map (rowV n) ++ List.replicate (n - k) (Value.slice none 0 0)).length := by have := hP.len; simp; omega
        exact ⟨_, List.getElem?_eq_getElem this⟩
      obtain ⟨z, hz⟩ := hcell
      clear hB2 hP hc hr hb2 hrow HCL
      go_wp2_with fail
      go_roundw
      case rel => exact ⟨k + 1, _, by omega, by go_num, hP2⟩
      case measure => simp [intOf]; omega
    · have hkn : k = n := by omega
      subst hkn
      have HR := Lib.hid (HO.out _ _ ⟨ob, rs, rfl, hP⟩)
      clear hP
      go_wp2_with fail
      go_ret
      exact HR.out
end
end Go.Proofs.Ytdancoblphkakaa
