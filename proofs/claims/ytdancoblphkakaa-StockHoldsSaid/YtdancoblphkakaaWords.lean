/- The stock's plain words, and its state in memory. -/
import Derived.Test.YtdancoblphkakaaFr
namespace Go.Proofs.Ytdancoblphkakaa
open Go.RowKit

/-! ### plain words -/
def ga (G : List (List Int)) (i k : Nat) : Int := (G.getD i []).getD k 0
def da (D : List Int) (i : Nat) : Int := D.getD i 0
theorem ga_at {G : List (List Int)} {i k : Nat} (h : i < G.length) (hk : k < (G[i]).length) : ga G i k = (G[i])[k] := by simp [ga, h, hk]
theorem da_at {D : List Int} {i : Nat} (h : i < D.length) : da D i = D[i] := by simp [da, h]
/-- All numbers are of units. -/
structure Num (G : List (List Int)) (D : List Int) : Prop where
  g : ∀ i k, 0 ≤ ga G i k ∧ ga G i k ≤ 1099511627776
  d : ∀ i, 0 ≤ da D i ∧ da D i ≤ 1099511627776
/-- The share of a place, after k other places. -/
def shAcc (G : List (List Int)) (D : List Int) (p : Nat) : Nat → Int
  | 0 => ga G p p - da D p
  | k + 1 => shAcc G D p k + (if k = p then 0 else ga G k p - ga G p k)
def share (G : List (List Int)) (D : List Int) (p : Nat) : Int := shAcc G D p G.length
theorem shAcc_bd {G : List (List Int)} {D : List Int} (h : Num G D) (p : Nat) : ∀ k : Nat, -(((k : Int) + 1) * 1099511627776) ≤ shAcc G D p k ∧ shAcc G D p k ≤ ((k : Int) + 1) * 1099511627776
  | 0 => by have := h.g p p; have := h.d p; simp only [shAcc]; omega
  | k + 1 => by
    have := shAcc_bd h p k
    have h1 := h.g k p
    have h2 := h.g p k
    simp only [shAcc]
    split <;> omega
/-- The same as the law reckons it. -/
def lawAcc (G : List (List Int)) (D : List Int) (p : Nat) : Nat → Int
  | 0 => - da D p
  | k + 1 => lawAcc G D p k + ga G k p - (if k = p then 0 else ga G p k)
theorem lawAcc_eq (G : List (List Int)) (D : List Int) (p : Nat) : ∀ k, lawAcc G D p k = shAcc G D p k - ga G p p + (if p < k then ga G p p else 0)
  | 0 => by simp [lawAcc, shAcc]; omega
  | k + 1 => by
    rw [lawAcc, shAcc, lawAcc_eq G D p k]
    by_cases e : k = p
    · subst e; simp
    · by_cases e2 : p < k
      · have e3 : p < k + 1 := by omega
        rw [if_pos e2, if_pos e3, if_neg e, if_neg e]; omega
      · have e3 : ¬ p < k + 1 := by omega
        rw [if_neg e2, if_neg e3, if_neg e, if_neg e]; omega
theorem law_share {G : List (List Int)} {D : List Int} {p : Nat} (h : p < G.length) : lawAcc G D p G.length = share G D p := by
  rw [lawAcc_eq, if_pos h, share]; omega
theorem lawAcc_bd {G : List (List Int)} {D : List Int} (h : Num G D) (p k : Nat) : -(((k : Int) + 2) * 1099511627776) ≤ lawAcc G D p k ∧ lawAcc G D p k ≤ ((k : Int) + 2) * 1099511627776 := by
  have h1 := shAcc_bd h p k
  have h2 := h.g p p
  rw [lawAcc_eq]
  split <;> omega
def okP (n : Nat) (p : Int) : Bool := decide (0 ≤ p) && decide (p < (n : Int))
theorem okP_iff (n : Nat) (p : Int) : okP n p = true ↔ 0 ≤ p ∧ p < (n : Int) := by simp [okP]
/-- The sum of the first k shares, of the first k sold. -/
def leftAcc (G : List (List Int)) (D : List Int) : Nat → Int
  | 0 => 0
  | k + 1 => leftAcc G D k + share G D k
def soldAcc (D : List Int) : Nat → Int
  | 0 => 0
  | k + 1 => soldAcc D k + da D k
theorem share_bd {G : List (List Int)} {D : List Int} (h : Num G D) (hn : G.length ≤ 16) (p : Nat) : -18691697672192 ≤ share G D p ∧ share G D p ≤ 18691697672192 := by
  have := shAcc_bd h p G.length
  unfold share
  have : ((G.length : Int) + 1) * 1099511627776 ≤ 18691697672192 := by omega
  omega
theorem leftAcc_bd {G : List (List Int)} {D : List Int} (h : Num G D) (hn : G.length ≤ 16) : ∀ k : Nat, -((k : Int) * 18691697672192) ≤ leftAcc G D k ∧ leftAcc G D k ≤ (k : Int) * 18691697672192
  | 0 => by simp [leftAcc]
  | k + 1 => by
    have := leftAcc_bd h hn k
    have := share_bd h hn k
    simp only [leftAcc]
    omega
theorem soldAcc_bd {G : List (List Int)} {D : List Int} (h : Num G D) : ∀ k : Nat, 0 ≤ soldAcc D k ∧ soldAcc D k ≤ (k : Int) * 1099511627776
  | 0 => by simp [soldAcc]
  | k + 1 => by
    have := soldAcc_bd h k
    have := h.d k
    simp only [soldAcc]
    omega

/-! ### a row of numbers in a block -/
def Row (w : World) (g : Nat) (xs : List Int) : Prop := ∃ cs, Blk w g 3 cs ∧ ints xs <+: cs
section
variable {w w' : World} {g : Nat} {xs : List Int} {S : Nat → Prop}
theorem Row.lt (h : Row w g xs) : g < w.heap.size := by obtain ⟨cs, h, _⟩ := h; exact h.lt
theorem Row.rd (h : Row w g xs) : Rd w w.heap.size (some ⟨g, 0, none⟩) (ints xs) := by obtain ⟨cs, h, hp⟩ := h; exact Rd.of_blk h hp
theorem Row.cell (h : Row w g xs) {i : Nat} (hi : i < xs.length) : w.cell? ⟨g, i, none⟩ = some (.int .i64 xs[i]) := by
  obtain ⟨cs, h, t, rfl⟩ := h
  rw [h.cell i, List.getElem?_append_left (by rw [ints_len]; exact hi), ints_at xs i hi]
theorem Row.free (h : Row w g xs) (i : Nat) : w.frozen? ⟨g, i, none⟩ = false := by obtain ⟨cs, h, _⟩ := h; exact h.free i
theorem Row.set_ (h : Row w g xs) {i : Nat} (hi : i < xs.length) (x : Int) : Row (w.setCell ⟨g, i, none⟩ (.int .i64 x)) g (xs.set i x) := by
  obtain ⟨cs, h, t, rfl⟩ := h
  refine ⟨_, h.set_ i _, t, ?_⟩
  rw [← ints_set, List.set_append_left _ _ (by rw [ints_len]; exact hi)]
theorem Row.far (h : Row w g xs) {p : Addr} (hp : g ≠ p.block) (u : Value) : Row (w.setCell p u) g xs := by obtain ⟨cs, h, hp2⟩ := h; exact ⟨cs, h.far hp u, hp2⟩
theorem Row.fr (h : Row w g xs) (k : Fr S w w') (hn : ¬ S g) : Row w' g xs := by obtain ⟨cs, h, hp⟩ := h; exact ⟨cs, h.fr k hn, hp⟩
theorem Row.kept (h : Row w g xs) (k : Below w.heap.size w w') : Row w' g xs := by obtain ⟨cs, h, hp⟩ := h; exact ⟨cs, h.kept k, hp⟩
theorem Row.of_blk (h : Blk w g 3 (ints xs)) : Row w g xs := ⟨_, h, List.prefix_refl _⟩
theorem Row.of_own {base n : Nat} {v : Value} (h : w.ownsRow base 3 1 v n (ints xs)) (hn : 0 < n) : ∃ g c, v = .slice (some ⟨g, 0, none⟩) n c ∧ base ≤ g ∧ Row w g xs ∧ n ≤ c ∧ c ≤ maxLen := by
  rcases h.2 with ⟨_, h2⟩ | ⟨g, cap, cur, hv, hb, hh, h1, h2, h3, h4⟩
  · omega
  · refine ⟨g, cap, hv, hb, ⟨cur.toList, by unfold Blk; simpa using hh, ?_⟩, h1, h2⟩
    rw [← h4]
    exact List.take_prefix _ _
end
theorem type_ne {w : World} {a b : Nat} {c1 c2 : List Value} {t1 t2 : TypeId} (h1 : Blk w a t1 c1) (h2 : Blk w b t2 c2) (hne : t1 ≠ t2) : a ≠ b := by
  rintro rfl
  unfold Blk at h1 h2
  rw [h1] at h2
  injection h2 with h2
  injection h2 with _ h2
  exact hne h2

/-! ### the stock in memory -/
def rowV (n : Nat) (r : Nat × Nat) : Value := .slice (some ⟨r.1, 0, none⟩) n r.2
structure STd (w : World) (X : Nat) (S : Nat → Prop) (G : List (List Int)) (D : List Int) (gb gc db dc : Nat) (rs : List (Nat × Nat)) : Prop where
  hX : Blk w X 43 [.slice (some ⟨gb, 0, none⟩) G.length gc, .slice (some ⟨db, 0, none⟩) G.length dc]
  hG : ∃ cs, Blk w gb 23 cs ∧ rs.map (rowV G.length) <+: cs
  hD : Row w db D
  lD : D.length = G.length
  lR : rs.length = G.length
  row : ∀ i (h : i < rs.length) (h2 : i < G.length), (G[i]).length = G.length ∧ Row w (rs[i]).1 G[i]
  dis : ∀ i j (h : i < rs.length) (h2 : j < rs.length), i ≠ j → (rs[i]).1 ≠ (rs[j]).1
  nd : ∀ r ∈ rs, r.1 ≠ db
  cap : (∀ r ∈ rs, G.length ≤ r.2 ∧ r.2 ≤ maxLen) ∧ G.length ≤ gc ∧ gc ≤ maxLen ∧ G.length ≤ dc ∧ dc ≤ maxLen
  sX : S X
  sG : S gb
  sD : S db
  sR : ∀ r ∈ rs, S r.1
  lt : ∀ b, S b → b < w.heap.size
/-- The stock at block X: its state is G, D; all that it is made of lies in S. -/
def ST (w : World) (X : Nat) (S : Nat → Prop) (G : List (List Int)) (D : List Int) : Prop := 1 ≤ G.length ∧ G.length ≤ 16 ∧ Num G D ∧ ∃ gb gc db dc rs, STd w X S G D gb gc db dc rs
section
variable {w w' : World} {X : Nat} {S T : Nat → Prop} {G : List (List Int)} {D : List Int} {gb gc db dc : Nat} {rs : List (Nat × Nat)}
theorem STd.fr (h : STd w X S G D gb gc db dc rs) (k : Fr T w w') (hn : ∀ b, S b → ¬ T b) : STd w' X S G D gb gc db dc rs :=
  ⟨h.hX.fr k (hn _ h.sX), by obtain ⟨cs, h1, h2⟩ := h.hG; exact ⟨cs, h1.fr k (hn _ h.sG), h2⟩, h.hD.fr k (hn _ h.sD), h.lD, h.lR, fun i h1 h2 => ⟨(h.row i h1 h2).1, (h.row i h1 h2).2.fr k (hn _ (h.sR _ (List.getElem_mem h1)))⟩, h.dis, h.nd, h.cap, h.sX, h.sG, h.sD, h.sR, fun b hb => Nat.lt_of_lt_of_le (h.lt b hb) k.size⟩
theorem ST.fr (h : ST w X S G D) (k : Fr T w w') (hn : ∀ b, S b → ¬ T b) : ST w' X S G D := by
  obtain ⟨h1, h2, h3, gb, gc, db, dc, rs, h⟩ := h
  exact ⟨h1, h2, h3, gb, gc, db, dc, rs, h.fr k hn⟩
theorem STd.kept (h : STd w X S G D gb gc db dc rs) (k : Below w.heap.size w w') : STd w' X S G D gb gc db dc rs := h.fr (T := fun _ => False) (Fr.of_below k _) (fun _ _ h => h)
theorem ST.kept (h : ST w X S G D) (k : Below w.heap.size w w') : ST w' X S G D := h.fr (T := fun _ => False) (Fr.of_below k _) (fun _ _ h => h)
theorem ST.lt (h : ST w X S G D) : ∀ b, S b → b < w.heap.size := by
  obtain ⟨_, _, _, gb, gc, db, dc, rs, h⟩ := h
  exact h.lt
theorem STd.cells (h : STd w X S G D gb gc db dc rs) : w.cell? ⟨X, 0, none⟩ = some (.slice (some ⟨gb, 0, none⟩) G.length gc) ∧ w.cell? ⟨X, 1, none⟩ = some (.slice (some ⟨db, 0, none⟩) G.length dc) := ⟨h.hX.cell 0, h.hX.cell 1⟩
theorem STd.atG (h : STd w X S G D gb gc db dc rs) {i : Nat} (hi : i < G.length) : ∃ r c, w.cell? ⟨gb, i, none⟩ = some (.slice (some ⟨r, 0, none⟩) G.length c) ∧ Row w r G[i] ∧ (G[i]).length = G.length ∧ ∃ hr : i < rs.length, rs[i] = (r, c) := by
  have hr : i < rs.length := by rw [h.lR]; exact hi
  obtain ⟨cs, h1, t, rfl⟩ := h.hG
  refine ⟨(rs[i]).1, (rs[i]).2, ?_, (h.row i hr hi).2, (h.row i hr hi).1, hr, rfl⟩
  rw [h1.cell i, List.getElem?_append_left (by simpa using hr), List.getElem?_map, List.getElem?_eq_getElem hr]
  rfl
/-- One number of a stock. -/
theorem STd.num (h : STd w X S G D gb gc db dc rs) {i k : Nat} (hi : i < G.length) (hk : k < G.length) : ∃ r c, w.cell? ⟨gb, i, none⟩ = some (.slice (some ⟨r, 0, none⟩) G.length c) ∧ w.cell? ⟨r, k, none⟩ = some (.int .i64 (ga G i k)) := by
  obtain ⟨r, c, h1, h2, h3, _⟩ := h.atG hi
  have hk' : k < (G[i]).length := by rw [h3]; exact hk
  exact ⟨r, c, h1, by rw [ga_at hi hk']; exact h2.cell hk'⟩
theorem STd.sold (h : STd w X S G D gb gc db dc rs) {i : Nat} (hi : i < G.length) : w.cell? ⟨db, i, none⟩ = some (.int .i64 (da D i)) := by
  have hd : i < D.length := by rw [h.lD]; exact hi
  rw [da_at hd]
  exact h.hD.cell hd
end
end Go.Proofs.Ytdancoblphkakaa
