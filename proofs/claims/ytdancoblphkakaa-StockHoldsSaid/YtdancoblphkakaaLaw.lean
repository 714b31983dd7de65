/- StockHolds: the plain law. Copies of one stock, each with rows of its own. -/
import Derived.Test.YtdancoblphkakaaDoes
namespace Go.Proofs.Ytdancoblphkakaa

/-! ### sums -/
def sumN : Nat → (Nat → Int) → Int
  | 0, _ => 0
  | k + 1, f => sumN k f + f k
theorem sumN_congr {f g : Nat → Int} : ∀ {n : Nat}, (∀ i, i < n → f i = g i) → sumN n f = sumN n g
  | 0, _ => rfl
  | n + 1, h => by rw [sumN, sumN, sumN_congr (fun i hi => h i (by omega)), h n (by omega)]
theorem sumN_le {f g : Nat → Int} : ∀ {n : Nat}, (∀ i, i < n → f i ≤ g i) → sumN n f ≤ sumN n g
  | 0, _ => Int.le_refl _
  | n + 1, h => by
    have := sumN_le (f := f) (g := g) (n := n) (fun i hi => h i (by omega))
    have := h n (by omega)
    simp only [sumN]; omega
theorem sumN_nonneg {f : Nat → Int} : ∀ {n : Nat}, (∀ i, i < n → 0 ≤ f i) → 0 ≤ sumN n f
  | 0, _ => Int.le_refl _
  | n + 1, h => by
    have := sumN_nonneg (f := f) (n := n) (fun i hi => h i (by omega))
    have := h n (by omega)
    simp only [sumN]; omega
theorem sumN_add (f g : Nat → Int) : ∀ n : Nat, sumN n (fun i => f i + g i) = sumN n f + sumN n g
  | 0 => rfl
  | n + 1 => by simp only [sumN]; rw [sumN_add f g n]; omega
theorem sumN_neg (f : Nat → Int) : ∀ n : Nat, sumN n (fun i => - f i) = - sumN n f
  | 0 => rfl
  | n + 1 => by simp only [sumN]; rw [sumN_neg f n]; omega
theorem sumN_zero : ∀ n : Nat, sumN n (fun _ => 0) = 0
  | 0 => rfl
  | n + 1 => by simp only [sumN]; rw [sumN_zero n]; rfl
theorem sumN_comm (f : Nat → Nat → Int) (m : Nat) : ∀ n : Nat, sumN n (fun i => sumN m (fun j => f i j)) = sumN m (fun j => sumN n (fun i => f i j))
  | 0 => by simp only [sumN]; rw [sumN_zero]
  | n + 1 => by simp only [sumN]; rw [sumN_comm f m n, ← sumN_add]
theorem sumN_upd {f g : Nat → Int} {p : Nat} {u : Int} : ∀ {n : Nat}, p < n → (∀ i, i < n → i ≠ p → g i = f i) → g p = f p + u → sumN n g = sumN n f + u
  | 0, h, _, _ => by omega
  | n + 1, h, h1, h2 => by
    simp only [sumN]
    by_cases e : p = n
    · subst e
      rw [sumN_congr (f := g) (g := f) (fun i hi => h1 i (by omega) (by omega)), h2]; omega
    · rw [sumN_upd (n := n) (by omega) (fun i hi => h1 i (by omega)) h2, h1 n (by omega) (fun x => e x.symm)]; omega

/-! ### shares as sums -/
def shF (n : Nat) (g : Nat → Nat → Int) (d : Nat → Int) (p : Nat) : Int := g p p - d p + sumN n (fun i => if i = p then 0 else g i p - g p i)
theorem shAcc_sum (G : List (List Int)) (D : List Int) (p : Nat) : ∀ k, shAcc G D p k = ga G p p - da D p + sumN k (fun i => if i = p then 0 else ga G i p - ga G p i)
  | 0 => by simp [shAcc, sumN]
  | k + 1 => by rw [shAcc, shAcc_sum G D p k, sumN]; omega
theorem share_shF {n : Nat} (G : List (List Int)) (D : List Int) (hn : G.length = n) (p : Nat) : share G D p = shF n (ga G) (da D) p := by
  rw [share, shAcc_sum, hn]; rfl
theorem shF_le {n : Nat} {g g' : Nat → Nat → Int} {d d' : Nat → Int} {p : Nat} (hp : p < n) (h1 : ∀ k, k < n → g' p k = g p k) (h2 : d' p = d p) (h3 : ∀ i, i < n → g i p ≤ g' i p) : shF n g d p ≤ shF n g' d' p := by
  unfold shF
  have := sumN_le (n := n) (f := fun i => if i = p then 0 else g i p - g p i) (g := fun i => if i = p then 0 else g' i p - g' p i) (fun i hi => by
    have a := h1 i hi
    have b := h3 i hi
    by_cases e : i = p
    · simp [e]
    · simp only [if_neg e]; omega)
  have := h1 p hp
  omega
/-- All shares together. -/
theorem shF_total (n : Nat) (g : Nat → Nat → Int) (d : Nat → Int) : sumN n (fun p => shF n g d p) = sumN n (fun p => g p p) - sumN n d := by
  have h0 : sumN n (fun p => sumN n (fun i => if i = p then 0 else g i p - g p i)) = 0 := by
    have h1 := sumN_comm (fun p i => if i = p then 0 else g i p - g p i) n n
    have h2 : sumN n (fun j => sumN n (fun i => if j = i then 0 else g j i - g i j)) = - sumN n (fun p => sumN n (fun i => if i = p then 0 else g i p - g p i)) := by
      rw [← sumN_neg]
      refine sumN_congr fun p _ => ?_
      rw [← sumN_neg]
      refine sumN_congr fun i _ => ?_
      by_cases e : i = p
      · simp [e]
      · rw [if_neg e, if_neg (fun x => e x.symm)]; omega
    omega
  have h3 : sumN n (fun p => shF n g d p) = sumN n (fun p => g p p - d p) + sumN n (fun p => sumN n (fun i => if i = p then 0 else g i p - g p i)) := by
    rw [← sumN_add]
    rfl
  have h4 : sumN n (fun p => g p p - d p) = sumN n (fun p => g p p) + sumN n (fun p => - d p) := by
    rw [← sumN_add]
    exact sumN_congr fun i _ => by omega
  rw [h3, h0, h4, sumN_neg]
  omega
theorem leftAcc_sum (G : List (List Int)) (D : List Int) : ∀ k, leftAcc G D k = sumN k (fun p => share G D p)
  | 0 => rfl
  | k + 1 => by rw [leftAcc, sumN, leftAcc_sum G D k]
theorem soldAcc_sum (D : List Int) : ∀ k, soldAcc D k = sumN k (fun p => da D p)
  | 0 => rfl
  | k + 1 => by rw [soldAcc, sumN, soldAcc_sum D k]

/-! ### the copies -/
/-- A state. -/
structure S2 where
  G : List (List Int)
  D : List Int
/-- Row p of a state is at most that of another one. -/
def RowLe (n p : Nat) (x y : S2) : Prop := (∀ k, k < n → ga x.G p k ≤ ga y.G p k) ∧ da x.D p ≤ da y.D p
theorem RowLe.refl (n p : Nat) (x : S2) : RowLe n p x x := ⟨fun _ _ => Int.le_refl _, Int.le_refl _⟩
theorem RowLe.trans {n p : Nat} {x y z : S2} (h : RowLe n p x y) (k : RowLe n p y z) : RowLe n p x z := ⟨fun i hi => Int.le_trans (h.1 i hi) (k.1 i hi), Int.le_trans h.2 k.2⟩
/-- Row p is the same. -/
def RowEq (n p : Nat) (x y : S2) : Prop := (∀ k, k < n → ga x.G p k = ga y.G p k) ∧ da x.D p = da y.D p
theorem RowEq.le {n p : Nat} {x y : S2} (h : RowEq n p x y) : RowLe n p x y := ⟨fun i hi => by have := h.1 i hi; omega, by have := h.2; omega⟩
theorem RowEq.symm {n p : Nat} {x y : S2} (h : RowEq n p x y) : RowEq n p y x := ⟨fun i hi => (h.1 i hi).symm, h.2.symm⟩
theorem RowLe.antisymm {n p : Nat} {x y : S2} (h : RowLe n p x y) (k : RowLe n p y x) : RowEq n p x y := ⟨fun i hi => by have := h.1 i hi; have := k.1 i hi; omega, by have := h.2; have := k.2; omega⟩
/-- The copies' states, what was restocked and sold, after m calls. -/
structure Sys (n : Nat) (s : Nat → S2) (R S : Int) (m : Nat) : Prop where
  sh : ∀ c, c < n → Shape (s c).G (s c).D ∧ (s c).G.length = n
  rt : ∀ c, c < n → Right (s c).G (s c).D
  cmp : ∀ c d p, c < n → d < n → p < n → RowLe n p (s c) (s d) ∨ RowLe n p (s d) (s c)
  own : ∀ c p, c < n → p < n → RowLe n p (s c) (s p)
  bd : ∀ p k, p < n → k < n → ga (s p).G p k ≤ (m : Int) * 1073741824
  bs : ∀ p, p < n → da (s p).D p ≤ (m : Int) * 1073741824
  tR : R = sumN n (fun p => ga (s p).G p p)
  tS : S = sumN n (fun p => da (s p).D p)
  uR : R ≤ (m : Int) * 1073741824
section
variable {n m : Nat} {s : Nat → S2} {R S : Int}
theorem Sys.mono (h : Sys n s R S m) : Sys n s R S (m + 1) :=
  ⟨h.sh, h.rt, h.cmp, h.own, fun p k hp hk => by have := h.bd p k hp hk; omega, fun p hp => by have := h.bs p hp; omega, h.tR, h.tS, by have := h.uR; omega⟩
/-- Everything is sold at most once. -/
theorem Sys.le (h : Sys n s R S m) : S ≤ R := by
  have h1 := shF_total n (fun p k => ga (s p).G p k) (fun p => da (s p).D p)
  have h2 : 0 ≤ sumN n (fun p => shF n (fun p k => ga (s p).G p k) (fun p => da (s p).D p) p) := by
    refine sumN_nonneg fun p hp => ?_
    have h3 := h.rt p hp p (by rw [(h.sh p hp).2]; exact hp)
    rw [share_shF _ _ (h.sh p hp).2] at h3
    exact Int.le_trans h3 (shF_le hp (fun k _ => rfl) rfl (fun i hi => (h.own p i hp hi).1 p hp))
  have h3 := h.tR
  have h4 := h.tS
  omega
theorem Sys.sold (h : Sys n s R S m) {c : Nat} (hc : c < n) : soldAcc (s c).D (s c).G.length ≤ S := by
  rw [(h.sh c hc).2, soldAcc_sum, h.tS]
  exact sumN_le fun p hp => (h.own c p hc hp).2
theorem Sys.left (h : Sys n s R S m) {c : Nat} (hc : c < n) : 0 ≤ leftAcc (s c).G (s c).D (s c).G.length := by
  rw [leftAcc_sum]
  exact sumN_nonneg fun p hp => h.rt c hc p hp
theorem Sys.nonneg (h : Sys n s R S m) : 0 ≤ S := by
  rw [h.tS]
  exact sumN_nonneg fun p hp => ((h.sh p hp).1.num.d p).1
def upd (s : Nat → S2) (c : Nat) (x : S2) : Nat → S2 := fun i => if i = c then x else s i
theorem upd_same (s : Nat → S2) (c : Nat) (x : S2) : upd s c x c = x := by simp [upd]
theorem upd_other (s : Nat → S2) {c i : Nat} (x : S2) (h : i ≠ c) : upd s c x i = s i := by simp [upd, h]

/-! ### Join -/
def joinS (x y : S2) : S2 := ⟨joinG x.G y.G, joinD x.D y.D x.G.length⟩
theorem join_row {x y : S2} {p : Nat} (hx : x.G.length = n) (hp : p < n) : (RowLe n p x y → RowEq n p (joinS x y) y) ∧ (RowLe n p y x → RowEq n p (joinS x y) x) := by
  refine ⟨fun h => ⟨fun k hk => ?_, ?_⟩, fun h => ⟨fun k hk => ?_, ?_⟩⟩
  · show ga (joinG x.G y.G) p k = _
    rw [ga_joinG _ _ (by omega) (by omega)]; have := h.1 k hk; omega
  · show da (joinD x.D y.D x.G.length) p = _
    rw [da_joinD _ _ (by omega)]; have := h.2; omega
  · show ga (joinG x.G y.G) p k = _
    rw [ga_joinG _ _ (by omega) (by omega)]; have := h.1 k hk; omega
  · show da (joinD x.D y.D x.G.length) p = _
    rw [da_joinD _ _ (by omega)]; have := h.2; omega
theorem join_ge {x y : S2} {i p : Nat} (hx : x.G.length = n) (hi : i < n) (hp : p < n) : ga x.G i p ≤ ga (joinS x y).G i p ∧ ga y.G i p ≤ ga (joinS x y).G i p := by
  show _ ≤ ga (joinG x.G y.G) i p ∧ _ ≤ ga (joinG x.G y.G) i p
  rw [ga_joinG _ _ (by omega) (by omega)]; omega
theorem join_right {x y : S2} (hx : x.G.length = n) (hy : y.G.length = n) (rx : Right x.G x.D) (ry : Right y.G y.D) (hc : ∀ p, p < n → RowLe n p x y ∨ RowLe n p y x) : Right (joinS x y).G (joinS x y).D := by
  have hl : (joinS x y).G.length = n := by show (joinG x.G y.G).length = n; rw [joinG_len, hx]
  intro p hp
  rw [hl] at hp
  rw [share_shF _ _ hl]
  rcases hc p hp with h | h
  · have e := (join_row (y := y) hx hp).1 h
    have h1 := ry p (by omega)
    rw [share_shF _ _ hy] at h1
    exact Int.le_trans h1 (shF_le hp e.1 e.2 (fun i hi => (join_ge hx hi hp).2))
  · have e := (join_row (y := y) hx hp).2 h
    have h1 := rx p (by omega)
    rw [share_shF _ _ hx] at h1
    exact Int.le_trans h1 (shF_le hp e.1 e.2 (fun i hi => (join_ge hx hi hp).1))
theorem Sys.join (h : Sys n s R S m) {c d : Nat} (hc : c < n) (hd : d < n) : joinE (s c).G (s c).D (s d).G (s d).D = 0 ∧ Sys n (upd s c (joinS (s c) (s d))) R S m := by
  have lc := (h.sh c hc).2
  have ld := (h.sh d hd).2
  have hr : Right (joinS (s c) (s d)).G (joinS (s c) (s d)).D := join_right lc ld (h.rt c hc) (h.rt d hd) (fun p hp => h.cmp c d p hc hd hp)
  refine ⟨by rw [joinE, if_pos (by omega)]; exact if_pos hr, ?_⟩
  -- the new state's row p is that of c or that of d
  have hrow : ∀ p, p < n → RowEq n p (joinS (s c) (s d)) (s d) ∨ RowEq n p (joinS (s c) (s d)) (s c) := fun p hp => by
    rcases h.cmp c d p hc hd hp with e | e
    · exact .inl ((join_row lc hp).1 e)
    · exact .inr ((join_row lc hp).2 e)
  have hownc : RowEq n c (joinS (s c) (s d)) (s c) := (join_row lc hc).2 (h.own d c hd hc)
  have hown : ∀ p, p < n → RowEq n p (upd s c (joinS (s c) (s d)) p) (s p) := fun p hp => by
    by_cases e : p = c
    · subst e; rw [upd_same]; exact hownc
    · rw [upd_other _ _ e]; exact (RowLe.refl _ _ _).antisymm (RowLe.refl _ _ _)
  have hle : ∀ a p, a < n → p < n → ∃ b, b < n ∧ RowEq n p (upd s c (joinS (s c) (s d)) a) (s b) := fun a p ha hp => by
    by_cases e : a = c
    · subst e
      rw [upd_same]
      rcases hrow p hp with e | e
      · exact ⟨d, hd, e⟩
      · exact ⟨a, hc, e⟩
    · rw [upd_other _ _ e]; exact ⟨a, ha, (RowLe.refl _ _ _).antisymm (RowLe.refl _ _ _)⟩
  refine ⟨fun a ha => ?_, fun a ha => ?_, fun a b p ha hb hp => ?_, fun a p ha hp => ?_, fun p k hp hk => ?_, fun p hp => ?_, ?_, ?_, h.uR⟩
  · by_cases e : a = c
    · subst e
      rw [upd_same]
      exact ⟨shape_join (h.sh a hc).1 (h.sh d hd).1 (by omega), by show (joinG _ _).length = n; rw [joinG_len, lc]⟩
    · rw [upd_other _ _ e]; exact h.sh a ha
  · by_cases e : a = c
    · subst e; rw [upd_same]; exact hr
    · rw [upd_other _ _ e]; exact h.rt a ha
  · obtain ⟨a', ha', ea⟩ := hle a p ha hp
    obtain ⟨b', hb', eb⟩ := hle b p hb hp
    rcases h.cmp a' b' p ha' hb' hp with e | e
    · exact .inl ((ea.le.trans e).trans eb.symm.le)
    · exact .inr ((eb.le.trans e).trans ea.symm.le)
  · obtain ⟨a', ha', ea⟩ := hle a p ha hp
    exact (ea.le.trans (h.own a' p ha' hp)).trans (hown p hp).symm.le
  · rw [(hown p hp).1 k hk]; exact h.bd p k hp hk
  · rw [(hown p hp).2]; exact h.bs p hp
  · rw [h.tR]; exact sumN_congr fun p hp => ((hown p hp).1 p hp).symm
  · rw [h.tS]; exact sumN_congr fun p hp => ((hown p hp).2).symm
/-- What a join does not change: the owners' rows. -/
theorem Sys.join_own (h : Sys n s R S m) {c d p : Nat} (hc : c < n) (hd : d < n) (hp : p < n) : RowEq n p (upd s c (joinS (s c) (s d)) p) (s p) := by
  by_cases e : p = c
  · subst e; rw [upd_same]; exact (join_row (h.sh p hc).2 hc).2 (h.own d p hd hc)
  · rw [upd_other _ _ e]; exact (RowLe.refl _ _ _).antisymm (RowLe.refl _ _ _)

/-! ### a copy goes on for its own place -/
theorem Sys.act (h : Sys n s R S m) {p : Nat} (hp : p < n) {x : S2} {u v : Int} (hx : Shape x.G x.D) (lx : x.G.length = n) (rx : Right x.G x.D) (hup : RowLe n p (s p) x)
    (hq : ∀ q, q < n → q ≠ p → RowEq n q x (s p)) (hb : ∀ k, k < n → ga x.G p k ≤ ((m : Int) + 1) * 1073741824) (hbs : da x.D p ≤ ((m : Int) + 1) * 1073741824) (hR : ga x.G p p = ga (s p).G p p + u) (hS : da x.D p = da (s p).D p + v) (hu : u ≤ 1073741824) :
    Sys n (upd s p x) (R + u) (S + v) (m + 1) := by
  refine ⟨fun a ha => ?_, fun a ha => ?_, fun a b q ha hb' hq' => ?_, fun a q ha hq' => ?_, fun q k hq' hk => ?_, fun q hq' => ?_, ?_, ?_, by have := h.uR; push_cast; omega⟩
  · by_cases e : a = p
    · subst e; rw [upd_same]; exact ⟨hx, lx⟩
    · rw [upd_other _ _ e]; exact h.sh a ha
  · by_cases e : a = p
    · subst e; rw [upd_same]; exact rx
    · rw [upd_other _ _ e]; exact h.rt a ha
  · by_cases eq : q = p
    · subst eq
      by_cases ea : a = q
      · subst ea
        rw [upd_same]
        by_cases eb : b = a
        · subst eb; rw [upd_same]; exact .inl (RowLe.refl _ _ _)
        · rw [upd_other _ _ eb]; exact .inr ((h.own b a hb' ha).trans hup)
      · rw [upd_other _ _ ea]
        by_cases eb : b = q
        · subst eb; rw [upd_same]; exact .inl ((h.own a b ha hb').trans hup)
        · rw [upd_other _ _ eb]; exact h.cmp a b q ha hb' hq'
    · have key : ∀ a, a < n → RowEq n q (upd s p x a) (s a) := fun a ha => by
        by_cases ea : a = p
        · subst ea; rw [upd_same]; exact hq q hq' eq
        · rw [upd_other _ _ ea]; exact (RowLe.refl _ _ _).antisymm (RowLe.refl _ _ _)
      rcases h.cmp a b q ha hb' hq' with e | e
      · exact .inl (((key a ha).le.trans e).trans (key b hb').symm.le)
      · exact .inr (((key b hb').le.trans e).trans (key a ha).symm.le)
  · by_cases eq : q = p
    · subst eq
      rw [upd_same]
      by_cases ea : a = q
      · subst ea; rw [upd_same]; exact RowLe.refl _ _ _
      · rw [upd_other _ _ ea]; exact (h.own a q ha hq').trans hup
    · rw [upd_other _ _ eq]
      by_cases ea : a = p
      · subst ea; rw [upd_same]; exact (hq q hq' eq).le.trans (h.own a q ha hq')
      · rw [upd_other _ _ ea]; exact h.own a q ha hq'
  · by_cases eq : q = p
    · subst eq; rw [upd_same]; have := hb k hk; push_cast; omega
    · rw [upd_other _ _ eq]; have := h.bd q k hq' hk; push_cast; omega
  · by_cases eq : q = p
    · subst eq; rw [upd_same]; push_cast; omega
    · rw [upd_other _ _ eq]; have := h.bs q hq'; push_cast; omega
  · rw [h.tR]
    refine (sumN_upd hp (fun i _ hne => by rw [upd_other _ _ hne]) ?_).symm
    rw [upd_same]; exact hR
  · rw [h.tS]
    refine (sumN_upd hp (fun i _ hne => by rw [upd_other _ _ hne]) ?_).symm
    rw [upd_same]; exact hS
end
/-! ### one call -/
theorem gset_shape {G : List (List Int)} {D : List Int} (h : Shape G D) {i k : Nat} (hi : i < G.length) (hk : k < G.length) {x : Int} (hx : inU x) : Shape (gset G i k x) D := by
  have hk2 : k < (G[i]).length := by rw [h.len i hi]; exact hk
  refine ⟨by rw [gset_len]; exact h.1, by rw [gset_len]; exact h.2.1, by rw [gset_len]; exact h.2.2.1, fun j hj => ?_⟩
  rw [gset_len] at hj
  refine ⟨fun hj2 => by rw [gset_row G i k x hj2 hj, gset_len, h.len j hj], (h.2.2.2 j hj).2.1, fun m hm => ?_⟩
  rw [gset_len] at hm
  rw [ga_gset hi hk2]
  split
  · exact hx
  · exact (h.2.2.2 j hj).2.2 m hm
theorem dset_shape {G : List (List Int)} {D : List Int} (h : Shape G D) {i : Nat} (hi : i < G.length) {x : Int} (hx : inU x) : Shape G (D.set i x) := by
  have hi2 : i < D.length := by rw [h.2.2.1]; exact hi
  refine ⟨h.1, h.2.1, by rw [List.length_set]; exact h.2.2.1, fun j hj => ⟨(h.2.2.2 j hj).1, ?_, (h.2.2.2 j hj).2.2⟩⟩
  rw [da_set hi2]
  split
  · exact hx
  · exact (h.2.2.2 j hj).2.1
theorem right_diag {G : List (List Int)} {D : List Int} (h : Shape G D) (r : Right G D) {p : Nat} (hp : p < G.length) {u : Int} (hu : 0 ≤ u) : Right (gset G p p (ga G p p + u)) D := by
  have hp2 : p < (G[p]).length := by rw [h.len p hp]; exact hp
  have e := fun a b => ga_gset (x := ga G p p + u) hp hp2 a b
  intro q hq
  rw [gset_len] at hq
  rw [share_shF _ _ (gset_len _ _ _ _)]
  have h1 := r q hq
  rw [share_shF _ _ rfl] at h1
  by_cases eq : q = p
  · subst eq
    unfold shF at h1 ⊢
    rw [e q q, if_pos ⟨rfl, rfl⟩]
    rw [sumN_congr (f := fun i => if i = q then 0 else ga (gset G q q (ga G q q + u)) i q - ga (gset G q q (ga G q q + u)) q i) (g := fun i => if i = q then 0 else ga G i q - ga G q i) (fun i hi => by
      by_cases ei : i = q
      · simp [ei]
      · simp only [if_neg ei]; rw [e i q, e q i, if_neg (fun x => ei x.1), if_neg (fun x => ei x.2)])]
    omega
  · exact Int.le_trans h1 (shF_le hq (fun k hk => by rw [e q k, if_neg (fun x => eq x.1)]) rfl (fun i hi => by rw [e i q, if_neg (fun x => eq x.2)]; exact Int.le_refl _))
theorem right_give {G : List (List Int)} {D : List Int} (h : Shape G D) (r : Right G D) {p t : Nat} (hp : p < G.length) (ht : t < G.length) (hpt : p ≠ t) {u : Int} (h0 : 0 ≤ u) (hu : u ≤ share G D p) : Right (gset G p t (ga G p t + u)) D := by
  have ht2 : t < (G[p]).length := by rw [h.len p hp]; exact ht
  have e := fun a b => ga_gset (x := ga G p t + u) hp ht2 a b
  intro q hq
  rw [gset_len] at hq
  rw [share_shF _ _ (gset_len _ _ _ _)]
  have h1 := r q hq
  rw [share_shF _ _ rfl] at h1 hu
  by_cases eq : q = p
  · subst eq
    unfold shF at hu ⊢
    rw [e q q, if_neg (fun x => hpt x.2)]
    have := sumN_upd (n := G.length) (f := fun i => if i = q then 0 else ga G i q - ga G q i) (g := fun i => if i = q then 0 else ga (gset G q t (ga G q t + u)) i q - ga (gset G q t (ga G q t + u)) q i) (p := t) (u := -u) ht (fun i hi hit => by
      by_cases ei : i = q
      · simp [ei]
      · simp only [if_neg ei]; rw [e i q, e q i, if_neg (fun x => ei x.1), if_neg (fun x => hit x.2)]) (by
      simp only [if_neg (fun x : t = q => hpt x.symm)]
      rw [e t q, e q t, if_neg (fun x => hpt x.1.symm), if_pos ⟨rfl, rfl⟩]; omega)
    omega
  · exact Int.le_trans h1 (shF_le hq (fun k hk => by rw [e q k, if_neg (fun x => eq x.1)]) rfl (fun i hi => by
      rw [e i q]
      split
      · rename_i h2; obtain ⟨rfl, rfl⟩ := h2; omega
      · exact Int.le_refl _))
theorem right_sell {G : List (List Int)} {D : List Int} (h : Shape G D) (r : Right G D) {p : Nat} (hp : p < G.length) {u : Int} (hu : u ≤ share G D p) : Right G (D.set p (da D p + u)) := by
  have hp2 : p < D.length := by rw [h.2.2.1]; exact hp
  have e := fun a => da_set (x := da D p + u) hp2 a
  intro q hq
  rw [share_shF _ _ rfl]
  have h1 := r q hq
  rw [share_shF _ _ rfl] at h1 hu
  unfold shF at h1 hu ⊢
  rw [e q]
  by_cases eq : q = p
  · subst eq; rw [if_pos rfl]; omega
  · rw [if_neg eq]; exact h1
section
variable {n m : Nat} {s : Nat → S2} {R S : Int}
theorem Sys.restock (h : Sys n s R S m) (hm : m < 80) {p : Nat} (hp : p < n) {u : Int} (h0 : 0 ≤ u) (h1 : u ≤ 1073741824) :
    restE (s p).G p u = 0 ∧ Sys n (upd s p ⟨gset (s p).G p p (ga (s p).G p p + u), (s p).D⟩) (R + u) S (m + 1) := by
  obtain ⟨hs, hl⟩ := h.sh p hp
  have hpG : p < (s p).G.length := by omega
  have hp2 : p < ((s p).G[p]).length := by rw [hs.len p hpG]; exact hpG
  have hb := h.bd p p hp hp
  have hn := (hs.num.g p p).1
  have e := fun a b => ga_gset (x := ga (s p).G p p + u) hpG hp2 a b
  have hk : okP (s p).G.length (p : Int) = true := (okP_iff _ _).2 ⟨by omega, by omega⟩
  refine ⟨by rw [restE, if_pos ⟨hk, h0⟩, Int.toNat_natCast, if_neg (by omega)], ?_⟩
  have := h.act (u := u) (v := 0) (x := ⟨gset (s p).G p p (ga (s p).G p p + u), (s p).D⟩) hp (gset_shape hs hpG hpG ⟨by omega, by omega⟩) (by show (gset _ _ _ _).length = n; rw [gset_len]; exact hl) (right_diag hs (h.rt p hp) hpG h0)
    ⟨fun k hk => by show _ ≤ ga (gset _ _ _ _) p k; rw [e p k]; split <;> (try (rename_i h2; obtain ⟨_, rfl⟩ := h2)) <;> omega, Int.le_refl _⟩
    (fun q hq hqp => ⟨fun k hk => by show ga (gset _ _ _ _) q k = _; rw [e q k, if_neg (fun x => hqp x.1)], rfl⟩)
    (fun k hk => by show ga (gset _ _ _ _) p k ≤ _; rw [e p k]; have := h.bd p k hp hk; split <;> omega) (by have := h.bs p hp; show da (s p).D p ≤ _; omega) (by show ga (gset _ _ _ _) p p = _; rw [e p p, if_pos ⟨rfl, rfl⟩]) (by show da (s p).D p = _; omega) h1
  rwa [Int.add_zero] at this
theorem Sys.give (h : Sys n s R S m) (hm : m < 80) {p t : Nat} (hp : p < n) (ht : t < n) (hpt : p ≠ t) {u : Int} (h0 : 0 ≤ u) (h1 : u ≤ 1073741824) :
    (giveE (s p).G (s p).D p t u = 0 ↔ u ≤ share (s p).G (s p).D p) ∧ (u ≤ share (s p).G (s p).D p → Sys n (upd s p ⟨gset (s p).G p t (ga (s p).G p t + u), (s p).D⟩) R S (m + 1)) := by
  obtain ⟨hs, hl⟩ := h.sh p hp
  have hpG : p < (s p).G.length := by omega
  have htG : t < (s p).G.length := by omega
  have ht2 : t < ((s p).G[p]).length := by rw [hs.len p hpG]; exact htG
  have hb := h.bd p t hp ht
  have hn := (hs.num.g p t).1
  have e := fun a b => ga_gset (x := ga (s p).G p t + u) hpG ht2 a b
  have hk : okP (s p).G.length (p : Int) = true := (okP_iff _ _).2 ⟨by omega, by omega⟩
  have hk2 : okP (s p).G.length (t : Int) = true := (okP_iff _ _).2 ⟨by omega, by omega⟩
  refine ⟨?_, fun hu => ?_⟩
  · rw [giveE, if_pos ⟨⟨hk, hk2⟩, h0, by omega⟩, Int.toNat_natCast, Int.toNat_natCast, if_neg (by omega)]
    by_cases hx : share (s p).G (s p).D p < u
    · rw [if_pos hx]; constructor <;> intro h <;> omega
    · rw [if_neg hx]; constructor <;> intro h <;> omega
  · have := h.act (u := 0) (v := 0) (x := ⟨gset (s p).G p t (ga (s p).G p t + u), (s p).D⟩) hp (gset_shape hs hpG htG ⟨by omega, by omega⟩) (by show (gset _ _ _ _).length = n; rw [gset_len]; exact hl) (right_give hs (h.rt p hp) hpG htG hpt h0 hu)
      ⟨fun k hk => by show _ ≤ ga (gset _ _ _ _) p k; rw [e p k]; split <;> (try (rename_i h2; obtain ⟨_, rfl⟩ := h2)) <;> omega, Int.le_refl _⟩
      (fun q hq hqp => ⟨fun k hk => by show ga (gset _ _ _ _) q k = _; rw [e q k, if_neg (fun x => hqp x.1)], rfl⟩)
      (fun k hk => by show ga (gset _ _ _ _) p k ≤ _; rw [e p k]; have := h.bd p k hp hk; split <;> omega) (by have := h.bs p hp; show da (s p).D p ≤ _; omega) (by show ga (gset _ _ _ _) p p = _; rw [e p p, if_neg (fun x => hpt x.2)]; omega) (by show da (s p).D p = _; omega) (by omega)
    rwa [Int.add_zero, Int.add_zero] at this
theorem Sys.sell (h : Sys n s R S m) (hm : m < 80) {p : Nat} (hp : p < n) {u : Int} (h0 : 0 ≤ u) (h1 : u ≤ 1073741824) :
    (sellE (s p).G (s p).D p u = 0 ↔ u ≤ share (s p).G (s p).D p) ∧ (u ≤ share (s p).G (s p).D p → Sys n (upd s p ⟨(s p).G, (s p).D.set p (da (s p).D p + u)⟩) R (S + u) (m + 1)) := by
  obtain ⟨hs, hl⟩ := h.sh p hp
  have hpG : p < (s p).G.length := by omega
  have hpD : p < (s p).D.length := by rw [hs.2.2.1]; exact hpG
  have hb := h.bs p hp
  have hn := (hs.num.d p).1
  have e := fun a => da_set (x := da (s p).D p + u) hpD a
  have hk : okP (s p).G.length (p : Int) = true := (okP_iff _ _).2 ⟨by omega, by omega⟩
  refine ⟨?_, fun hu => ?_⟩
  · rw [sellE, if_pos ⟨hk, h0⟩, Int.toNat_natCast, if_neg (by omega)]
    by_cases hx : share (s p).G (s p).D p < u
    · rw [if_pos hx]; constructor <;> intro h <;> omega
    · rw [if_neg hx]; constructor <;> intro h <;> omega
  · have := h.act (u := 0) (v := u) (x := ⟨(s p).G, (s p).D.set p (da (s p).D p + u)⟩) hp (dset_shape hs hpG ⟨by omega, by omega⟩) hl (right_sell hs (h.rt p hp) hpG hu)
      ⟨fun k hk => Int.le_refl _, by show _ ≤ da (List.set _ _ _) p; rw [e p, if_pos rfl]; omega⟩
      (fun q hq hqp => ⟨fun k hk => rfl, by show da (List.set _ _ _) q = _; rw [e q, if_neg hqp]⟩)
      (fun k hk => by have := h.bd p k hp hk; show ga (s p).G p k ≤ _; omega) (by show da (List.set _ _ _) p ≤ _; rw [e p, if_pos rfl]; omega) (by show ga (s p).G p p = _; omega) (by show da (List.set _ _ _) p = _; rw [e p, if_pos rfl]) (by omega)
    rwa [Int.add_zero] at this

/-! ### when all have joined all -/
/-- Copy c knows all that the owners of the places before k know. -/
def Knows (n : Nat) (s : Nat → S2) (c k : Nat) : Prop := ∀ p, p < k → p < n → RowEq n p (s c) (s p)
theorem Sys.knows (h : Sys n s R S m) {c d k : Nat} (hc : c < n) (hd : d < n) (hk : Knows n s c d) : Knows n (upd s c (joinS (s c) (s d))) c (d + 1) := by
  intro p hp hpn
  rw [upd_same]
  have h1 := (h.join_own hc hd hpn).symm
  have h2 : RowEq n p (joinS (s c) (s d)) (s p) := by
    have hle : RowLe n p (joinS (s c) (s d)) (s p) ∧ RowLe n p (s p) (joinS (s c) (s d)) := by
      rcases h.cmp c d p hc hd hpn with e | e
      · have e2 := (join_row (h.sh c hc).2 hpn).1 e
        by_cases hpd : p = d
        · subst hpd; exact ⟨e2.le, e2.symm.le⟩
        · have e3 := hk p (by omega) hpn
          exact ⟨e2.le.trans (h.own d p hd hpn), (e3.symm.le.trans e).trans e2.symm.le⟩
      · have e2 := (join_row (h.sh c hc).2 hpn).2 e
        by_cases hpd : p = d
        · subst hpd; exact ⟨e2.le.trans (h.own c p hc hpn), e.trans e2.symm.le⟩
        · have e3 := hk p (by omega) hpn
          exact ⟨e2.le.trans e3.le, e3.symm.le.trans e2.symm.le⟩
    exact hle.1.antisymm hle.2
  exact ⟨fun k hk => (h2.1 k hk).trans (h1.1 k hk), h2.2.trans h1.2⟩
/-- Who knows all goes on to know all, when anyone joins. -/
theorem Sys.still (h : Sys n s R S m) {a c d k : Nat} (hc : c < n) (hd : d < n) (hac : a ≠ c) (hk : Knows n s a k) : Knows n (upd s c (joinS (s c) (s d))) a k := by
  intro p hp hpn
  rw [upd_other _ _ hac]
  have h1 := (h.join_own hc hd hpn).symm
  have h2 := hk p hp hpn
  exact ⟨fun k hk => (h2.1 k hk).trans (h1.1 k hk), h2.2.trans h1.2⟩
theorem Sys.all_eq (h : Sys n s R S m) {a b : Nat} (ha : a < n) (hb : b < n) (ka : Knows n s a n) (kb : Knows n s b n) : s a = s b := by
  obtain ⟨h1, l1⟩ := h.sh a ha
  obtain ⟨h2, l2⟩ := h.sh b hb
  have e1 : (s a).G = (s b).G := mat_ext l1 l2 (fun i hi => by rw [h1.len i hi, l1]) (fun i hi => by rw [h2.len i hi, l2]) (fun i k hi hk => ((ka i hi hi).1 k hk).trans ((kb i hi hi).1 k hk).symm)
  have e2 : (s a).D = (s b).D := row_ext (n := n) (by rw [h1.2.2.1, l1]) (by rw [h2.2.2.1, l2]) (fun i hi => (ka i hi hi).2.trans (kb i hi hi).2.symm)
  have : ∀ x y : S2, x.G = y.G → x.D = y.D → x = y := fun x y hg hd => by cases x; cases y; simp_all
  exact this _ _ e1 e2
theorem Sys.sums (h : Sys n s R S m) {a : Nat} (ha : a < n) (ka : Knows n s a n) : leftAcc (s a).G (s a).D (s a).G.length = R - S ∧ soldAcc (s a).D (s a).G.length = S := by
  have l1 := (h.sh a ha).2
  refine ⟨?_, ?_⟩
  · rw [leftAcc_sum, l1, sumN_congr (g := fun p => shF n (ga (s a).G) (da (s a).D) p) (fun p _ => share_shF _ _ l1 p), shF_total, h.tR, h.tS]
    rw [sumN_congr (f := fun p => ga (s a).G p p) (g := fun p => ga (s p).G p p) (fun p hp => (ka p hp hp).1 p hp), sumN_congr (f := da (s a).D) (g := fun p => da (s p).D p) (fun p hp => (ka p hp hp).2)]
  · rw [soldAcc_sum, l1, h.tS]
    exact sumN_congr fun p hp => (ka p hp hp).2
end
/-- At the beginning. -/
theorem ga_zerG (n i k : Nat) : ga (zerG n) i k = 0 := by
  unfold ga zerG zer
  rw [List.getD_eq_getElem?_getD, List.getD_eq_getElem?_getD]
  by_cases hi : i < n
  · rw [List.getElem?_replicate, if_pos hi]
    by_cases hk : k < n
    · simp [hk]
    · simp [hk]
  · rw [List.getElem?_replicate, if_neg hi]; simp
theorem da_zer (n i : Nat) : da (zer n) i = 0 := by
  unfold da zer
  rw [List.getD_eq_getElem?_getD]
  by_cases hi : i < n
  · simp [hi]
  · simp [hi]
theorem sys_new {n : Nat} (h1 : 1 ≤ n) (h2 : n ≤ 16) : Sys n (fun _ => ⟨zerG n, zer n⟩) 0 0 0 := by
  have lG : (zerG n).length = n := by simp [zerG]
  have hs : Shape (zerG n) (zer n) := shape_of (by omega) (by omega) (num_zer n) (by simp [zerG, zer]) (fun i hi => by simp [zerG, zer])
  refine ⟨fun c hc => ⟨hs, lG⟩, fun c hc p hp => ?_, fun c d p _ _ _ => .inl (RowLe.refl _ _ _), fun c p _ _ => RowLe.refl _ _ _, fun p k _ _ => by show ga (zerG n) p k ≤ _; rw [ga_zerG]; simp, fun p _ => by show da (zer n) p ≤ _; rw [da_zer]; simp, ?_, ?_, by simp⟩
  · show 0 ≤ share (zerG n) (zer n) p
    rw [share_shF _ _ lG]
    unfold shF
    rw [ga_zerG, da_zer]
    have := sumN_nonneg (n := n) (f := fun i => if i = p then 0 else ga (zerG n) i p - ga (zerG n) p i) (fun i _ => by simp only [ga_zerG]; split <;> omega)
    omega
  · rw [sumN_congr (g := fun _ => 0) (fun p _ => ga_zerG n p p), sumN_zero]
  · rw [sumN_congr (g := fun _ => 0) (fun p _ => da_zer n p), sumN_zero]
end Go.Proofs.Ytdancoblphkakaa
