/- Copies of a stock, numbered. -/
import Derived.Test.YtdancoblphkakaaLawD
namespace Go.Proofs.Ytdancoblphkakaa
open Go.RowKit

section
variable {w0 w w' : World} {l l' : List Ob} {m : List Sv} {c : List Bx}
theorem All.perm (h : All w0 w l m c) (hp : l.Perm l') : All w0 w l' m c := by
  have hm : ∀ o, o ∈ l' → o ∈ l := fun o ho => hp.mem_iff.2 ho
  refine ⟨⟨h.o.b, fun o ho => h.o.st o (hm o ho), ?_⟩, fun x hx => (h.s x hx).mono (fun b hb _ => ⟨hb.1, fun o ho => hb.2.1 o (hm o ho), hb.2.2⟩), fun x hx => ⟨(h.cx x hx).1, (h.cx x hx).2.1, fun o ho => (h.cx x hx).2.2 o (hm o ho)⟩, h.n⟩
  exact hp.pairwise h.o.ap (fun {x y} h b hb hb2 => h b hb2 hb)
/-- Something else is written that no stock knows of. -/
theorem All.fr0 {T : Nat → Prop} (h : All w0 w l [] []) (k : Fr T w w') (hT : ∀ b, T b → w0.heap.size ≤ b ∧ ∀ o ∈ l, ¬ o.S b) : All w0 w' l [] [] :=
  ⟨⟨Fr.below h.b k (fun b hb => (hT b hb).1), fun o ho => ⟨(h.o.st o ho).1.fr k (fun b hb ht => (hT b ht).2 o ho hb), (h.o.st o ho).2⟩, h.o.ap⟩, by simp, by simp, .nil⟩
theorem All.mkbox (h : All w0 w l [] []) {N : Nat} {t : TypeId} {cs : List Value} (hB : Blk w N t cs) (hN : w0.heap.size ≤ N) (hno : ∀ o ∈ l, ¬ o.S N) : All w0 w l [] [⟨N, t, cs⟩] :=
  ⟨h.o, by simp, fun x hx => by
    simp only [List.mem_singleton] at hx
    subst hx
    exact ⟨hB, hN, hno⟩, by simp⟩
end
/-- The copies. -/
def obs (n : Nat) (X : Nat → Nat) (S : Nat → Nat → Prop) (s : Nat → S2) : List Ob := (List.range n).map fun i => ⟨X i, S i, (s i).G, (s i).D⟩
theorem obs_at {n : Nat} {X : Nat → Nat} {S : Nat → Nat → Prop} {s : Nat → S2} {i : Nat} (h : i < n) : (obs n X S s)[i]? = some ⟨X i, S i, (s i).G, (s i).D⟩ := by simp [obs, h]
def updS (S : Nat → Nat → Prop) (i : Nat) (T : Nat → Prop) : Nat → Nat → Prop := fun j => if j = i then T else S j
theorem obs_set {n : Nat} {X : Nat → Nat} {S : Nat → Nat → Prop} {s : Nat → S2} {i : Nat} (h : i < n) (T : Nat → Prop) (x : S2) : (obs n X S s).set i ⟨X i, T, x.G, x.D⟩ = obs n X (updS S i T) (upd s i x) := by
  refine List.ext_getElem (by simp [obs]) fun j h1 h2 => ?_
  rw [List.getElem_set]
  have hj : j < n := by simpa [obs] using h2
  by_cases e : i = j
  · subst e
    simp [obs, updS, upd]
  · rw [if_neg e]
    have e2 : ¬ j = i := fun x => e x.symm
    simp [obs, updS, upd, e2]
theorem obs_snoc (k : Nat) (X : Nat → Nat) (S : Nat → Nat → Prop) (s : Nat → S2) (Y : Nat) (T : Nat → Prop) (hs : ∀ i, s i = s k) :
    obs k X S s ++ [⟨Y, T, (s k).G, (s k).D⟩] = obs (k + 1) (fun i => if i = k then Y else X i) (fun i => if i = k then T else S i) s := by
  unfold obs
  rw [List.range_succ, List.map_append]
  congr 1
  · refine List.map_congr_left fun i hi => ?_
    have : i ≠ k := by simp at hi; omega
    simp [this]
  · simp
section
variable {w0 w w' : World} {n : Nat} {X : Nat → Nat} {S : Nat → Nat → Prop} {s : Nat → S2} {c : List Bx}
theorem restM {p : Nat} (h : All w0 w (obs n X S s) [] c) (hp : p < n) (u : Int) : Calls Try.prog 18 #[.pointer (some ⟨X p, 0, none⟩), .int .i64 p, .int .i64 u] w fun e w' => e = .returned (.int .i64 (restE (s p).G p u)) ∧ ∃ S', All w0 w' (obs n X S' (upd s p ⟨restG (s p).G p u, (s p).D⟩)) [] c := by
  refine (restA (p : Int) u h p (obs_at hp)).mono ?_
  rintro e w' ⟨rfl, T, h1⟩
  rw [obs_set hp T ⟨restG (s p).G p u, (s p).D⟩] at h1
  exact ⟨rfl, _, h1⟩
theorem giveM {p t : Nat} (h : All w0 w (obs n X S s) [] c) (hp : p < n) (u : Int) : Calls Try.prog 19 #[.pointer (some ⟨X p, 0, none⟩), .int .i64 p, .int .i64 t, .int .i64 u] w fun e w' => e = .returned (.int .i64 (giveE (s p).G (s p).D p t u)) ∧ ∃ S', All w0 w' (obs n X S' (upd s p ⟨giveG (s p).G (s p).D p t u, (s p).D⟩)) [] c := by
  refine (giveA (p : Int) t u h p (obs_at hp)).mono ?_
  rintro e w' ⟨rfl, T, h1⟩
  rw [obs_set hp T ⟨giveG (s p).G (s p).D p t u, (s p).D⟩] at h1
  exact ⟨rfl, _, h1⟩
theorem sellM {p : Nat} (h : All w0 w (obs n X S s) [] c) (hp : p < n) (u : Int) : Calls Try.prog 20 #[.pointer (some ⟨X p, 0, none⟩), .int .i64 p, .int .i64 u] w fun e w' => e = .returned (.int .i64 (sellE (s p).G (s p).D p u)) ∧ ∃ S', All w0 w' (obs n X S' (upd s p ⟨(s p).G, sellD (s p).G (s p).D p u⟩)) [] c := by
  refine (sellA (p : Int) u h p (obs_at hp)).mono ?_
  rintro e w' ⟨rfl, T, h1⟩
  rw [obs_set hp T ⟨(s p).G, sellD (s p).G (s p).D p u⟩] at h1
  exact ⟨rfl, _, h1⟩
theorem joinM {p t : Nat} (h : All w0 w (obs n X S s) [] c) (hp : p < n) (ht : t < n) (he : joinE (s p).G (s p).D (s t).G (s t).D = 0) : Calls Try.prog 15 #[.pointer (some ⟨X p, 0, none⟩), .pointer (some ⟨X t, 0, none⟩)] w fun e w' => e = .returned (.int .i64 0) ∧ ∃ S', All w0 w' (obs n X S' (upd s p (joinS (s p) (s t)))) [] c := by
  have hG : afterG (s p).G (s p).D (s t).G (s t).D = joinG (s p).G (s t).G := by rw [afterG, if_pos he]
  have hD : afterD (s p).G (s p).D (s t).G (s t).D = joinD (s p).D (s t).D (s p).G.length := by rw [afterD, if_pos he]
  refine (joinN h p t (obs_at hp) (obs_at ht) he hG hD).mono ?_
  rintro e w' ⟨rfl, T, h1⟩
  have h2 := obs_set (X := X) (S := S) (s := s) hp T (joinS (s p) (s t))
  exact ⟨rfl, updS S p T, by rw [← h2]; exact h1⟩
theorem ST_M {p : Nat} (h : All w0 w (obs n X S s) [] c) (hp : p < n) : ST w (X p) (S p) (s p).G (s p).D := h.at_ (obs_at hp)
end
/-- What the calls make, in the law's words. -/
theorem Sys.restock' {n m : Nat} {s : Nat → S2} {R S : Int} (h : Sys n s R S m) (hm : m < 80) {p : Nat} (hp : p < n) {u : Int} (h0 : 0 ≤ u) (h1 : u ≤ 1073741824) :
    restE (s p).G p u = 0 ∧ Sys n (upd s p ⟨restG (s p).G p u, (s p).D⟩) (R + u) S (m + 1) := by
  obtain ⟨e, k⟩ := h.restock hm hp h0 h1
  refine ⟨e, ?_⟩
  have : restG (s p).G p u = gset (s p).G p p (ga (s p).G p p + u) := by rw [restG, if_pos e, Int.toNat_natCast]
  rw [this]
  exact k
theorem upd_id (s : Nat → S2) (p : Nat) : upd s p ⟨(s p).G, (s p).D⟩ = s := by
  funext i
  unfold upd
  split
  · rename_i e; subst e; rfl
  · rfl
theorem Sys.give' {n m : Nat} {s : Nat → S2} {R S : Int} (h : Sys n s R S m) (hm : m < 80) {p t : Nat} (hp : p < n) (ht : t < n) (hpt : p ≠ t) {u : Int} (h0 : 0 ≤ u) (h1 : u ≤ 1073741824) :
    (giveE (s p).G (s p).D p t u = 0 ↔ u ≤ share (s p).G (s p).D p) ∧ Sys n (upd s p ⟨giveG (s p).G (s p).D p t u, (s p).D⟩) R S (m + 1) := by
  obtain ⟨e, k⟩ := h.give hm hp ht hpt h0 h1
  refine ⟨e, ?_⟩
  by_cases hu : u ≤ share (s p).G (s p).D p
  · have : giveG (s p).G (s p).D p t u = gset (s p).G p t (ga (s p).G p t + u) := by rw [giveG, if_pos (e.2 hu), Int.toNat_natCast, Int.toNat_natCast]
    rw [this]
    exact k hu
  · have : giveG (s p).G (s p).D p t u = (s p).G := by rw [giveG, if_neg (fun x => hu (e.1 x))]
    rw [this, upd_id]
    exact h.mono
theorem Sys.sell' {n m : Nat} {s : Nat → S2} {R S : Int} (h : Sys n s R S m) (hm : m < 80) {p : Nat} (hp : p < n) {u : Int} (h0 : 0 ≤ u) (h1 : u ≤ 1073741824) :
    (sellE (s p).G (s p).D p u = 0 ↔ u ≤ share (s p).G (s p).D p) ∧ Sys n (upd s p ⟨(s p).G, sellD (s p).G (s p).D p u⟩) R (if u ≤ share (s p).G (s p).D p then S + u else S) (m + 1) := by
  obtain ⟨e, k⟩ := h.sell hm hp h0 h1
  refine ⟨e, ?_⟩
  by_cases hu : u ≤ share (s p).G (s p).D p
  · have : sellD (s p).G (s p).D p u = (s p).D.set p (da (s p).D p + u) := by rw [sellD, if_pos (e.2 hu), Int.toNat_natCast]
    rw [this, if_pos hu]
    exact k hu
  · have : sellD (s p).G (s p).D p u = (s p).D := by rw [sellD, if_neg (fun x => hu (e.1 x))]
    rw [this, upd_id, if_neg hu]
    exact h.mono
end Go.Proofs.Ytdancoblphkakaa
