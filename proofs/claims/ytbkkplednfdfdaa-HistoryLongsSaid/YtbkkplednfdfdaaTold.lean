/- The teller of a history: what it holds, in plain Lean and in memory. -/
import Derived.Test.YtbkkplednfdfdaaCopies
namespace Go.Proofs.Ytbkkplednfdfdaa
open Go.RowKit Go.Maps
set_option linter.unusedVariables false

/-! ### plain -/
structure TS where
  looks : Bool
  event : Nat
  ended : Bool
structure PS where
  T : Int → Option TS
  es : List PE
def pfit : Option TS → Bool → Bool
  | none, _ => true
  | some s, lk => s.looks && lk
def pnew (i : Nat) (d : PD) (lk : Bool) : PE := ⟨d.task, i, -1, -1, if lk then PC.zero else d.c, PA.zero⟩
def padd (i : Nat) (d : PD) (S : PS) (lk : Bool) : PS := ⟨upd S.T d.task ⟨lk, S.es.length, false⟩, S.es ++ [pnew i d lk]⟩
def pbegin (i : Nat) (d : PD) (S : PS) : Option PS := if pfit (S.T d.task) (decide (d.step = 7)) then some (padd i d S (decide (d.step = 7))) else none
def pmadeB (d : PD) (x : PE) : Bool := !decide (0 ≤ x.made) && (decide (d.step = 1) || decide (d.step = 4))
def pmadeE (i : Nat) (d : PD) (s : TS) (x : PE) : PE := ⟨x.task, x.asked, i, if s.looks then (i : Int) else x.ans, d.c, d.a⟩
def pmade (i : Nat) (d : PD) (s : TS) (x : PE) (S : PS) : Option PS := if pmadeB d x then some ⟨S.T, S.es.set s.event (pmadeE i d s x)⟩ else none
def pansB (s : TS) (x : PE) : Bool := !s.looks && !decide (x.made < 0)
def pansE (i : Nat) (x : PE) : PE := ⟨x.task, x.asked, x.made, i, x.c, x.a⟩
def pans (i : Nat) (d : PD) (s : TS) (x : PE) (S : PS) : Option PS := if pansB s x then some ⟨upd S.T d.task ⟨s.looks, s.event, true⟩, S.es.set s.event (pansE i x)⟩ else none

/-! ### stores into one event of a list -/
/-- Several stores into block g, from place o on. -/
def sets (w : World) (g o : Nat) (l : List (Nat × Value)) : World := l.foldl (fun w p => w.setCell ⟨g, o + p.1, none⟩ p.2) w
def puts (c : List Value) (l : List (Nat × Value)) : List Value := l.foldl (fun c p => c.set p.1 p.2) c
theorem sets_fr (g o : Nat) : ∀ (l : List (Nat × Value)) (w0 w : World), Fr (fun x => x = g) w0 w → Fr (fun x => x = g) w0 (sets w g o l)
  | [], _, _, h => h
  | p :: l, w0, w, h => sets_fr g o l w0 _ (h.set ⟨g, o + p.1, none⟩ p.2 (.inl rfl))
theorem sets_blk {g o : Nat} {t : TypeId} : ∀ (l : List (Nat × Value)) {w : World} {cs : List Value}, Blk w g t cs → Blk (sets w g o l) g t (l.foldl (fun c p => c.set (o + p.1) p.2) cs)
  | [], _, _, h => h
  | p :: l, _, _, h => sets_blk l (h.set_ (o + p.1) p.2)
theorem puts_mid (A D : List Value) : ∀ (l : List (Nat × Value)) (C : List Value), (∀ p ∈ l, p.1 < C.length) → l.foldl (fun c p => c.set (A.length + p.1) p.2) (A ++ (C ++ D)) = A ++ (puts C l ++ D)
  | [], _, _ => rfl
  | p :: l, C, h => by
    have h1 : p.1 < C.length := h p (by simp)
    have e : (A ++ (C ++ D)).set (A.length + p.1) p.2 = A ++ (C.set p.1 p.2 ++ D) := by
      rw [List.set_append_right _ _ (by omega), List.set_append_left _ _ (by omega)]
      congr 2
      rw [show A.length + p.1 - A.length = p.1 by omega]
    rw [List.foldl_cons, e, puts_mid A D l (C.set p.1 p.2) (fun q hq => by rw [List.length_set]; exact h q (by simp [hq]))]
    rfl
theorem evs_app (a b : List Ev) : evs (a ++ b) = evs a ++ evs b := by simp [evs]
theorem evs_split {es : List Ev} {k : Nat} (hk : k < es.length) : evs es = evs (es.take k) ++ (es[k].cells ++ evs (es.drop (k + 1))) := by
  rw [← evs_cons, ← evs_app, ← List.drop_eq_getElem_cons hk, List.take_append_drop]
theorem evs_set {es : List Ev} {k : Nat} (hk : k < es.length) (e' : Ev) : evs (es.set k e') = evs (es.take k) ++ (e'.cells ++ evs (es.drop (k + 1))) := by
  rw [List.set_eq_take_append_cons_drop, if_pos hk, evs_app, evs_cons]
theorem evs_take_len {es : List Ev} {k : Nat} (hk : k < es.length) : (evs (es.take k)).length = k * 15 := by rw [evs_len, List.length_take]; congr 1; omega
theorem cells_len (x : Ev) : x.cells.length = 15 := rfl
/-- The events' slice, behind stores into one event. -/
theorem own_sets {w : World} {B g c n k : Nat} {es : List Ev} {e' : Ev} {l : List (Nat × Value)} (h : w.ownsRow B 41 15 (.slice (some ⟨g, 0, none⟩) n c) n (evs es)) (hk : k < es.length) (hl : ∀ p ∈ l, p.1 < 15) (he : puts es[k].cells l = e'.cells) :
    (sets w g (k * 15) l).ownsRow B 41 15 (.slice (some ⟨g, 0, none⟩) n c) n (evs (es.set k e')) := by
  obtain ⟨h1, h2⟩ := h
  refine ⟨by rw [evs_len, List.length_set, ← evs_len]; exact h1, .inr ?_⟩
  rcases h2 with ⟨h2, h3⟩ | ⟨g', cap, cur, hv, hg, hh, hn, hc, hs, ht⟩
  · injection h2 with h2
    cases h2
  · injection hv with hp hn' hc'
    injection hp with hp
    injection hp with hp
    subst hp
    subst hc'
    have hblk : Blk w g 41 cur.toList := by unfold Blk; simpa using hh
    have hb2 := sets_blk (o := k * 15) l hblk
    have hcur : cur.toList = evs (es.take k) ++ (es[k].cells ++ (evs (es.drop (k + 1)) ++ cur.toList.drop (n * 15))) := by
      rw [← List.append_assoc es[k].cells, ← List.append_assoc, ← evs_split hk, ← ht, List.take_append_drop]
    rw [hcur, ← evs_take_len hk, puts_mid _ _ l _ (fun p hp => by rw [cells_len]; exact hl p hp), he, evs_take_len hk] at hb2
    refine ⟨g, c, (evs (es.take k) ++ (e'.cells ++ (evs (es.drop (k + 1)) ++ cur.toList.drop (n * 15)))).toArray, rfl, hg, by unfold Blk at hb2; simpa using hb2, hn, hc, ?_, ?_⟩
    · have e1 : cur.toList.length = c * 15 := by simpa using hs
      rw [hcur] at e1
      simp only [List.length_append, cells_len] at e1 ⊢
      simpa [cells_len] using e1
    · have e2 : (evs (es.set k e')).length = n * 15 := by rw [evs_len, List.length_set, ← evs_len]; exact h1
      have e3 : evs (es.take k) ++ (e'.cells ++ (evs (es.drop (k + 1)) ++ cur.toList.drop (n * 15))) = evs (es.set k e') ++ cur.toList.drop (n * 15) := by
        rw [evs_set hk, List.append_assoc, List.append_assoc]
      simp only [e3]
      rw [List.take_append_of_le_length (by omega), ← e2, List.take_length]

/-! ### in memory -/
theorem Fr.below_of {S : Nat → Prop} {w w' : World} {B : Nat} (h : Fr S w w') (hS : ∀ b, S b → B ≤ b) (hB : B ≤ w.heap.size) : Below B w w' :=
  ⟨h.os, h.tape, h.output, h.size, fun i hi => h.block i (by omega) (fun hs => by have := hS i hs; omega)⟩
theorem EvR.imp3 {R R' : Rdr} {x : Ev} {p : PE} (h : EvR R x p) (hi : ∀ t p xs, (t = 5 ∨ t = 43 ∨ t = 37) → R t p xs → R' t p xs) : EvR R' x p := by
  obtain ⟨hs, h1, h2, h3⟩ := h.a.bats
  exact ⟨h.task, h.asked, h.made, h.ans, h.c.imp (fun p xs => hi 5 p xs (.inl rfl)), ⟨h.a.op, h.a.err, h.a.cnt, h.a.len, h.a.cap, hi _ _ _ (.inr (.inl rfl)) h.a.rd, h.a.blen, h.a.bcap, hs, h1, hi _ _ _ (.inr (.inr rfl)) h2, fun i x b hx hb => ⟨(h3 i x b hx hb).1, (h3 i x b hx hb).2.1, hi _ _ _ (.inl rfl) (h3 i x b hx hb).2.2⟩⟩⟩
/-- Not by any block of this type. -/
theorem RdD.frS {w w' : World} {B : Nat} {t : TypeId} {p : Option Addr} {xs : List Value} {S : Nat → Prop} (h : RdD w B t p xs) (hf : Fr S w w') (hS : ∀ b cs, Blk w b t cs → ¬ S b) : RdD w' B t p xs := by
  rcases h with h | ⟨b, o, cs, hp, hB, hk, hc⟩
  · exact .inl h
  · exact .inr ⟨b, o, cs, hp, hB, hk.fr hf (hS _ _ hk), hc⟩
theorem Blk.type {w : World} {b : Nat} {t t' : TypeId} {cs cs' : List Value} (h : Blk w b t cs) (h' : Blk w b t' cs') : t = t' := by
  unfold Blk at h h'
  rw [h] at h'
  injection h' with h'
  injection h' with _ h2
theorem Mp.noblk {w : World} {b n : Nat} {f : Int → Option Value} {t : TypeId} {cs : List Value} (h : Mp w b n f) (h' : Blk w b t cs) : False := by
  obtain ⟨es, clock, hb, _⟩ := h
  unfold Blk at h'
  rw [hb] at h'
  injection h' with h'
  cases h'
def ptrs (A : Int → Option Nat) : Int → Option Value := fun x => (A x).map fun a => .pointer (some ⟨a, 0, none⟩)
/-- Blocks that hold a step stand. -/
def K51 (w w' : World) : Prop := ∀ b cs, Blk w b 51 cs → Blk w' b 51 cs
theorem K51.of {w w' : World} (h : Below w.heap.size w w') : K51 w w' := fun _ _ hb => hb.kept h
theorem K51.trans {w w1 w2 : World} (h : K51 w w1) (k : K51 w1 w2) : K51 w w2 := fun _ _ hb => k _ _ (h _ _ hb)
structure Tell (w : World) (B t mb : Nat) (p : Option Addr) (c : Nat) (A : Int → Option Nat) (es : List Ev) (S : PS) : Prop where
  bt : B ≤ t
  bm : B ≤ mb
  blk : Blk w t 62 [.map (some mb), .slice p es.length c]
  own : w.ownsRow B 41 15 (.slice p es.length c) es.length (evs es)
  mp : ∃ N, Mp w mb N (ptrs A)
  st : ∀ x a, A x = some a → ∃ s, S.T x = some s ∧ Blk w a 78 [.bool s.looks, .int .i64 s.event, .bool s.ended] ∧ B ≤ a ∧ s.event < es.length
  no : ∀ x, A x = none → S.T x = none
  inj : ∀ x y a, A x = some a → A y = some a → x = y
  len : es.length = S.es.length
  ev : ∀ (i : Nat) (x : Ev) (p : PE), es[i]? = some x → S.es[i]? = some p → EvR (RdD w B) x p
section
variable {w w' : World} {B t mb c : Nat} {p : Option Addr} {A : Int → Option Nat} {es : List Ev} {S : PS}
theorem Tell.kept (h : Tell w B t mb p c A es S) (hb : Below w.heap.size w w') : Tell w' B t mb p c A es S := by
  obtain ⟨N, hN⟩ := h.mp
  refine ⟨h.bt, h.bm, h.blk.kept hb, own_fr h.own (Fr.of_below hb (fun _ => False)) (fun _ _ h => h), ⟨N, hN.kept hb⟩, fun x a hx => ?_, h.no, h.inj, h.len, fun i x q hx hq => (h.ev i x q hx hq).imp fun t p xs hr => hr.kept hb⟩
  obtain ⟨s, h1, h2, h3⟩ := h.st x a hx
  exact ⟨s, h1, h2.kept hb, h3⟩
theorem Tell.ownBlk (h : Tell w B t mb p c A es S) {g : Nat} (hg : (Value.slice p es.length c).ownBlock = some g) : ∃ cs, Blk w g 41 cs := by
  rcases h.own.2 with ⟨h1, h2⟩ | ⟨g', cap, cur, hv, hgg, hh, hn, hc, hs, ht⟩
  · rw [h1] at hg; cases hg
  · rw [hv] at hg
    injection hg with hg
    subst hg
    exact ⟨cur.toList, by unfold Blk; simpa using hh⟩
/-- A new event, and its task's state. -/
theorem Tell.add (h : Tell w B t mb p c A es S) {task : Int} {s : TS} {e : Ev} {q : PE} {N a : Nat} {p' : Option Addr} {c' : Nat} (ha : a = w.heap.size) {w2 w3 w4 : World}
    (h2 : Fr (fun _ => False) w w2) (hab : Blk w2 a 78 [.bool s.looks, .int .i64 es.length, .bool s.ended]) (hs : s.event = es.length)
    (hm : Mp w3 mb N (upd (ptrs A) task (.pointer (some ⟨a, 0, none⟩)))) (h3 : Fr (fun x => x = mb) w2 w3)
    (h4 : Fr (fun x => (Value.slice p es.length c).ownBlock = some x) w3 w4) (hown : w4.ownsRow B 41 15 (.slice p' (es.length + 1) c') (es.length + 1) (evs es ++ e.cells)) (hnew : (Value.slice p' (es.length + 1) c').ownBlock = (Value.slice p es.length c).ownBlock ∨ ∀ k, (Value.slice p' (es.length + 1) c').ownBlock = some k → w3.heap.size ≤ k)
    (he : EvR (RdD w B) e q) :
    Tell (w4.setCell ⟨t, 1, none⟩ (.slice p' (es.length + 1) c')) B t mb p' c' (upd A task a) (es ++ [e]) ⟨upd S.T task s, S.es ++ [q]⟩ ∧ Below B w (w4.setCell ⟨t, 1, none⟩ (.slice p' (es.length + 1) c')) ∧ K51 w (w4.setCell ⟨t, 1, none⟩ (.slice p' (es.length + 1) c')) := by
  obtain ⟨M, hM⟩ := h.mp
  have hBt := h.bt
  have htl := h.blk.lt
  have hml := hM.lt
  have hal : a < w2.heap.size := hab.lt
  have hsz2 := h2.size
  have hsz3 := h3.size
  have hsz4 := h4.size
  -- blocks are distinct
  have htm : t ≠ mb := fun e => hM.noblk (e ▸ h.blk)
  have hgt : ∀ g, (Value.slice p es.length c).ownBlock = some g → g ≠ t ∧ g ≠ mb ∧ g < w.heap.size ∧ B ≤ g := fun g hg => by
    obtain ⟨cs, hcs⟩ := h.ownBlk hg
    exact ⟨fun e => by subst e; exact absurd (h.blk.type hcs) (by decide), fun e => by subst e; exact hM.noblk hcs, hcs.lt, (own_lt h.own g hg).1⟩
  have hg't : ∀ g, (Value.slice p' (es.length + 1) c').ownBlock = some g → g ≠ t := fun g hg => by
    rcases hnew with hn | hn
    · rw [hn] at hg; exact (hgt g hg).1
    · have := hn g hg; omega
  have hF1 : Fr (fun x => x = mb ∨ (Value.slice p es.length c).ownBlock = some x ∨ x = t) w w4 :=
    ((h2.mono (T := fun x => x = mb ∨ (Value.slice p es.length c).ownBlock = some x ∨ x = t) (fun b hb => hb.elim)).trans h3 (fun b hb => .inl (.inl hb))).trans h4 (fun b hb => .inl (.inr (.inl hb)))
  have hF : Fr (fun x => x = mb ∨ (Value.slice p es.length c).ownBlock = some x ∨ x = t) w (w4.setCell ⟨t, 1, none⟩ (.slice p' (es.length + 1) c')) := hF1.set _ _ (.inl (.inr (.inr rfl)))
  have hlen : (es ++ [e]).length = es.length + 1 := by simp
  have hevs : evs (es ++ [e]) = evs es ++ e.cells := by simp [evs]
  have hdat : ∀ (ty : TypeId) (b : Nat) (cs : List Value), ty ≠ 41 → ty ≠ 62 → Blk w b ty cs → ¬ (b = mb ∨ (Value.slice p es.length c).ownBlock = some b ∨ b = t) := by
    intro ty b cs h41 h62 hb hx
    rcases hx with rfl | hx | rfl
    · exact hM.noblk hb
    · obtain ⟨cs', hcs⟩ := h.ownBlk hx
      exact h41 (hb.type hcs)
    · exact h62 (hb.type h.blk)
  refine ⟨?_, ?_, fun b cs hb => hb.fr hF (hdat 51 b cs (by decide) (by decide) hb)⟩
  · refine ⟨h.bt, h.bm, ?_, ?_, ⟨N, ?_⟩, ?_, ?_, ?_, ?_, ?_⟩
    · rw [hlen]
      have h1 : Blk w4 t 62 [.map (some mb), .slice p es.length c] := ((h.blk.fr h2 (fun hx => hx)).fr h3 htm).fr h4 (fun hx => (hgt t hx).1 rfl)
      exact h1.set_ 1 (.slice p' (es.length + 1) c')
    · rw [hlen, hevs]
      exact own_fr hown ((Fr.refl (fun x => x = t) w4).set ⟨t, 1, none⟩ _ (.inl rfl)) (fun g hg => hg't g hg)
    · have e1 : ptrs (upd A task a) = upd (ptrs A) task (.pointer (some ⟨a, 0, none⟩)) := by
        funext x
        by_cases hx : x = task
        · subst hx; rw [upd_same]; simp [ptrs, upd_same]
        · rw [upd_other _ _ hx]; simp [ptrs, upd_other _ _ hx]
      rw [e1]
      refine (hm.fr h4 (fun hx => (hgt mb hx).2.1 rfl)).fr ((Fr.refl (fun x => x = t) w4).set ⟨t, 1, none⟩ _ (.inl rfl)) (fun e => htm e.symm)
    · intro x a' hx
      by_cases hxt : x = task
      · subst hxt
        rw [upd_same] at hx
        injection hx with hx
        subst hx
        refine ⟨s, upd_same _ _ _, ?_, by have := h.bt; omega, by rw [hlen, hs]; omega⟩
        rw [hs]
        have h1 : Blk w4 a 78 [.bool s.looks, .int .i64 es.length, .bool s.ended] := (hab.fr h3 (fun e => by omega)).fr h4 (fun hx => by have := (hgt a hx).2.2.1; omega)
        exact h1.fr ((Fr.refl (fun x => x = t) w4).set ⟨t, 1, none⟩ _ (.inl rfl)) (fun e => by omega)
      · rw [upd_other _ _ hxt] at hx
        obtain ⟨s', h1, h2', h3', h4'⟩ := h.st x a' hx
        exact ⟨s', (upd_other _ _ hxt).trans h1, h2'.fr hF (hdat 78 a' _ (by decide) (by decide) h2'), h3', by rw [hlen]; omega⟩
    · intro x hx
      by_cases hxt : x = task
      · subst hxt; rw [upd_same] at hx; cases hx
      · rw [upd_other _ _ hxt] at hx
        exact (upd_other _ _ hxt).trans (h.no x hx)
    · intro x y a' hx hy
      by_cases hxt : x = task <;> by_cases hyt : y = task
      · rw [hxt, hyt]
      · subst hxt
        rw [upd_same] at hx
        rw [upd_other _ _ hyt] at hy
        injection hx with hx
        obtain ⟨_, _, hb, _⟩ := h.st y a' hy
        have := hb.lt
        omega
      · subst hyt
        rw [upd_same] at hy
        rw [upd_other _ _ hxt] at hx
        injection hy with hy
        obtain ⟨_, _, hb, _⟩ := h.st x a' hx
        have := hb.lt
        omega
      · rw [upd_other _ _ hxt] at hx
        rw [upd_other _ _ hyt] at hy
        exact h.inj x y a' hx hy
    · simp [h.len]
    · intro i x r hx hr
      have hF5 : ∀ (ty : TypeId) (p : Option Addr) (xs : List Value), (ty = 5 ∨ ty = 43 ∨ ty = 37) → RdD w B ty p xs → RdD (w4.setCell ⟨t, 1, none⟩ (.slice p' (es.length + 1) c')) B ty p xs := fun ty p xs hty hrd =>
        hrd.frS hF (fun b cs hb => hdat ty b cs (by rcases hty with rfl | rfl | rfl <;> decide) (by rcases hty with rfl | rfl | rfl <;> decide) hb)
      have key : EvR (RdD w B) x r := by
        by_cases hi : i < es.length
        · rw [List.getElem?_append_left hi] at hx
          have hr : (S.es ++ [q])[i]? = some r := hr
          rw [List.getElem?_append_left (by rw [← h.len]; exact hi)] at hr
          exact h.ev i x r hx hr
        · have hr : (S.es ++ [q])[i]? = some r := hr
          rw [List.getElem?_append_right (by omega)] at hx
          rw [List.getElem?_append_right (by rw [← h.len]; omega), ← h.len] at hr
          have hi0 : i - es.length = 0 := by
            have := (List.getElem?_eq_some_iff.1 hx).1
            simp at this; omega
          rw [hi0] at hx hr
          simp at hx hr
          subst hx hr
          exact he
      exact key.imp3 hF5
  · exact Fr.below_of hF (fun b hb => by
      rcases hb with rfl | hb | rfl
      · exact h.bm
      · exact (hgt b hb).2.2.2
      · exact h.bt) (by omega)
/-- One event turns, and its task's state. -/
theorem Tell.turn {g : Nat} (h : Tell w B t mb (some ⟨g, 0, none⟩) c A es S) {task : Int} {a k : Nat} {s : TS} {e : Ev} {q : PE} (ha : A task = some a) (hk : k < es.length)
    (hf : Fr (fun x => x = g ∨ x = a) w w') (hab : Blk w' a 78 [.bool s.looks, .int .i64 s.event, .bool s.ended]) (hs : s.event < es.length)
    (hown : w'.ownsRow B 41 15 (.slice (some ⟨g, 0, none⟩) es.length c) es.length (evs (es.set k e))) (he : EvR (RdD w B) e q) :
    Tell w' B t mb (some ⟨g, 0, none⟩) c A (es.set k e) ⟨upd S.T task s, S.es.set k q⟩ ∧ Below B w w' ∧ K51 w w' := by
  obtain ⟨M, hM⟩ := h.mp
  obtain ⟨cs, hcs⟩ := h.ownBlk (g := g) rfl
  obtain ⟨s0, hs0, hb0, hBa, -⟩ := h.st task a ha
  have hlen : (es.set k e).length = es.length := List.length_set
  have hdat : ∀ (ty : TypeId) (b : Nat) (cs : List Value), ty ≠ 41 → ty ≠ 78 → Blk w b ty cs → ¬ (b = g ∨ b = a) := by
    intro ty b cs' h41 h78 hb hx
    rcases hx with rfl | rfl
    · exact h41 (hb.type hcs)
    · exact h78 (hb.type hb0)
  refine ⟨?_, ?_, fun b cs hb => hb.fr hf (hdat 51 b cs (by decide) (by decide) hb)⟩
  · refine ⟨h.bt, h.bm, ?_, ?_, ⟨M, hM.fr hf (fun hx => ?_)⟩, ?_, ?_, h.inj, by rw [hlen, h.len]; simp, ?_⟩
    · rw [hlen]; exact h.blk.fr hf (hdat 62 t _ (by decide) (by decide) h.blk)
    · rw [hlen]; exact hown
    · rcases hx with rfl | rfl
      · exact hM.noblk hcs
      · exact hM.noblk hb0
    · intro x a' hx
      by_cases hxt : x = task
      · subst hxt
        rw [ha] at hx
        injection hx with hx
        subst hx
        exact ⟨s, upd_same _ _ _, hab, hBa, by rw [hlen]; exact hs⟩
      · obtain ⟨s', h1, h2, h3, h4⟩ := h.st x a' hx
        refine ⟨s', (upd_other _ _ hxt).trans h1, h2.fr hf (fun hx' => ?_), h3, by rw [hlen]; exact h4⟩
        rcases hx' with rfl | rfl
        · exact absurd (h2.type hcs) (by decide)
        · exact hxt (h.inj x task _ hx ha)
    · intro x hx
      have hxt : x ≠ task := fun e => by subst e; rw [ha] at hx; cases hx
      exact (upd_other _ _ hxt).trans (h.no x hx)
    · intro i x r hx hr
      have hF5 : ∀ (ty : TypeId) (p : Option Addr) (xs : List Value), (ty = 5 ∨ ty = 43 ∨ ty = 37) → RdD w B ty p xs → RdD w' B ty p xs := fun ty p xs hty hrd =>
        hrd.frS hf (fun b cs hb => hdat ty b cs (by rcases hty with rfl | rfl | rfl <;> decide) (by rcases hty with rfl | rfl | rfl <;> decide) hb)
      have key : EvR (RdD w B) x r := by
        have hr : (S.es.set k q)[i]? = some r := hr
        rw [List.getElem?_set] at hx hr
        by_cases hki : k = i
        · subst hki
          rw [if_pos rfl, if_pos hk] at hx
          rw [if_pos rfl, if_pos (by rw [← h.len]; exact hk)] at hr
          injection hx with hx
          injection hr with hr
          subst hx hr
          exact he
        · rw [if_neg hki] at hx hr
          exact h.ev i x r hx hr
      exact key.imp3 hF5
  · exact Fr.below_of hf (fun b hb => by
      rcases hb with rfl | rfl
      · exact (own_lt h.own b rfl).1
      · exact hBa) (by have := h.bt; have := h.blk.lt; omega)
end
end Go.Proofs.Ytbkkplednfdfdaa
